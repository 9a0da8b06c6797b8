/-
  No cell of these rows narrows 'for every input' (looked for: loops, veiled, ifaces, maps, wideKeys, modest, calm, conditions, laid).
  DERIVED. THE GIVEN ROWS OF THIS SEAT. 7 by the template 'for every input the law returns true; each argument reads behind the call as it read before'; 0 by the template 'total and deterministic' (their statements: YtgaghaeniadkkaaTotals.lean).
  GIVEN WITH THE SEED: the statements are not yours to turn. If you find one false, say at which input.
  Laid BY PROGRAM, IN A SANDBOX (cutbox-rows.mjs): the forced cells as the released guide's own fill.sh prints them over the translation e4eaaaa1d91e5f58… (all of the seat's roots in one cut). By AI agents, Wed Nov 11 2026. No macro, syntax, notation, axiom, sorry.
-/
import Derived.Test.YtgaghaeniadkkaaChecked
import GoSem.Claim
import GoSem.ClaimJoined
import GoSem.ClaimMapViews
import Derived.JoinedTies
import Derived.KernelRfl
namespace Go.Proofs.Ytgaghaeniadkkaa
/- THE CELL 'sum', in the pinned program and in every row, IS THE sha256 OF THE DUMP (.gsa) THAT YtgaghaeniadkkaaProg.lean LOADS. Nothing in Lean hashes anything: it is a label: what it is worth is what the hold of that sum in a sandbox is worth. -/
noncomputable def Try.pinned : Pinned := { name := "ytgaghaeniadkkaa", sum := "e4eaaaa1d91e5f585c0df64c92afb2b24dc22d3b415f2e093f7d35fc19185a14", checked := Try.checked }
namespace Rows
def none {H : Type} : Left H := { results := [], args := [] }

/-- 'laws.FnIntAdd': WHATEVER THE INPUT: true; the input reads as it did. -/
def fnIntAddSpec : ChangeSpec := { name := "fnIntAdd", fn := fun _ => fun
  | [d] => { results := [.lit (.bool true)], args := [d] }
  | _ => none }
def fnIntAddRow : OpenClaim := { program := "ytgaghaeniadkkaa", sum := "e4eaaaa1d91e5f585c0df64c92afb2b24dc22d3b415f2e093f7d35fc19185a14", func := "loop.example/slowworm/laws.FnIntAdd", spec := "fnIntAdd", inPlace := ["internal/abi.NoEscape"], apart := false }
def FnIntAddSaid : Prop := fnIntAddRow.holds Try.pinned (OpenSpec.ofChange fnIntAddSpec)

/-- ITS FALSE NEIGHBOUR: 'it returns false'. Refute it at one input. -/
def fnIntAddWrong : ChangeSpec := { name := "fnIntAdd", fn := fun _ => fun
  | [d] => { results := [.lit (.bool false)], args := [d] }
  | _ => none }
def FnIntAddWrongFalsely : Prop := fnIntAddRow.holds Try.pinned (OpenSpec.ofChange fnIntAddWrong)

/-- 'laws.FnIntMul': WHATEVER THE INPUT: true; the input reads as it did. -/
def fnIntMulSpec : ChangeSpec := { name := "fnIntMul", fn := fun _ => fun
  | [d] => { results := [.lit (.bool true)], args := [d] }
  | _ => none }
def fnIntMulRow : OpenClaim := { program := "ytgaghaeniadkkaa", sum := "e4eaaaa1d91e5f585c0df64c92afb2b24dc22d3b415f2e093f7d35fc19185a14", func := "loop.example/slowworm/laws.FnIntMul", spec := "fnIntMul", inPlace := ["internal/abi.NoEscape"], apart := false }
def FnIntMulSaid : Prop := fnIntMulRow.holds Try.pinned (OpenSpec.ofChange fnIntMulSpec)

/-- ITS FALSE NEIGHBOUR: 'it returns false'. Refute it at one input. -/
def fnIntMulWrong : ChangeSpec := { name := "fnIntMul", fn := fun _ => fun
  | [d] => { results := [.lit (.bool false)], args := [d] }
  | _ => none }
def FnIntMulWrongFalsely : Prop := fnIntMulRow.holds Try.pinned (OpenSpec.ofChange fnIntMulWrong)

/-- 'laws.FnIntSub': WHATEVER THE INPUT: true; the input reads as it did. -/
def fnIntSubSpec : ChangeSpec := { name := "fnIntSub", fn := fun _ => fun
  | [d] => { results := [.lit (.bool true)], args := [d] }
  | _ => none }
def fnIntSubRow : OpenClaim := { program := "ytgaghaeniadkkaa", sum := "e4eaaaa1d91e5f585c0df64c92afb2b24dc22d3b415f2e093f7d35fc19185a14", func := "loop.example/slowworm/laws.FnIntSub", spec := "fnIntSub", inPlace := ["internal/abi.NoEscape"], apart := false }
def FnIntSubSaid : Prop := fnIntSubRow.holds Try.pinned (OpenSpec.ofChange fnIntSubSpec)

/-- ITS FALSE NEIGHBOUR: 'it returns false'. Refute it at one input. -/
def fnIntSubWrong : ChangeSpec := { name := "fnIntSub", fn := fun _ => fun
  | [d] => { results := [.lit (.bool false)], args := [d] }
  | _ => none }
def FnIntSubWrongFalsely : Prop := fnIntSubRow.holds Try.pinned (OpenSpec.ofChange fnIntSubWrong)

/-- 'laws.FnIntRoot': WHATEVER THE INPUT: true; the input reads as it did. -/
def fnIntRootSpec : ChangeSpec := { name := "fnIntRoot", fn := fun _ => fun
  | [d] => { results := [.lit (.bool true)], args := [d] }
  | _ => none }
def fnIntRootRow : OpenClaim := { program := "ytgaghaeniadkkaa", sum := "e4eaaaa1d91e5f585c0df64c92afb2b24dc22d3b415f2e093f7d35fc19185a14", func := "loop.example/slowworm/laws.FnIntRoot", spec := "fnIntRoot", inPlace := ["internal/abi.NoEscape"], apart := false }
def FnIntRootSaid : Prop := fnIntRootRow.holds Try.pinned (OpenSpec.ofChange fnIntRootSpec)

/-- ITS FALSE NEIGHBOUR: 'it returns false'. Refute it at one input. -/
def fnIntRootWrong : ChangeSpec := { name := "fnIntRoot", fn := fun _ => fun
  | [d] => { results := [.lit (.bool false)], args := [d] }
  | _ => none }
def FnIntRootWrongFalsely : Prop := fnIntRootRow.holds Try.pinned (OpenSpec.ofChange fnIntRootWrong)

/-- 'laws.FnIntMod': WHATEVER THE INPUT: true; the input reads as it did. -/
def fnIntModSpec : ChangeSpec := { name := "fnIntMod", fn := fun _ => fun
  | [d] => { results := [.lit (.bool true)], args := [d] }
  | _ => none }
def fnIntModRow : OpenClaim := { program := "ytgaghaeniadkkaa", sum := "e4eaaaa1d91e5f585c0df64c92afb2b24dc22d3b415f2e093f7d35fc19185a14", func := "loop.example/slowworm/laws.FnIntMod", spec := "fnIntMod", inPlace := ["internal/abi.NoEscape"], apart := false }
def FnIntModSaid : Prop := fnIntModRow.holds Try.pinned (OpenSpec.ofChange fnIntModSpec)

/-- ITS FALSE NEIGHBOUR: 'it returns false'. Refute it at one input. -/
def fnIntModWrong : ChangeSpec := { name := "fnIntMod", fn := fun _ => fun
  | [d] => { results := [.lit (.bool false)], args := [d] }
  | _ => none }
def FnIntModWrongFalsely : Prop := fnIntModRow.holds Try.pinned (OpenSpec.ofChange fnIntModWrong)

/-- 'laws.FnIntDiv': WHATEVER THE INPUT: true; the input reads as it did. -/
def fnIntDivSpec : ChangeSpec := { name := "fnIntDiv", fn := fun _ => fun
  | [d] => { results := [.lit (.bool true)], args := [d] }
  | _ => none }
def fnIntDivRow : OpenClaim := { program := "ytgaghaeniadkkaa", sum := "e4eaaaa1d91e5f585c0df64c92afb2b24dc22d3b415f2e093f7d35fc19185a14", func := "loop.example/slowworm/laws.FnIntDiv", spec := "fnIntDiv", inPlace := ["internal/abi.NoEscape"], apart := false }
def FnIntDivSaid : Prop := fnIntDivRow.holds Try.pinned (OpenSpec.ofChange fnIntDivSpec)

/-- ITS FALSE NEIGHBOUR: 'it returns false'. Refute it at one input. -/
def fnIntDivWrong : ChangeSpec := { name := "fnIntDiv", fn := fun _ => fun
  | [d] => { results := [.lit (.bool false)], args := [d] }
  | _ => none }
def FnIntDivWrongFalsely : Prop := fnIntDivRow.holds Try.pinned (OpenSpec.ofChange fnIntDivWrong)

/-- 'laws.FnIntShift': WHATEVER THE INPUT: true; the input reads as it did. -/
def fnIntShiftSpec : ChangeSpec := { name := "fnIntShift", fn := fun _ => fun
  | [d] => { results := [.lit (.bool true)], args := [d] }
  | _ => none }
def fnIntShiftRow : OpenClaim := { program := "ytgaghaeniadkkaa", sum := "e4eaaaa1d91e5f585c0df64c92afb2b24dc22d3b415f2e093f7d35fc19185a14", func := "loop.example/slowworm/laws.FnIntShift", spec := "fnIntShift", inPlace := ["internal/abi.NoEscape"], apart := false }
def FnIntShiftSaid : Prop := fnIntShiftRow.holds Try.pinned (OpenSpec.ofChange fnIntShiftSpec)

/-- ITS FALSE NEIGHBOUR: 'it returns false'. Refute it at one input. -/
def fnIntShiftWrong : ChangeSpec := { name := "fnIntShift", fn := fun _ => fun
  | [d] => { results := [.lit (.bool false)], args := [d] }
  | _ => none }
def FnIntShiftWrongFalsely : Prop := fnIntShiftRow.holds Try.pinned (OpenSpec.ofChange fnIntShiftWrong)

/- THE SECOND FORM. 'bulk': how many values and letters a reading holds, each counted each time it is reached (what is shared counts as often as it is met; a slice's spare places count too). A statement '..UptoSaid' is the law's where the arguments, and the package variables that the reading takes, are together of bulk at most 1048576: NARROWER than '..Said'. Prove '..Said' where nothing that the law and all that it calls make is longer than what came in: it says more and counts as full. Else prove '..UptoSaid'. A law counts once. -/
mutual
def uptoBulk {H : Type} : DataW H → Nat
  | .lit (.string bytes) => bytes.length + 1
  | .lit _ => 1
  | .nil => 1
  | .ptr d => uptoBulk d + 1
  | .slice elems spare => uptoBulkAll elems + uptoBulkAll spare + 1
  | .agg parts => uptoBulkAll parts + 1
  | .iface _ d => uptoBulk d + 1
  | .map entries => uptoBulkEntries entries + 1
  | .held _ => 1
def uptoBulkAll {H : Type} : List (DataW H) → Nat
  | [] => 0
  | d :: r => uptoBulk d + uptoBulkAll r
def uptoBulkEntries {H : Type} : List (Lit × DataW H) → Nat
  | [] => 0
  | x :: r => uptoBulkEntry x + uptoBulkEntries r
def uptoBulkEntry {H : Type} : Lit × DataW H → Nat
  | (.string bytes, d) => bytes.length + uptoBulk d + 1
  | (_, d) => uptoBulk d + 1
 end
def uptoSmall : (H : Type) → List (DataW H) → Bool := fun _ ds => decide (uptoBulkAll ds ≤ 1048576)
def OpenSpec.upto (s : _root_.Go.ChangeSpec) : _root_.Go.OpenSpec := { _root_.Go.OpenSpec.ofChange s with cond := some uptoSmall }

/-- 'laws.FnIntAdd', WHERE WHAT IT READS IS OF BULK AT MOST 1048576: true; the input reads as it did. -/
def fnIntAddUptoRow : OpenClaim := { program := "ytgaghaeniadkkaa", sum := "e4eaaaa1d91e5f585c0df64c92afb2b24dc22d3b415f2e093f7d35fc19185a14", func := "loop.example/slowworm/laws.FnIntAdd", spec := "fnIntAdd", inPlace := ["internal/abi.NoEscape"], apart := false, narrowed := true }
def FnIntAddUptoSaid : Prop := fnIntAddUptoRow.holds Try.pinned (OpenSpec.upto fnIntAddSpec)

/-- 'laws.FnIntMul', WHERE WHAT IT READS IS OF BULK AT MOST 1048576: true; the input reads as it did. -/
def fnIntMulUptoRow : OpenClaim := { program := "ytgaghaeniadkkaa", sum := "e4eaaaa1d91e5f585c0df64c92afb2b24dc22d3b415f2e093f7d35fc19185a14", func := "loop.example/slowworm/laws.FnIntMul", spec := "fnIntMul", inPlace := ["internal/abi.NoEscape"], apart := false, narrowed := true }
def FnIntMulUptoSaid : Prop := fnIntMulUptoRow.holds Try.pinned (OpenSpec.upto fnIntMulSpec)

/-- 'laws.FnIntSub', WHERE WHAT IT READS IS OF BULK AT MOST 1048576: true; the input reads as it did. -/
def fnIntSubUptoRow : OpenClaim := { program := "ytgaghaeniadkkaa", sum := "e4eaaaa1d91e5f585c0df64c92afb2b24dc22d3b415f2e093f7d35fc19185a14", func := "loop.example/slowworm/laws.FnIntSub", spec := "fnIntSub", inPlace := ["internal/abi.NoEscape"], apart := false, narrowed := true }
def FnIntSubUptoSaid : Prop := fnIntSubUptoRow.holds Try.pinned (OpenSpec.upto fnIntSubSpec)

/-- 'laws.FnIntRoot', WHERE WHAT IT READS IS OF BULK AT MOST 1048576: true; the input reads as it did. -/
def fnIntRootUptoRow : OpenClaim := { program := "ytgaghaeniadkkaa", sum := "e4eaaaa1d91e5f585c0df64c92afb2b24dc22d3b415f2e093f7d35fc19185a14", func := "loop.example/slowworm/laws.FnIntRoot", spec := "fnIntRoot", inPlace := ["internal/abi.NoEscape"], apart := false, narrowed := true }
def FnIntRootUptoSaid : Prop := fnIntRootUptoRow.holds Try.pinned (OpenSpec.upto fnIntRootSpec)

/-- 'laws.FnIntMod', WHERE WHAT IT READS IS OF BULK AT MOST 1048576: true; the input reads as it did. -/
def fnIntModUptoRow : OpenClaim := { program := "ytgaghaeniadkkaa", sum := "e4eaaaa1d91e5f585c0df64c92afb2b24dc22d3b415f2e093f7d35fc19185a14", func := "loop.example/slowworm/laws.FnIntMod", spec := "fnIntMod", inPlace := ["internal/abi.NoEscape"], apart := false, narrowed := true }
def FnIntModUptoSaid : Prop := fnIntModUptoRow.holds Try.pinned (OpenSpec.upto fnIntModSpec)

/-- 'laws.FnIntDiv', WHERE WHAT IT READS IS OF BULK AT MOST 1048576: true; the input reads as it did. -/
def fnIntDivUptoRow : OpenClaim := { program := "ytgaghaeniadkkaa", sum := "e4eaaaa1d91e5f585c0df64c92afb2b24dc22d3b415f2e093f7d35fc19185a14", func := "loop.example/slowworm/laws.FnIntDiv", spec := "fnIntDiv", inPlace := ["internal/abi.NoEscape"], apart := false, narrowed := true }
def FnIntDivUptoSaid : Prop := fnIntDivUptoRow.holds Try.pinned (OpenSpec.upto fnIntDivSpec)

/-- 'laws.FnIntShift', WHERE WHAT IT READS IS OF BULK AT MOST 1048576: true; the input reads as it did. -/
def fnIntShiftUptoRow : OpenClaim := { program := "ytgaghaeniadkkaa", sum := "e4eaaaa1d91e5f585c0df64c92afb2b24dc22d3b415f2e093f7d35fc19185a14", func := "loop.example/slowworm/laws.FnIntShift", spec := "fnIntShift", inPlace := ["internal/abi.NoEscape"], apart := false, narrowed := true }
def FnIntShiftUptoSaid : Prop := fnIntShiftUptoRow.holds Try.pinned (OpenSpec.upto fnIntShiftSpec)

end Rows
end Go.Proofs.Ytgaghaeniadkkaa
