/-
  No cell of these rows narrows 'for every input' (looked for: loops, veiled, ifaces, maps, wideKeys, modest, calm, conditions, laid).
  DERIVED. THE GIVEN ROWS OF THIS SEAT. 4 by the template 'for every input the law returns true; each argument reads behind the call as it read before'; 0 by the template 'total and deterministic' (their statements: YtfpgihjociacnaaTotals.lean).
  GIVEN WITH THE SEED: the statements are not yours to turn. If you find one false, say at which input.
  Laid BY PROGRAM, IN A SANDBOX (cutbox-rows.mjs): the forced cells as the released guide's own fill.sh prints them over the translation 696dfa7e1385327e… (all of the seat's roots in one cut). By AI agents, Wed Nov 11 2026. No macro, syntax, notation, axiom, sorry.
-/
import Derived.Test.YtfpgihjociacnaaChecked
import GoSem.Claim
import GoSem.ClaimJoined
import GoSem.ClaimMapViews
import Derived.JoinedTies
import Derived.KernelRfl
namespace Go.Proofs.Ytfpgihjociacnaa
/- THE CELL 'sum', in the pinned program and in every row, IS THE sha256 OF THE DUMP (.gsa) THAT YtfpgihjociacnaaProg.lean LOADS. Nothing in Lean hashes anything: it is a label: what it is worth is what the hold of that sum in a sandbox is worth. -/
noncomputable def Try.pinned : Pinned := { name := "ytfpgihjociacnaa", sum := "696dfa7e1385327ed8cacb21c2cd91868d6d648290bb427101d3624c10a2a860", checked := Try.checked }
namespace Rows
def none {H : Type} : Left H := { results := [], args := [] }

/-- 'laws.FnExactDictKeys': WHATEVER THE INPUT: true; the input reads as it did. -/
def fnExactDictKeysSpec : ChangeSpec := { name := "fnExactDictKeys", fn := fun _ => fun
  | [d] => { results := [.lit (.bool true)], args := [d] }
  | _ => none }
def fnExactDictKeysRow : OpenClaim := { program := "ytfpgihjociacnaa", sum := "696dfa7e1385327ed8cacb21c2cd91868d6d648290bb427101d3624c10a2a860", func := "loop.example/slowworm/laws.FnExactDictKeys", spec := "fnExactDictKeys", apart := false }
def FnExactDictKeysSaid : Prop := fnExactDictKeysRow.holds Try.pinned (OpenSpec.ofChange fnExactDictKeysSpec)

/-- ITS FALSE NEIGHBOUR: 'it returns false'. Refute it at one input. -/
def fnExactDictKeysWrong : ChangeSpec := { name := "fnExactDictKeys", fn := fun _ => fun
  | [d] => { results := [.lit (.bool false)], args := [d] }
  | _ => none }
def FnExactDictKeysWrongFalsely : Prop := fnExactDictKeysRow.holds Try.pinned (OpenSpec.ofChange fnExactDictKeysWrong)

/-- 'laws.FnExactDictDrop': WHATEVER THE INPUT: true; the input reads as it did. -/
def fnExactDictDropSpec : ChangeSpec := { name := "fnExactDictDrop", fn := fun _ => fun
  | [d1, d2] => { results := [.lit (.bool true)], args := [d1, d2] }
  | _ => none }
def fnExactDictDropRow : OpenClaim := { program := "ytfpgihjociacnaa", sum := "696dfa7e1385327ed8cacb21c2cd91868d6d648290bb427101d3624c10a2a860", func := "loop.example/slowworm/laws.FnExactDictDrop", spec := "fnExactDictDrop", apart := false }
def FnExactDictDropSaid : Prop := fnExactDictDropRow.holds Try.pinned (OpenSpec.ofChange fnExactDictDropSpec)

/-- ITS FALSE NEIGHBOUR: 'it returns false'. Refute it at one input. -/
def fnExactDictDropWrong : ChangeSpec := { name := "fnExactDictDrop", fn := fun _ => fun
  | [d1, d2] => { results := [.lit (.bool false)], args := [d1, d2] }
  | _ => none }
def FnExactDictDropWrongFalsely : Prop := fnExactDictDropRow.holds Try.pinned (OpenSpec.ofChange fnExactDictDropWrong)

/-- 'laws.FnExactDictPack': WHATEVER THE INPUT: true; the input reads as it did. -/
def fnExactDictPackSpec : ChangeSpec := { name := "fnExactDictPack", fn := fun _ => fun
  | [d] => { results := [.lit (.bool true)], args := [d] }
  | _ => none }
def fnExactDictPackRow : OpenClaim := { program := "ytfpgihjociacnaa", sum := "696dfa7e1385327ed8cacb21c2cd91868d6d648290bb427101d3624c10a2a860", func := "loop.example/slowworm/laws.FnExactDictPack", spec := "fnExactDictPack", apart := false }
def FnExactDictPackSaid : Prop := fnExactDictPackRow.holds Try.pinned (OpenSpec.ofChange fnExactDictPackSpec)

/-- ITS FALSE NEIGHBOUR: 'it returns false'. Refute it at one input. -/
def fnExactDictPackWrong : ChangeSpec := { name := "fnExactDictPack", fn := fun _ => fun
  | [d] => { results := [.lit (.bool false)], args := [d] }
  | _ => none }
def FnExactDictPackWrongFalsely : Prop := fnExactDictPackRow.holds Try.pinned (OpenSpec.ofChange fnExactDictPackWrong)

/-- 'laws.FnExactDictSet': WHATEVER THE INPUT: true; the input reads as it did. -/
def fnExactDictSetSpec : ChangeSpec := { name := "fnExactDictSet", fn := fun _ => fun
  | [d1, d2, d3] => { results := [.lit (.bool true)], args := [d1, d2, d3] }
  | _ => none }
def fnExactDictSetRow : OpenClaim := { program := "ytfpgihjociacnaa", sum := "696dfa7e1385327ed8cacb21c2cd91868d6d648290bb427101d3624c10a2a860", func := "loop.example/slowworm/laws.FnExactDictSet", spec := "fnExactDictSet", apart := false }
def FnExactDictSetSaid : Prop := fnExactDictSetRow.holds Try.pinned (OpenSpec.ofChange fnExactDictSetSpec)

/-- ITS FALSE NEIGHBOUR: 'it returns false'. Refute it at one input. -/
def fnExactDictSetWrong : ChangeSpec := { name := "fnExactDictSet", fn := fun _ => fun
  | [d1, d2, d3] => { results := [.lit (.bool false)], args := [d1, d2, d3] }
  | _ => none }
def FnExactDictSetWrongFalsely : Prop := fnExactDictSetRow.holds Try.pinned (OpenSpec.ofChange fnExactDictSetWrong)

/- THE SECOND FORM. 'bulk': how many values and letters a reading holds, each counted each time it is reached (what is shared counts as often as it is met; a slice's spare places count too). A statement '..UptoSaid' is the law's where the arguments, and the package variables that the reading takes, are together of bulk at most 1048576: NARROWER than '..Said'. Prove '..Said' where nothing that the law and all that it calls make is longer than what came in: it says more and counts as full. Else prove '..UptoSaid'. A law counts once. -/
mutual
def uptoBulk {H : Type} : DataW H → Nat
  | .lit (.string bytes) => bytes.length + 1
  | .lit _ => 1
  | .nil => 1
  | .ptr d => uptoBulk d + 1
  | .slice elems spare => uptoBulkAll elems + uptoBulkAll spare + 1
  | .agg parts => uptoBulkAll parts + 1
  | .iface _ d => uptoBulk d + 1
  | .map entries => uptoBulkEntries entries + 1
  | .held _ => 1
def uptoBulkAll {H : Type} : List (DataW H) → Nat
  | [] => 0
  | d :: r => uptoBulk d + uptoBulkAll r
def uptoBulkEntries {H : Type} : List (Lit × DataW H) → Nat
  | [] => 0
  | x :: r => uptoBulkEntry x + uptoBulkEntries r
def uptoBulkEntry {H : Type} : Lit × DataW H → Nat
  | (.string bytes, d) => bytes.length + uptoBulk d + 1
  | (_, d) => uptoBulk d + 1
 end
def uptoSmall : (H : Type) → List (DataW H) → Bool := fun _ ds => decide (uptoBulkAll ds ≤ 1048576)
def OpenSpec.upto (s : _root_.Go.ChangeSpec) : _root_.Go.OpenSpec := { _root_.Go.OpenSpec.ofChange s with cond := some uptoSmall }

/-- 'laws.FnExactDictKeys', WHERE WHAT IT READS IS OF BULK AT MOST 1048576: true; the input reads as it did. -/
def fnExactDictKeysUptoRow : OpenClaim := { program := "ytfpgihjociacnaa", sum := "696dfa7e1385327ed8cacb21c2cd91868d6d648290bb427101d3624c10a2a860", func := "loop.example/slowworm/laws.FnExactDictKeys", spec := "fnExactDictKeys", apart := false, narrowed := true }
def FnExactDictKeysUptoSaid : Prop := fnExactDictKeysUptoRow.holds Try.pinned (OpenSpec.upto fnExactDictKeysSpec)

/-- 'laws.FnExactDictDrop', WHERE WHAT IT READS IS OF BULK AT MOST 1048576: true; the input reads as it did. -/
def fnExactDictDropUptoRow : OpenClaim := { program := "ytfpgihjociacnaa", sum := "696dfa7e1385327ed8cacb21c2cd91868d6d648290bb427101d3624c10a2a860", func := "loop.example/slowworm/laws.FnExactDictDrop", spec := "fnExactDictDrop", apart := false, narrowed := true }
def FnExactDictDropUptoSaid : Prop := fnExactDictDropUptoRow.holds Try.pinned (OpenSpec.upto fnExactDictDropSpec)

/-- 'laws.FnExactDictPack', WHERE WHAT IT READS IS OF BULK AT MOST 1048576: true; the input reads as it did. -/
def fnExactDictPackUptoRow : OpenClaim := { program := "ytfpgihjociacnaa", sum := "696dfa7e1385327ed8cacb21c2cd91868d6d648290bb427101d3624c10a2a860", func := "loop.example/slowworm/laws.FnExactDictPack", spec := "fnExactDictPack", apart := false, narrowed := true }
def FnExactDictPackUptoSaid : Prop := fnExactDictPackUptoRow.holds Try.pinned (OpenSpec.upto fnExactDictPackSpec)

/-- 'laws.FnExactDictSet', WHERE WHAT IT READS IS OF BULK AT MOST 1048576: true; the input reads as it did. -/
def fnExactDictSetUptoRow : OpenClaim := { program := "ytfpgihjociacnaa", sum := "696dfa7e1385327ed8cacb21c2cd91868d6d648290bb427101d3624c10a2a860", func := "loop.example/slowworm/laws.FnExactDictSet", spec := "fnExactDictSet", apart := false, narrowed := true }
def FnExactDictSetUptoSaid : Prop := fnExactDictSetUptoRow.holds Try.pinned (OpenSpec.upto fnExactDictSetSpec)

end Rows
end Go.Proofs.Ytfpgihjociacnaa
