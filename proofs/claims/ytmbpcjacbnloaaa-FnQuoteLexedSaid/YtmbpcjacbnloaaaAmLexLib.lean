/- What the library does, off the shelf: strings.IndexByte. -/
import Derived.Test.YtmbpcjacbnloaaaAmBld
import Derived.Shelf.Small.Strs
namespace Go.Proofs
open Go.Shelf
def Try.lays137_ren : Go.Shelf.Ren := ⟨fun | 137 => 41 | 217 => 47 | 266 => 50 | n => n, fun | 9 => 9 | 5 => 5 | 3 => 3 | n => n, fun | n => n⟩
theorem Try.lays137 : Go.Proofs.Lays.n137 Try.prog Try.lays137_ren := {
  mixed := by kernel_rfl
  f137 := Try.func41.trans (congrArg some (by kernel_rfl))
  f217 := Try.func47.trans (congrArg some (by kernel_rfl))
  f266 := Try.func50.trans (congrArg some (by kernel_rfl))
  t3 := Try.underlying3
  a3 := Try.isAgg3
  z3 := Try.sizeOf3
  v3 := Try.zeroValue3
  t5 := Try.underlying5
  a5 := Try.isAgg5
  z5 := Try.sizeOf5
  v5 := Try.zeroValue5
  t9 := Try.underlying9
  a9 := Try.isAgg9
  z9 := Try.sizeOf9
  v9 := Try.zeroValue9 }
end Go.Proofs
namespace Go.Proofs.Ytmbpcjacbnloaaa.Am
open Go Go.Proofs.Try
set_option autoImplicit false
set_option linter.unusedVariables false

/-- strings.IndexByte -/
def indexByteF (s : ByteArray) (c : Int) : Option (Int × Unit) := some (Lib.indexByte s.data.toList c.toNat.toUInt8, ())
noncomputable def indexByteE : Ent G := ⟨41, .cons .str (.cons (.int .u8) .nil), [], .int .i64, [], fun x y => indexByteF x.1 x.2.1⟩
theorem two {l : List Value} (h : 2 = l.length) : ∃ a b, l = [a, b] := by
  match l, h with | [a, b], _ => exact ⟨a, b, rfl⟩
theorem indexByte_ok : EntOK prog G indexByteE := by
  intro x y z hz F w m vals ok hlen hargs
  obtain ⟨a, b, rfl⟩ := two (l := vals) hlen
  have h1 := (hargs 0 (.lit (.string x.1)) a rfl rfl).lit_inv
  have h2 := (hargs 1 (.lit (.int .u8 x.2.1)) b rfl rfl).lit_inv
  subst h1 h2
  cases hz
  refine (Any.strings_IndexByte Try.lays137 x.1 x.2.1 w).mono ?_
  rintro e w' ⟨rfl, rfl⟩
  exact ⟨_, m, rfl, Tr.refl F _, ok, .lit _⟩
end Go.Proofs.Ytmbpcjacbnloaaa.Am
