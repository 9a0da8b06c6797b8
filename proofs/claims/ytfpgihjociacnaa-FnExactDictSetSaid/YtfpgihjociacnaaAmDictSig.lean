/- The abstract machine at the seat of the dictionaries' exact laws: kinds of elements. -/
import Derived.Test.YtfpgihjociacnaaAmSig
import Derived.Test.YtfpgihjociacnaaAmGlue
import Derived.Test.YtfpgihjociacnaaProg
namespace Go.Proofs.Ytfpgihjociacnaa.Am
open Go Go.Proofs.Try
set_option autoImplicit false

structure Ety where
  key : ByteArray
  hash : Int
  val : Int
  live : Bool

noncomputable def T : Nat → Type | 0 => Int | 1 => Int | 2 => ByteArray | 3 => Ety | 4 => Bool | 5 => Ety | _ => Unit
noncomputable def kd : (k : Nat) → Kd T (T k)
  | 0 => ⟨3, [.int .i64], fun d => d.1, fun x => (x, ()), fun _ => rfl⟩
  | 1 => ⟨5, [.int .u8], fun d => d.1, fun x => (x, ()), fun _ => rfl⟩
  | 2 => ⟨9, [.str], fun d => d.1, fun x => (x, ()), fun _ => rfl⟩
  | 3 => ⟨48, [.str, .int .i64, .int .i64, .bool], fun d => ⟨d.1, d.2.1, d.2.2.1, d.2.2.2.1⟩, fun (x : Ety) => (x.key, (x.hash, (x.val, (x.live, ())))), fun _ => rfl⟩
  | 4 => ⟨4, [.bool], fun d => d.1, fun x => (x, ()), fun _ => rfl⟩
  | 5 => ⟨69, [.str, .int .i64, .int .i64, .bool], fun d => ⟨d.1, d.2.1, d.2.2.1, d.2.2.2.1⟩, fun (x : Ety) => (x.key, (x.hash, (x.val, (x.live, ())))), fun _ => rfl⟩
  | _ + 6 => ⟨0, [], fun d => d, fun x => x, fun _ => rfl⟩
noncomputable def tb : Tb := ⟨6, T, kd⟩
noncomputable def G : Sig := sigOf prog tb (fun _ => Unit) (fun _ _ _ _ => False) (fun _ => none) (fun _ => []) (fun | 38 => [true] | 31 => [true] | 32 => [true] | 13 => [true] | 14 => [true] | _ => [])
theorem laws : Laws prog G := laws_of (by kernel_rfl) (fun e q h => by cases h)
theorem fnok : FnOK prog G := fnok_of
end Go.Proofs.Ytfpgihjociacnaa.Am
