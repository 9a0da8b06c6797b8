/- The abstract machine at the seat of the quoted texts: kinds of elements. -/
import Derived.Test.YtmbpcjacbnloaaaAmSig
import Derived.Test.YtmbpcjacbnloaaaAmGlue
import Derived.Test.YtmbpcjacbnloaaaProg
namespace Go.Proofs.Ytmbpcjacbnloaaa.Am
open Go Go.Proofs.Try
set_option autoImplicit false

structure Tok where
  kind : Int
  text : ByteArray
  line : Int

noncomputable def T : Nat → Type | 0 => Int | 1 => Int | 2 => ByteArray | 3 => Tok | _ => Unit
noncomputable def kd : (k : Nat) → Kd T (T k)
  | 0 => ⟨3, [.int .i64], fun d => d.1, fun x => (x, ()), fun _ => rfl⟩
  | 1 => ⟨5, [.int .u8], fun d => d.1, fun x => (x, ()), fun _ => rfl⟩
  | 2 => ⟨9, [.str], fun d => d.1, fun x => (x, ()), fun _ => rfl⟩
  | 3 => ⟨31, [.int .i64, .str, .int .i64], fun d => Tok.mk d.1 d.2.1 d.2.2.1, fun (x : Tok) => (x.kind, (x.text, (x.line, ()))), fun _ => rfl⟩
  | _ + 4 => ⟨0, [], fun d => d, fun x => x, fun _ => rfl⟩
noncomputable def tb : Tb := ⟨4, T, kd⟩
noncomputable def G : Sig := sigOf prog tb (fun _ => Unit) (fun _ _ _ _ => False) (fun _ => none) (fun | 50 => [.nsp, .own 1] | 41 => [.keep, .keep, .keep, .own 0, .own 1, .own 3] | _ => []) (fun _ => []) (fun _ => false) (fun _ => none) true
theorem laws : Laws prog G := laws_of (by kernel_rfl) (fun e q h => by cases h)
theorem fnok : FnOK prog G := fnok_of
end Go.Proofs.Ytmbpcjacbnloaaa.Am
