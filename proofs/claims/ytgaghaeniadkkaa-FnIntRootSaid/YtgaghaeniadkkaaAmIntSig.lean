/- The abstract machine at the seat of the integers: kinds of elements. -/
import Derived.Test.YtgaghaeniadkkaaAmSig
import Derived.Test.YtgaghaeniadkkaaAmGlue
import Derived.Test.YtgaghaeniadkkaaProg
namespace Go.Proofs.Ytgaghaeniadkkaa.Am
open Go Go.Proofs.Try
set_option autoImplicit false

noncomputable def T : Nat → Type | 0 => Int | 1 => Int | 2 => ByteArray | _ => Unit
noncomputable def kd : (k : Nat) → Kd T (T k)
  | 0 => ⟨3, [.int .i64], fun d => d.1, fun x => (x, ()), fun _ => rfl⟩
  | 1 => ⟨5, [.int .u8], fun d => d.1, fun x => (x, ()), fun _ => rfl⟩
  | 2 => ⟨9, [.str], fun d => d.1, fun x => (x, ()), fun _ => rfl⟩
  | _ + 3 => ⟨0, [], fun d => d, fun x => x, fun _ => rfl⟩
noncomputable def tb : Tb := ⟨3, T, kd⟩
noncomputable def G : Sig := sigOf prog tb (fun _ => Unit) (fun _ _ _ _ => False) (fun _ => none) (fun | 65 => [.nsp, .own 1] | _ => []) (fun | 50 => [true] | _ => [])
theorem laws : Laws prog G := laws_of (by kernel_rfl) (fun e q h => by cases h)
theorem fnok : FnOK prog G := fnok_of
end Go.Proofs.Ytgaghaeniadkkaa.Am
