/- The abstract machine at the seat of the texts: kinds of elements. -/
import Derived.Test.YtmbpcjacbnloaaaDoorAmSig
import Derived.Test.YtmbpcjacbnloaaaDoorAmGlue
import Derived.Test.YtmbpcjacbnloaaaDoorProg
namespace Go.Proofs.YtmbpcjacbnloaaaDoor.Am
open Go Go.Proofs.Tryd
set_option autoImplicit false

noncomputable def T : Nat → Type | 0 => Int | 1 => Int | 2 => ByteArray | _ => Unit
noncomputable def kd : (k : Nat) → Kd T (T k)
  | 0 => ⟨3, [.int .i64], fun d => d.1, fun x => (x, ()), fun _ => rfl⟩
  | 1 => ⟨5, [.int .u8], fun d => d.1, fun x => (x, ()), fun _ => rfl⟩
  | 2 => ⟨9, [.str], fun d => d.1, fun x => (x, ()), fun _ => rfl⟩
  | _ + 3 => ⟨0, [], fun d => d, fun x => x, fun _ => rfl⟩
noncomputable def tb : Tb := ⟨3, T, kd⟩
/-- what internal/bytealg.MaxLen holds -/
def glOf : Nat → Option (Value → Prop) | 0 => some (fun v => ∃ m, v = .int .i64 m) | _ => none
noncomputable def G : Sig := sigOf prog tb (fun _ => Unit) (fun _ _ _ _ => False) (fun _ => none) (fun _ => []) (fun _ => []) (fun _ => false) glOf
theorem laws : Laws prog G := laws_of (by kernel_rfl) (fun e q h => by cases h)
theorem fnok : FnOK prog G := fnok_of
end Go.Proofs.YtmbpcjacbnloaaaDoor.Am
