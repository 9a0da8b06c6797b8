/- The abstract machine at the seat of the classes: kinds of elements. -/
import Derived.Test.YtehcejlbfngfdaaAmSig
import Derived.Test.YtehcejlbfngfdaaAmGlue
import Derived.Test.YtehcejlbfngfdaaProg
namespace Go.Proofs.Ytehcejlbfngfdaa.Am
open Go Go.Proofs.Try
set_option autoImplicit false

structure Atr where
  name : ByteArray
  kind : Int
  val : Int

structure Cls where
  bases : List Int
  attrs : List Atr

noncomputable def T : Nat → Type | 0 => Int | 1 => Int | 2 => ByteArray | 3 => Atr | 4 => Cls | 5 => Atr | 6 => Cls | 7 => List Int | _ => Unit
noncomputable def kd : (k : Nat) → Kd T (T k)
  | 0 => ⟨3, [.int .i64], fun d => d.1, fun x => (x, ()), fun _ => rfl⟩
  | 1 => ⟨5, [.int .u8], fun d => d.1, fun x => (x, ()), fun _ => rfl⟩
  | 2 => ⟨9, [.str], fun d => d.1, fun x => (x, ()), fun _ => rfl⟩
  | 3 => ⟨35, [.str, .int .i64, .int .i64], fun d => Atr.mk d.1 d.2.1 d.2.2.1, fun (x : Atr) => (x.name, (x.kind, (x.val, ()))), fun _ => rfl⟩
  | 4 => ⟨45, [.imm 0, .imm 3], fun d => Cls.mk d.1 d.2.1, fun (x : Cls) => (x.bases, (x.attrs, ())), fun _ => rfl⟩
  | 5 => ⟨103, [.str, .int .i64, .int .i64], fun d => Atr.mk d.1 d.2.1 d.2.2.1, fun (x : Atr) => (x.name, (x.kind, (x.val, ()))), fun _ => rfl⟩
  | 6 => ⟨72, [.imm 0, .imm 5], fun d => Cls.mk d.1 d.2.1, fun (x : Cls) => (x.bases, (x.attrs, ())), fun _ => rfl⟩
  | 7 => ⟨38, [.imm 0], fun d => d.1, fun x => (x, ()), fun _ => rfl⟩
  | _ + 8 => ⟨0, [], fun d => d, fun x => x, fun _ => rfl⟩
noncomputable def tb : Tb := ⟨8, T, kd⟩
noncomputable def G : Sig := sigOf prog tb (fun _ => Unit) (fun _ _ _ _ => False) (fun _ => none) (fun _ => []) (fun | 73 => [true] | 87 => [true] | 89 => [true] | 96 => [true] | _ => []) (fun | 41 => true | _ => false)
theorem laws : Laws prog G := laws_of (by kernel_rfl) (fun e q h => by cases h)
theorem fnok : FnOK prog G := fnok_of
end Go.Proofs.Ytehcejlbfngfdaa.Am
