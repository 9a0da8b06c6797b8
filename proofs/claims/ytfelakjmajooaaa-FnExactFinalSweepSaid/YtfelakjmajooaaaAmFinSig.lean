/- The abstract machine at the seat of the finalizers: kinds of elements; zones. -/
import Derived.Test.YtfelakjmajooaaaAmSig
import Derived.Test.YtfelakjmajooaaaAmGlue
import Derived.Test.YtfelakjmajooaaaProg
namespace Go.Proofs.Ytfelakjmajooaaa.Am
open Go Go.Proofs.Try
set_option autoImplicit false

structure Fnl where
  at_ : Int
  saves : Int
  done : Bool

noncomputable def T : Nat → Type | 0 => Int | 1 => Bool | 2 => List Int | 3 => Fnl | 4 => Fnl | _ => Unit
noncomputable def kd : (k : Nat) → Kd T (T k)
  | 0 => ⟨3, [.int .i64], fun d => d.1, fun x => (x, ()), fun _ => rfl⟩
  | 1 => ⟨4, [.bool], fun d => d.1, fun x => (x, ()), fun _ => rfl⟩
  | 2 => ⟨23, [.imm 0], fun d => d.1, fun x => (x, ()), fun _ => rfl⟩
  | 3 => ⟨58, [.int .i64, .int .i64, .bool], fun d => Fnl.mk d.1 d.2.1 d.2.2.1, fun (x : Fnl) => (x.at_, (x.saves, (x.done, ()))), fun _ => rfl⟩
  | 4 => ⟨60, [.int .i64, .int .i64, .bool], fun d => Fnl.mk d.1 d.2.1 d.2.2.1, fun (x : Fnl) => (x.at_, (x.saves, (x.done, ()))), fun _ => rfl⟩
  | _ + 5 => ⟨0, [], fun d => d, fun x => x, fun _ => rfl⟩
noncomputable def tb : Tb := ⟨5, T, kd⟩
noncomputable def G : Sig := sigZ prog tb [.imm 2] (fun f => Nat.beq f 8) (fun f => Nat.beq f 16) (fun | 28 => [.own 0, .own 0, .own 0, .own 3] | 29 => [.own 0, .own 0, .own 0, .own 3] | _ => []) (fun | 17 => [true] | 18 => [true] | 19 => [true] | _ => [])
theorem laws : Laws prog G := laws_z (by kernel_rfl) (by kernel_rfl)
theorem fnok : FnOK prog G := fnok_z
end Go.Proofs.Ytfelakjmajooaaa.Am
