/- The abstract machine at the seat of sorting: kinds of elements; zones. -/
import Derived.Test.YtjanepkjjmcchaaAmSig
import Derived.Test.YtjanepkjjmcchaaAmGlue
import Derived.Test.YtjanepkjjmcchaaProg
namespace Go.Proofs.Ytjanepkjjmcchaa.Am
open Go Go.Proofs.Try
set_option autoImplicit false

structure Itm where
  key : Int
  tag : Int

noncomputable def T : Nat → Type | 0 => Int | 1 => Int | 2 => ByteArray | 3 => Itm | 4 => Itm | 5 => List Int | 6 => List Itm | _ => Unit
noncomputable def kd : (k : Nat) → Kd T (T k)
  | 0 => ⟨3, [.int .i64], fun d => d.1, fun x => (x, ()), fun _ => rfl⟩
  | 1 => ⟨5, [.int .u8], fun d => d.1, fun x => (x, ()), fun _ => rfl⟩
  | 2 => ⟨9, [.str], fun d => d.1, fun x => (x, ()), fun _ => rfl⟩
  | 3 => ⟨46, [.int .i64, .int .i64], fun d => Itm.mk d.1 d.2.1, fun (x : Itm) => (x.key, (x.tag, ())), fun _ => rfl⟩
  | 4 => ⟨50, [.int .i64, .int .i64], fun d => Itm.mk d.1 d.2.1, fun (x : Itm) => (x.key, (x.tag, ())), fun _ => rfl⟩
  | 5 => ⟨38, [.imm 0], fun d => d.1, fun x => (x, ()), fun _ => rfl⟩
  | 6 => ⟨23, [.imm 3], fun d => d.1, fun x => (x, ()), fun _ => rfl⟩
  | _ + 7 => ⟨0, [], fun d => d, fun x => x, fun _ => rfl⟩
noncomputable def tb : Tb := ⟨7, T, kd⟩
noncomputable def G : Sig := sigZ prog tb [.imm 3] (fun f => Nat.beq f 8) (fun _ => false) (fun | 38 => [.own 0] | 39 => [.own 5] | _ => []) (fun | 30 => [true] | 22 => [true] | 39 => [true] | 31 => [true, false, true] | 15 => [true] | 16 => [true] | _ => [])
theorem laws : Laws prog G := laws_z (by kernel_rfl) (by kernel_rfl)
theorem fnok : FnOK prog G := fnok_z
end Go.Proofs.Ytjanepkjjmcchaa.Am
