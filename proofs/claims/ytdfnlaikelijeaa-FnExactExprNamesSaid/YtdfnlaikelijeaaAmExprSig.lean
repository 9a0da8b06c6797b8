/- The abstract machine at the seat of the expressions: kinds of elements. -/
import Derived.Test.YtdfnlaikelijeaaAmSig
import Derived.Test.YtdfnlaikelijeaaAmGlue
import Derived.Test.YtdfnlaikelijeaaProg
namespace Go.Proofs.Ytdfnlaikelijeaa.Am
open Go Go.Proofs.Try
set_option autoImplicit false

structure Ex where
  kind : Int
  text : ByteArray
  names : List ByteArray
  kids : List Ex

noncomputable def T : Nat → Type | 0 => Int | 1 => Int | 2 => ByteArray | 3 => Ex | 4 => Ex | 5 => List ByteArray | _ => Unit
noncomputable def kd : (k : Nat) → Kd T (T k)
  | 0 => ⟨3, [.int .i64], fun d => d.1, fun x => (x, ()), fun _ => rfl⟩
  | 1 => ⟨5, [.int .u8], fun d => d.1, fun x => (x, ()), fun _ => rfl⟩
  | 2 => ⟨9, [.str], fun d => d.1, fun x => (x, ()), fun _ => rfl⟩
  | 3 => ⟨30, [.int .i64, .str, .imm 2, .imm 3], fun d => Ex.mk d.1 d.2.1 d.2.2.1 d.2.2.2.1, fun (x : Ex) => (x.kind, (x.text, (x.names, (x.kids, ())))), fun _ => rfl⟩
  | 4 => ⟨25, [.int .i64, .str, .imm 2, .imm 4], fun d => Ex.mk d.1 d.2.1 d.2.2.1 d.2.2.2.1, fun (x : Ex) => (x.kind, (x.text, (x.names, (x.kids, ())))), fun _ => rfl⟩
  | 5 => ⟨22, [.imm 2], fun d => d.1, fun x => (x, ()), fun _ => rfl⟩
  | _ + 6 => ⟨0, [], fun d => d, fun x => x, fun _ => rfl⟩
noncomputable def tb : Tb := ⟨6, T, kd⟩
noncomputable def G : Sig := sigZ prog tb [.imm 2, .imm 3] (fun f => Nat.beq f 11) (fun f => Nat.beq f 22) (fun | 22 => [.own 2] | _ => []) (fun | 23 => [true] | _ => []) (fun _ => false) (fun _ => none) true
theorem laws : Laws prog G := laws_z (by kernel_rfl) (by kernel_rfl)
theorem fnok : FnOK prog G := fnok_z
end Go.Proofs.Ytdfnlaikelijeaa.Am
