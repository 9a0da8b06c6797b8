/- The abstract machine at the seat of the heaps: kinds of elements. -/
import Derived.Test.YtfknenaecihchaaAmSig
import Derived.Test.YtfknenaecihchaaAmGlue
import Derived.Test.YtfknenaecihchaaProg
namespace Go.Proofs.Ytfknenaecihchaa.Am
open Go Go.Proofs.Try
set_option autoImplicit false

structure Val where
  kind : Int
  text : ByteArray
  ref : Int

structure Obj where
  kind : Int
  name : ByteArray
  at_ : Int
  items : List Val
  keys : List Val
  names : List ByteArray
  vals : List Val

noncomputable def T : Nat → Type | 0 => Int | 1 => Int | 2 => ByteArray | 3 => Val | 4 => Obj | _ => Unit
noncomputable def kd : (k : Nat) → Kd T (T k)
  | 0 => ⟨3, [.int .i64], fun d => d.1, fun x => (x, ()), fun _ => rfl⟩
  | 1 => ⟨5, [.int .u8], fun d => d.1, fun x => (x, ()), fun _ => rfl⟩
  | 2 => ⟨9, [.str], fun d => d.1, fun x => (x, ()), fun _ => rfl⟩
  | 3 => ⟨31, [.int .i64, .str, .int .i64], fun d => Val.mk d.1 d.2.1 d.2.2.1, fun (x : Val) => (x.kind, (x.text, (x.ref, ()))), fun _ => rfl⟩
  | 4 => ⟨51, [.int .i64, .str, .int .i64, .imm 3, .imm 3, .imm 2, .imm 3], fun d => Obj.mk d.1 d.2.1 d.2.2.1 d.2.2.2.1 d.2.2.2.2.1 d.2.2.2.2.2.1 d.2.2.2.2.2.2.1, fun (x : Obj) => (x.kind, (x.name, (x.at_, (x.items, (x.keys, (x.names, (x.vals, ()))))))), fun _ => rfl⟩
  | _ + 5 => ⟨0, [], fun d => d, fun x => x, fun _ => rfl⟩
noncomputable def tb : Tb := ⟨5, T, kd⟩
noncomputable def G : Sig := sigOf prog tb (fun _ => Unit) (fun _ _ _ _ => False) (fun _ => none) (fun | 75 => [.nsp 0, .own 1] | 78 => [.keep, .nsp 1, .own 1, .own 0] | _ => []) (fun _ => []) (fun _ => false) (fun _ => none) true
theorem laws : Laws prog G := laws_of (by kernel_rfl) (fun e q h => by cases h)
theorem fnok : FnOK prog G := fnok_of
end Go.Proofs.Ytfknenaecihchaa.Am
