/- The abstract machine at the seat of the heaps: kinds of elements; empty rows of values and texts have no room. -/
import Derived.Test.YtfknenaecihchaaAmSigT
import Derived.Test.YtfknenaecihchaaAmGlue
import Derived.Test.YtfknenaecihchaaProg
namespace Go.Proofs.Ytfknenaecihchaa.Am
open Go Go.Proofs.Try
set_option autoImplicit false

structure Val where
  kind : Int
  text : ByteArray
  ref : Int

structure Obj where
  kind : Int
  name : ByteArray
  at_ : Int
  items : List Val
  keys : List Val
  names : List ByteArray
  vals : List Val

noncomputable def T : Nat → Type | 0 => Int | 1 => Int | 2 => ByteArray | 3 => Val | 4 => Obj | 5 => Bool | 6 => List Val | _ => Unit
noncomputable def kd : (k : Nat) → Kd T (T k)
  | 0 => ⟨3, [.int .i64], fun d => d.1, fun x => (x, ()), fun _ => rfl⟩
  | 1 => ⟨5, [.int .u8], fun d => d.1, fun x => (x, ()), fun _ => rfl⟩
  | 2 => ⟨9, [.str], fun d => d.1, fun x => (x, ()), fun _ => rfl⟩
  | 3 => ⟨31, [.int .i64, .str, .int .i64], fun d => Val.mk d.1 d.2.1 d.2.2.1, fun (x : Val) => (x.kind, (x.text, (x.ref, ()))), fun _ => rfl⟩
  | 4 => ⟨51, [.int .i64, .str, .int .i64, .imm 3, .imm 3, .imm 2, .imm 3], fun d => Obj.mk d.1 d.2.1 d.2.2.1 d.2.2.2.1 d.2.2.2.2.1 d.2.2.2.2.2.1 d.2.2.2.2.2.2.1, fun (x : Obj) => (x.kind, (x.name, (x.at_, (x.items, (x.keys, (x.names, (x.vals, ()))))))), fun _ => rfl⟩
  | 5 => ⟨4, [.bool], fun d => d.1, fun x => (x, ()), fun _ => rfl⟩
  | 6 => ⟨49, [.imm 3], fun d => d.1, fun x => (x, ()), fun _ => rfl⟩
  | _ + 7 => ⟨0, [], fun d => d, fun x => x, fun _ => rfl⟩
noncomputable def tb : Tb := ⟨7, T, kd⟩
noncomputable def G : Sig := sigT prog tb (fun | 2 => true | 3 => true | _ => false) (fun | 4 => true | _ => false) (fun | 76 => [.own 0] | 95 => [.own 5] | 25 => [.own 4] | _ => []) (fun | 41 => [true] | _ => [])
theorem laws : Laws prog G := laws_t (by kernel_rfl)
theorem fnok : FnOK prog G := fnok_t
end Go.Proofs.Ytfknenaecihchaa.Am
