/- The abstract machine at the seat of the scripts: kinds of elements. -/
import Derived.Test.YtfelakjmajooaaaAmSig
import Derived.Test.YtfelakjmajooaaaAmGlue
import Derived.Test.YtfelakjmajooaaaProg
namespace Go.Proofs.Ytfelakjmajooaaa.Am
open Go Go.Proofs.Try
set_option autoImplicit false

structure Act where
  kind : Int
  num : Int

structure Tsk where
  script : Int
  at_ : Int
  up : Int
  state : Int
  wake : Int
  wait : Int
  num : Int
  cancel : Bool

structure Sd where
  time : Int
  task : Int
  kind : Int
  num : Int

noncomputable def T : Nat → Type | 0 => Int | 1 => Int | 2 => Act | 3 => List Act | 4 => Tsk | 5 => Sd | _ => Unit
noncomputable def kd : (k : Nat) → Kd T (T k)
  | 0 => ⟨3, [.int .i64], fun d => d.1, fun x => (x, ()), fun _ => rfl⟩
  | 1 => ⟨5, [.int .u8], fun d => d.1, fun x => (x, ()), fun _ => rfl⟩
  | 2 => ⟨75, [.int .i64, .int .i64], fun d => Act.mk d.1 d.2.1, fun (x : Act) => (x.kind, (x.num, ())), fun _ => rfl⟩
  | 3 => ⟨73, [.imm 2], fun d => d.1, fun x => (x, ()), fun _ => rfl⟩
  | 4 => ⟨79, [.int .i64, .int .i64, .int .i64, .int .i64, .int .i64, .int .i64, .int .i64, .bool], fun d => Tsk.mk d.1 d.2.1 d.2.2.1 d.2.2.2.1 d.2.2.2.2.1 d.2.2.2.2.2.1 d.2.2.2.2.2.2.1 d.2.2.2.2.2.2.2.1, fun (x : Tsk) => (x.script, (x.at_, (x.up, (x.state, (x.wake, (x.wait, (x.num, (x.cancel, ())))))))), fun _ => rfl⟩
  | 5 => ⟨88, [.int .i64, .int .i64, .int .i64, .int .i64], fun d => Sd.mk d.1 d.2.1 d.2.2.1 d.2.2.2.1, fun (x : Sd) => (x.time, (x.task, (x.kind, (x.num, ())))), fun _ => rfl⟩
  | _ + 6 => ⟨0, [], fun d => d, fun x => x, fun _ => rfl⟩
noncomputable def tb : Tb := ⟨6, T, kd⟩
noncomputable def G : Sig := sigOf prog tb (fun _ => Unit) (fun _ _ _ _ => False) (fun _ => none) (fun _ => []) (fun _ => [])
theorem laws : Laws prog G := laws_of (by kernel_rfl) (fun e q h => by cases h)
theorem fnok : FnOK prog G := fnok_of
end Go.Proofs.Ytfelakjmajooaaa.Am
