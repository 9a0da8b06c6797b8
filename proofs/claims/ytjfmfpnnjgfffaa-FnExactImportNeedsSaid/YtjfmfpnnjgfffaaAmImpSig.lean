/- The abstract machine at the seat of imports: kinds of elements; zones, grown rows. -/
import Derived.Test.YtjfmfpnnjgfffaaAmSigW
import Derived.Test.YtjfmfpnnjgfffaaAmGlue
import Derived.Test.YtjfmfpnnjgfffaaProg
namespace Go.Proofs.Ytjfmfpnnjgfffaa.Am
open Go Go.Proofs.Try
set_option autoImplicit false

structure Stp where
  kind : Int
  num : Int
  name : ByteArray

noncomputable def T : Nat → Type | 0 => Int | 1 => Bool | 2 => List Int | 3 => Stp | 4 => Stp | 5 => List Stp | 6 => List Stp | 7 => ByteArray | 8 => Int | _ => Unit
noncomputable def kd : (k : Nat) → Kd T (T k)
  | 0 => ⟨3, [.int .i64], fun d => d.1, fun x => (x, ()), fun _ => rfl⟩
  | 1 => ⟨4, [.bool], fun d => d.1, fun x => (x, ()), fun _ => rfl⟩
  | 2 => ⟨24, [.imm 0], fun d => d.1, fun x => (x, ()), fun _ => rfl⟩
  | 3 => ⟨48, [.int .i64, .int .i64, .str], fun d => Stp.mk d.1 d.2.1 d.2.2.1, fun (x : Stp) => (x.kind, (x.num, (x.name, ()))), fun _ => rfl⟩
  | 4 => ⟨92, [.int .i64, .int .i64, .str], fun d => Stp.mk d.1 d.2.1 d.2.2.1, fun (x : Stp) => (x.kind, (x.num, (x.name, ()))), fun _ => rfl⟩
  | 5 => ⟨46, [.imm 3], fun d => d.1, fun x => (x, ()), fun _ => rfl⟩
  | 6 => ⟨52, [.imm 4], fun d => d.1, fun x => (x, ()), fun _ => rfl⟩
  | 7 => ⟨9, [.str], fun d => d.1, fun x => (x, ()), fun _ => rfl⟩
  | 8 => ⟨5, [.int .u8], fun d => d.1, fun x => (x, ()), fun _ => rfl⟩
  | _ + 9 => ⟨0, [], fun d => d, fun x => x, fun _ => rfl⟩
noncomputable def tb : Tb := ⟨9, T, kd⟩
noncomputable def fams : List (Fam tb.T) := [⟨58, 2, 0, fun xs => xs⟩]
theorem fams_ok : ∀ a ∈ fams, FamOK prog tb a := fun a ha => by
  have e : a = ⟨58, 2, 0, fun xs => xs⟩ := by simpa [fams] using ha
  subst e
  exact ⟨by show 2 < 9; omega, by show 0 < 9; omega, by kernel_rfl, by kernel_rfl, by kernel_rfl, by kernel_rfl, fun xs => ⟨rfl, fun i x hx => ⟨x, hx, rfl⟩⟩⟩
noncomputable def G : Sig := sigW prog tb [.imm 5] fams (fun f => Nat.beq f 9) (fun f => Nat.beq f 13) (fun _ => []) (fun | 14 => [true] | 15 => [true] | _ => [])
theorem laws : Laws prog G := laws_w (by kernel_rfl) (by kernel_rfl) fams_ok
theorem fnok : FnOK prog G := fnok_w
end Go.Proofs.Ytjfmfpnnjgfffaa.Am
