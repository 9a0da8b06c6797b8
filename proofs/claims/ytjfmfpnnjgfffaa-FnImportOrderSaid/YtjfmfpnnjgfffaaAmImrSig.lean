/- The abstract machine at the seat of imports, with importers: grown rows, rows of maps. -/
import Derived.Test.YtjfmfpnnjgfffaaAmSigM
import Derived.Test.YtjfmfpnnjgfffaaAmGlue
import Derived.Test.YtjfmfpnnjgfffaaProg
namespace Go.Proofs.Ytjfmfpnnjgfffaa.Am
open Go Go.Proofs.Try
set_option autoImplicit false

structure Stp where
  kind : Int
  num : Int
  name : ByteArray
structure Vrb where
  name : ByteArray
  kind : Int
  text : ByteArray
  ref : Int
  set : Bool

noncomputable def T : Nat → Type | 0 => Int | 1 => Bool | 2 => List Int | 3 => Stp | 4 => Int | 5 => List Stp | 6 => ByteArray | 7 => Vrb | 8 => List Vrb | _ => Unit
noncomputable def kd : (k : Nat) → Kd T (T k)
  | 0 => ⟨3, [.int .i64], fun d => d.1, fun x => (x, ()), fun _ => rfl⟩
  | 1 => ⟨4, [.bool], fun d => d.1, fun x => (x, ()), fun _ => rfl⟩
  | 2 => ⟨24, [.imm 0], fun d => d.1, fun x => (x, ()), fun _ => rfl⟩
  | 3 => ⟨48, [.int .i64, .int .i64, .str], fun d => Stp.mk d.1 d.2.1 d.2.2.1, fun (x : Stp) => (x.kind, (x.num, (x.name, ()))), fun _ => rfl⟩
  | 4 => ⟨5, [.int .u8], fun d => d.1, fun x => (x, ()), fun _ => rfl⟩
  | 5 => ⟨46, [.imm 3], fun d => d.1, fun x => (x, ()), fun _ => rfl⟩
  | 6 => ⟨9, [.str], fun d => d.1, fun x => (x, ()), fun _ => rfl⟩
  | 7 => ⟨107, [.str, .int .i64, .str, .int .i64, .bool], fun d => Vrb.mk d.1 d.2.1 d.2.2.1 d.2.2.2.1 d.2.2.2.2.1, fun (x : Vrb) => (x.name, (x.kind, (x.text, (x.ref, (x.set, ()))))), fun _ => rfl⟩
  | 8 => ⟨98, [.imm 7], fun d => d.1, fun x => (x, ()), fun _ => rfl⟩
  | _ + 9 => ⟨0, [], fun d => d, fun x => x, fun _ => rfl⟩
noncomputable def tb : Tb := ⟨9, T, kd⟩
noncomputable def fams : List (Fam tb.T) := [⟨58, 2, 0, fun xs => xs⟩, ⟨88, 8, 7, fun xs => xs⟩]
theorem fams_ok : ∀ a ∈ fams, FamOK prog tb a := fun a ha => by
  have e : a = ⟨58, 2, 0, fun xs => xs⟩ ∨ a = ⟨88, 8, 7, fun xs => xs⟩ := by simpa [fams] using ha
  rcases e with rfl | rfl
  · exact ⟨by show 2 < 9; omega, by show 0 < 9; omega, by kernel_rfl, by kernel_rfl, by kernel_rfl, by kernel_rfl, fun xs => ⟨rfl, fun i x hx => ⟨x, hx, rfl⟩⟩⟩
  · exact ⟨by show 8 < 9; omega, by show 7 < 9; omega, by kernel_rfl, by kernel_rfl, by kernel_rfl, by kernel_rfl, fun xs => ⟨rfl, fun i x hx => ⟨x, hx, rfl⟩⟩⟩
def mkm (t : TypeId) : Bool := Nat.beq t 68
def mpt (t : TypeId) : Bool := Nat.beq t 85
theorem map_ok : MapOK prog tb mkm mpt 0 := ⟨by kernel_rfl, fun t ht => by
  obtain rfl := Nat.eq_of_beq_eq_true ht
  have h1 : prog.underlying 68 = some (.slice 85) := by kernel_rfl
  have h2 : (prog.info? 85).isSome = true := by kernel_rfl
  obtain ⟨ii, hi⟩ := Option.isSome_iff_exists.1 h2
  have h3 : (prog.info? 85).bind (·.zero) = some (.map none) := by kernel_rfl
  have h4 : (prog.info? 85).map (fun i => (i.size, i.bytes)) = some (1, 8) := by kernel_rfl
  rw [hi] at h3 h4
  simp only [Option.map_some, Option.some.injEq, Prod.mk.injEq] at h4
  exact ⟨85, ii, h1, hi, h3, h4.1, by omega, by omega⟩, fun t ht => by
  obtain rfl := Nat.eq_of_beq_eq_true ht
  exact ⟨9, 3, by kernel_rfl, by kernel_rfl, by kernel_rfl⟩⟩
noncomputable def G : Sig := sigM prog tb fams mkm mpt 0 (fun | 90 => [.keep, .own 0, .own 0, .own 0, .own 6, .own 0, .keep] | 70 => [.keep, .keep, .own 0, .own 0, .own 0, .own 6, .own 0] | _ => []) (fun | 77 => [true, true, true] | 80 => [true, true] | _ => [])
theorem laws : Laws prog G := laws_m (by kernel_rfl) fams_ok map_ok
theorem fnok : FnOK prog G := fnok_m
end Go.Proofs.Ytjfmfpnnjgfffaa.Am
