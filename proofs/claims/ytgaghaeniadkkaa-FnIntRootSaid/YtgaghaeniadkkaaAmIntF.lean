/- The functions of the seat, printed. -/
import Derived.Test.YtgaghaeniadkkaaAmBld
namespace Go.Proofs.Ytgaghaeniadkkaa.Am
open Go Go.Proofs.Try
set_option autoImplicit false
set_option linter.unusedVariables false
set_option maxRecDepth 100000
noncomputable def E0 (n : Nat) : List (Ent G) := [L69e, L60e]
theorem E0_ok (n : Nat) : AllE prog G (E0 n) := AllE.cons L69_ok (AllE.cons L60_ok AllE.nil)
-- 3 loop.example/slowworm/laws.FnIntAdd
noncomputable def F3c : Code := bodyOf Go.Proofs.Try.f3
-- 10 loop.example/slowworm/spec.DrawIntAdd
noncomputable def F10c : Code := bodyOf Go.Proofs.Try.f10
-- 30 loop.example/slowworm/spec.newRnd
noncomputable def F30c : Code := bodyOf Go.Proofs.Try.f30
noncomputable def F30 (n : Nat) (a4 : List Int) : Option (Unit × ((List Int × (Int × Unit)) × Unit)) :=
  let v5 := ((a4.length) : Int)
  let v6 := (if ((4000 : Int) < v5) then (4000 : Int) else v5)
  (bif (decide ((0 : Int) ≤ v6)) then
  (bif (decide (v6 ≤ ((a4.length) : Int))) then
  some ((), ((((a4.take (v6.toNat)).drop (0 : Nat)), ((0 : Int), ())), ()))
  else none)
  else none)
noncomputable def F30e (n : Nat) : Ent G := ⟨30, (.cons (.imm 1) .nil), [], (.ptr 0 0), [(.box 58 (.cons (.imm 1) (.cons (.int .i64) .nil)))], fun x y => F30 n x.1⟩
theorem F30_eq (n : Nat) (x : ShL.den G (.cons (.imm 1) .nil)) (y : denO G []) : (F30e n).F x y = runFn prog G (ro G (tabOf (E0 n)) (frOf []) _) Go.Proofs.Try.f30 .no [(0, .fz)] (ShL.enc G (.cons (.imm 1) .nil) x) (encO G [] y) (decR (.ptr 0 0) [(.box 58 (.cons (.imm 1) (.cons (.int .i64) .nil)))]) := by kernel_rfl
theorem F30_ok (n : Nat) : EntOK prog G (F30e n) :=
  ent_ok (fr := frOf []) (ann := .no) (frm := [(0, .fz)]) laws fnok (E0_ok n).tab (e := F30e n) (fn := Go.Proofs.Try.f30) (by kernel_rfl) (AllF.ofB (cd := F30c) (l := []) (by kernel_rfl) (by kernel_rfl) AllF.nil) (F30_eq n)
noncomputable def E1 (n : Nat) : List (Ent G) := F30e n :: E0 n
theorem E1_ok (n : Nat) : AllE prog G (E1 n) := AllE.cons (F30_ok n) (E0_ok n)
-- 31 (*loop.example/slowworm/spec.rnd).integer
noncomputable def F31c : Code := bodyOf Go.Proofs.Try.f31
-- 32 (*loop.example/slowworm/spec.rnd).pick
noncomputable def F32c : Code := bodyOf Go.Proofs.Try.f32
noncomputable def F32_0x0 : SSh := ⟨101, [(0, (.ptr 0 0)), (1, (.int .i64)), (5, (.int .i64))], [(.box 58 (.cons (.imm 1) (.cons (.int .i64) .nil)))]⟩
noncomputable def F32_0s : SSh := ⟨101, [(0, (.ptr 0 0)), (1, (.int .i64)), (5, (.int .i64))], [(.box 58 (.cons (.imm 1) (.cons (.int .i64) .nil)))]⟩
noncomputable def F32_0 {R : Type} (n : Nat) (x17 : Int) (x18 : Int) (x19 : List Int) (x20 : Int) (k0 : Int → Int → List Int → Int → Option R) : Option R :=
  (bif (decide (((x19.length) : Int) > (0 : Int))) then
  let v23 := ((x19.length) : Int)
  (bif (!(decide (v23 = (0 : Int)))) then
  let v24 := (x20.tmod v23)
  (bif (decide ((0 : Int) ≤ v24)) then
  (bif (decide (v24 < ((x19.length) : Int))) then
  let v27 := (IntKind.wrap .i64 (x19.getD (v24.toNat) (0 : Int)))
  (bif (decide (x17 > (256 : Int))) then
  let v32 := ((x19.length) : Int)
  (bif (!(decide (v32 = (0 : Int)))) then
  let v33 := ((IntKind.wrap .i64 ((IntKind.wrap .i64 (x20 * (7 : Int))) + (3 : Int))).tmod v32)
  (bif (decide ((0 : Int) ≤ v33)) then
  (bif (decide (v33 < ((x19.length) : Int))) then
  let v41 := ((x19.length) : Int)
  (bif (!(decide (v41 = (0 : Int)))) then
  let v44 := (IntKind.wrap .i64 ((IntKind.wrap .i64 ((IntKind.wrap .i64 ((IntKind.wrap .i64 (v27 * (131 : Int))) + (IntKind.wrap .i64 ((IntKind.wrap .i64 (x19.getD (v33.toNat) (0 : Int))) * (1117 : Int))))) + (IntKind.wrap .i64 (x20 * (29 : Int))))) + (IntKind.wrap .i64 ((IntKind.wrap .i64 (x20.tdiv v41)) * (53 : Int)))))
  (k0 x17 (IntKind.wrap .i64 ((((BitVec.ofInt (64 : Nat) v44) ^^^ (BitVec.ofInt (64 : Nat) (IntKind.wrap .i64 (v44.tdiv (64 : Int))))).toNat) : Int)) x19 x20)
  else none)
  else none)
  else none)
  else none)
  else (bif (decide (x20 ≥ ((x19.length) : Int))) then
  let v52 := ((x19.length) : Int)
  (bif (!(decide (v52 = (0 : Int)))) then
  let v53 := ((IntKind.wrap .i64 ((IntKind.wrap .i64 (x20 * (7 : Int))) + (3 : Int))).tmod v52)
  (bif (decide ((0 : Int) ≤ v53)) then
  (bif (decide (v53 < ((x19.length) : Int))) then
  let v61 := ((x19.length) : Int)
  (bif (!(decide (v61 = (0 : Int)))) then
  let v64 := (IntKind.wrap .i64 ((IntKind.wrap .i64 ((IntKind.wrap .i64 ((IntKind.wrap .i64 (v27 * (131 : Int))) + (IntKind.wrap .i64 ((IntKind.wrap .i64 (x19.getD (v53.toNat) (0 : Int))) * (1117 : Int))))) + (IntKind.wrap .i64 (x20 * (29 : Int))))) + (IntKind.wrap .i64 ((IntKind.wrap .i64 (x20.tdiv v61)) * (53 : Int)))))
  (k0 x17 (IntKind.wrap .i64 ((((BitVec.ofInt (64 : Nat) v64) ^^^ (BitVec.ofInt (64 : Nat) (IntKind.wrap .i64 (v64.tdiv (64 : Int))))).toNat) : Int)) x19 x20)
  else none)
  else none)
  else none)
  else none)
  else (k0 x17 v27 x19 x20)))
  else none)
  else none)
  else none)
  else (k0 x17 x18 x19 x20))
noncomputable def F32_0z (n : Nat) : Sm G := inZ G 1 ⟨[0, 1, 5], []⟩ F32_0s fun R x K => F32_0 n x.1.2.1 x.1.2.2.1 x.2.1.1 x.2.1.2.1 (fun u0 u1 u2 u3 => K .normal (SSh.enc G F32_0x0 (((), (u0, (u1, ()))), ((u2, (u3, ())), ()))))
theorem F32_0_eq (n : Nat) (R : Type) (x : SSh.den G F32_0s) (K : AE → St G → Option R) :
  F32_0 n x.1.2.1 x.1.2.2.1 x.2.1.1 x.2.1.2.1 (fun u0 u1 u2 u3 => K .normal (SSh.enc G F32_0x0 (((), (u0, (u1, ()))), ((u2, (u3, ())), ())))) = exec prog G (ro G (tabOf (E1 n)) (frOf []) R) 1 (codeAt F32c [1, 1, 1, 0]) .no (SSh.enc G F32_0s x) (kNrm G (ro G (tabOf (E1 n)) (frOf []) R) 1 ⟨⟨[0, 1, 5], []⟩, ⟨[4], []⟩, []⟩ K) := by kernel_rfl
theorem F32_0_ok (n : Nat) : FragOK prog G 1 (codeAt F32c [1, 1, 1, 0]) (F32_0z n) :=
  frag_plain laws fnok (E1_ok n).tab (AllF.of (l := []) (by kernel_rfl) AllF.nil) (F32_0_eq n)
noncomputable def F32 (n : Nat) (a13 : Int) (a14 : List Int) (a15 : Int) : Option (Int × ((List Int × (Int × Unit)) × Unit)) :=
  (bif (decide (a13 < (2 : Int))) then
  some ((0 : Int), ((a14, (a15, ())), ()))
  else (F32_0 n a13 (0 : Int) a14 a15 (fun z67 z68 z69 z70 =>
  (bif (!(decide (z67 = (0 : Int)))) then
  some ((z68.tmod z67), ((z69, ((IntKind.wrap .i64 (z70 + (1 : Int))), ())), ()))
  else none))))
noncomputable def F32e (n : Nat) : Ent G := ⟨32, (.cons (.ptr 0 0) (.cons (.int .i64) .nil)), [(.box 58 (.cons (.imm 1) (.cons (.int .i64) .nil)))], (.int .i64), [(.box 58 (.cons (.imm 1) (.cons (.int .i64) .nil)))], fun x y => F32 n x.2.1 y.1.1 y.1.2.1⟩
theorem F32_eq (n : Nat) (x : ShL.den G (.cons (.ptr 0 0) (.cons (.int .i64) .nil))) (y : denO G [(.box 58 (.cons (.imm 1) (.cons (.int .i64) .nil)))]) : (F32e n).F x y = runFn prog G (ro G (tabOf (E1 n)) (frOf [F32_0z n]) _) Go.Proofs.Try.f32 (.nd .no (.nd .no (.nd .no (.nd (.use 0) .no)))) [(0, .fz)] (ShL.enc G (.cons (.ptr 0 0) (.cons (.int .i64) .nil)) x) (encO G [(.box 58 (.cons (.imm 1) (.cons (.int .i64) .nil)))] y) (decR (.int .i64) [(.box 58 (.cons (.imm 1) (.cons (.int .i64) .nil)))]) := by kernel_rfl
theorem F32_ok (n : Nat) : EntOK prog G (F32e n) :=
  ent_ok (fr := frOf [F32_0z n]) (ann := (.nd .no (.nd .no (.nd .no (.nd (.use 0) .no))))) (frm := [(0, .fz)]) laws fnok (E1_ok n).tab (e := F32e n) (fn := Go.Proofs.Try.f32) (by kernel_rfl) (AllF.ofB (cd := F32c) (l := [(0, codeAt F32c [1, 1, 1, 0])]) (by kernel_rfl) (by kernel_rfl) (AllF.cons (F32_0_ok n) AllF.nil)) (F32_eq n)
noncomputable def E2 (n : Nat) : List (Ent G) := F32e n :: E1 n
theorem E2_ok (n : Nat) : AllE prog G (E2 n) := AllE.cons (F32_ok n) (E1_ok n)
-- 53 (*loop.example/slowworm/spec.rnd).of
noncomputable def F53c : Code := bodyOf Go.Proofs.Try.f53
noncomputable def F53 (n : Nat) (a76 : List ByteArray) (a77 : List Int) (a78 : Int) : Option (ByteArray × ((List Int × (Int × Unit)) × Unit)) :=
  (andThen (F32 n ((a76.length) : Int) a77 a78) fun r80 =>
  (bif (decide ((0 : Int) ≤ r80.1)) then
  (bif (decide (r80.1 < ((a76.length) : Int))) then
  some ((a76.getD (r80.1.toNat) ({ data := #[] } : ByteArray)), ((r80.2.1.1, (r80.2.1.2.1, ())), ()))
  else none)
  else none))
noncomputable def F53e (n : Nat) : Ent G := ⟨53, (.cons (.ptr 0 0) (.cons (.imm 2) .nil)), [(.box 58 (.cons (.imm 1) (.cons (.int .i64) .nil)))], .str, [(.box 58 (.cons (.imm 1) (.cons (.int .i64) .nil)))], fun x y => F53 n x.2.1 y.1.1 y.1.2.1⟩
theorem F53_eq (n : Nat) (x : ShL.den G (.cons (.ptr 0 0) (.cons (.imm 2) .nil))) (y : denO G [(.box 58 (.cons (.imm 1) (.cons (.int .i64) .nil)))]) : (F53e n).F x y = runFn prog G (ro G (tabOf (E2 n)) (frOf []) _) Go.Proofs.Try.f53 .no [(0, .fz)] (ShL.enc G (.cons (.ptr 0 0) (.cons (.imm 2) .nil)) x) (encO G [(.box 58 (.cons (.imm 1) (.cons (.int .i64) .nil)))] y) (decR .str [(.box 58 (.cons (.imm 1) (.cons (.int .i64) .nil)))]) := by kernel_rfl
theorem F53_ok (n : Nat) : EntOK prog G (F53e n) :=
  ent_ok (fr := frOf []) (ann := .no) (frm := [(0, .fz)]) laws fnok (E2_ok n).tab (e := F53e n) (fn := Go.Proofs.Try.f53) (by kernel_rfl) (AllF.ofB (cd := F53c) (l := []) (by kernel_rfl) (by kernel_rfl) AllF.nil) (F53_eq n)
noncomputable def E3 (n : Nat) : List (Ent G) := F53e n :: E2 n
theorem E3_ok (n : Nat) : AllE prog G (E3 n) := AllE.cons (F53_ok n) (E2_ok n)
noncomputable def F31_0x0 : SSh := ⟨57, [(0, (.ptr 0 0)), (19, .bool)], [(.box 58 (.cons (.imm 1) (.cons (.int .i64) .nil)))]⟩
noncomputable def F31_0s : SSh := ⟨57, [(0, (.ptr 0 0)), (8, (.int .i64))], [(.box 58 (.cons (.imm 1) (.cons (.int .i64) .nil)))]⟩
noncomputable def F31_0 {R : Type} (n : Nat) (x87 : Int) (x88 : List Int) (x89 : Int) (k0 : Bool → List Int → Int → Option R) : Option R :=
  (bif (x87 == (2 : Int)) then
  (k0 true x88 x89)
  else (bif (x87 == (3 : Int)) then
  (k0 true x88 x89)
  else (k0 (x87 == (4 : Int)) x88 x89)))
noncomputable def F31_0z (n : Nat) : Sm G := inZ G 1 ⟨[0, 8], []⟩ F31_0s fun R x K => F31_0 n x.1.2.1 x.2.1.1 x.2.1.2.1 (fun u0 u1 u2 => K .normal (SSh.enc G F31_0x0 (((), (u0, ())), ((u1, (u2, ())), ()))))
theorem F31_0_eq (n : Nat) (R : Type) (x : SSh.den G F31_0s) (K : AE → St G → Option R) :
  F31_0 n x.1.2.1 x.2.1.1 x.2.1.2.1 (fun u0 u1 u2 => K .normal (SSh.enc G F31_0x0 (((), (u0, ())), ((u1, (u2, ())), ())))) = exec prog G (ro G (tabOf (E3 n)) (frOf []) R) 1 (codeAt F31c [1, 0, 1, 0, 1, 1, 1, 1, 0]) .no (SSh.enc G F31_0s x) (kNrm G (ro G (tabOf (E3 n)) (frOf []) R) 1 ⟨⟨[0, 19], []⟩, ⟨[2], []⟩, [(0, ⟨[0], []⟩)]⟩ K) := by kernel_rfl
theorem F31_0_ok (n : Nat) : FragOK prog G 1 (codeAt F31c [1, 0, 1, 0, 1, 1, 1, 1, 0]) (F31_0z n) :=
  frag_plain laws fnok (E3_ok n).tab (AllF.of (l := []) (by kernel_rfl) AllF.nil) (F31_0_eq n)
-- 54 loop.example/slowworm/spec.decimal
noncomputable def F54c : Code := bodyOf Go.Proofs.Try.f54
-- 68 loop.example/slowworm/spec.positive
noncomputable def F68c : Code := bodyOf Go.Proofs.Try.f68
noncomputable def F68_0x0 : SSh := ⟨23, [(0, (.int .i64)), (3, .str), (4, (.int .i64))], []⟩
noncomputable def F68_0s : SSh := ⟨23, [(0, (.int .i64)), (3, .str), (4, (.int .i64))], []⟩
noncomputable def F68_0 {R : Type} (n : Nat) (x104 : Int) (x105 : ByteArray) (x106 : Int) (k0 : Int → ByteArray → Int → Option R) : Option R :=
  (bif (decide (x106 < (0 : Int))) then
  (k0 x104 x105 (IntKind.wrap .i64 ((0 : Int) - x106)))
  else (k0 x104 x105 x106))
noncomputable def F68_0z (n : Nat) : Sm G := inZ G 0 ⟨[0, 3, 4], []⟩ F68_0s fun R x K => F68_0 n x.1.1 x.1.2.1 x.1.2.2.1 (fun u0 u1 u2 => K .normal (SSh.enc G F68_0x0 ((u0, (u1, (u2, ()))), ())))
theorem F68_0_eq (n : Nat) (R : Type) (x : SSh.den G F68_0s) (K : AE → St G → Option R) :
  F68_0 n x.1.1 x.1.2.1 x.1.2.2.1 (fun u0 u1 u2 => K .normal (SSh.enc G F68_0x0 ((u0, (u1, (u2, ()))), ()))) = exec prog G (ro G (tabOf (E3 n)) (frOf []) R) 0 (codeAt F68c [1, 1, 0, 0, 0, 1, 0]) .no (SSh.enc G F68_0s x) (kNrm G (ro G (tabOf (E3 n)) (frOf []) R) 0 ⟨⟨[0, 3, 4], []⟩, ⟨[2], []⟩, [(1, ⟨[0, 3], []⟩), (0, ⟨[2], []⟩)]⟩ K) := by kernel_rfl
theorem F68_0_ok (n : Nat) : FragOK prog G 0 (codeAt F68c [1, 1, 0, 0, 0, 1, 0]) (F68_0z n) :=
  frag_plain laws fnok (E3_ok n).tab (AllF.of (l := []) (by kernel_rfl) AllF.nil) (F68_0_eq n)
noncomputable def F68_1x0 : SSh := ⟨23, [(2, .str)], []⟩
noncomputable def F68_1s : SSh := ⟨23, [(0, (.int .i64)), (3, .str)], []⟩
noncomputable def F68_1_step {R : Type} (n : Nat) (k0 : ByteArray → Option R) (rec : Int → ByteArray → Option R) (x101 : Int) (x102 : ByteArray) : Option R :=
  (F68_0 n x101 x102 (x101.tmod (10 : Int)) (fun z109 z110 z111 =>
  let v115 := (bytesOfInts (List.map (fun y116 => y116) ((IntKind.wrap .u8 (IntKind.wrap .i64 ((48 : Int) + z111))) :: [])))
  (bif (decide (((v115.size) + (z110.size)) ≤ (68719476736 : Nat))) then
  let v117 := (v115 ++ z110)
  let v118 := (IntKind.wrap .i64 (z109.tdiv (10 : Int)))
  (bif (v118 == (0 : Int)) then
  (k0 v117)
  else (rec v118 v117))
  else none)))
noncomputable def F68_1_it {R : Type} (n : Nat) (k0 : ByteArray → Option R) : Nat → Int → ByteArray → Option R
  | 0, _, _ => none
  | k + 1, x101, x102 => F68_1_step n k0 (F68_1_it n k0 k) x101 x102
noncomputable def F68_1 {R : Type} (n : Nat) (x101 : Int) (x102 : ByteArray) (k0 : ByteArray → Option R) : Option R := F68_1_it n k0 n x101 x102
noncomputable def F68_1z (n : Nat) : Sm G := inZ G 0 ⟨[0, 3], []⟩ F68_1s fun R x K => F68_1_it n (fun u0 => K .ret (SSh.enc G F68_1x0 ((u0, ()), ()))) n x.1.1 x.1.2.1
theorem F68_1_eq (n : Nat) (R : Type) (rec : SSh.den G F68_1s → Option R) (x : SSh.den G F68_1s) (K : AE → St G → Option R) :
  F68_1_step n (fun u0 => K .ret (SSh.enc G F68_1x0 ((u0, ()), ()))) (fun x101 x102 => rec ((x101, (x102, ())), ())) x.1.1 x.1.2.1 = exec prog G (ro G (tabOf (E3 n)) (frOf [F68_0z n]) R) 0 (codeAt F68c [1, 1, 0, 0]) (.nd (.nd .no (.nd (.use 0) .no)) .no) (SSh.enc G F68_1s x) (kLoop G (ro G (tabOf (E3 n)) (frOf [F68_0z n]) R) 0 ⟨[0, 3], []⟩ F68_1s ⟨⟨[2], []⟩, ⟨[2], []⟩, [(0, ⟨[2], []⟩)]⟩ rec K) := by kernel_rfl
theorem F68_1_ok (n : Nat) : FragOK prog G 0 (codeAt F68c [1, 1, 0]) (F68_1z n) :=
  frag_loop (Z := fun R k (x : SSh.den G F68_1s) K => F68_1_it n (fun u0 => K .ret (SSh.enc G F68_1x0 ((u0, ()), ()))) k x.1.1 x.1.2.1) laws fnok (E3_ok n).tab (AllF.of (l := [(0, codeAt F68c [1, 1, 0, 0, 0, 1, 0])]) (by kernel_rfl) (AllF.cons (F68_0_ok n) AllF.nil)) (fun _ _ _ => rfl) (fun R k y K => F68_1_eq n R (fun (x : SSh.den G F68_1s) => F68_1_it n (fun u0 => K .ret (SSh.enc G F68_1x0 ((u0, ()), ()))) k x.1.1 x.1.2.1) y K) n
noncomputable def F68 (n : Nat) (a100 : Int) : Option (ByteArray × Unit) :=
  (F68_1 n a100 ({ data := #[] } : ByteArray) (fun z120 =>
  some (z120, ())))
noncomputable def F68e (n : Nat) : Ent G := ⟨68, (.cons (.int .i64) .nil), [], .str, [], fun x y => F68 n x.1⟩
theorem F68_eq (n : Nat) (x : ShL.den G (.cons (.int .i64) .nil)) (y : denO G []) : (F68e n).F x y = runFn prog G (ro G (tabOf (E3 n)) (frOf [F68_0z n, F68_1z n]) _) Go.Proofs.Try.f68 (.nd .no (.nd .no (.nd (.use 1) .no))) [(0, .fz)] (ShL.enc G (.cons (.int .i64) .nil) x) (encO G [] y) (decR .str []) := by kernel_rfl
theorem F68_ok (n : Nat) : EntOK prog G (F68e n) :=
  ent_ok (fr := frOf [F68_0z n, F68_1z n]) (ann := (.nd .no (.nd .no (.nd (.use 1) .no)))) (frm := [(0, .fz)]) laws fnok (E3_ok n).tab (e := F68e n) (fn := Go.Proofs.Try.f68) (by kernel_rfl) (AllF.ofB (cd := F68c) (l := [(1, codeAt F68c [1, 1, 0])]) (by kernel_rfl) (by kernel_rfl) (AllF.cons (F68_1_ok n) AllF.nil)) (F68_eq n)
noncomputable def E4 (n : Nat) : List (Ent G) := F68e n :: E3 n
theorem E4_ok (n : Nat) : AllE prog G (E4 n) := AllE.cons (F68_ok n) (E3_ok n)
noncomputable def F54 (n : Nat) (a98 : Int) : Option (ByteArray × Unit) :=
  (bif (decide (a98 < (0 : Int))) then
  (andThen (F68 n a98) fun r121 =>
  (bif (decide (((1 : Nat) + (r121.1.size)) ≤ (68719476736 : Nat))) then
  some ((({ data := #[45] } : ByteArray) ++ r121.1), ())
  else none))
  else (andThen (F68 n a98) fun r123 =>
  some (r123.1, ())))
noncomputable def F54e (n : Nat) : Ent G := ⟨54, (.cons (.int .i64) .nil), [], .str, [], fun x y => F54 n x.1⟩
theorem F54_eq (n : Nat) (x : ShL.den G (.cons (.int .i64) .nil)) (y : denO G []) : (F54e n).F x y = runFn prog G (ro G (tabOf (E4 n)) (frOf []) _) Go.Proofs.Try.f54 .no [(0, .fz)] (ShL.enc G (.cons (.int .i64) .nil) x) (encO G [] y) (decR .str []) := by kernel_rfl
theorem F54_ok (n : Nat) : EntOK prog G (F54e n) :=
  ent_ok (fr := frOf []) (ann := .no) (frm := [(0, .fz)]) laws fnok (E4_ok n).tab (e := F54e n) (fn := Go.Proofs.Try.f54) (by kernel_rfl) (AllF.ofB (cd := F54c) (l := []) (by kernel_rfl) (by kernel_rfl) AllF.nil) (F54_eq n)
noncomputable def E5 (n : Nat) : List (Ent G) := F54e n :: E4 n
theorem E5_ok (n : Nat) : AllE prog G (E5 n) := AllE.cons (F54_ok n) (E4_ok n)
noncomputable def F31_1x0 : SSh := ⟨57, [(2, .str)], [(.box 58 (.cons (.imm 1) (.cons (.int .i64) .nil)))]⟩
noncomputable def F31_1x1 : SSh := ⟨57, [(0, (.ptr 0 0))], [(.box 58 (.cons (.imm 1) (.cons (.int .i64) .nil)))]⟩
noncomputable def F31_1s : SSh := ⟨57, [(0, (.ptr 0 0))], [(.box 58 (.cons (.imm 1) (.cons (.int .i64) .nil)))]⟩
noncomputable def F31_1 {R : Type} (n : Nat) (x11 : List Int) (x12 : Int) (k0 : ByteArray → List Int → Int → Option R) (k1 : List Int → Int → Option R) : Option R :=
  (andThen (F32 n (14 : Int) x11 x12) fun r73 =>
  (bif (r73.1 == (0 : Int)) then
  (andThen (F53 n (({ data := #[] } : ByteArray) :: (({ data := #[45] } : ByteArray) :: (({ data := #[45, 48] } : ByteArray) :: (({ data := #[48, 49] } : ByteArray) :: (({ data := #[49, 97] } : ByteArray) :: (({ data := #[32, 49] } : ByteArray) :: (({ data := #[43, 49] } : ByteArray) :: (({ data := #[48, 48] } : ByteArray) :: [])))))))) r73.2.1.1 r73.2.1.2.1) fun r83 =>
  (k0 r83.1 r83.2.1.1 r83.2.1.2.1))
  else (bif (r73.1 == (1 : Int)) then
  (andThen (F53 n (({ data := #[48] } : ByteArray) :: (({ data := #[49] } : ByteArray) :: (({ data := #[45, 49] } : ByteArray) :: (({ data := #[57] } : ByteArray) :: (({ data := #[49, 48] } : ByteArray) :: (({ data := #[45, 49, 48] } : ByteArray) :: (({ data := #[57, 57] } : ByteArray) :: (({ data := #[49, 48, 48] } : ByteArray) :: [])))))))) r73.2.1.1 r73.2.1.2.1) fun r86 =>
  (k0 r86.1 r86.2.1.1 r86.2.1.2.1))
  else (F31_0 n r73.1 r73.2.1.1 r73.2.1.2.1 (fun z93 z94 z95 =>
  (bif z93 then
  (andThen (F32 n (2000 : Int) z94 z95) fun r96 =>
  (andThen (F54 n (IntKind.wrap .i64 (r96.1 - (1000 : Int)))) fun r124 =>
  (k0 r124.1 r96.2.1.1 r96.2.1.2.1)))
  else (k1 z94 z95)))))))
noncomputable def F31_1z (n : Nat) : Sm G := inZ G 1 ⟨[0], []⟩ F31_1s fun R x K => F31_1 n x.2.1.1 x.2.1.2.1 (fun u0 u1 u2 => K .ret (SSh.enc G F31_1x0 ((u0, ()), ((u1, (u2, ())), ())))) (fun u0 u1 => K .normal (SSh.enc G F31_1x1 (((), ()), ((u0, (u1, ())), ()))))
theorem F31_1_eq (n : Nat) (R : Type) (x : SSh.den G F31_1s) (K : AE → St G → Option R) :
  F31_1 n x.2.1.1 x.2.1.2.1 (fun u0 u1 u2 => K .ret (SSh.enc G F31_1x0 ((u0, ()), ((u1, (u2, ())), ())))) (fun u0 u1 => K .normal (SSh.enc G F31_1x1 (((), ()), ((u0, (u1, ())), ())))) = exec prog G (ro G (tabOf (E5 n)) (frOf [F31_0z n]) R) 1 (codeAt F31c [1, 0]) (.nd .no (.nd (.nd .no (.nd .no (.nd .no (.nd .no (.nd (.use 0) .no))))) .no)) (SSh.enc G F31_1s x) (kNrm G (ro G (tabOf (E5 n)) (frOf [F31_0z n]) R) 1 ⟨⟨[0], []⟩, ⟨[2], []⟩, []⟩ K) := by kernel_rfl
theorem F31_1_ok (n : Nat) : FragOK prog G 1 (codeAt F31c [1, 0]) (F31_1z n) :=
  frag_plain laws fnok (E5_ok n).tab (AllF.of (l := [(0, codeAt F31c [1, 0, 1, 0, 1, 1, 1, 1, 0])]) (by kernel_rfl) (AllF.cons (F31_0_ok n) AllF.nil)) (F31_1_eq n)
-- 55 (*loop.example/slowworm/spec.rnd).one
noncomputable def F55c : Code := bodyOf Go.Proofs.Try.f55
noncomputable def F55 (n : Nat) (a131 : List Int) (a132 : List Int) (a133 : Int) : Option (Int × ((List Int × (Int × Unit)) × Unit)) :=
  (andThen (F32 n ((a131.length) : Int) a132 a133) fun r135 =>
  (bif (decide ((0 : Int) ≤ r135.1)) then
  (bif (decide (r135.1 < ((a131.length) : Int))) then
  some ((a131.getD (r135.1.toNat) (0 : Int)), ((r135.2.1.1, (r135.2.1.2.1, ())), ()))
  else none)
  else none))
noncomputable def F55e (n : Nat) : Ent G := ⟨55, (.cons (.ptr 0 0) (.cons (.imm 0) .nil)), [(.box 58 (.cons (.imm 1) (.cons (.int .i64) .nil)))], (.int .i64), [(.box 58 (.cons (.imm 1) (.cons (.int .i64) .nil)))], fun x y => F55 n x.2.1 y.1.1 y.1.2.1⟩
theorem F55_eq (n : Nat) (x : ShL.den G (.cons (.ptr 0 0) (.cons (.imm 0) .nil))) (y : denO G [(.box 58 (.cons (.imm 1) (.cons (.int .i64) .nil)))]) : (F55e n).F x y = runFn prog G (ro G (tabOf (E5 n)) (frOf []) _) Go.Proofs.Try.f55 .no [(0, .fz)] (ShL.enc G (.cons (.ptr 0 0) (.cons (.imm 0) .nil)) x) (encO G [(.box 58 (.cons (.imm 1) (.cons (.int .i64) .nil)))] y) (decR (.int .i64) [(.box 58 (.cons (.imm 1) (.cons (.int .i64) .nil)))]) := by kernel_rfl
theorem F55_ok (n : Nat) : EntOK prog G (F55e n) :=
  ent_ok (fr := frOf []) (ann := .no) (frm := [(0, .fz)]) laws fnok (E5_ok n).tab (e := F55e n) (fn := Go.Proofs.Try.f55) (by kernel_rfl) (AllF.ofB (cd := F55c) (l := []) (by kernel_rfl) (by kernel_rfl) AllF.nil) (F55_eq n)
noncomputable def E6 (n : Nat) : List (Ent G) := F55e n :: E5 n
theorem E6_ok (n : Nat) : AllE prog G (E6 n) := AllE.cons (F55_ok n) (E5_ok n)
noncomputable def F31_2x0 : SSh := ⟨57, [(0, (.ptr 0 0)), (3, .str), (4, (.int .i64)), (5, (.int .i64)), (6, (.int .i64))], [(.box 58 (.cons (.imm 1) (.cons (.int .i64) .nil)))]⟩
noncomputable def F31_2s : SSh := ⟨57, [(0, (.ptr 0 0)), (3, .str), (4, (.int .i64)), (5, (.int .i64)), (6, (.int .i64))], [(.box 58 (.cons (.imm 1) (.cons (.int .i64) .nil)))]⟩
noncomputable def F31_2 {R : Type} (n : Nat) (x151 : ByteArray) (x152 : Int) (x153 : Int) (x154 : Int) (x155 : List Int) (x156 : Int) (k0 : ByteArray → Int → Int → Int → List Int → Int → Option R) : Option R :=
  (bif (x153 == (0 : Int)) then
  (k0 x151 x152 x153 (if (x154 > (1 : Int)) then x154 else (1 : Int)) x155 x156)
  else (k0 x151 x152 x153 x154 x155 x156))
noncomputable def F31_2z (n : Nat) : Sm G := inZ G 1 ⟨[0, 3, 4, 5, 6], []⟩ F31_2s fun R x K => F31_2 n x.1.2.1 x.1.2.2.1 x.1.2.2.2.1 x.1.2.2.2.2.1 x.2.1.1 x.2.1.2.1 (fun u0 u1 u2 u3 u4 u5 => K .normal (SSh.enc G F31_2x0 (((), (u0, (u1, (u2, (u3, ()))))), ((u4, (u5, ())), ()))))
theorem F31_2_eq (n : Nat) (R : Type) (x : SSh.den G F31_2s) (K : AE → St G → Option R) :
  F31_2 n x.1.2.1 x.1.2.2.1 x.1.2.2.2.1 x.1.2.2.2.2.1 x.2.1.1 x.2.1.2.1 (fun u0 u1 u2 u3 u4 u5 => K .normal (SSh.enc G F31_2x0 (((), (u0, (u1, (u2, (u3, ()))))), ((u4, (u5, ())), ())))) = exec prog G (ro G (tabOf (E6 n)) (frOf [F31_0z n, F31_1z n]) R) 1 (codeAt F31c [1, 1, 1, 1, 0, 1, 0, 0, 1, 0, 0, 1, 0]) .no (SSh.enc G F31_2s x) (kNrm G (ro G (tabOf (E6 n)) (frOf [F31_0z n, F31_1z n]) R) 1 ⟨⟨[0, 3, 4, 5, 6], []⟩, ⟨[2], []⟩, [(2, ⟨[0, 3, 4, 5], []⟩), (1, ⟨[0, 3], []⟩)]⟩ K) := by kernel_rfl
theorem F31_2_ok (n : Nat) : FragOK prog G 1 (codeAt F31c [1, 1, 1, 1, 0, 1, 0, 0, 1, 0, 0, 1, 0]) (F31_2z n) :=
  frag_plain laws fnok (E6_ok n).tab (AllF.of (l := []) (by kernel_rfl) AllF.nil) (F31_2_eq n)
noncomputable def F31_3x0 : SSh := ⟨57, [(0, (.ptr 0 0)), (3, .str), (4, (.int .i64)), (5, (.int .i64)), (6, (.int .i64))], [(.box 58 (.cons (.imm 1) (.cons (.int .i64) .nil)))]⟩
noncomputable def F31_3s : SSh := ⟨57, [(0, (.ptr 0 0)), (3, .str), (4, (.int .i64)), (5, (.int .i64)), (6, (.int .i64))], [(.box 58 (.cons (.imm 1) (.cons (.int .i64) .nil)))]⟩
noncomputable def F31_3 {R : Type} (n : Nat) (x165 : ByteArray) (x166 : Int) (x167 : Int) (x168 : Int) (x169 : List Int) (x170 : Int) (k0 : ByteArray → Int → Int → Int → List Int → Int → Option R) : Option R :=
  (andThen (F32 n (9 : Int) x169 x170) fun r171 =>
  (bif (r171.1 == (0 : Int)) then
  (andThen (F55 n ((9 : Int) :: ((9 : Int) :: ((1 : Int) :: []))) r171.2.1.1 r171.2.1.2.1) fun r174 =>
  (k0 x165 x166 x167 r174.1 r174.2.1.1 r174.2.1.2.1))
  else (k0 x165 x166 x167 x168 r171.2.1.1 r171.2.1.2.1)))
noncomputable def F31_3z (n : Nat) : Sm G := inZ G 1 ⟨[0, 3, 4, 5, 6], []⟩ F31_3s fun R x K => F31_3 n x.1.2.1 x.1.2.2.1 x.1.2.2.2.1 x.1.2.2.2.2.1 x.2.1.1 x.2.1.2.1 (fun u0 u1 u2 u3 u4 u5 => K .normal (SSh.enc G F31_3x0 (((), (u0, (u1, (u2, (u3, ()))))), ((u4, (u5, ())), ()))))
theorem F31_3_eq (n : Nat) (R : Type) (x : SSh.den G F31_3s) (K : AE → St G → Option R) :
  F31_3 n x.1.2.1 x.1.2.2.1 x.1.2.2.2.1 x.1.2.2.2.2.1 x.2.1.1 x.2.1.2.1 (fun u0 u1 u2 u3 u4 u5 => K .normal (SSh.enc G F31_3x0 (((), (u0, (u1, (u2, (u3, ()))))), ((u4, (u5, ())), ())))) = exec prog G (ro G (tabOf (E6 n)) (frOf [F31_0z n, F31_1z n, F31_2z n]) R) 1 (codeAt F31c [1, 1, 1, 1, 0, 1, 0, 0, 1, 0, 0, 1, 1, 0]) .no (SSh.enc G F31_3s x) (kNrm G (ro G (tabOf (E6 n)) (frOf [F31_0z n, F31_1z n, F31_2z n]) R) 1 ⟨⟨[0, 3, 4, 5, 6], []⟩, ⟨[2], []⟩, [(2, ⟨[0, 3, 4, 5], []⟩), (1, ⟨[0, 3], []⟩)]⟩ K) := by kernel_rfl
theorem F31_3_ok (n : Nat) : FragOK prog G 1 (codeAt F31c [1, 1, 1, 1, 0, 1, 0, 0, 1, 0, 0, 1, 1, 0]) (F31_3z n) :=
  frag_plain laws fnok (E6_ok n).tab (AllF.of (l := []) (by kernel_rfl) AllF.nil) (F31_3_eq n)
noncomputable def F31_4x0 : SSh := ⟨57, [(0, (.ptr 0 0)), (3, .str), (4, (.int .i64)), (5, (.int .i64))], [(.box 58 (.cons (.imm 1) (.cons (.int .i64) .nil)))]⟩
noncomputable def F31_4s : SSh := ⟨57, [(0, (.ptr 0 0)), (3, .str), (4, (.int .i64)), (5, (.int .i64))], [(.box 58 (.cons (.imm 1) (.cons (.int .i64) .nil)))]⟩
noncomputable def F31_4 {R : Type} (n : Nat) (x145 : ByteArray) (x146 : Int) (x147 : Int) (x148 : List Int) (x149 : Int) (k0 : ByteArray → Int → Int → List Int → Int → Option R) : Option R :=
  (andThen (F32 n (10 : Int) x148 x149) fun r150 =>
  (F31_2 n x145 x146 x147 r150.1 r150.2.1.1 r150.2.1.2.1 (fun z159 z160 z161 z162 z163 z164 =>
  (F31_3 n z159 z160 z161 z162 z163 z164 (fun z175 z176 z177 z178 z179 z180 =>
  (andThen (F54 n z178) fun r181 =>
  (bif (decide (((z175.size) + (r181.1.size)) ≤ (68719476736 : Nat))) then
  (k0 (z175 ++ r181.1) z176 z177 z179 z180)
  else none)))))))
noncomputable def F31_4z (n : Nat) : Sm G := inZ G 1 ⟨[0, 3, 4, 5], []⟩ F31_4s fun R x K => F31_4 n x.1.2.1 x.1.2.2.1 x.1.2.2.2.1 x.2.1.1 x.2.1.2.1 (fun u0 u1 u2 u3 u4 => K .normal (SSh.enc G F31_4x0 (((), (u0, (u1, (u2, ())))), ((u3, (u4, ())), ()))))
theorem F31_4_eq (n : Nat) (R : Type) (x : SSh.den G F31_4s) (K : AE → St G → Option R) :
  F31_4 n x.1.2.1 x.1.2.2.1 x.1.2.2.2.1 x.2.1.1 x.2.1.2.1 (fun u0 u1 u2 u3 u4 => K .normal (SSh.enc G F31_4x0 (((), (u0, (u1, (u2, ())))), ((u3, (u4, ())), ())))) = exec prog G (ro G (tabOf (E6 n)) (frOf [F31_0z n, F31_1z n, F31_2z n, F31_3z n]) R) 1 (codeAt F31c [1, 1, 1, 1, 0, 1, 0, 0, 1, 0]) (.nd (.nd .no (.nd (.use 2) (.nd (.use 3) .no))) .no) (SSh.enc G F31_4s x) (kNrm G (ro G (tabOf (E6 n)) (frOf [F31_0z n, F31_1z n, F31_2z n, F31_3z n]) R) 1 ⟨⟨[0, 3, 4, 5], []⟩, ⟨[2], []⟩, [(1, ⟨[0, 3], []⟩)]⟩ K) := by kernel_rfl
theorem F31_4_ok (n : Nat) : FragOK prog G 1 (codeAt F31c [1, 1, 1, 1, 0, 1, 0, 0, 1, 0]) (F31_4z n) :=
  frag_plain laws fnok (E6_ok n).tab (AllF.of (l := [(2, codeAt F31c [1, 1, 1, 1, 0, 1, 0, 0, 1, 0, 0, 1, 0]), (3, codeAt F31c [1, 1, 1, 1, 0, 1, 0, 0, 1, 0, 0, 1, 1, 0])]) (by kernel_rfl) (AllF.cons (F31_2_ok n) (AllF.cons (F31_3_ok n) AllF.nil))) (F31_4_eq n)
noncomputable def F31_5x0 : SSh := ⟨57, [(0, (.ptr 0 0)), (3, .str)], [(.box 58 (.cons (.imm 1) (.cons (.int .i64) .nil)))]⟩
noncomputable def F31_5s : SSh := ⟨57, [(0, (.ptr 0 0)), (3, .str), (4, (.int .i64)), (5, (.int .i64))], [(.box 58 (.cons (.imm 1) (.cons (.int .i64) .nil)))]⟩
noncomputable def F31_5_step {R : Type} (n : Nat) (k0 : ByteArray → List Int → Int → Option R) (rec : ByteArray → Int → Int → List Int → Int → Option R) (x139 : ByteArray) (x140 : Int) (x141 : Int) (x142 : List Int) (x143 : Int) : Option R :=
  (bif (decide (x141 < x140)) then
  (F31_4 n x139 x140 x141 x142 x143 (fun z183 z184 z185 z186 z187 =>
  (rec z183 z184 (IntKind.wrap .i64 (z185 + (1 : Int))) z186 z187)))
  else (k0 x139 x142 x143))
noncomputable def F31_5_it {R : Type} (n : Nat) (k0 : ByteArray → List Int → Int → Option R) : Nat → ByteArray → Int → Int → List Int → Int → Option R
  | 0, _, _, _, _, _ => none
  | k + 1, x139, x140, x141, x142, x143 => F31_5_step n k0 (F31_5_it n k0 k) x139 x140 x141 x142 x143
noncomputable def F31_5 {R : Type} (n : Nat) (x139 : ByteArray) (x140 : Int) (x141 : Int) (x142 : List Int) (x143 : Int) (k0 : ByteArray → List Int → Int → Option R) : Option R := F31_5_it n k0 n x139 x140 x141 x142 x143
noncomputable def F31_5z (n : Nat) : Sm G := inZ G 1 ⟨[0, 3, 4, 5], []⟩ F31_5s fun R x K => F31_5_it n (fun u0 u1 u2 => K (.exit 1) (SSh.enc G F31_5x0 (((), (u0, ())), ((u1, (u2, ())), ())))) n x.1.2.1 x.1.2.2.1 x.1.2.2.2.1 x.2.1.1 x.2.1.2.1
theorem F31_5_eq (n : Nat) (R : Type) (rec : SSh.den G F31_5s → Option R) (x : SSh.den G F31_5s) (K : AE → St G → Option R) :
  F31_5_step n (fun u0 u1 u2 => K (.exit 1) (SSh.enc G F31_5x0 (((), (u0, ())), ((u1, (u2, ())), ())))) (fun x139 x140 x141 x142 x143 => rec (((), (x139, (x140, (x141, ())))), ((x142, (x143, ())), ()))) x.1.2.1 x.1.2.2.1 x.1.2.2.2.1 x.2.1.1 x.2.1.2.1 = exec prog G (ro G (tabOf (E6 n)) (frOf [F31_0z n, F31_1z n, F31_2z n, F31_3z n, F31_4z n]) R) 1 (codeAt F31c [1, 1, 1, 1, 0, 1, 0, 0]) (.nd .no (.nd (.use 4) .no)) (SSh.enc G F31_5s x) (kLoop G (ro G (tabOf (E6 n)) (frOf [F31_0z n, F31_1z n, F31_2z n, F31_3z n, F31_4z n]) R) 1 ⟨[0, 3, 4, 5], []⟩ F31_5s ⟨⟨[0, 3], []⟩, ⟨[2], []⟩, [(1, ⟨[0, 3], []⟩)]⟩ rec K) := by kernel_rfl
theorem F31_5_ok (n : Nat) : FragOK prog G 1 (codeAt F31c [1, 1, 1, 1, 0, 1, 0]) (F31_5z n) :=
  frag_loop (Z := fun R k (x : SSh.den G F31_5s) K => F31_5_it n (fun u0 u1 u2 => K (.exit 1) (SSh.enc G F31_5x0 (((), (u0, ())), ((u1, (u2, ())), ())))) k x.1.2.1 x.1.2.2.1 x.1.2.2.2.1 x.2.1.1 x.2.1.2.1) laws fnok (E6_ok n).tab (AllF.of (l := [(4, codeAt F31c [1, 1, 1, 1, 0, 1, 0, 0, 1, 0])]) (by kernel_rfl) (AllF.cons (F31_4_ok n) AllF.nil)) (fun _ _ _ => rfl) (fun R k y K => F31_5_eq n R (fun (x : SSh.den G F31_5s) => F31_5_it n (fun u0 u1 u2 => K (.exit 1) (SSh.enc G F31_5x0 (((), (u0, ())), ((u1, (u2, ())), ())))) k x.1.2.1 x.1.2.2.1 x.1.2.2.2.1 x.2.1.1 x.2.1.2.1) y K) n
noncomputable def F31 (n : Nat) (a9 : List Int) (a10 : Int) : Option (ByteArray × ((List Int × (Int × Unit)) × Unit)) :=
  (F31_1 n a9 a10 (fun z125 z126 z127 =>
  some (z125, ((z126, (z127, ())), ()))) (fun z128 z129 =>
  (andThen (F55 n ((2 : Int) :: ((5 : Int) :: ((12 : Int) :: ((19 : Int) :: ((20 : Int) :: ((38 : Int) :: ((39 : Int) :: ((40 : Int) :: ((40 : Int) :: ((41 : Int) :: [])))))))))) z128 z129) fun r138 =>
  (F31_5 n ({ data := #[] } : ByteArray) r138.1 (0 : Int) r138.2.1.1 r138.2.1.2.1 (fun z189 z190 z191 =>
  (andThen (F32 n (2 : Int) z190 z191) fun r192 =>
  (bif (r192.1 == (0 : Int)) then
  (bif (decide (((1 : Nat) + (z189.size)) ≤ (68719476736 : Nat))) then
  some ((({ data := #[45] } : ByteArray) ++ z189), ((r192.2.1.1, (r192.2.1.2.1, ())), ()))
  else none)
  else some (z189, ((r192.2.1.1, (r192.2.1.2.1, ())), ())))))))))
noncomputable def F31e (n : Nat) : Ent G := ⟨31, (.cons (.ptr 0 0) .nil), [(.box 58 (.cons (.imm 1) (.cons (.int .i64) .nil)))], .str, [(.box 58 (.cons (.imm 1) (.cons (.int .i64) .nil)))], fun x y => F31 n y.1.1 y.1.2.1⟩
theorem F31_eq (n : Nat) (x : ShL.den G (.cons (.ptr 0 0) .nil)) (y : denO G [(.box 58 (.cons (.imm 1) (.cons (.int .i64) .nil)))]) : (F31e n).F x y = runFn prog G (ro G (tabOf (E6 n)) (frOf [F31_0z n, F31_1z n, F31_2z n, F31_3z n, F31_4z n, F31_5z n]) _) Go.Proofs.Try.f31 (.nd .no (.nd (.use 1) (.nd .no (.nd .no (.nd (.nd .no (.nd (.use 5) .no)) .no))))) [(0, .fz)] (ShL.enc G (.cons (.ptr 0 0) .nil) x) (encO G [(.box 58 (.cons (.imm 1) (.cons (.int .i64) .nil)))] y) (decR .str [(.box 58 (.cons (.imm 1) (.cons (.int .i64) .nil)))]) := by kernel_rfl
theorem F31_ok (n : Nat) : EntOK prog G (F31e n) :=
  ent_ok (fr := frOf [F31_0z n, F31_1z n, F31_2z n, F31_3z n, F31_4z n, F31_5z n]) (ann := (.nd .no (.nd (.use 1) (.nd .no (.nd .no (.nd (.nd .no (.nd (.use 5) .no)) .no)))))) (frm := [(0, .fz)]) laws fnok (E6_ok n).tab (e := F31e n) (fn := Go.Proofs.Try.f31) (by kernel_rfl) (AllF.ofB (cd := F31c) (l := [(1, codeAt F31c [1, 0]), (5, codeAt F31c [1, 1, 1, 1, 0, 1, 0])]) (by kernel_rfl) (by kernel_rfl) (AllF.cons (F31_1_ok n) (AllF.cons (F31_5_ok n) AllF.nil))) (F31_eq n)
noncomputable def E7 (n : Nat) : List (Ent G) := F31e n :: E6 n
theorem E7_ok (n : Nat) : AllE prog G (E7 n) := AllE.cons (F31_ok n) (E6_ok n)
noncomputable def F10 (n : Nat) (a3 : List Int) : Option ((ByteArray × (ByteArray × Unit)) × Unit) :=
  (andThen (F30 n a3) fun r8 =>
  (andThen (F31 n r8.2.1.1 r8.2.1.2.1) fun r195 =>
  (andThen (F32 n (6 : Int) r195.2.1.1 r195.2.1.2.1) fun r196 =>
  (bif (r196.1 == (0 : Int)) then
  some ((r195.1, (r195.1, ())), ())
  else (andThen (F31 n r196.2.1.1 r196.2.1.2.1) fun r198 =>
  some ((r195.1, (r198.1, ())), ()))))))
noncomputable def F10e (n : Nat) : Ent G := ⟨10, (.cons (.imm 1) .nil), [], (.tup (.cons .str (.cons .str .nil))), [], fun x y => F10 n x.1⟩
theorem F10_eq (n : Nat) (x : ShL.den G (.cons (.imm 1) .nil)) (y : denO G []) : (F10e n).F x y = runFn prog G (ro G (tabOf (E7 n)) (frOf []) _) Go.Proofs.Try.f10 .no [(0, .fz), (1, .fz)] (ShL.enc G (.cons (.imm 1) .nil) x) (encO G [] y) (decR (.tup (.cons .str (.cons .str .nil))) []) := by kernel_rfl
theorem F10_ok (n : Nat) : EntOK prog G (F10e n) :=
  ent_ok (fr := frOf []) (ann := .no) (frm := [(0, .fz), (1, .fz)]) laws fnok (E7_ok n).tab (e := F10e n) (fn := Go.Proofs.Try.f10) (by kernel_rfl) (AllF.ofB (cd := F10c) (l := []) (by kernel_rfl) (by kernel_rfl) AllF.nil) (F10_eq n)
noncomputable def E8 (n : Nat) : List (Ent G) := F10e n :: E7 n
theorem E8_ok (n : Nat) : AllE prog G (E8 n) := AllE.cons (F10_ok n) (E7_ok n)
-- 11 loop.example/slowworm/impl.IntAdd
noncomputable def F11c : Code := bodyOf Go.Proofs.Try.f11
-- 33 loop.example/slowworm/impl.twoNumbers
noncomputable def F33c : Code := bodyOf Go.Proofs.Try.f33
-- 66 strings.CutPrefix
noncomputable def F66c : Code := bodyOf Go.Proofs.Try.f66
-- 70 internal/stringslite.CutPrefix
noncomputable def F70c : Code := bodyOf Go.Proofs.Try.f70
-- 72 internal/stringslite.HasPrefix
noncomputable def F72c : Code := bodyOf Go.Proofs.Try.f72
noncomputable def F72 (n : Nat) (a209 : ByteArray) (a210 : ByteArray) : Option (Bool × Unit) :=
  (bif (decide (((a209.size) : Int) ≥ ((a210.size) : Int))) then
  let v214 := ((a210.size) : Int)
  (bif (decide ((0 : Int) ≤ v214)) then
  (bif (decide (v214 ≤ ((a209.size) : Int))) then
  some ((((a209.extract (0 : Nat) (v214.toNat)).toList) == (a210.toList)), ())
  else none)
  else none)
  else some (false, ()))
noncomputable def F72e (n : Nat) : Ent G := ⟨72, (.cons .str (.cons .str .nil)), [], .bool, [], fun x y => F72 n x.1 x.2.1⟩
theorem F72_eq (n : Nat) (x : ShL.den G (.cons .str (.cons .str .nil))) (y : denO G []) : (F72e n).F x y = runFn prog G (ro G (tabOf (E8 n)) (frOf []) _) Go.Proofs.Try.f72 .no [(0, .fz)] (ShL.enc G (.cons .str (.cons .str .nil)) x) (encO G [] y) (decR .bool []) := by kernel_rfl
theorem F72_ok (n : Nat) : EntOK prog G (F72e n) :=
  ent_ok (fr := frOf []) (ann := .no) (frm := [(0, .fz)]) laws fnok (E8_ok n).tab (e := F72e n) (fn := Go.Proofs.Try.f72) (by kernel_rfl) (AllF.ofB (cd := F72c) (l := []) (by kernel_rfl) (by kernel_rfl) AllF.nil) (F72_eq n)
noncomputable def E9 (n : Nat) : List (Ent G) := F72e n :: E8 n
theorem E9_ok (n : Nat) : AllE prog G (E9 n) := AllE.cons (F72_ok n) (E8_ok n)
noncomputable def F70 (n : Nat) (a207 : ByteArray) (a208 : ByteArray) : Option ((ByteArray × (Bool × Unit)) × Unit) :=
  (andThen (F72 n a207 a208) fun r217 =>
  (bif (!r217.1) then
  some ((a207, (false, ())), ())
  else let v219 := ((a208.size) : Int)
  (bif (decide ((0 : Int) ≤ v219)) then
  (bif (decide (v219 ≤ ((a207.size) : Int))) then
  (bif (decide (((a207.size) : Int) ≤ ((a207.size) : Int))) then
  some (((a207.extract (v219.toNat) (((a207.size) : Int).toNat)), (true, ())), ())
  else none)
  else none)
  else none)))
noncomputable def F70e (n : Nat) : Ent G := ⟨70, (.cons .str (.cons .str .nil)), [], (.tup (.cons .str (.cons .bool .nil))), [], fun x y => F70 n x.1 x.2.1⟩
theorem F70_eq (n : Nat) (x : ShL.den G (.cons .str (.cons .str .nil))) (y : denO G []) : (F70e n).F x y = runFn prog G (ro G (tabOf (E9 n)) (frOf []) _) Go.Proofs.Try.f70 .no [(0, .fz), (1, .fz)] (ShL.enc G (.cons .str (.cons .str .nil)) x) (encO G [] y) (decR (.tup (.cons .str (.cons .bool .nil))) []) := by kernel_rfl
theorem F70_ok (n : Nat) : EntOK prog G (F70e n) :=
  ent_ok (fr := frOf []) (ann := .no) (frm := [(0, .fz), (1, .fz)]) laws fnok (E9_ok n).tab (e := F70e n) (fn := Go.Proofs.Try.f70) (by kernel_rfl) (AllF.ofB (cd := F70c) (l := []) (by kernel_rfl) (by kernel_rfl) AllF.nil) (F70_eq n)
noncomputable def E10 (n : Nat) : List (Ent G) := F70e n :: E9 n
theorem E10_ok (n : Nat) : AllE prog G (E10 n) := AllE.cons (F70_ok n) (E9_ok n)
noncomputable def F66 (n : Nat) (a205 : ByteArray) (a206 : ByteArray) : Option ((ByteArray × (Bool × Unit)) × Unit) :=
  (andThen (F70 n a205 a206) fun r221 =>
  some ((r221.1.1, (r221.1.2.1, ())), ()))
noncomputable def F66e (n : Nat) : Ent G := ⟨66, (.cons .str (.cons .str .nil)), [], (.tup (.cons .str (.cons .bool .nil))), [], fun x y => F66 n x.1 x.2.1⟩
theorem F66_eq (n : Nat) (x : ShL.den G (.cons .str (.cons .str .nil))) (y : denO G []) : (F66e n).F x y = runFn prog G (ro G (tabOf (E10 n)) (frOf []) _) Go.Proofs.Try.f66 .no [(0, .fz), (1, .fz)] (ShL.enc G (.cons .str (.cons .str .nil)) x) (encO G [] y) (decR (.tup (.cons .str (.cons .bool .nil))) []) := by kernel_rfl
theorem F66_ok (n : Nat) : EntOK prog G (F66e n) :=
  ent_ok (fr := frOf []) (ann := .no) (frm := [(0, .fz), (1, .fz)]) laws fnok (E10_ok n).tab (e := F66e n) (fn := Go.Proofs.Try.f66) (by kernel_rfl) (AllF.ofB (cd := F66c) (l := []) (by kernel_rfl) (by kernel_rfl) AllF.nil) (F66_eq n)
noncomputable def E11 (n : Nat) : List (Ent G) := F66e n :: E10 n
theorem E11_ok (n : Nat) : AllE prog G (E11 n) := AllE.cons (F66_ok n) (E10_ok n)
-- 44 loop.example/slowworm/impl.trimmed
noncomputable def F44c : Code := bodyOf Go.Proofs.Try.f44
noncomputable def F44_0x0 : SSh := ⟨21, [(0, (.imm 0))], []⟩
noncomputable def F44_0s : SSh := ⟨21, [(0, (.imm 0))], []⟩
noncomputable def F44_0_step {R : Type} (n : Nat) (k0 : List Int → Option R) (rec : List Int → Option R) (x282 : List Int) : Option R :=
  (bif (decide (((x282.length) : Int) > (0 : Int))) then
  let v286 := (IntKind.wrap .i64 (((x282.length) : Int) - (1 : Int)))
  (bif (decide ((0 : Int) ≤ v286)) then
  (bif (decide (v286 < ((x282.length) : Int))) then
  (bif ((x282.getD (v286.toNat) (0 : Int)) == (0 : Int)) then
  let v291 := (IntKind.wrap .i64 (((x282.length) : Int) - (1 : Int)))
  (bif (decide ((0 : Int) ≤ v291)) then
  (bif (decide (v291 ≤ ((x282.length) : Int))) then
  (rec ((x282.take (v291.toNat)).drop (0 : Nat)))
  else none)
  else none)
  else (k0 x282))
  else none)
  else none)
  else (k0 x282))
noncomputable def F44_0_it {R : Type} (n : Nat) (k0 : List Int → Option R) : Nat → List Int → Option R
  | 0, _ => none
  | k + 1, x282 => F44_0_step n k0 (F44_0_it n k0 k) x282
noncomputable def F44_0 {R : Type} (n : Nat) (x282 : List Int) (k0 : List Int → Option R) : Option R := F44_0_it n k0 n x282
noncomputable def F44_0z (n : Nat) : Sm G := inZ G 0 ⟨[0], []⟩ F44_0s fun R x K => F44_0_it n (fun u0 => K (.exit 0) (SSh.enc G F44_0x0 ((u0, ()), ()))) n x.1.1
theorem F44_0_eq (n : Nat) (R : Type) (rec : SSh.den G F44_0s → Option R) (x : SSh.den G F44_0s) (K : AE → St G → Option R) :
  F44_0_step n (fun u0 => K (.exit 0) (SSh.enc G F44_0x0 ((u0, ()), ()))) (fun x282 => rec ((x282, ()), ())) x.1.1 = exec prog G (ro G (tabOf (E11 n)) (frOf []) R) 0 (codeAt F44c [1, 0, 0, 0]) .no (SSh.enc G F44_0s x) (kLoop G (ro G (tabOf (E11 n)) (frOf []) R) 0 ⟨[0], []⟩ F44_0s ⟨⟨[0], []⟩, ⟨[2], []⟩, [(0, ⟨[0], []⟩)]⟩ rec K) := by kernel_rfl
theorem F44_0_ok (n : Nat) : FragOK prog G 0 (codeAt F44c [1, 0, 0]) (F44_0z n) :=
  frag_loop (Z := fun R k (x : SSh.den G F44_0s) K => F44_0_it n (fun u0 => K (.exit 0) (SSh.enc G F44_0x0 ((u0, ()), ()))) k x.1.1) laws fnok (E11_ok n).tab (AllF.of (l := []) (by kernel_rfl) AllF.nil) (fun _ _ _ => rfl) (fun R k y K => F44_0_eq n R (fun (x : SSh.den G F44_0s) => F44_0_it n (fun u0 => K (.exit 0) (SSh.enc G F44_0x0 ((u0, ()), ()))) k x.1.1) y K) n
noncomputable def F44 (n : Nat) (a281 : List Int) : Option (List Int × Unit) :=
  (F44_0 n a281 (fun z293 =>
  some (z293, ())))
noncomputable def F44e (n : Nat) : Ent G := ⟨44, (.cons (.imm 0) .nil), [], (.imm 0), [], fun x y => F44 n x.1⟩
theorem F44_eq (n : Nat) (x : ShL.den G (.cons (.imm 0) .nil)) (y : denO G []) : (F44e n).F x y = runFn prog G (ro G (tabOf (E11 n)) (frOf [F44_0z n]) _) Go.Proofs.Try.f44 (.nd .no (.nd (.nd (.use 0) .no) .no)) [(0, .fz)] (ShL.enc G (.cons (.imm 0) .nil) x) (encO G [] y) (decR (.imm 0) []) := by kernel_rfl
theorem F44_ok (n : Nat) : EntOK prog G (F44e n) :=
  ent_ok (fr := frOf [F44_0z n]) (ann := (.nd .no (.nd (.nd (.use 0) .no) .no))) (frm := [(0, .fz)]) laws fnok (E11_ok n).tab (e := F44e n) (fn := Go.Proofs.Try.f44) (by kernel_rfl) (AllF.ofB (cd := F44c) (l := [(0, codeAt F44c [1, 0, 0])]) (by kernel_rfl) (by kernel_rfl) (AllF.cons (F44_0_ok n) AllF.nil)) (F44_eq n)
noncomputable def E12 (n : Nat) : List (Ent G) := F44e n :: E11 n
theorem E12_ok (n : Nat) : AllE prog G (E12 n) := AllE.cons (F44_ok n) (E11_ok n)
-- 43 loop.example/slowworm/impl.parseNumber
noncomputable def F43c : Code := bodyOf Go.Proofs.Try.f43
noncomputable def F43_0x0 : SSh := ⟨70, [(2, (.ptr 0 0)), (3, .bool)], [(.box 38 (.cons .bool (.cons .nil0 .nil)))]⟩
noncomputable def F43_0x1 : SSh := ⟨70, [(2, (.ptr 0 0)), (6, (.ptr 1 0))], [(.box 38 (.cons .bool (.cons .nil0 .nil))), (.box 38 (.cons .bool (.cons (.own 2) .nil))), (.arr 0 true)]⟩
noncomputable def F43_0s : SSh := ⟨70, [(2, (.ptr 0 0)), (4, .str), (6, (.ptr 1 0)), (7, (.int .i64))], [(.box 38 (.cons .bool (.cons .nil0 .nil))), (.box 38 (.cons .bool (.cons (.own 2) .nil))), (.arr 0 true)]⟩
noncomputable def F43_0_step {R : Type} (n : Nat) (k0 : Bool → Bool → Option R) (k1 : Bool → Bool → List Int → Option R) (rec : ByteArray → Int → Bool → Bool → List Int → Option R) (x307 : ByteArray) (x308 : Int) (x309 : Bool) (x310 : Bool) (x311 : List Int) : Option R :=
  (bif (decide (x308 ≥ (0 : Int))) then
  (bif (decide ((0 : Int) ≤ x308)) then
  (bif (decide (x308 < ((x307.size) : Int))) then
  (bif (decide ((strOf x307 (x308.toNat)) < (48 : Int))) then
  (k0 false false)
  else (bif (decide ((0 : Int) ≤ x308)) then
  (bif (decide (x308 < ((x307.size) : Int))) then
  (bif (decide ((strOf x307 (x308.toNat)) > (57 : Int))) then
  (k0 false false)
  else (bif (decide ((0 : Int) ≤ x308)) then
  (bif (decide (x308 < ((x307.size) : Int))) then
  let v320 := ((IntKind.wrap .i64 (IntKind.wrap .u8 ((strOf x307 (x308.toNat)) - (48 : Int)))) :: [])
  (bif (decide (((x311.length) + (v320.length)) ≤ (68719476736 : Nat))) then
  (rec x307 (IntKind.wrap .i64 (x308 - (1 : Int))) x309 x310 (x311 ++ v320))
  else none)
  else none)
  else none))
  else none)
  else none))
  else none)
  else none)
  else (k1 x309 x310 x311))
noncomputable def F43_0_it {R : Type} (n : Nat) (k0 : Bool → Bool → Option R) (k1 : Bool → Bool → List Int → Option R) : Nat → ByteArray → Int → Bool → Bool → List Int → Option R
  | 0, _, _, _, _, _ => none
  | k + 1, x307, x308, x309, x310, x311 => F43_0_step n k0 k1 (F43_0_it n k0 k1 k) x307 x308 x309 x310 x311
noncomputable def F43_0 {R : Type} (n : Nat) (x307 : ByteArray) (x308 : Int) (x309 : Bool) (x310 : Bool) (x311 : List Int) (k0 : Bool → Bool → Option R) (k1 : Bool → Bool → List Int → Option R) : Option R := F43_0_it n k0 k1 n x307 x308 x309 x310 x311
noncomputable def F43_0z (n : Nat) : Sm G := inZ G 0 ⟨[2, 4, 6, 7], [(6, (.cell 1 (.own 0)))]⟩ F43_0s fun R x K => F43_0_it n (fun u0 u1 => K .ret (SSh.enc G F43_0x0 (((), (u0, ())), ((u1, ((), ())), ())))) (fun u0 u1 u2 => K (.exit 0) (SSh.enc G F43_0x1 (((), ((), ())), ((u0, ((), ())), ((u1, ((), ())), (u2, ())))))) n x.1.2.1 x.1.2.2.2.1 x.2.1.1 x.2.2.1.1 x.2.2.2.1
theorem F43_0_eq (n : Nat) (R : Type) (rec : SSh.den G F43_0s → Option R) (x : SSh.den G F43_0s) (K : AE → St G → Option R) :
  F43_0_step n (fun u0 u1 => K .ret (SSh.enc G F43_0x0 (((), (u0, ())), ((u1, ((), ())), ())))) (fun u0 u1 u2 => K (.exit 0) (SSh.enc G F43_0x1 (((), ((), ())), ((u0, ((), ())), ((u1, ((), ())), (u2, ())))))) (fun x307 x308 x309 x310 x311 => rec (((), (x307, ((), (x308, ())))), ((x309, ((), ())), ((x310, ((), ())), (x311, ()))))) x.1.2.1 x.1.2.2.2.1 x.2.1.1 x.2.2.1.1 x.2.2.2.1 = exec prog G (ro G (tabOf (E12 n)) (frOf []) R) 0 (codeAt F43c [1, 1, 1, 1, 0, 1, 0, 0]) .no (SSh.enc G F43_0s x) (kLoop G (ro G (tabOf (E12 n)) (frOf []) R) 0 ⟨[2, 4, 6, 7], [(6, (.cell 1 (.own 0)))]⟩ F43_0s ⟨⟨[2, 6], []⟩, ⟨[2, 3], []⟩, [(0, ⟨[2, 6], []⟩)]⟩ rec K) := by kernel_rfl
theorem F43_0_ok (n : Nat) : FragOK prog G 0 (codeAt F43c [1, 1, 1, 1, 0, 1, 0]) (F43_0z n) :=
  frag_loop (Z := fun R k (x : SSh.den G F43_0s) K => F43_0_it n (fun u0 u1 => K .ret (SSh.enc G F43_0x0 (((), (u0, ())), ((u1, ((), ())), ())))) (fun u0 u1 u2 => K (.exit 0) (SSh.enc G F43_0x1 (((), ((), ())), ((u0, ((), ())), ((u1, ((), ())), (u2, ())))))) k x.1.2.1 x.1.2.2.2.1 x.2.1.1 x.2.2.1.1 x.2.2.2.1) laws fnok (E12_ok n).tab (AllF.of (l := []) (by kernel_rfl) AllF.nil) (fun _ _ _ => rfl) (fun R k y K => F43_0_eq n R (fun (x : SSh.den G F43_0s) => F43_0_it n (fun u0 u1 => K .ret (SSh.enc G F43_0x0 (((), (u0, ())), ((u1, ((), ())), ())))) (fun u0 u1 u2 => K (.exit 0) (SSh.enc G F43_0x1 (((), ((), ())), ((u0, ((), ())), ((u1, ((), ())), (u2, ())))))) k x.1.2.1 x.1.2.2.2.1 x.2.1.1 x.2.2.1.1 x.2.2.2.1) y K) n
noncomputable def F43 (n : Nat) (a295 : ByteArray) : Option (((Bool × (List Int × Unit)) × (Bool × Unit)) × Unit) :=
  (andThen (F66 n a295 ({ data := #[45] } : ByteArray)) fun r296 =>
  (bif (decide (((r296.1.1.size) : Int) < (1 : Int))) then
  some (((false, ([], ())), (false, ())), ())
  else (bif (decide (((r296.1.1.size) : Int) > (40 : Int))) then
  some (((false, ([], ())), (false, ())), ())
  else (bif (decide ((0 : Int) < ((r296.1.1.size) : Int))) then
  (bif ((strOf r296.1.1 (0 : Nat)) == (48 : Int)) then
  (bif (decide (((r296.1.1.size) : Int) > (1 : Int))) then
  some (((false, ([], ())), (false, ())), ())
  else (bif r296.1.2.1 then
  some (((false, ([], ())), (false, ())), ())
  else (F43_0 n r296.1.1 (IntKind.wrap .i64 (((r296.1.1.size) : Int) - (1 : Int))) false r296.1.2.1 [] (fun z323 z324 =>
  some (((z324, ([], ())), (z323, ())), ())) (fun z325 z326 z327 =>
  (andThen (F44 n z327) fun r328 =>
  some (((z326, (r328.1, ())), (true, ())), ()))))))
  else (F43_0 n r296.1.1 (IntKind.wrap .i64 (((r296.1.1.size) : Int) - (1 : Int))) false r296.1.2.1 [] (fun z331 z332 =>
  some (((z332, ([], ())), (z331, ())), ())) (fun z333 z334 z335 =>
  (andThen (F44 n z335) fun r336 =>
  some (((z334, (r336.1, ())), (true, ())), ())))))
  else none))))
noncomputable def F43e (n : Nat) : Ent G := ⟨43, (.cons .str .nil), [], (.tup (.cons (.agg (.cons .bool (.cons (.imm 0) .nil))) (.cons .bool .nil))), [], fun x y => F43 n x.1⟩
theorem F43_eq (n : Nat) (x : ShL.den G (.cons .str .nil)) (y : denO G []) : (F43e n).F x y = runFn prog G (ro G (tabOf (E12 n)) (frOf [F43_0z n]) _) Go.Proofs.Try.f43 (.nd .no (.nd .no (.nd .no (.nd .no (.nd (.nd .no (.nd (.use 0) .no)) .no))))) [(0, .fz), (1, .fz)] (ShL.enc G (.cons .str .nil) x) (encO G [] y) (decR (.tup (.cons (.agg (.cons .bool (.cons (.imm 0) .nil))) (.cons .bool .nil))) []) := by kernel_rfl
theorem F43_ok (n : Nat) : EntOK prog G (F43e n) :=
  ent_ok (fr := frOf [F43_0z n]) (ann := (.nd .no (.nd .no (.nd .no (.nd .no (.nd (.nd .no (.nd (.use 0) .no)) .no)))))) (frm := [(0, .fz), (1, .fz)]) laws fnok (E12_ok n).tab (e := F43e n) (fn := Go.Proofs.Try.f43) (by kernel_rfl) (AllF.ofB (cd := F43c) (l := [(0, codeAt F43c [1, 1, 1, 1, 0, 1, 0])]) (by kernel_rfl) (by kernel_rfl) (AllF.cons (F43_0_ok n) AllF.nil)) (F43_eq n)
noncomputable def E13 (n : Nat) : List (Ent G) := F43e n :: E12 n
theorem E13_ok (n : Nat) : AllE prog G (E13 n) := AllE.cons (F43_ok n) (E12_ok n)
noncomputable def F33 (n : Nat) (a202 : ByteArray) (a203 : ByteArray) : Option (((Bool × (List Int × Unit)) × ((Bool × (List Int × Unit)) × (Bool × Unit))) × Unit) :=
  (andThen (F43 n a202) fun r337 =>
  (andThen (F43 n a203) fun r338 =>
  (bif r337.1.2.1 then
  some (((r337.1.1.1, (r337.1.1.2.1, ())), ((r338.1.1.1, (r338.1.1.2.1, ())), (r338.1.2.1, ()))), ())
  else some (((r337.1.1.1, (r337.1.1.2.1, ())), ((r338.1.1.1, (r338.1.1.2.1, ())), (false, ()))), ()))))
noncomputable def F33e (n : Nat) : Ent G := ⟨33, (.cons .str (.cons .str .nil)), [], (.tup (.cons (.agg (.cons .bool (.cons (.imm 0) .nil))) (.cons (.agg (.cons .bool (.cons (.imm 0) .nil))) (.cons .bool .nil)))), [], fun x y => F33 n x.1 x.2.1⟩
theorem F33_eq (n : Nat) (x : ShL.den G (.cons .str (.cons .str .nil))) (y : denO G []) : (F33e n).F x y = runFn prog G (ro G (tabOf (E13 n)) (frOf []) _) Go.Proofs.Try.f33 .no [(0, .fz), (1, .fz), (2, .fz)] (ShL.enc G (.cons .str (.cons .str .nil)) x) (encO G [] y) (decR (.tup (.cons (.agg (.cons .bool (.cons (.imm 0) .nil))) (.cons (.agg (.cons .bool (.cons (.imm 0) .nil))) (.cons .bool .nil)))) []) := by kernel_rfl
theorem F33_ok (n : Nat) : EntOK prog G (F33e n) :=
  ent_ok (fr := frOf []) (ann := .no) (frm := [(0, .fz), (1, .fz), (2, .fz)]) laws fnok (E13_ok n).tab (e := F33e n) (fn := Go.Proofs.Try.f33) (by kernel_rfl) (AllF.ofB (cd := F33c) (l := []) (by kernel_rfl) (by kernel_rfl) AllF.nil) (F33_eq n)
noncomputable def E14 (n : Nat) : List (Ent G) := F33e n :: E13 n
theorem E14_ok (n : Nat) : AllE prog G (E14 n) := AllE.cons (F33_ok n) (E13_ok n)
-- 34 (loop.example/slowworm/impl.number).plus
noncomputable def F34c : Code := bodyOf Go.Proofs.Try.f34
-- 56 loop.example/slowworm/impl.magAdd
noncomputable def F56c : Code := bodyOf Go.Proofs.Try.f56
noncomputable def F56_0x0 : SSh := ⟨52, [(0, (.imm 0)), (1, (.imm 0)), (5, (.own 0)), (6, (.int .i64)), (7, (.int .i64))], [(.arr 0 true)]⟩
noncomputable def F56_0s : SSh := ⟨52, [(0, (.imm 0)), (1, (.imm 0)), (5, (.own 0)), (6, (.int .i64)), (7, (.int .i64))], [(.arr 0 true)]⟩
noncomputable def F56_0 {R : Type} (n : Nat) (x408 : List Int) (x409 : List Int) (x410 : Int) (x411 : Int) (x412 : List Int) (k0 : List Int → List Int → Int → Int → List Int → Option R) : Option R :=
  (bif (decide (x411 < ((x408.length) : Int))) then
  (bif (decide ((0 : Int) ≤ x411)) then
  (bif (decide (x411 < ((x408.length) : Int))) then
  (k0 x408 x409 (IntKind.wrap .i64 (x410 + (x408.getD (x411.toNat) (0 : Int)))) x411 x412)
  else none)
  else none)
  else (k0 x408 x409 x410 x411 x412))
noncomputable def F56_0z (n : Nat) : Sm G := inZ G 0 ⟨[0, 1, 5, 6, 7], []⟩ F56_0s fun R x K => F56_0 n x.1.1 x.1.2.1 x.1.2.2.2.1 x.1.2.2.2.2.1 x.2.1 (fun u0 u1 u2 u3 u4 => K .normal (SSh.enc G F56_0x0 ((u0, (u1, ((), (u2, (u3, ()))))), (u4, ()))))
theorem F56_0_eq (n : Nat) (R : Type) (x : SSh.den G F56_0s) (K : AE → St G → Option R) :
  F56_0 n x.1.1 x.1.2.1 x.1.2.2.2.1 x.1.2.2.2.2.1 x.2.1 (fun u0 u1 u2 u3 u4 => K .normal (SSh.enc G F56_0x0 ((u0, (u1, ((), (u2, (u3, ()))))), (u4, ())))) = exec prog G (ro G (tabOf (E14 n)) (frOf []) R) 0 (codeAt F56c [1, 1, 1, 0, 1, 0, 0, 1, 0, 0, 0]) .no (SSh.enc G F56_0s x) (kNrm G (ro G (tabOf (E14 n)) (frOf []) R) 0 ⟨⟨[0, 1, 5, 6, 7], []⟩, ⟨[4], []⟩, [(1, ⟨[0, 1, 5, 6, 7], []⟩), (0, ⟨[5], []⟩)]⟩ K) := by kernel_rfl
theorem F56_0_ok (n : Nat) : FragOK prog G 0 (codeAt F56c [1, 1, 1, 0, 1, 0, 0, 1, 0, 0, 0]) (F56_0z n) :=
  frag_plain laws fnok (E14_ok n).tab (AllF.of (l := []) (by kernel_rfl) AllF.nil) (F56_0_eq n)
noncomputable def F56_1x0 : SSh := ⟨52, [(0, (.imm 0)), (1, (.imm 0)), (5, (.own 0)), (6, (.int .i64)), (7, (.int .i64))], [(.arr 0 true)]⟩
noncomputable def F56_1s : SSh := ⟨52, [(0, (.imm 0)), (1, (.imm 0)), (5, (.own 0)), (6, (.int .i64)), (7, (.int .i64))], [(.arr 0 true)]⟩
noncomputable def F56_1 {R : Type} (n : Nat) (x423 : List Int) (x424 : List Int) (x425 : Int) (x426 : Int) (x427 : List Int) (k0 : List Int → List Int → Int → Int → List Int → Option R) : Option R :=
  (bif (decide (x426 < ((x424.length) : Int))) then
  (bif (decide ((0 : Int) ≤ x426)) then
  (bif (decide (x426 < ((x424.length) : Int))) then
  (k0 x423 x424 (IntKind.wrap .i64 (x425 + (x424.getD (x426.toNat) (0 : Int)))) x426 x427)
  else none)
  else none)
  else (k0 x423 x424 x425 x426 x427))
noncomputable def F56_1z (n : Nat) : Sm G := inZ G 0 ⟨[0, 1, 5, 6, 7], []⟩ F56_1s fun R x K => F56_1 n x.1.1 x.1.2.1 x.1.2.2.2.1 x.1.2.2.2.2.1 x.2.1 (fun u0 u1 u2 u3 u4 => K .normal (SSh.enc G F56_1x0 ((u0, (u1, ((), (u2, (u3, ()))))), (u4, ()))))
theorem F56_1_eq (n : Nat) (R : Type) (x : SSh.den G F56_1s) (K : AE → St G → Option R) :
  F56_1 n x.1.1 x.1.2.1 x.1.2.2.2.1 x.1.2.2.2.2.1 x.2.1 (fun u0 u1 u2 u3 u4 => K .normal (SSh.enc G F56_1x0 ((u0, (u1, ((), (u2, (u3, ()))))), (u4, ())))) = exec prog G (ro G (tabOf (E14 n)) (frOf [F56_0z n]) R) 0 (codeAt F56c [1, 1, 1, 0, 1, 0, 0, 1, 0, 0, 1, 0]) .no (SSh.enc G F56_1s x) (kNrm G (ro G (tabOf (E14 n)) (frOf [F56_0z n]) R) 0 ⟨⟨[0, 1, 5, 6, 7], []⟩, ⟨[4], []⟩, [(1, ⟨[0, 1, 5, 6, 7], []⟩), (0, ⟨[5], []⟩)]⟩ K) := by kernel_rfl
theorem F56_1_ok (n : Nat) : FragOK prog G 0 (codeAt F56c [1, 1, 1, 0, 1, 0, 0, 1, 0, 0, 1, 0]) (F56_1z n) :=
  frag_plain laws fnok (E14_ok n).tab (AllF.of (l := []) (by kernel_rfl) AllF.nil) (F56_1_eq n)
noncomputable def F56_2x0 : SSh := ⟨52, [(0, (.imm 0)), (1, (.imm 0)), (5, (.own 0)), (6, (.int .i64)), (7, (.int .i64))], [(.arr 0 true)]⟩
noncomputable def F56_2s : SSh := ⟨52, [(0, (.imm 0)), (1, (.imm 0)), (5, (.own 0)), (6, (.int .i64)), (7, (.int .i64))], [(.arr 0 true)]⟩
noncomputable def F56_2 {R : Type} (n : Nat) (x403 : List Int) (x404 : List Int) (x405 : Int) (x406 : Int) (x407 : List Int) (k0 : List Int → List Int → Int → Int → List Int → Option R) : Option R :=
  (F56_0 n x403 x404 x405 x406 x407 (fun z418 z419 z420 z421 z422 =>
  (F56_1 n z418 z419 z420 z421 z422 (fun z433 z434 z435 z436 z437 =>
  let v439 := ((z435.tmod (10 : Int)) :: [])
  (bif (decide (((z437.length) + (v439.length)) ≤ (68719476736 : Nat))) then
  (k0 z433 z434 (IntKind.wrap .i64 (z435.tdiv (10 : Int))) z436 (z437 ++ v439))
  else none)))))
noncomputable def F56_2z (n : Nat) : Sm G := inZ G 0 ⟨[0, 1, 5, 6, 7], []⟩ F56_2s fun R x K => F56_2 n x.1.1 x.1.2.1 x.1.2.2.2.1 x.1.2.2.2.2.1 x.2.1 (fun u0 u1 u2 u3 u4 => K .normal (SSh.enc G F56_2x0 ((u0, (u1, ((), (u2, (u3, ()))))), (u4, ()))))
theorem F56_2_eq (n : Nat) (R : Type) (x : SSh.den G F56_2s) (K : AE → St G → Option R) :
  F56_2 n x.1.1 x.1.2.1 x.1.2.2.2.1 x.1.2.2.2.2.1 x.2.1 (fun u0 u1 u2 u3 u4 => K .normal (SSh.enc G F56_2x0 ((u0, (u1, ((), (u2, (u3, ()))))), (u4, ())))) = exec prog G (ro G (tabOf (E14 n)) (frOf [F56_0z n, F56_1z n]) R) 0 (codeAt F56c [1, 1, 1, 0, 1, 0, 0, 1, 0]) (.nd (.nd (.use 0) (.nd (.use 1) .no)) .no) (SSh.enc G F56_2s x) (kNrm G (ro G (tabOf (E14 n)) (frOf [F56_0z n, F56_1z n]) R) 0 ⟨⟨[0, 1, 5, 6, 7], []⟩, ⟨[4], []⟩, [(0, ⟨[5], []⟩)]⟩ K) := by kernel_rfl
theorem F56_2_ok (n : Nat) : FragOK prog G 0 (codeAt F56c [1, 1, 1, 0, 1, 0, 0, 1, 0]) (F56_2z n) :=
  frag_plain laws fnok (E14_ok n).tab (AllF.of (l := [(0, codeAt F56c [1, 1, 1, 0, 1, 0, 0, 1, 0, 0, 0]), (1, codeAt F56c [1, 1, 1, 0, 1, 0, 0, 1, 0, 0, 1, 0])]) (by kernel_rfl) (AllF.cons (F56_0_ok n) (AllF.cons (F56_1_ok n) AllF.nil))) (F56_2_eq n)
noncomputable def F56_3x0 : SSh := ⟨52, [(5, (.own 0))], [(.arr 0 true)]⟩
noncomputable def F56_3s : SSh := ⟨52, [(0, (.imm 0)), (1, (.imm 0)), (5, (.own 0)), (6, (.int .i64)), (7, (.int .i64))], [(.arr 0 true)]⟩
noncomputable def F56_3_step {R : Type} (n : Nat) (k0 : List Int → Option R) (rec : List Int → List Int → Int → Int → List Int → Option R) (x396 : List Int) (x397 : List Int) (x398 : Int) (x399 : Int) (x400 : List Int) : Option R :=
  (bif (decide (x399 < ((x396.length) : Int))) then
  (F56_2 n x396 x397 x398 x399 x400 (fun z442 z443 z444 z445 z446 =>
  (rec z442 z443 z444 (IntKind.wrap .i64 (z445 + (1 : Int))) z446)))
  else (bif (decide (x399 < ((x397.length) : Int))) then
  (F56_2 n x396 x397 x398 x399 x400 (fun z450 z451 z452 z453 z454 =>
  (rec z450 z451 z452 (IntKind.wrap .i64 (z453 + (1 : Int))) z454)))
  else (bif (decide (x398 > (0 : Int))) then
  (F56_2 n x396 x397 x398 x399 x400 (fun z457 z458 z459 z460 z461 =>
  (rec z457 z458 z459 (IntKind.wrap .i64 (z460 + (1 : Int))) z461)))
  else (k0 x400))))
noncomputable def F56_3_it {R : Type} (n : Nat) (k0 : List Int → Option R) : Nat → List Int → List Int → Int → Int → List Int → Option R
  | 0, _, _, _, _, _ => none
  | k + 1, x396, x397, x398, x399, x400 => F56_3_step n k0 (F56_3_it n k0 k) x396 x397 x398 x399 x400
noncomputable def F56_3 {R : Type} (n : Nat) (x396 : List Int) (x397 : List Int) (x398 : Int) (x399 : Int) (x400 : List Int) (k0 : List Int → Option R) : Option R := F56_3_it n k0 n x396 x397 x398 x399 x400
noncomputable def F56_3z (n : Nat) : Sm G := inZ G 0 ⟨[0, 1, 5, 6, 7], [(5, (.own 0))]⟩ F56_3s fun R x K => F56_3_it n (fun u0 => K (.exit 0) (SSh.enc G F56_3x0 (((), ()), (u0, ())))) n x.1.1 x.1.2.1 x.1.2.2.2.1 x.1.2.2.2.2.1 x.2.1
theorem F56_3_eq (n : Nat) (R : Type) (rec : SSh.den G F56_3s → Option R) (x : SSh.den G F56_3s) (K : AE → St G → Option R) :
  F56_3_step n (fun u0 => K (.exit 0) (SSh.enc G F56_3x0 (((), ()), (u0, ())))) (fun x396 x397 x398 x399 x400 => rec ((x396, (x397, ((), (x398, (x399, ()))))), (x400, ()))) x.1.1 x.1.2.1 x.1.2.2.2.1 x.1.2.2.2.2.1 x.2.1 = exec prog G (ro G (tabOf (E14 n)) (frOf [F56_0z n, F56_1z n, F56_2z n]) R) 0 (codeAt F56c [1, 1, 1, 0, 1, 0, 0]) (.nd .no (.nd (.use 2) .no)) (SSh.enc G F56_3s x) (kLoop G (ro G (tabOf (E14 n)) (frOf [F56_0z n, F56_1z n, F56_2z n]) R) 0 ⟨[0, 1, 5, 6, 7], [(5, (.own 0))]⟩ F56_3s ⟨⟨[5], []⟩, ⟨[4], []⟩, [(0, ⟨[5], []⟩)]⟩ rec K) := by kernel_rfl
theorem F56_3_ok (n : Nat) : FragOK prog G 0 (codeAt F56c [1, 1, 1, 0, 1, 0]) (F56_3z n) :=
  frag_loop (Z := fun R k (x : SSh.den G F56_3s) K => F56_3_it n (fun u0 => K (.exit 0) (SSh.enc G F56_3x0 (((), ()), (u0, ())))) k x.1.1 x.1.2.1 x.1.2.2.2.1 x.1.2.2.2.2.1 x.2.1) laws fnok (E14_ok n).tab (AllF.of (l := [(2, codeAt F56c [1, 1, 1, 0, 1, 0, 0, 1, 0])]) (by kernel_rfl) (AllF.cons (F56_2_ok n) AllF.nil)) (fun _ _ _ => rfl) (fun R k y K => F56_3_eq n R (fun (x : SSh.den G F56_3s) => F56_3_it n (fun u0 => K (.exit 0) (SSh.enc G F56_3x0 (((), ()), (u0, ())))) k x.1.1 x.1.2.1 x.1.2.2.2.1 x.1.2.2.2.2.1 x.2.1) y K) n
noncomputable def F56 (n : Nat) (a394 : List Int) (a395 : List Int) : Option (List Int × Unit) :=
  (F56_3 n a394 a395 (0 : Int) (0 : Int) [] (fun z463 =>
  some (z463, ())))
noncomputable def F56e (n : Nat) : Ent G := ⟨56, (.cons (.imm 0) (.cons (.imm 0) .nil)), [], (.imm 0), [], fun x y => F56 n x.1 x.2.1⟩
theorem F56_eq (n : Nat) (x : ShL.den G (.cons (.imm 0) (.cons (.imm 0) .nil))) (y : denO G []) : (F56e n).F x y = runFn prog G (ro G (tabOf (E14 n)) (frOf [F56_0z n, F56_1z n, F56_2z n, F56_3z n]) _) Go.Proofs.Try.f56 (.nd .no (.nd .no (.nd .no (.nd (.nd .no (.nd (.use 3) .no)) .no)))) [(0, .fz)] (ShL.enc G (.cons (.imm 0) (.cons (.imm 0) .nil)) x) (encO G [] y) (decR (.imm 0) []) := by kernel_rfl
theorem F56_ok (n : Nat) : EntOK prog G (F56e n) :=
  ent_ok (fr := frOf [F56_0z n, F56_1z n, F56_2z n, F56_3z n]) (ann := (.nd .no (.nd .no (.nd .no (.nd (.nd .no (.nd (.use 3) .no)) .no))))) (frm := [(0, .fz)]) laws fnok (E14_ok n).tab (e := F56e n) (fn := Go.Proofs.Try.f56) (by kernel_rfl) (AllF.ofB (cd := F56c) (l := [(3, codeAt F56c [1, 1, 1, 0, 1, 0])]) (by kernel_rfl) (by kernel_rfl) (AllF.cons (F56_3_ok n) AllF.nil)) (F56_eq n)
noncomputable def E15 (n : Nat) : List (Ent G) := F56e n :: E14 n
theorem E15_ok (n : Nat) : AllE prog G (E15 n) := AllE.cons (F56_ok n) (E14_ok n)
-- 57 (loop.example/slowworm/impl.number).tidy
noncomputable def F57c : Code := bodyOf Go.Proofs.Try.f57
noncomputable def F57_0x0 : SSh := ⟨13, [(1, (.ptr 0 0)), (2, (.ptr 1 0))], [(.box 38 (.cons .bool (.cons (.imm 0) .nil))), (.box 38 (.cons .bool (.cons .nil0 .nil)))]⟩
noncomputable def F57_0s : SSh := ⟨13, [(1, (.ptr 0 0)), (2, (.ptr 1 0))], [(.box 38 (.cons .bool (.cons (.imm 0) .nil))), (.box 38 (.cons .bool (.cons .nil0 .nil)))]⟩
noncomputable def F57_0 {R : Type} (n : Nat) (x468 : Bool) (x469 : List Int) (x470 : Bool) (k0 : Bool → List Int → Bool → Option R) : Option R :=
  (bif (((x469.length) : Int) == (0 : Int)) then
  (k0 false x469 x470)
  else (k0 x468 x469 x470))
noncomputable def F57_0z (n : Nat) : Sm G := inZ G 0 ⟨[1, 2], []⟩ F57_0s fun R x K => F57_0 n x.2.1.1 x.2.1.2.1 x.2.2.1.1 (fun u0 u1 u2 => K .normal (SSh.enc G F57_0x0 (((), ((), ())), ((u0, (u1, ())), ((u2, ((), ())), ())))))
theorem F57_0_eq (n : Nat) (R : Type) (x : SSh.den G F57_0s) (K : AE → St G → Option R) :
  F57_0 n x.2.1.1 x.2.1.2.1 x.2.2.1.1 (fun u0 u1 u2 => K .normal (SSh.enc G F57_0x0 (((), ((), ())), ((u0, (u1, ())), ((u2, ((), ())), ()))))) = exec prog G (ro G (tabOf (E15 n)) (frOf []) R) 0 (codeAt F57c [1, 1, 0]) .no (SSh.enc G F57_0s x) (kNrm G (ro G (tabOf (E15 n)) (frOf []) R) 0 ⟨⟨[1, 2], []⟩, ⟨[2], []⟩, []⟩ K) := by kernel_rfl
theorem F57_0_ok (n : Nat) : FragOK prog G 0 (codeAt F57c [1, 1, 0]) (F57_0z n) :=
  frag_plain laws fnok (E15_ok n).tab (AllF.of (l := []) (by kernel_rfl) AllF.nil) (F57_0_eq n)
noncomputable def F57 (n : Nat) (a465 : Bool) (a466 : List Int) : Option ((Bool × (List Int × Unit)) × Unit) :=
  (andThen (F44 n a466) fun r467 =>
  (F57_0 n a465 r467.1 false (fun z473 z474 z475 =>
  some ((z473, (z474, ())), ()))))
noncomputable def F57e (n : Nat) : Ent G := ⟨57, (.cons (.agg (.cons .bool (.cons (.imm 0) .nil))) .nil), [], (.agg (.cons .bool (.cons (.imm 0) .nil))), [], fun x y => F57 n x.1.1 x.1.2.1⟩
theorem F57_eq (n : Nat) (x : ShL.den G (.cons (.agg (.cons .bool (.cons (.imm 0) .nil))) .nil)) (y : denO G []) : (F57e n).F x y = runFn prog G (ro G (tabOf (E15 n)) (frOf [F57_0z n]) _) Go.Proofs.Try.f57 (.nd .no (.nd .no (.nd (.use 0) .no))) [(0, .fz)] (ShL.enc G (.cons (.agg (.cons .bool (.cons (.imm 0) .nil))) .nil) x) (encO G [] y) (decR (.agg (.cons .bool (.cons (.imm 0) .nil))) []) := by kernel_rfl
theorem F57_ok (n : Nat) : EntOK prog G (F57e n) :=
  ent_ok (fr := frOf [F57_0z n]) (ann := (.nd .no (.nd .no (.nd (.use 0) .no)))) (frm := [(0, .fz)]) laws fnok (E15_ok n).tab (e := F57e n) (fn := Go.Proofs.Try.f57) (by kernel_rfl) (AllF.ofB (cd := F57c) (l := [(0, codeAt F57c [1, 1, 0])]) (by kernel_rfl) (by kernel_rfl) (AllF.cons (F57_0_ok n) AllF.nil)) (F57_eq n)
noncomputable def E16 (n : Nat) : List (Ent G) := F57e n :: E15 n
theorem E16_ok (n : Nat) : AllE prog G (E16 n) := AllE.cons (F57_ok n) (E15_ok n)
-- 45 loop.example/slowworm/impl.magCmp
noncomputable def F45c : Code := bodyOf Go.Proofs.Try.f45
noncomputable def F45_0x0 : SSh := ⟨41, [(4, (.int .i64))], []⟩
noncomputable def F45_0x1 : SSh := ⟨41, [], []⟩
noncomputable def F45_0s : SSh := ⟨41, [(0, (.imm 0)), (1, (.imm 0)), (5, (.int .i64))], []⟩
noncomputable def F45_0_step {R : Type} (n : Nat) (k0 : Int → Option R) (k1 : Option R) (rec : List Int → List Int → Int → Option R) (x487 : List Int) (x488 : List Int) (x489 : Int) : Option R :=
  (bif (decide (x489 ≥ (0 : Int))) then
  (bif (decide ((0 : Int) ≤ x489)) then
  (bif (decide (x489 < ((x487.length) : Int))) then
  (bif (decide ((0 : Int) ≤ x489)) then
  (bif (decide (x489 < ((x488.length) : Int))) then
  (bif ((x487.getD (x489.toNat) (0 : Int)) != (x488.getD (x489.toNat) (0 : Int))) then
  (bif (decide ((0 : Int) ≤ x489)) then
  (bif (decide (x489 < ((x487.length) : Int))) then
  (bif (decide ((0 : Int) ≤ x489)) then
  (bif (decide (x489 < ((x488.length) : Int))) then
  (bif (decide ((x487.getD (x489.toNat) (0 : Int)) < (x488.getD (x489.toNat) (0 : Int)))) then
  (k0 (-1 : Int))
  else (k0 (1 : Int)))
  else none)
  else none)
  else none)
  else none)
  else (rec x487 x488 (IntKind.wrap .i64 (x489 - (1 : Int)))))
  else none)
  else none)
  else none)
  else none)
  else k1)
noncomputable def F45_0_it {R : Type} (n : Nat) (k0 : Int → Option R) (k1 : Option R) : Nat → List Int → List Int → Int → Option R
  | 0, _, _, _ => none
  | k + 1, x487, x488, x489 => F45_0_step n k0 k1 (F45_0_it n k0 k1 k) x487 x488 x489
noncomputable def F45_0 {R : Type} (n : Nat) (x487 : List Int) (x488 : List Int) (x489 : Int) (k0 : Int → Option R) (k1 : Option R) : Option R := F45_0_it n k0 k1 n x487 x488 x489
noncomputable def F45_0z (n : Nat) : Sm G := inZ G 0 ⟨[0, 1, 5], []⟩ F45_0s fun R x K => F45_0_it n (fun u0 => K .ret (SSh.enc G F45_0x0 ((u0, ()), ()))) (K (.exit 0) (SSh.enc G F45_0x1 ((), ()))) n x.1.1 x.1.2.1 x.1.2.2.1
theorem F45_0_eq (n : Nat) (R : Type) (rec : SSh.den G F45_0s → Option R) (x : SSh.den G F45_0s) (K : AE → St G → Option R) :
  F45_0_step n (fun u0 => K .ret (SSh.enc G F45_0x0 ((u0, ()), ()))) (K (.exit 0) (SSh.enc G F45_0x1 ((), ()))) (fun x487 x488 x489 => rec ((x487, (x488, (x489, ()))), ())) x.1.1 x.1.2.1 x.1.2.2.1 = exec prog G (ro G (tabOf (E16 n)) (frOf []) R) 0 (codeAt F45c [1, 1, 0, 1, 0, 0]) .no (SSh.enc G F45_0s x) (kLoop G (ro G (tabOf (E16 n)) (frOf []) R) 0 ⟨[0, 1, 5], []⟩ F45_0s ⟨⟨[], []⟩, ⟨[4], []⟩, [(0, ⟨[], []⟩)]⟩ rec K) := by kernel_rfl
theorem F45_0_ok (n : Nat) : FragOK prog G 0 (codeAt F45c [1, 1, 0, 1, 0]) (F45_0z n) :=
  frag_loop (Z := fun R k (x : SSh.den G F45_0s) K => F45_0_it n (fun u0 => K .ret (SSh.enc G F45_0x0 ((u0, ()), ()))) (K (.exit 0) (SSh.enc G F45_0x1 ((), ()))) k x.1.1 x.1.2.1 x.1.2.2.1) laws fnok (E16_ok n).tab (AllF.of (l := []) (by kernel_rfl) AllF.nil) (fun _ _ _ => rfl) (fun R k y K => F45_0_eq n R (fun (x : SSh.den G F45_0s) => F45_0_it n (fun u0 => K .ret (SSh.enc G F45_0x0 ((u0, ()), ()))) (K (.exit 0) (SSh.enc G F45_0x1 ((), ()))) k x.1.1 x.1.2.1 x.1.2.2.1) y K) n
noncomputable def F45 (n : Nat) (a477 : List Int) (a478 : List Int) : Option (Int × Unit) :=
  (bif (((a477.length) : Int) != ((a478.length) : Int)) then
  (bif (decide (((a477.length) : Int) < ((a478.length) : Int))) then
  some ((-1 : Int), ())
  else some ((1 : Int), ()))
  else (F45_0 n a477 a478 (IntKind.wrap .i64 (((a477.length) : Int) - (1 : Int))) (fun z502 =>
  some (z502, ())) (
  some ((0 : Int), ()))))
noncomputable def F45e (n : Nat) : Ent G := ⟨45, (.cons (.imm 0) (.cons (.imm 0) .nil)), [], (.int .i64), [], fun x y => F45 n x.1 x.2.1⟩
theorem F45_eq (n : Nat) (x : ShL.den G (.cons (.imm 0) (.cons (.imm 0) .nil))) (y : denO G []) : (F45e n).F x y = runFn prog G (ro G (tabOf (E16 n)) (frOf [F45_0z n]) _) Go.Proofs.Try.f45 (.nd .no (.nd .no (.nd (.nd .no (.nd (.use 0) .no)) .no))) [(0, .fz)] (ShL.enc G (.cons (.imm 0) (.cons (.imm 0) .nil)) x) (encO G [] y) (decR (.int .i64) []) := by kernel_rfl
theorem F45_ok (n : Nat) : EntOK prog G (F45e n) :=
  ent_ok (fr := frOf [F45_0z n]) (ann := (.nd .no (.nd .no (.nd (.nd .no (.nd (.use 0) .no)) .no)))) (frm := [(0, .fz)]) laws fnok (E16_ok n).tab (e := F45e n) (fn := Go.Proofs.Try.f45) (by kernel_rfl) (AllF.ofB (cd := F45c) (l := [(0, codeAt F45c [1, 1, 0, 1, 0])]) (by kernel_rfl) (by kernel_rfl) (AllF.cons (F45_0_ok n) AllF.nil)) (F45_eq n)
noncomputable def E17 (n : Nat) : List (Ent G) := F45e n :: E16 n
theorem E17_ok (n : Nat) : AllE prog G (E17 n) := AllE.cons (F45_ok n) (E16_ok n)
-- 58 loop.example/slowworm/impl.magSub
noncomputable def F58c : Code := bodyOf Go.Proofs.Try.f58
noncomputable def F58_0x0 : SSh := ⟨49, [(1, (.imm 0)), (5, (.own 0)), (6, (.int .i64)), (10, (.int .i64)), (11, (.int .i64))], [(.arr 0 true)]⟩
noncomputable def F58_0s : SSh := ⟨49, [(1, (.imm 0)), (5, (.own 0)), (6, (.int .i64)), (10, (.int .i64)), (11, (.int .i64))], [(.arr 0 true)]⟩
noncomputable def F58_0 {R : Type} (n : Nat) (x518 : List Int) (x519 : Int) (x520 : Int) (x521 : Int) (x522 : List Int) (k0 : List Int → Int → Int → Int → List Int → Option R) : Option R :=
  (bif (decide (x519 < ((x518.length) : Int))) then
  (bif (decide ((0 : Int) ≤ x519)) then
  (bif (decide (x519 < ((x522.length) : Int))) then
  (bif (decide ((0 : Int) ≤ x519)) then
  (bif (decide (x519 < ((x518.length) : Int))) then
  (bif (decide ((0 : Int) ≤ x519)) then
  (bif (decide (x519 < ((x522.length) : Int))) then
  (k0 x518 x519 x520 x521 (x522.set (x519.toNat) (IntKind.wrap .i64 ((x522.getD (x519.toNat) (0 : Int)) - (x518.getD (x519.toNat) (0 : Int))))))
  else none)
  else none)
  else none)
  else none)
  else none)
  else none)
  else (k0 x518 x519 x520 x521 x522))
noncomputable def F58_0z (n : Nat) : Sm G := inZ G 0 ⟨[1, 5, 6, 10, 11], []⟩ F58_0s fun R x K => F58_0 n x.1.1 x.1.2.2.1 x.1.2.2.2.1 x.1.2.2.2.2.1 x.2.1 (fun u0 u1 u2 u3 u4 => K .normal (SSh.enc G F58_0x0 ((u0, ((), (u1, (u2, (u3, ()))))), (u4, ()))))
theorem F58_0_eq (n : Nat) (R : Type) (x : SSh.den G F58_0s) (K : AE → St G → Option R) :
  F58_0 n x.1.1 x.1.2.2.1 x.1.2.2.2.1 x.1.2.2.2.2.1 x.2.1 (fun u0 u1 u2 u3 u4 => K .normal (SSh.enc G F58_0x0 ((u0, ((), (u1, (u2, (u3, ()))))), (u4, ())))) = exec prog G (ro G (tabOf (E17 n)) (frOf []) R) 0 (codeAt F58c [1, 1, 0, 1, 0, 0, 1, 1, 0, 0, 1, 0]) .no (SSh.enc G F58_0s x) (kNrm G (ro G (tabOf (E17 n)) (frOf []) R) 0 ⟨⟨[1, 5, 6, 10, 11], []⟩, ⟨[4], []⟩, [(1, ⟨[1, 5, 10, 11], []⟩), (0, ⟨[5], []⟩)]⟩ K) := by kernel_rfl
theorem F58_0_ok (n : Nat) : FragOK prog G 0 (codeAt F58c [1, 1, 0, 1, 0, 0, 1, 1, 0, 0, 1, 0]) (F58_0z n) :=
  frag_plain laws fnok (E17_ok n).tab (AllF.of (l := []) (by kernel_rfl) AllF.nil) (F58_0_eq n)
noncomputable def F58_1x0 : SSh := ⟨49, [(1, (.imm 0)), (5, (.own 0)), (10, (.int .i64)), (11, (.int .i64))], [(.arr 0 true)]⟩
noncomputable def F58_1s : SSh := ⟨49, [(1, (.imm 0)), (5, (.own 0)), (10, (.int .i64)), (11, (.int .i64))], [(.arr 0 true)]⟩
noncomputable def F58_1 {R : Type} (n : Nat) (x514 : List Int) (x515 : Int) (x516 : Int) (x517 : List Int) (k0 : List Int → Int → Int → List Int → Option R) : Option R :=
  (F58_0 n x514 x516 x515 x516 x517 (fun z532 z533 z534 z535 z536 =>
  (bif (decide ((0 : Int) ≤ z533)) then
  (bif (decide (z533 < ((z536.length) : Int))) then
  (bif (decide ((z536.getD (z533.toNat) (0 : Int)) < (0 : Int))) then
  (bif (decide ((0 : Int) ≤ z533)) then
  (bif (decide (z533 < ((z536.length) : Int))) then
  (bif (decide ((0 : Int) ≤ z533)) then
  (bif (decide (z533 < ((z536.length) : Int))) then
  let v544 := (z536.set (z533.toNat) (IntKind.wrap .i64 ((z536.getD (z533.toNat) (0 : Int)) + (10 : Int))))
  let v545 := (IntKind.wrap .i64 (z533 + (1 : Int)))
  (bif (decide ((0 : Int) ≤ v545)) then
  (bif (decide (v545 < ((v544.length) : Int))) then
  (bif (decide ((0 : Int) ≤ v545)) then
  (bif (decide (v545 < ((v544.length) : Int))) then
  (k0 z532 z534 z535 (v544.set (v545.toNat) (IntKind.wrap .i64 ((v544.getD (v545.toNat) (0 : Int)) - (1 : Int)))))
  else none)
  else none)
  else none)
  else none)
  else none)
  else none)
  else none)
  else none)
  else (k0 z532 z534 z535 z536))
  else none)
  else none)))
noncomputable def F58_1z (n : Nat) : Sm G := inZ G 0 ⟨[1, 5, 10, 11], []⟩ F58_1s fun R x K => F58_1 n x.1.1 x.1.2.2.1 x.1.2.2.2.1 x.2.1 (fun u0 u1 u2 u3 => K .normal (SSh.enc G F58_1x0 ((u0, ((), (u1, (u2, ())))), (u3, ()))))
theorem F58_1_eq (n : Nat) (R : Type) (x : SSh.den G F58_1s) (K : AE → St G → Option R) :
  F58_1 n x.1.1 x.1.2.2.1 x.1.2.2.2.1 x.2.1 (fun u0 u1 u2 u3 => K .normal (SSh.enc G F58_1x0 ((u0, ((), (u1, (u2, ())))), (u3, ())))) = exec prog G (ro G (tabOf (E17 n)) (frOf [F58_0z n]) R) 0 (codeAt F58c [1, 1, 0, 1, 0, 0, 1, 1, 0]) (.nd (.nd .no (.nd (.use 0) .no)) .no) (SSh.enc G F58_1s x) (kNrm G (ro G (tabOf (E17 n)) (frOf [F58_0z n]) R) 0 ⟨⟨[1, 5, 10, 11], []⟩, ⟨[4], []⟩, [(0, ⟨[5], []⟩)]⟩ K) := by kernel_rfl
theorem F58_1_ok (n : Nat) : FragOK prog G 0 (codeAt F58c [1, 1, 0, 1, 0, 0, 1, 1, 0]) (F58_1z n) :=
  frag_plain laws fnok (E17_ok n).tab (AllF.of (l := [(0, codeAt F58c [1, 1, 0, 1, 0, 0, 1, 1, 0, 0, 1, 0])]) (by kernel_rfl) (AllF.cons (F58_0_ok n) AllF.nil)) (F58_1_eq n)
noncomputable def F58_2x0 : SSh := ⟨49, [(5, (.own 0))], [(.arr 0 true)]⟩
noncomputable def F58_2s : SSh := ⟨49, [(1, (.imm 0)), (5, (.own 0)), (10, (.int .i64)), (11, (.int .i64))], [(.arr 0 true)]⟩
noncomputable def F58_2_step {R : Type} (n : Nat) (k0 : List Int → Option R) (rec : List Int → Int → Int → List Int → Option R) (x509 : List Int) (x510 : Int) (x511 : Int) (x512 : List Int) : Option R :=
  (bif (decide (x511 < x510)) then
  (F58_1 n x509 x510 x511 x512 (fun z551 z552 z553 z554 =>
  (rec z551 z552 (IntKind.wrap .i64 (z553 + (1 : Int))) z554)))
  else (k0 x512))
noncomputable def F58_2_it {R : Type} (n : Nat) (k0 : List Int → Option R) : Nat → List Int → Int → Int → List Int → Option R
  | 0, _, _, _, _ => none
  | k + 1, x509, x510, x511, x512 => F58_2_step n k0 (F58_2_it n k0 k) x509 x510 x511 x512
noncomputable def F58_2 {R : Type} (n : Nat) (x509 : List Int) (x510 : Int) (x511 : Int) (x512 : List Int) (k0 : List Int → Option R) : Option R := F58_2_it n k0 n x509 x510 x511 x512
noncomputable def F58_2z (n : Nat) : Sm G := inZ G 0 ⟨[1, 5, 10, 11], []⟩ F58_2s fun R x K => F58_2_it n (fun u0 => K (.exit 0) (SSh.enc G F58_2x0 (((), ()), (u0, ())))) n x.1.1 x.1.2.2.1 x.1.2.2.2.1 x.2.1
theorem F58_2_eq (n : Nat) (R : Type) (rec : SSh.den G F58_2s → Option R) (x : SSh.den G F58_2s) (K : AE → St G → Option R) :
  F58_2_step n (fun u0 => K (.exit 0) (SSh.enc G F58_2x0 (((), ()), (u0, ())))) (fun x509 x510 x511 x512 => rec ((x509, ((), (x510, (x511, ())))), (x512, ()))) x.1.1 x.1.2.2.1 x.1.2.2.2.1 x.2.1 = exec prog G (ro G (tabOf (E17 n)) (frOf [F58_0z n, F58_1z n]) R) 0 (codeAt F58c [1, 1, 0, 1, 0, 0]) (.nd .no (.nd .no (.nd (.use 1) .no))) (SSh.enc G F58_2s x) (kLoop G (ro G (tabOf (E17 n)) (frOf [F58_0z n, F58_1z n]) R) 0 ⟨[1, 5, 10, 11], []⟩ F58_2s ⟨⟨[5], []⟩, ⟨[4], []⟩, [(0, ⟨[5], []⟩)]⟩ rec K) := by kernel_rfl
theorem F58_2_ok (n : Nat) : FragOK prog G 0 (codeAt F58c [1, 1, 0, 1, 0]) (F58_2z n) :=
  frag_loop (Z := fun R k (x : SSh.den G F58_2s) K => F58_2_it n (fun u0 => K (.exit 0) (SSh.enc G F58_2x0 (((), ()), (u0, ())))) k x.1.1 x.1.2.2.1 x.1.2.2.2.1 x.2.1) laws fnok (E17_ok n).tab (AllF.of (l := [(1, codeAt F58c [1, 1, 0, 1, 0, 0, 1, 1, 0])]) (by kernel_rfl) (AllF.cons (F58_1_ok n) AllF.nil)) (fun _ _ _ => rfl) (fun R k y K => F58_2_eq n R (fun (x : SSh.den G F58_2s) => F58_2_it n (fun u0 => K (.exit 0) (SSh.enc G F58_2x0 (((), ()), (u0, ())))) k x.1.1 x.1.2.2.1 x.1.2.2.2.1 x.2.1) y K) n
noncomputable def F58 (n : Nat) (a505 : List Int) (a506 : List Int) : Option (List Int × Unit) :=
  (bif (decide ((a505.length) ≤ (68719476736 : Nat))) then
  let v507 := a505
  (F58_2 n a506 ((v507.length) : Int) (0 : Int) v507 (fun z556 =>
  (andThen (F44 n z556) fun r557 =>
  some (r557.1, ()))))
  else none)
noncomputable def F58e (n : Nat) : Ent G := ⟨58, (.cons (.imm 0) (.cons (.imm 0) .nil)), [], (.imm 0), [], fun x y => F58 n x.1 x.2.1⟩
theorem F58_eq (n : Nat) (x : ShL.den G (.cons (.imm 0) (.cons (.imm 0) .nil))) (y : denO G []) : (F58e n).F x y = runFn prog G (ro G (tabOf (E17 n)) (frOf [F58_0z n, F58_1z n, F58_2z n]) _) Go.Proofs.Try.f58 (.nd .no (.nd .no (.nd (.nd .no (.nd (.use 2) .no)) .no))) [(0, .fz)] (ShL.enc G (.cons (.imm 0) (.cons (.imm 0) .nil)) x) (encO G [] y) (decR (.imm 0) []) := by kernel_rfl
theorem F58_ok (n : Nat) : EntOK prog G (F58e n) :=
  ent_ok (fr := frOf [F58_0z n, F58_1z n, F58_2z n]) (ann := (.nd .no (.nd .no (.nd (.nd .no (.nd (.use 2) .no)) .no)))) (frm := [(0, .fz)]) laws fnok (E17_ok n).tab (e := F58e n) (fn := Go.Proofs.Try.f58) (by kernel_rfl) (AllF.ofB (cd := F58c) (l := [(2, codeAt F58c [1, 1, 0, 1, 0])]) (by kernel_rfl) (by kernel_rfl) (AllF.cons (F58_2_ok n) AllF.nil)) (F58_eq n)
noncomputable def E18 (n : Nat) : List (Ent G) := F58e n :: E17 n
theorem E18_ok (n : Nat) : AllE prog G (E18 n) := AllE.cons (F58_ok n) (E17_ok n)
noncomputable def F34 (n : Nat) (a341 : Bool) (a342 : List Int) (a343 : Bool) (a344 : List Int) : Option ((Bool × (List Int × Unit)) × Unit) :=
  (bif (a341 == a343) then
  (andThen (F56 n a342 a344) fun r464 =>
  (andThen (F57 n a341 r464.1) fun r476 =>
  some ((r476.1.1, (r476.1.2.1, ())), ())))
  else (andThen (F45 n a342 a344) fun r503 =>
  (bif (decide (r503.1 ≥ (0 : Int))) then
  (andThen (F58 n a342 a344) fun r558 =>
  (andThen (F57 n a341 r558.1) fun r559 =>
  some ((r559.1.1, (r559.1.2.1, ())), ())))
  else (andThen (F58 n a344 a342) fun r560 =>
  (andThen (F57 n a343 r560.1) fun r561 =>
  some ((r561.1.1, (r561.1.2.1, ())), ()))))))
noncomputable def F34e (n : Nat) : Ent G := ⟨34, (.cons (.agg (.cons .bool (.cons (.imm 0) .nil))) (.cons (.agg (.cons .bool (.cons (.imm 0) .nil))) .nil)), [], (.agg (.cons .bool (.cons (.imm 0) .nil))), [], fun x y => F34 n x.1.1 x.1.2.1 x.2.1.1 x.2.1.2.1⟩
theorem F34_eq (n : Nat) (x : ShL.den G (.cons (.agg (.cons .bool (.cons (.imm 0) .nil))) (.cons (.agg (.cons .bool (.cons (.imm 0) .nil))) .nil))) (y : denO G []) : (F34e n).F x y = runFn prog G (ro G (tabOf (E18 n)) (frOf []) _) Go.Proofs.Try.f34 .no [(0, .fz)] (ShL.enc G (.cons (.agg (.cons .bool (.cons (.imm 0) .nil))) (.cons (.agg (.cons .bool (.cons (.imm 0) .nil))) .nil)) x) (encO G [] y) (decR (.agg (.cons .bool (.cons (.imm 0) .nil))) []) := by kernel_rfl
theorem F34_ok (n : Nat) : EntOK prog G (F34e n) :=
  ent_ok (fr := frOf []) (ann := .no) (frm := [(0, .fz)]) laws fnok (E18_ok n).tab (e := F34e n) (fn := Go.Proofs.Try.f34) (by kernel_rfl) (AllF.ofB (cd := F34c) (l := []) (by kernel_rfl) (by kernel_rfl) AllF.nil) (F34_eq n)
noncomputable def E19 (n : Nat) : List (Ent G) := F34e n :: E18 n
theorem E19_ok (n : Nat) : AllE prog G (E19 n) := AllE.cons (F34_ok n) (E18_ok n)
-- 35 (loop.example/slowworm/impl.number).text
noncomputable def F35c : Code := bodyOf Go.Proofs.Try.f35
-- 59 (*strings.Builder).WriteByte
noncomputable def F59c : Code := bodyOf Go.Proofs.Try.f59
noncomputable def F59 (n : Nat) (a572 : Int) (a573 : List Int) : Option (Unit × ((Unit × (Unit × Unit)) × (Unit × (List Int × Unit)))) :=
  (andThen (L69 a573) fun r574 =>
  let v575 := (a572 :: [])
  (bif (decide (((r574.2.2.1.length) + (v575.length)) ≤ (68719476736 : Nat))) then
  some ((), (((), ((), ())), ((), ((r574.2.2.1 ++ v575), ()))))
  else none))
noncomputable def F59e (n : Nat) : Ent G := ⟨59, (.cons (.ptr 0 0) (.cons (.int .u8) .nil)), [(.box 65 (.cons (.nsp 0) (.cons (.own 1) .nil))), (.arr 1 true)], .nili, [(.box 65 (.cons (.nsp 0) (.cons (.own 2) .nil))), .dead, (.arr 1 true)], fun x y => F59 n x.2.1 y.2.1⟩
theorem F59_eq (n : Nat) (x : ShL.den G (.cons (.ptr 0 0) (.cons (.int .u8) .nil))) (y : denO G [(.box 65 (.cons (.nsp 0) (.cons (.own 1) .nil))), (.arr 1 true)]) : (F59e n).F x y = runFn prog G (ro G (tabOf (E19 n)) (frOf []) _) Go.Proofs.Try.f59 .no [(0, .fz)] (ShL.enc G (.cons (.ptr 0 0) (.cons (.int .u8) .nil)) x) (encO G [(.box 65 (.cons (.nsp 0) (.cons (.own 1) .nil))), (.arr 1 true)] y) (decR .nili [(.box 65 (.cons (.nsp 0) (.cons (.own 2) .nil))), .dead, (.arr 1 true)]) := by kernel_rfl
theorem F59_ok (n : Nat) : EntOK prog G (F59e n) :=
  ent_ok (fr := frOf []) (ann := .no) (frm := [(0, .fz)]) laws fnok (E19_ok n).tab (e := F59e n) (fn := Go.Proofs.Try.f59) (by kernel_rfl) (AllF.ofB (cd := F59c) (l := []) (by kernel_rfl) (by kernel_rfl) AllF.nil) (F59_eq n)
noncomputable def E20 (n : Nat) : List (Ent G) := F59e n :: E19 n
theorem E20_ok (n : Nat) : AllE prog G (E20 n) := AllE.cons (F59_ok n) (E19_ok n)
noncomputable def F35_0x0 : SSh := ⟨34, [(1, (.ptr 0 0)), (4, (.ptr 1 0))], [(.box 38 (.cons .bool (.cons (.imm 0) .nil))), (.box 65 (.cons (.nsp 1) (.cons (.own 2) .nil))), (.arr 1 true)]⟩
noncomputable def F35_0s : SSh := ⟨34, [(1, (.ptr 0 0)), (4, (.ptr 1 0))], [(.box 38 (.cons .bool (.cons (.imm 0) .nil))), (.box 65 (.cons (.nsp 1) (.cons (.own 2) .nil))), (.arr 1 true)]⟩
noncomputable def F35_0 {R : Type} (n : Nat) (x569 : Bool) (x570 : List Int) (x571 : List Int) (k0 : Bool → List Int → List Int → Option R) : Option R :=
  (bif x569 then
  (andThen (F59 n (45 : Int) x571) fun r577 =>
  (k0 x569 x570 r577.2.2.2.1))
  else (k0 x569 x570 x571))
noncomputable def F35_0z (n : Nat) : Sm G := inZ G 0 ⟨[1, 4], []⟩ F35_0s fun R x K => F35_0 n x.2.1.1 x.2.1.2.1 x.2.2.2.1 (fun u0 u1 u2 => K .normal (SSh.enc G F35_0x0 (((), ((), ())), ((u0, (u1, ())), (((), ((), ())), (u2, ()))))))
theorem F35_0_eq (n : Nat) (R : Type) (x : SSh.den G F35_0s) (K : AE → St G → Option R) :
  F35_0 n x.2.1.1 x.2.1.2.1 x.2.2.2.1 (fun u0 u1 u2 => K .normal (SSh.enc G F35_0x0 (((), ((), ())), ((u0, (u1, ())), (((), ((), ())), (u2, ())))))) = exec prog G (ro G (tabOf (E20 n)) (frOf []) R) 0 (codeAt F35c [1, 1, 1, 1, 0]) .no (SSh.enc G F35_0s x) (kNrm G (ro G (tabOf (E20 n)) (frOf []) R) 0 ⟨⟨[1, 4], []⟩, ⟨[2, 3], []⟩, []⟩ K) := by kernel_rfl
theorem F35_0_ok (n : Nat) : FragOK prog G 0 (codeAt F35c [1, 1, 1, 1, 0]) (F35_0z n) :=
  frag_plain laws fnok (E20_ok n).tab (AllF.of (l := []) (by kernel_rfl) AllF.nil) (F35_0_eq n)
noncomputable def F35_1x0 : SSh := ⟨34, [(4, (.ptr 0 0))], [(.box 65 (.cons (.nsp 0) (.cons (.own 1) .nil))), (.arr 1 true)]⟩
noncomputable def F35_1s : SSh := ⟨34, [(1, (.ptr 0 0)), (4, (.ptr 1 0)), (5, (.int .i64))], [(.box 38 (.cons .bool (.cons (.imm 0) .nil))), (.box 65 (.cons (.nsp 1) (.cons (.own 2) .nil))), (.arr 1 true)]⟩
noncomputable def F35_1_step {R : Type} (n : Nat) (k0 : List Int → Option R) (rec : Int → Bool → List Int → List Int → Option R) (x583 : Int) (x584 : Bool) (x585 : List Int) (x586 : List Int) : Option R :=
  (bif (decide (x583 ≥ (0 : Int))) then
  (bif (decide ((0 : Int) ≤ x583)) then
  (bif (decide (x583 < ((x585.length) : Int))) then
  (andThen (F59 n (IntKind.wrap .u8 (IntKind.wrap .i64 ((48 : Int) + (x585.getD (x583.toNat) (0 : Int))))) x586) fun r592 =>
  (rec (IntKind.wrap .i64 (x583 - (1 : Int))) x584 x585 r592.2.2.2.1))
  else none)
  else none)
  else (k0 x586))
noncomputable def F35_1_it {R : Type} (n : Nat) (k0 : List Int → Option R) : Nat → Int → Bool → List Int → List Int → Option R
  | 0, _, _, _, _ => none
  | k + 1, x583, x584, x585, x586 => F35_1_step n k0 (F35_1_it n k0 k) x583 x584 x585 x586
noncomputable def F35_1 {R : Type} (n : Nat) (x583 : Int) (x584 : Bool) (x585 : List Int) (x586 : List Int) (k0 : List Int → Option R) : Option R := F35_1_it n k0 n x583 x584 x585 x586
noncomputable def F35_1z (n : Nat) : Sm G := inZ G 0 ⟨[1, 4, 5], []⟩ F35_1s fun R x K => F35_1_it n (fun u0 => K (.exit 0) (SSh.enc G F35_1x0 (((), ()), (((), ((), ())), (u0, ()))))) n x.1.2.2.1 x.2.1.1 x.2.1.2.1 x.2.2.2.1
theorem F35_1_eq (n : Nat) (R : Type) (rec : SSh.den G F35_1s → Option R) (x : SSh.den G F35_1s) (K : AE → St G → Option R) :
  F35_1_step n (fun u0 => K (.exit 0) (SSh.enc G F35_1x0 (((), ()), (((), ((), ())), (u0, ()))))) (fun x583 x584 x585 x586 => rec (((), ((), (x583, ()))), ((x584, (x585, ())), (((), ((), ())), (x586, ()))))) x.1.2.2.1 x.2.1.1 x.2.1.2.1 x.2.2.2.1 = exec prog G (ro G (tabOf (E20 n)) (frOf [F35_0z n]) R) 0 (codeAt F35c [1, 1, 1, 1, 1, 0, 1, 0, 0]) .no (SSh.enc G F35_1s x) (kLoop G (ro G (tabOf (E20 n)) (frOf [F35_0z n]) R) 0 ⟨[1, 4, 5], []⟩ F35_1s ⟨⟨[4], []⟩, ⟨[2, 3], []⟩, [(0, ⟨[4], []⟩)]⟩ rec K) := by kernel_rfl
theorem F35_1_ok (n : Nat) : FragOK prog G 0 (codeAt F35c [1, 1, 1, 1, 1, 0, 1, 0]) (F35_1z n) :=
  frag_loop (Z := fun R k (x : SSh.den G F35_1s) K => F35_1_it n (fun u0 => K (.exit 0) (SSh.enc G F35_1x0 (((), ()), (((), ((), ())), (u0, ()))))) k x.1.2.2.1 x.2.1.1 x.2.1.2.1 x.2.2.2.1) laws fnok (E20_ok n).tab (AllF.of (l := []) (by kernel_rfl) AllF.nil) (fun _ _ _ => rfl) (fun R k y K => F35_1_eq n R (fun (x : SSh.den G F35_1s) => F35_1_it n (fun u0 => K (.exit 0) (SSh.enc G F35_1x0 (((), ()), (((), ((), ())), (u0, ()))))) k x.1.2.2.1 x.2.1.1 x.2.1.2.1 x.2.2.2.1) y K) n
noncomputable def F35 (n : Nat) (a563 : Bool) (a564 : List Int) : Option ((ByteArray × (Bool × Unit)) × Unit) :=
  (bif (decide (((a564.length) : Int) > (40 : Int))) then
  some ((({ data := #[] } : ByteArray), (false, ())), ())
  else (bif (((a564.length) : Int) == (0 : Int)) then
  some ((({ data := #[48] } : ByteArray), (true, ())), ())
  else (F35_0 n a563 a564 [] (fun z578 z579 z580 =>
  (F35_1 n (IntKind.wrap .i64 (((z579.length) : Int) - (1 : Int))) z578 z579 z580 (fun z594 =>
  (andThen (L60 z594) fun r595 =>
  some ((r595.1, (true, ())), ()))))))))
noncomputable def F35e (n : Nat) : Ent G := ⟨35, (.cons (.agg (.cons .bool (.cons (.imm 0) .nil))) .nil), [], (.tup (.cons .str (.cons .bool .nil))), [], fun x y => F35 n x.1.1 x.1.2.1⟩
theorem F35_eq (n : Nat) (x : ShL.den G (.cons (.agg (.cons .bool (.cons (.imm 0) .nil))) .nil)) (y : denO G []) : (F35e n).F x y = runFn prog G (ro G (tabOf (E20 n)) (frOf [F35_0z n, F35_1z n]) _) Go.Proofs.Try.f35 (.nd .no (.nd .no (.nd .no (.nd .no (.nd (.use 0) (.nd (.nd .no (.nd (.use 1) .no)) .no)))))) [(0, .fz), (1, .fz)] (ShL.enc G (.cons (.agg (.cons .bool (.cons (.imm 0) .nil))) .nil) x) (encO G [] y) (decR (.tup (.cons .str (.cons .bool .nil))) []) := by kernel_rfl
theorem F35_ok (n : Nat) : EntOK prog G (F35e n) :=
  ent_ok (fr := frOf [F35_0z n, F35_1z n]) (ann := (.nd .no (.nd .no (.nd .no (.nd .no (.nd (.use 0) (.nd (.nd .no (.nd (.use 1) .no)) .no))))))) (frm := [(0, .fz), (1, .fz)]) laws fnok (E20_ok n).tab (e := F35e n) (fn := Go.Proofs.Try.f35) (by kernel_rfl) (AllF.ofB (cd := F35c) (l := [(0, codeAt F35c [1, 1, 1, 1, 0]), (1, codeAt F35c [1, 1, 1, 1, 1, 0, 1, 0])]) (by kernel_rfl) (by kernel_rfl) (AllF.cons (F35_0_ok n) (AllF.cons (F35_1_ok n) AllF.nil))) (F35_eq n)
noncomputable def E21 (n : Nat) : List (Ent G) := F35e n :: E20 n
theorem E21_ok (n : Nat) : AllE prog G (E21 n) := AllE.cons (F35_ok n) (E20_ok n)
noncomputable def F11 (n : Nat) (a200 : ByteArray) (a201 : ByteArray) : Option ((ByteArray × (Bool × Unit)) × Unit) :=
  (andThen (F33 n a200 a201) fun r339 =>
  (bif (!r339.1.2.2.1) then
  some ((({ data := #[] } : ByteArray), (false, ())), ())
  else (andThen (F34 n r339.1.1.1 r339.1.1.2.1 r339.1.2.1.1 r339.1.2.1.2.1) fun r562 =>
  (andThen (F35 n r562.1.1 r562.1.2.1) fun r596 =>
  some ((r596.1.1, (r596.1.2.1, ())), ())))))
noncomputable def F11e (n : Nat) : Ent G := ⟨11, (.cons .str (.cons .str .nil)), [], (.tup (.cons .str (.cons .bool .nil))), [], fun x y => F11 n x.1 x.2.1⟩
theorem F11_eq (n : Nat) (x : ShL.den G (.cons .str (.cons .str .nil))) (y : denO G []) : (F11e n).F x y = runFn prog G (ro G (tabOf (E21 n)) (frOf []) _) Go.Proofs.Try.f11 .no [(0, .fz), (1, .fz)] (ShL.enc G (.cons .str (.cons .str .nil)) x) (encO G [] y) (decR (.tup (.cons .str (.cons .bool .nil))) []) := by kernel_rfl
theorem F11_ok (n : Nat) : EntOK prog G (F11e n) :=
  ent_ok (fr := frOf []) (ann := .no) (frm := [(0, .fz), (1, .fz)]) laws fnok (E21_ok n).tab (e := F11e n) (fn := Go.Proofs.Try.f11) (by kernel_rfl) (AllF.ofB (cd := F11c) (l := []) (by kernel_rfl) (by kernel_rfl) AllF.nil) (F11_eq n)
noncomputable def E22 (n : Nat) : List (Ent G) := F11e n :: E21 n
theorem E22_ok (n : Nat) : AllE prog G (E22 n) := AllE.cons (F11_ok n) (E21_ok n)
-- 12 loop.example/slowworm/spec.IntAdd
noncomputable def F12c : Code := bodyOf Go.Proofs.Try.f12
-- 36 loop.example/slowworm/spec.validInt
noncomputable def F36c : Code := bodyOf Go.Proofs.Try.f36
noncomputable def F36_0x0 : SSh := ⟨44, [(0, .str), (3, .str)], []⟩
noncomputable def F36_0s : SSh := ⟨44, [(0, .str), (3, .str)], []⟩
noncomputable def F36_0 {R : Type} (n : Nat) (x601 : ByteArray) (x602 : ByteArray) (k0 : ByteArray → ByteArray → Option R) : Option R :=
  (bif (decide (((x602.size) : Int) > (0 : Int))) then
  (bif (decide ((0 : Int) < ((x602.size) : Int))) then
  (bif ((strOf x602 (0 : Nat)) == (45 : Int)) then
  (bif (decide ((1 : Int) ≤ ((x602.size) : Int))) then
  (bif (decide (((x602.size) : Int) ≤ ((x602.size) : Int))) then
  (k0 x601 (x602.extract (1 : Nat) (((x602.size) : Int).toNat)))
  else none)
  else none)
  else (k0 x601 x602))
  else none)
  else (k0 x601 x602))
noncomputable def F36_0z (n : Nat) : Sm G := inZ G 0 ⟨[0, 3], []⟩ F36_0s fun R x K => F36_0 n x.1.1 x.1.2.1 (fun u0 u1 => K .normal (SSh.enc G F36_0x0 ((u0, (u1, ())), ())))
theorem F36_0_eq (n : Nat) (R : Type) (x : SSh.den G F36_0s) (K : AE → St G → Option R) :
  F36_0 n x.1.1 x.1.2.1 (fun u0 u1 => K .normal (SSh.enc G F36_0x0 ((u0, (u1, ())), ()))) = exec prog G (ro G (tabOf (E22 n)) (frOf []) R) 0 (codeAt F36c [1, 1, 0]) .no (SSh.enc G F36_0s x) (kNrm G (ro G (tabOf (E22 n)) (frOf []) R) 0 ⟨⟨[0, 3], []⟩, ⟨[2], []⟩, []⟩ K) := by kernel_rfl
theorem F36_0_ok (n : Nat) : FragOK prog G 0 (codeAt F36c [1, 1, 0]) (F36_0z n) :=
  frag_plain laws fnok (E22_ok n).tab (AllF.of (l := []) (by kernel_rfl) AllF.nil) (F36_0_eq n)
noncomputable def F36_1x0 : SSh := ⟨44, [(2, .bool)], []⟩
noncomputable def F36_1x1 : SSh := ⟨44, [(0, .str), (3, .str)], []⟩
noncomputable def F36_1s : SSh := ⟨44, [(0, .str), (3, .str), (4, (.int .i64))], []⟩
noncomputable def F36_1_step {R : Type} (n : Nat) (k0 : Bool → Option R) (k1 : ByteArray → ByteArray → Option R) (rec : ByteArray → ByteArray → Int → Option R) (x610 : ByteArray) (x611 : ByteArray) (x612 : Int) : Option R :=
  (bif (decide (x612 < ((x611.size) : Int))) then
  (bif (decide ((0 : Int) ≤ x612)) then
  (bif (decide (x612 < ((x611.size) : Int))) then
  (bif (decide ((strOf x611 (x612.toNat)) < (48 : Int))) then
  (k0 false)
  else (bif (decide ((0 : Int) ≤ x612)) then
  (bif (decide (x612 < ((x611.size) : Int))) then
  (bif (decide ((strOf x611 (x612.toNat)) > (57 : Int))) then
  (k0 false)
  else (rec x610 x611 (IntKind.wrap .i64 (x612 + (1 : Int)))))
  else none)
  else none))
  else none)
  else none)
  else (k1 x610 x611))
noncomputable def F36_1_it {R : Type} (n : Nat) (k0 : Bool → Option R) (k1 : ByteArray → ByteArray → Option R) : Nat → ByteArray → ByteArray → Int → Option R
  | 0, _, _, _ => none
  | k + 1, x610, x611, x612 => F36_1_step n k0 k1 (F36_1_it n k0 k1 k) x610 x611 x612
noncomputable def F36_1 {R : Type} (n : Nat) (x610 : ByteArray) (x611 : ByteArray) (x612 : Int) (k0 : Bool → Option R) (k1 : ByteArray → ByteArray → Option R) : Option R := F36_1_it n k0 k1 n x610 x611 x612
noncomputable def F36_1z (n : Nat) : Sm G := inZ G 0 ⟨[0, 3, 4], []⟩ F36_1s fun R x K => F36_1_it n (fun u0 => K .ret (SSh.enc G F36_1x0 ((u0, ()), ()))) (fun u0 u1 => K (.exit 0) (SSh.enc G F36_1x1 ((u0, (u1, ())), ()))) n x.1.1 x.1.2.1 x.1.2.2.1
theorem F36_1_eq (n : Nat) (R : Type) (rec : SSh.den G F36_1s → Option R) (x : SSh.den G F36_1s) (K : AE → St G → Option R) :
  F36_1_step n (fun u0 => K .ret (SSh.enc G F36_1x0 ((u0, ()), ()))) (fun u0 u1 => K (.exit 0) (SSh.enc G F36_1x1 ((u0, (u1, ())), ()))) (fun x610 x611 x612 => rec ((x610, (x611, (x612, ()))), ())) x.1.1 x.1.2.1 x.1.2.2.1 = exec prog G (ro G (tabOf (E22 n)) (frOf [F36_0z n]) R) 0 (codeAt F36c [1, 1, 1, 0, 1, 0, 0]) .no (SSh.enc G F36_1s x) (kLoop G (ro G (tabOf (E22 n)) (frOf [F36_0z n]) R) 0 ⟨[0, 3, 4], []⟩ F36_1s ⟨⟨[0, 3], []⟩, ⟨[2], []⟩, [(0, ⟨[0, 3], []⟩)]⟩ rec K) := by kernel_rfl
theorem F36_1_ok (n : Nat) : FragOK prog G 0 (codeAt F36c [1, 1, 1, 0, 1, 0]) (F36_1z n) :=
  frag_loop (Z := fun R k (x : SSh.den G F36_1s) K => F36_1_it n (fun u0 => K .ret (SSh.enc G F36_1x0 ((u0, ()), ()))) (fun u0 u1 => K (.exit 0) (SSh.enc G F36_1x1 ((u0, (u1, ())), ()))) k x.1.1 x.1.2.1 x.1.2.2.1) laws fnok (E22_ok n).tab (AllF.of (l := []) (by kernel_rfl) AllF.nil) (fun _ _ _ => rfl) (fun R k y K => F36_1_eq n R (fun (x : SSh.den G F36_1s) => F36_1_it n (fun u0 => K .ret (SSh.enc G F36_1x0 ((u0, ()), ()))) (fun u0 u1 => K (.exit 0) (SSh.enc G F36_1x1 ((u0, (u1, ())), ()))) k x.1.1 x.1.2.1 x.1.2.2.1) y K) n
-- 61 loop.example/slowworm/spec.inRange
noncomputable def F61c : Code := bodyOf Go.Proofs.Try.f61
noncomputable def F61 (n : Nat) (a624 : Int) (a625 : Int) (a626 : Int) : Option (Bool × Unit) :=
  (bif (decide (a624 ≥ a625)) then
  some ((decide (a624 ≤ a626)), ())
  else some (false, ()))
noncomputable def F61e (n : Nat) : Ent G := ⟨61, (.cons (.int .i64) (.cons (.int .i64) (.cons (.int .i64) .nil))), [], .bool, [], fun x y => F61 n x.1 x.2.1 x.2.2.1⟩
theorem F61_eq (n : Nat) (x : ShL.den G (.cons (.int .i64) (.cons (.int .i64) (.cons (.int .i64) .nil)))) (y : denO G []) : (F61e n).F x y = runFn prog G (ro G (tabOf (E22 n)) (frOf []) _) Go.Proofs.Try.f61 .no [(0, .fz)] (ShL.enc G (.cons (.int .i64) (.cons (.int .i64) (.cons (.int .i64) .nil))) x) (encO G [] y) (decR .bool []) := by kernel_rfl
theorem F61_ok (n : Nat) : EntOK prog G (F61e n) :=
  ent_ok (fr := frOf []) (ann := .no) (frm := [(0, .fz)]) laws fnok (E22_ok n).tab (e := F61e n) (fn := Go.Proofs.Try.f61) (by kernel_rfl) (AllF.ofB (cd := F61c) (l := []) (by kernel_rfl) (by kernel_rfl) AllF.nil) (F61_eq n)
noncomputable def E23 (n : Nat) : List (Ent G) := F61e n :: E22 n
theorem E23_ok (n : Nat) : AllE prog G (E23 n) := AllE.cons (F61_ok n) (E22_ok n)
noncomputable def F36 (n : Nat) (a600 : ByteArray) : Option (Bool × Unit) :=
  (F36_0 n a600 a600 (fun z608 z609 =>
  (F36_1 n z608 z609 (0 : Int) (fun z620 =>
  some (z620, ())) (fun z621 z622 =>
  (andThen (F61 n ((z622.size) : Int) (1 : Int) (40 : Int)) fun r629 =>
  (bif r629.1 then
  (bif (decide ((0 : Int) < ((z622.size) : Int))) then
  (bif ((strOf z622 (0 : Nat)) != (48 : Int)) then
  some (true, ())
  else some (((z621.toList) == (({ data := #[48] } : ByteArray).toList)), ()))
  else none)
  else some (false, ())))))))
noncomputable def F36e (n : Nat) : Ent G := ⟨36, (.cons .str .nil), [], .bool, [], fun x y => F36 n x.1⟩
theorem F36_eq (n : Nat) (x : ShL.den G (.cons .str .nil)) (y : denO G []) : (F36e n).F x y = runFn prog G (ro G (tabOf (E23 n)) (frOf [F36_0z n, F36_1z n]) _) Go.Proofs.Try.f36 (.nd .no (.nd .no (.nd (.use 0) (.nd (.nd .no (.nd (.use 1) .no)) .no)))) [(0, .fz)] (ShL.enc G (.cons .str .nil) x) (encO G [] y) (decR .bool []) := by kernel_rfl
theorem F36_ok (n : Nat) : EntOK prog G (F36e n) :=
  ent_ok (fr := frOf [F36_0z n, F36_1z n]) (ann := (.nd .no (.nd .no (.nd (.use 0) (.nd (.nd .no (.nd (.use 1) .no)) .no))))) (frm := [(0, .fz)]) laws fnok (E23_ok n).tab (e := F36e n) (fn := Go.Proofs.Try.f36) (by kernel_rfl) (AllF.ofB (cd := F36c) (l := [(0, codeAt F36c [1, 1, 0]), (1, codeAt F36c [1, 1, 1, 0, 1, 0])]) (by kernel_rfl) (by kernel_rfl) (AllF.cons (F36_0_ok n) (AllF.cons (F36_1_ok n) AllF.nil))) (F36_eq n)
noncomputable def E24 (n : Nat) : List (Ent G) := F36e n :: E23 n
theorem E24_ok (n : Nat) : AllE prog G (E24 n) := AllE.cons (F36_ok n) (E23_ok n)
-- 37 loop.example/slowworm/spec.addInts
noncomputable def F37c : Code := bodyOf Go.Proofs.Try.f37
-- 47 loop.example/slowworm/spec.digitsOf
noncomputable def F47c : Code := bodyOf Go.Proofs.Try.f47
noncomputable def F47_0x0 : SSh := ⟨40, [(4, .bool), (5, (.own 0))], [(.arr 0 true)]⟩
noncomputable def F47_0s : SSh := ⟨40, [(0, .str), (4, .bool), (5, (.own 0)), (6, (.int .i64))], [(.arr 0 true)]⟩
noncomputable def F47_0_step {R : Type} (n : Nat) (k0 : Bool → List Int → Option R) (rec : ByteArray → Bool → Int → List Int → Option R) (x647 : ByteArray) (x648 : Bool) (x649 : Int) (x650 : List Int) : Option R :=
  (bif (decide (x649 ≥ (0 : Int))) then
  (bif (decide ((0 : Int) ≤ x649)) then
  (bif (decide (x649 < ((x647.size) : Int))) then
  (bif ((strOf x647 (x649.toNat)) != (45 : Int)) then
  (bif (decide ((0 : Int) ≤ x649)) then
  (bif (decide (x649 < ((x647.size) : Int))) then
  let v657 := ((IntKind.wrap .i64 (IntKind.wrap .u8 ((strOf x647 (x649.toNat)) - (48 : Int)))) :: [])
  (bif (decide (((x650.length) + (v657.length)) ≤ (68719476736 : Nat))) then
  (rec x647 x648 (IntKind.wrap .i64 (x649 - (1 : Int))) (x650 ++ v657))
  else none)
  else none)
  else none)
  else (k0 x648 x650))
  else none)
  else none)
  else (k0 x648 x650))
noncomputable def F47_0_it {R : Type} (n : Nat) (k0 : Bool → List Int → Option R) : Nat → ByteArray → Bool → Int → List Int → Option R
  | 0, _, _, _, _ => none
  | k + 1, x647, x648, x649, x650 => F47_0_step n k0 (F47_0_it n k0 k) x647 x648 x649 x650
noncomputable def F47_0 {R : Type} (n : Nat) (x647 : ByteArray) (x648 : Bool) (x649 : Int) (x650 : List Int) (k0 : Bool → List Int → Option R) : Option R := F47_0_it n k0 n x647 x648 x649 x650
noncomputable def F47_0z (n : Nat) : Sm G := inZ G 0 ⟨[0, 4, 5, 6], []⟩ F47_0s fun R x K => F47_0_it n (fun u0 u1 => K (.exit 0) (SSh.enc G F47_0x0 ((u0, ((), ())), (u1, ())))) n x.1.1 x.1.2.1 x.1.2.2.2.1 x.2.1
theorem F47_0_eq (n : Nat) (R : Type) (rec : SSh.den G F47_0s → Option R) (x : SSh.den G F47_0s) (K : AE → St G → Option R) :
  F47_0_step n (fun u0 u1 => K (.exit 0) (SSh.enc G F47_0x0 ((u0, ((), ())), (u1, ())))) (fun x647 x648 x649 x650 => rec ((x647, (x648, ((), (x649, ())))), (x650, ()))) x.1.1 x.1.2.1 x.1.2.2.2.1 x.2.1 = exec prog G (ro G (tabOf (E24 n)) (frOf []) R) 0 (codeAt F47c [1, 1, 1, 0, 1, 0, 0]) .no (SSh.enc G F47_0s x) (kLoop G (ro G (tabOf (E24 n)) (frOf []) R) 0 ⟨[0, 4, 5, 6], []⟩ F47_0s ⟨⟨[4, 5], []⟩, ⟨[2, 3], []⟩, [(0, ⟨[4, 5], []⟩)]⟩ rec K) := by kernel_rfl
theorem F47_0_ok (n : Nat) : FragOK prog G 0 (codeAt F47c [1, 1, 1, 0, 1, 0]) (F47_0z n) :=
  frag_loop (Z := fun R k (x : SSh.den G F47_0s) K => F47_0_it n (fun u0 u1 => K (.exit 0) (SSh.enc G F47_0x0 ((u0, ((), ())), (u1, ())))) k x.1.1 x.1.2.1 x.1.2.2.2.1 x.2.1) laws fnok (E24_ok n).tab (AllF.of (l := []) (by kernel_rfl) AllF.nil) (fun _ _ _ => rfl) (fun R k y K => F47_0_eq n R (fun (x : SSh.den G F47_0s) => F47_0_it n (fun u0 u1 => K (.exit 0) (SSh.enc G F47_0x0 ((u0, ((), ())), (u1, ())))) k x.1.1 x.1.2.1 x.1.2.2.2.1 x.2.1) y K) n
-- 50 loop.example/slowworm/spec.trimmed
noncomputable def F50c : Code := bodyOf Go.Proofs.Try.f50
noncomputable def F50_0x0 : SSh := ⟨21, [(0, (.own 0)), (3, (.int .i64))], [(.arr 0 true)]⟩
noncomputable def F50_0s : SSh := ⟨21, [(0, (.own 0)), (3, (.int .i64))], [(.arr 0 true)]⟩
noncomputable def F50_0_step {R : Type} (n : Nat) (k0 : Int → List Int → Option R) (rec : Int → List Int → Option R) (x664 : Int) (x665 : List Int) : Option R :=
  (bif (decide (x664 > (0 : Int))) then
  let v667 := (IntKind.wrap .i64 (x664 - (1 : Int)))
  (bif (decide ((0 : Int) ≤ v667)) then
  (bif (decide (v667 < ((x665.length) : Int))) then
  (bif ((x665.getD (v667.toNat) (0 : Int)) == (0 : Int)) then
  (rec (IntKind.wrap .i64 (x664 - (1 : Int))) x665)
  else (k0 x664 x665))
  else none)
  else none)
  else (k0 x664 x665))
noncomputable def F50_0_it {R : Type} (n : Nat) (k0 : Int → List Int → Option R) : Nat → Int → List Int → Option R
  | 0, _, _ => none
  | k + 1, x664, x665 => F50_0_step n k0 (F50_0_it n k0 k) x664 x665
noncomputable def F50_0 {R : Type} (n : Nat) (x664 : Int) (x665 : List Int) (k0 : Int → List Int → Option R) : Option R := F50_0_it n k0 n x664 x665
noncomputable def F50_0z (n : Nat) : Sm G := inZ G 1 ⟨[0, 3], []⟩ F50_0s fun R x K => F50_0_it n (fun u0 u1 => K (.exit 0) (SSh.enc G F50_0x0 (((), (u0, ())), (u1, ())))) n x.1.2.1 x.2.1
theorem F50_0_eq (n : Nat) (R : Type) (rec : SSh.den G F50_0s → Option R) (x : SSh.den G F50_0s) (K : AE → St G → Option R) :
  F50_0_step n (fun u0 u1 => K (.exit 0) (SSh.enc G F50_0x0 (((), (u0, ())), (u1, ())))) (fun x664 x665 => rec (((), (x664, ())), (x665, ()))) x.1.2.1 x.2.1 = exec prog G (ro G (tabOf (E24 n)) (frOf []) R) 1 (codeAt F50c [1, 1, 0, 0, 0]) .no (SSh.enc G F50_0s x) (kLoop G (ro G (tabOf (E24 n)) (frOf []) R) 1 ⟨[0, 3], []⟩ F50_0s ⟨⟨[0, 3], []⟩, ⟨[2], []⟩, [(0, ⟨[0, 3], []⟩)]⟩ rec K) := by kernel_rfl
theorem F50_0_ok (n : Nat) : FragOK prog G 1 (codeAt F50c [1, 1, 0, 0]) (F50_0z n) :=
  frag_loop (Z := fun R k (x : SSh.den G F50_0s) K => F50_0_it n (fun u0 u1 => K (.exit 0) (SSh.enc G F50_0x0 (((), (u0, ())), (u1, ())))) k x.1.2.1 x.2.1) laws fnok (E24_ok n).tab (AllF.of (l := []) (by kernel_rfl) AllF.nil) (fun _ _ _ => rfl) (fun R k y K => F50_0_eq n R (fun (x : SSh.den G F50_0s) => F50_0_it n (fun u0 u1 => K (.exit 0) (SSh.enc G F50_0x0 (((), (u0, ())), (u1, ())))) k x.1.2.1 x.2.1) y K) n
noncomputable def F50 (n : Nat) (a662 : List Int) : Option (Nat × (List Int × Unit)) :=
  (F50_0 n ((a662.length) : Int) a662 (fun z672 z673 =>
  (bif (decide ((0 : Int) ≤ z672)) then
  (bif (decide (z672 ≤ ((z673.length) : Int))) then
  some ((z672.toNat), (z673, ()))
  else none)
  else none)))
noncomputable def F50e (n : Nat) : Ent G := ⟨50, (.cons (.own 0) .nil), [(.arr 0 true)], (.pre 0), [(.arr 0 true)], fun x y => F50 n y.1⟩
theorem F50_eq (n : Nat) (x : ShL.den G (.cons (.own 0) .nil)) (y : denO G [(.arr 0 true)]) : (F50e n).F x y = runFn prog G (ro G (tabOf (E24 n)) (frOf [F50_0z n]) _) Go.Proofs.Try.f50 (.nd .no (.nd .no (.nd (.nd (.use 0) .no) .no))) [] (ShL.enc G (.cons (.own 0) .nil) x) (encO G [(.arr 0 true)] y) (decR (.pre 0) [(.arr 0 true)]) := by kernel_rfl
theorem F50_ok (n : Nat) : EntOK prog G (F50e n) :=
  ent_ok (fr := frOf [F50_0z n]) (ann := (.nd .no (.nd .no (.nd (.nd (.use 0) .no) .no)))) (frm := []) laws fnok (E24_ok n).tab (e := F50e n) (fn := Go.Proofs.Try.f50) (by kernel_rfl) (AllF.ofB (cd := F50c) (l := [(0, codeAt F50c [1, 1, 0, 0])]) (by kernel_rfl) (by kernel_rfl) (AllF.cons (F50_0_ok n) AllF.nil)) (F50_eq n)
noncomputable def E25 (n : Nat) : List (Ent G) := F50e n :: E24 n
theorem E25_ok (n : Nat) : AllE prog G (E25 n) := AllE.cons (F50_ok n) (E24_ok n)
noncomputable def F47 (n : Nat) (a639 : ByteArray) : Option ((List Int × (Bool × Unit)) × Unit) :=
  (bif (decide (((a639.size) : Int) > (0 : Int))) then
  (bif (decide ((0 : Int) < ((a639.size) : Int))) then
  (F47_0 n a639 ((strOf a639 (0 : Nat)) == (45 : Int)) (IntKind.wrap .i64 (((a639.size) : Int) - (1 : Int))) [] (fun z660 z661 =>
  (andThen (F50 n z661) fun r675 =>
  some (((r675.2.1.take r675.1), (z660, ())), ()))))
  else none)
  else (F47_0 n a639 false (IntKind.wrap .i64 (((a639.size) : Int) - (1 : Int))) [] (fun z680 z681 =>
  (andThen (F50 n z681) fun r682 =>
  some (((r682.2.1.take r682.1), (z680, ())), ())))))
noncomputable def F47e (n : Nat) : Ent G := ⟨47, (.cons .str .nil), [], (.tup (.cons (.imm 0) (.cons .bool .nil))), [], fun x y => F47 n x.1⟩
theorem F47_eq (n : Nat) (x : ShL.den G (.cons .str .nil)) (y : denO G []) : (F47e n).F x y = runFn prog G (ro G (tabOf (E25 n)) (frOf [F47_0z n]) _) Go.Proofs.Try.f47 (.nd .no (.nd .no (.nd .no (.nd (.nd .no (.nd (.use 0) .no)) .no)))) [(0, .fz), (1, .fz)] (ShL.enc G (.cons .str .nil) x) (encO G [] y) (decR (.tup (.cons (.imm 0) (.cons .bool .nil))) []) := by kernel_rfl
theorem F47_ok (n : Nat) : EntOK prog G (F47e n) :=
  ent_ok (fr := frOf [F47_0z n]) (ann := (.nd .no (.nd .no (.nd .no (.nd (.nd .no (.nd (.use 0) .no)) .no))))) (frm := [(0, .fz), (1, .fz)]) laws fnok (E25_ok n).tab (e := F47e n) (fn := Go.Proofs.Try.f47) (by kernel_rfl) (AllF.ofB (cd := F47c) (l := [(0, codeAt F47c [1, 1, 1, 0, 1, 0])]) (by kernel_rfl) (by kernel_rfl) (AllF.cons (F47_0_ok n) AllF.nil)) (F47_eq n)
noncomputable def E26 (n : Nat) : List (Ent G) := F47e n :: E25 n
theorem E26_ok (n : Nat) : AllE prog G (E26 n) := AllE.cons (F47_ok n) (E25_ok n)
-- 63 loop.example/slowworm/spec.plusDigits
noncomputable def F63c : Code := bodyOf Go.Proofs.Try.f63
noncomputable def F63_0x0 : SSh := ⟨56, [(0, (.imm 0)), (1, (.imm 0)), (5, (.own 0)), (7, (.int .i64)), (8, (.int .i64))], [(.arr 0 true)]⟩
noncomputable def F63_0s : SSh := ⟨56, [(0, (.imm 0)), (1, (.imm 0)), (5, (.own 0)), (7, (.int .i64)), (8, (.int .i64))], [(.arr 0 true)]⟩
noncomputable def F63_0 {R : Type} (n : Nat) (x702 : List Int) (x703 : List Int) (x704 : Int) (x705 : Int) (x706 : List Int) (k0 : List Int → List Int → Int → Int → List Int → Option R) : Option R :=
  (bif (decide (x704 < ((x702.length) : Int))) then
  (bif (decide ((0 : Int) ≤ x704)) then
  (bif (decide (x704 < ((x702.length) : Int))) then
  (k0 x702 x703 x704 (IntKind.wrap .i64 (x705 + (x702.getD (x704.toNat) (0 : Int)))) x706)
  else none)
  else none)
  else (k0 x702 x703 x704 x705 x706))
noncomputable def F63_0z (n : Nat) : Sm G := inZ G 0 ⟨[0, 1, 5, 7, 8], []⟩ F63_0s fun R x K => F63_0 n x.1.1 x.1.2.1 x.1.2.2.2.1 x.1.2.2.2.2.1 x.2.1 (fun u0 u1 u2 u3 u4 => K .normal (SSh.enc G F63_0x0 ((u0, (u1, ((), (u2, (u3, ()))))), (u4, ()))))
theorem F63_0_eq (n : Nat) (R : Type) (x : SSh.den G F63_0s) (K : AE → St G → Option R) :
  F63_0 n x.1.1 x.1.2.1 x.1.2.2.2.1 x.1.2.2.2.2.1 x.2.1 (fun u0 u1 u2 u3 u4 => K .normal (SSh.enc G F63_0x0 ((u0, (u1, ((), (u2, (u3, ()))))), (u4, ())))) = exec prog G (ro G (tabOf (E26 n)) (frOf []) R) 0 (codeAt F63c [1, 1, 1, 0, 1, 0, 0, 1, 0, 0, 1, 0]) .no (SSh.enc G F63_0s x) (kNrm G (ro G (tabOf (E26 n)) (frOf []) R) 0 ⟨⟨[0, 1, 5, 7, 8], []⟩, ⟨[4], []⟩, [(1, ⟨[0, 1, 5, 6, 7], []⟩), (0, ⟨[5], []⟩)]⟩ K) := by kernel_rfl
theorem F63_0_ok (n : Nat) : FragOK prog G 0 (codeAt F63c [1, 1, 1, 0, 1, 0, 0, 1, 0, 0, 1, 0]) (F63_0z n) :=
  frag_plain laws fnok (E26_ok n).tab (AllF.of (l := []) (by kernel_rfl) AllF.nil) (F63_0_eq n)
noncomputable def F63_1x0 : SSh := ⟨56, [(0, (.imm 0)), (1, (.imm 0)), (5, (.own 0)), (7, (.int .i64)), (8, (.int .i64))], [(.arr 0 true)]⟩
noncomputable def F63_1s : SSh := ⟨56, [(0, (.imm 0)), (1, (.imm 0)), (5, (.own 0)), (7, (.int .i64)), (8, (.int .i64))], [(.arr 0 true)]⟩
noncomputable def F63_1 {R : Type} (n : Nat) (x717 : List Int) (x718 : List Int) (x719 : Int) (x720 : Int) (x721 : List Int) (k0 : List Int → List Int → Int → Int → List Int → Option R) : Option R :=
  (bif (decide (x719 < ((x718.length) : Int))) then
  (bif (decide ((0 : Int) ≤ x719)) then
  (bif (decide (x719 < ((x718.length) : Int))) then
  (k0 x717 x718 x719 (IntKind.wrap .i64 (x720 + (x718.getD (x719.toNat) (0 : Int)))) x721)
  else none)
  else none)
  else (k0 x717 x718 x719 x720 x721))
noncomputable def F63_1z (n : Nat) : Sm G := inZ G 0 ⟨[0, 1, 5, 7, 8], []⟩ F63_1s fun R x K => F63_1 n x.1.1 x.1.2.1 x.1.2.2.2.1 x.1.2.2.2.2.1 x.2.1 (fun u0 u1 u2 u3 u4 => K .normal (SSh.enc G F63_1x0 ((u0, (u1, ((), (u2, (u3, ()))))), (u4, ()))))
theorem F63_1_eq (n : Nat) (R : Type) (x : SSh.den G F63_1s) (K : AE → St G → Option R) :
  F63_1 n x.1.1 x.1.2.1 x.1.2.2.2.1 x.1.2.2.2.2.1 x.2.1 (fun u0 u1 u2 u3 u4 => K .normal (SSh.enc G F63_1x0 ((u0, (u1, ((), (u2, (u3, ()))))), (u4, ())))) = exec prog G (ro G (tabOf (E26 n)) (frOf [F63_0z n]) R) 0 (codeAt F63c [1, 1, 1, 0, 1, 0, 0, 1, 0, 0, 1, 1, 0]) .no (SSh.enc G F63_1s x) (kNrm G (ro G (tabOf (E26 n)) (frOf [F63_0z n]) R) 0 ⟨⟨[0, 1, 5, 7, 8], []⟩, ⟨[4], []⟩, [(1, ⟨[0, 1, 5, 6, 7], []⟩), (0, ⟨[5], []⟩)]⟩ K) := by kernel_rfl
theorem F63_1_ok (n : Nat) : FragOK prog G 0 (codeAt F63c [1, 1, 1, 0, 1, 0, 0, 1, 0, 0, 1, 1, 0]) (F63_1z n) :=
  frag_plain laws fnok (E26_ok n).tab (AllF.of (l := []) (by kernel_rfl) AllF.nil) (F63_1_eq n)
noncomputable def F63_2x0 : SSh := ⟨56, [(0, (.imm 0)), (1, (.imm 0)), (5, (.own 0)), (6, (.int .i64)), (7, (.int .i64))], [(.arr 0 true)]⟩
noncomputable def F63_2s : SSh := ⟨56, [(0, (.imm 0)), (1, (.imm 0)), (5, (.own 0)), (6, (.int .i64)), (7, (.int .i64))], [(.arr 0 true)]⟩
noncomputable def F63_2 {R : Type} (n : Nat) (x697 : List Int) (x698 : List Int) (x699 : Int) (x700 : Int) (x701 : List Int) (k0 : List Int → List Int → Int → Int → List Int → Option R) : Option R :=
  (F63_0 n x697 x698 x700 x699 x701 (fun z712 z713 z714 z715 z716 =>
  (F63_1 n z712 z713 z714 z715 z716 (fun z727 z728 z729 z730 z731 =>
  let v733 := ((z730.tmod (10 : Int)) :: [])
  (bif (decide (((z731.length) + (v733.length)) ≤ (68719476736 : Nat))) then
  (k0 z727 z728 (IntKind.wrap .i64 (z730.tdiv (10 : Int))) z729 (z731 ++ v733))
  else none)))))
noncomputable def F63_2z (n : Nat) : Sm G := inZ G 0 ⟨[0, 1, 5, 6, 7], []⟩ F63_2s fun R x K => F63_2 n x.1.1 x.1.2.1 x.1.2.2.2.1 x.1.2.2.2.2.1 x.2.1 (fun u0 u1 u2 u3 u4 => K .normal (SSh.enc G F63_2x0 ((u0, (u1, ((), (u2, (u3, ()))))), (u4, ()))))
theorem F63_2_eq (n : Nat) (R : Type) (x : SSh.den G F63_2s) (K : AE → St G → Option R) :
  F63_2 n x.1.1 x.1.2.1 x.1.2.2.2.1 x.1.2.2.2.2.1 x.2.1 (fun u0 u1 u2 u3 u4 => K .normal (SSh.enc G F63_2x0 ((u0, (u1, ((), (u2, (u3, ()))))), (u4, ())))) = exec prog G (ro G (tabOf (E26 n)) (frOf [F63_0z n, F63_1z n]) R) 0 (codeAt F63c [1, 1, 1, 0, 1, 0, 0, 1, 0]) (.nd (.nd .no (.nd (.use 0) (.nd (.use 1) .no))) .no) (SSh.enc G F63_2s x) (kNrm G (ro G (tabOf (E26 n)) (frOf [F63_0z n, F63_1z n]) R) 0 ⟨⟨[0, 1, 5, 6, 7], []⟩, ⟨[4], []⟩, [(0, ⟨[5], []⟩)]⟩ K) := by kernel_rfl
theorem F63_2_ok (n : Nat) : FragOK prog G 0 (codeAt F63c [1, 1, 1, 0, 1, 0, 0, 1, 0]) (F63_2z n) :=
  frag_plain laws fnok (E26_ok n).tab (AllF.of (l := [(0, codeAt F63c [1, 1, 1, 0, 1, 0, 0, 1, 0, 0, 1, 0]), (1, codeAt F63c [1, 1, 1, 0, 1, 0, 0, 1, 0, 0, 1, 1, 0])]) (by kernel_rfl) (AllF.cons (F63_0_ok n) (AllF.cons (F63_1_ok n) AllF.nil))) (F63_2_eq n)
noncomputable def F63_3x0 : SSh := ⟨56, [(5, (.own 0))], [(.arr 0 true)]⟩
noncomputable def F63_3s : SSh := ⟨56, [(0, (.imm 0)), (1, (.imm 0)), (5, (.own 0)), (6, (.int .i64)), (7, (.int .i64))], [(.arr 0 true)]⟩
noncomputable def F63_3_step {R : Type} (n : Nat) (k0 : List Int → Option R) (rec : List Int → List Int → Int → Int → List Int → Option R) (x690 : List Int) (x691 : List Int) (x692 : Int) (x693 : Int) (x694 : List Int) : Option R :=
  (bif (decide (x693 < ((x690.length) : Int))) then
  (F63_2 n x690 x691 x692 x693 x694 (fun z736 z737 z738 z739 z740 =>
  (rec z736 z737 z738 (IntKind.wrap .i64 (z739 + (1 : Int))) z740)))
  else (bif (decide (x693 < ((x691.length) : Int))) then
  (F63_2 n x690 x691 x692 x693 x694 (fun z744 z745 z746 z747 z748 =>
  (rec z744 z745 z746 (IntKind.wrap .i64 (z747 + (1 : Int))) z748)))
  else (bif (decide (x692 > (0 : Int))) then
  (F63_2 n x690 x691 x692 x693 x694 (fun z751 z752 z753 z754 z755 =>
  (rec z751 z752 z753 (IntKind.wrap .i64 (z754 + (1 : Int))) z755)))
  else (k0 x694))))
noncomputable def F63_3_it {R : Type} (n : Nat) (k0 : List Int → Option R) : Nat → List Int → List Int → Int → Int → List Int → Option R
  | 0, _, _, _, _, _ => none
  | k + 1, x690, x691, x692, x693, x694 => F63_3_step n k0 (F63_3_it n k0 k) x690 x691 x692 x693 x694
noncomputable def F63_3 {R : Type} (n : Nat) (x690 : List Int) (x691 : List Int) (x692 : Int) (x693 : Int) (x694 : List Int) (k0 : List Int → Option R) : Option R := F63_3_it n k0 n x690 x691 x692 x693 x694
noncomputable def F63_3z (n : Nat) : Sm G := inZ G 0 ⟨[0, 1, 5, 6, 7], []⟩ F63_3s fun R x K => F63_3_it n (fun u0 => K (.exit 0) (SSh.enc G F63_3x0 (((), ()), (u0, ())))) n x.1.1 x.1.2.1 x.1.2.2.2.1 x.1.2.2.2.2.1 x.2.1
theorem F63_3_eq (n : Nat) (R : Type) (rec : SSh.den G F63_3s → Option R) (x : SSh.den G F63_3s) (K : AE → St G → Option R) :
  F63_3_step n (fun u0 => K (.exit 0) (SSh.enc G F63_3x0 (((), ()), (u0, ())))) (fun x690 x691 x692 x693 x694 => rec ((x690, (x691, ((), (x692, (x693, ()))))), (x694, ()))) x.1.1 x.1.2.1 x.1.2.2.2.1 x.1.2.2.2.2.1 x.2.1 = exec prog G (ro G (tabOf (E26 n)) (frOf [F63_0z n, F63_1z n, F63_2z n]) R) 0 (codeAt F63c [1, 1, 1, 0, 1, 0, 0]) (.nd .no (.nd (.use 2) .no)) (SSh.enc G F63_3s x) (kLoop G (ro G (tabOf (E26 n)) (frOf [F63_0z n, F63_1z n, F63_2z n]) R) 0 ⟨[0, 1, 5, 6, 7], []⟩ F63_3s ⟨⟨[5], []⟩, ⟨[4], []⟩, [(0, ⟨[5], []⟩)]⟩ rec K) := by kernel_rfl
theorem F63_3_ok (n : Nat) : FragOK prog G 0 (codeAt F63c [1, 1, 1, 0, 1, 0]) (F63_3z n) :=
  frag_loop (Z := fun R k (x : SSh.den G F63_3s) K => F63_3_it n (fun u0 => K (.exit 0) (SSh.enc G F63_3x0 (((), ()), (u0, ())))) k x.1.1 x.1.2.1 x.1.2.2.2.1 x.1.2.2.2.2.1 x.2.1) laws fnok (E26_ok n).tab (AllF.of (l := [(2, codeAt F63c [1, 1, 1, 0, 1, 0, 0, 1, 0])]) (by kernel_rfl) (AllF.cons (F63_2_ok n) AllF.nil)) (fun _ _ _ => rfl) (fun R k y K => F63_3_eq n R (fun (x : SSh.den G F63_3s) => F63_3_it n (fun u0 => K (.exit 0) (SSh.enc G F63_3x0 (((), ()), (u0, ())))) k x.1.1 x.1.2.1 x.1.2.2.2.1 x.1.2.2.2.2.1 x.2.1) y K) n
noncomputable def F63 (n : Nat) (a687 : List Int) (a688 : List Int) : Option (List Int × Unit) :=
  (F63_3 n a687 a688 (0 : Int) (0 : Int) [] (fun z757 =>
  (andThen (F50 n z757) fun r758 =>
  some ((r758.2.1.take r758.1), ()))))
noncomputable def F63e (n : Nat) : Ent G := ⟨63, (.cons (.imm 0) (.cons (.imm 0) .nil)), [], (.imm 0), [], fun x y => F63 n x.1 x.2.1⟩
theorem F63_eq (n : Nat) (x : ShL.den G (.cons (.imm 0) (.cons (.imm 0) .nil))) (y : denO G []) : (F63e n).F x y = runFn prog G (ro G (tabOf (E26 n)) (frOf [F63_0z n, F63_1z n, F63_2z n, F63_3z n]) _) Go.Proofs.Try.f63 (.nd .no (.nd .no (.nd .no (.nd (.nd .no (.nd (.use 3) .no)) .no)))) [(0, .fz)] (ShL.enc G (.cons (.imm 0) (.cons (.imm 0) .nil)) x) (encO G [] y) (decR (.imm 0) []) := by kernel_rfl
theorem F63_ok (n : Nat) : EntOK prog G (F63e n) :=
  ent_ok (fr := frOf [F63_0z n, F63_1z n, F63_2z n, F63_3z n]) (ann := (.nd .no (.nd .no (.nd .no (.nd (.nd .no (.nd (.use 3) .no)) .no))))) (frm := [(0, .fz)]) laws fnok (E26_ok n).tab (e := F63e n) (fn := Go.Proofs.Try.f63) (by kernel_rfl) (AllF.ofB (cd := F63c) (l := [(3, codeAt F63c [1, 1, 1, 0, 1, 0])]) (by kernel_rfl) (by kernel_rfl) (AllF.cons (F63_3_ok n) AllF.nil)) (F63_eq n)
noncomputable def E27 (n : Nat) : List (Ent G) := F63e n :: E26 n
theorem E27_ok (n : Nat) : AllE prog G (E27 n) := AllE.cons (F63_ok n) (E26_ok n)
-- 62 loop.example/slowworm/spec.fitting
noncomputable def F62c : Code := bodyOf Go.Proofs.Try.f62
-- 50 loop.example/slowworm/spec.trimmed
noncomputable def F50v1c : Code := bodyOf Go.Proofs.Try.f50
noncomputable def F50v1_0x0 : SSh := ⟨21, [(0, (.imm 0)), (3, (.int .i64))], []⟩
noncomputable def F50v1_0s : SSh := ⟨21, [(0, (.imm 0)), (3, (.int .i64))], []⟩
noncomputable def F50v1_0_step {R : Type} (n : Nat) (k0 : List Int → Int → Option R) (rec : List Int → Int → Option R) (x765 : List Int) (x766 : Int) : Option R :=
  (bif (decide (x766 > (0 : Int))) then
  let v768 := (IntKind.wrap .i64 (x766 - (1 : Int)))
  (bif (decide ((0 : Int) ≤ v768)) then
  (bif (decide (v768 < ((x765.length) : Int))) then
  (bif ((x765.getD (v768.toNat) (0 : Int)) == (0 : Int)) then
  (rec x765 (IntKind.wrap .i64 (x766 - (1 : Int))))
  else (k0 x765 x766))
  else none)
  else none)
  else (k0 x765 x766))
noncomputable def F50v1_0_it {R : Type} (n : Nat) (k0 : List Int → Int → Option R) : Nat → List Int → Int → Option R
  | 0, _, _ => none
  | k + 1, x765, x766 => F50v1_0_step n k0 (F50v1_0_it n k0 k) x765 x766
noncomputable def F50v1_0 {R : Type} (n : Nat) (x765 : List Int) (x766 : Int) (k0 : List Int → Int → Option R) : Option R := F50v1_0_it n k0 n x765 x766
noncomputable def F50v1_0z (n : Nat) : Sm G := inZ G 0 ⟨[0, 3], []⟩ F50v1_0s fun R x K => F50v1_0_it n (fun u0 u1 => K (.exit 0) (SSh.enc G F50v1_0x0 ((u0, (u1, ())), ()))) n x.1.1 x.1.2.1
theorem F50v1_0_eq (n : Nat) (R : Type) (rec : SSh.den G F50v1_0s → Option R) (x : SSh.den G F50v1_0s) (K : AE → St G → Option R) :
  F50v1_0_step n (fun u0 u1 => K (.exit 0) (SSh.enc G F50v1_0x0 ((u0, (u1, ())), ()))) (fun x765 x766 => rec ((x765, (x766, ())), ())) x.1.1 x.1.2.1 = exec prog G (ro G (tabOf (E27 n)) (frOf []) R) 0 (codeAt F50v1c [1, 1, 0, 0, 0]) .no (SSh.enc G F50v1_0s x) (kLoop G (ro G (tabOf (E27 n)) (frOf []) R) 0 ⟨[0, 3], []⟩ F50v1_0s ⟨⟨[0, 3], []⟩, ⟨[2], []⟩, [(0, ⟨[0, 3], []⟩)]⟩ rec K) := by kernel_rfl
theorem F50v1_0_ok (n : Nat) : FragOK prog G 0 (codeAt F50v1c [1, 1, 0, 0]) (F50v1_0z n) :=
  frag_loop (Z := fun R k (x : SSh.den G F50v1_0s) K => F50v1_0_it n (fun u0 u1 => K (.exit 0) (SSh.enc G F50v1_0x0 ((u0, (u1, ())), ()))) k x.1.1 x.1.2.1) laws fnok (E27_ok n).tab (AllF.of (l := []) (by kernel_rfl) AllF.nil) (fun _ _ _ => rfl) (fun R k y K => F50v1_0_eq n R (fun (x : SSh.den G F50v1_0s) => F50v1_0_it n (fun u0 u1 => K (.exit 0) (SSh.enc G F50v1_0x0 ((u0, (u1, ())), ()))) k x.1.1 x.1.2.1) y K) n
noncomputable def F50v1 (n : Nat) (a763 : List Int) : Option (List Int × Unit) :=
  (F50v1_0 n a763 ((a763.length) : Int) (fun z773 z774 =>
  (bif (decide ((0 : Int) ≤ z774)) then
  (bif (decide (z774 ≤ ((z773.length) : Int))) then
  some (((z773.take (z774.toNat)).drop (0 : Nat)), ())
  else none)
  else none)))
noncomputable def F50v1e (n : Nat) : Ent G := ⟨50, (.cons (.imm 0) .nil), [], (.imm 0), [], fun x y => F50v1 n x.1⟩
theorem F50v1_eq (n : Nat) (x : ShL.den G (.cons (.imm 0) .nil)) (y : denO G []) : (F50v1e n).F x y = runFn prog G (ro G (tabOf (E27 n)) (frOf [F50v1_0z n]) _) Go.Proofs.Try.f50 (.nd .no (.nd .no (.nd (.nd (.use 0) .no) .no))) [] (ShL.enc G (.cons (.imm 0) .nil) x) (encO G [] y) (decR (.imm 0) []) := by kernel_rfl
theorem F50v1_ok (n : Nat) : EntOK prog G (F50v1e n) :=
  ent_ok (fr := frOf [F50v1_0z n]) (ann := (.nd .no (.nd .no (.nd (.nd (.use 0) .no) .no)))) (frm := []) laws fnok (E27_ok n).tab (e := F50v1e n) (fn := Go.Proofs.Try.f50) (by kernel_rfl) (AllF.ofB (cd := F50v1c) (l := [(0, codeAt F50v1c [1, 1, 0, 0])]) (by kernel_rfl) (by kernel_rfl) (AllF.cons (F50v1_0_ok n) AllF.nil)) (F50v1_eq n)
noncomputable def E28 (n : Nat) : List (Ent G) := F50v1e n :: E27 n
theorem E28_ok (n : Nat) : AllE prog G (E28 n) := AllE.cons (F50v1_ok n) (E27_ok n)
-- 51 loop.example/slowworm/spec.integer
noncomputable def F51c : Code := bodyOf Go.Proofs.Try.f51
noncomputable def F51_0x0 : SSh := ⟨32, [(1, .bool), (5, .str)], []⟩
noncomputable def F51_0s : SSh := ⟨32, [(0, (.imm 0)), (1, .bool), (5, .str), (6, (.int .i64))], []⟩
noncomputable def F51_0_step {R : Type} (n : Nat) (k0 : Bool → ByteArray → Option R) (rec : List Int → Bool → ByteArray → Int → Option R) (x784 : List Int) (x785 : Bool) (x786 : ByteArray) (x787 : Int) : Option R :=
  (bif (decide (x787 < ((x784.length) : Int))) then
  (bif (decide ((0 : Int) ≤ x787)) then
  (bif (decide (x787 < ((x784.length) : Int))) then
  let v795 := (bytesOfInts (List.map (fun y796 => y796) ((IntKind.wrap .u8 (IntKind.wrap .i64 ((48 : Int) + (x784.getD (x787.toNat) (0 : Int))))) :: [])))
  (bif (decide (((v795.size) + (x786.size)) ≤ (68719476736 : Nat))) then
  (rec x784 x785 (v795 ++ x786) (IntKind.wrap .i64 (x787 + (1 : Int))))
  else none)
  else none)
  else none)
  else (k0 x785 x786))
noncomputable def F51_0_it {R : Type} (n : Nat) (k0 : Bool → ByteArray → Option R) : Nat → List Int → Bool → ByteArray → Int → Option R
  | 0, _, _, _, _ => none
  | k + 1, x784, x785, x786, x787 => F51_0_step n k0 (F51_0_it n k0 k) x784 x785 x786 x787
noncomputable def F51_0 {R : Type} (n : Nat) (x784 : List Int) (x785 : Bool) (x786 : ByteArray) (x787 : Int) (k0 : Bool → ByteArray → Option R) : Option R := F51_0_it n k0 n x784 x785 x786 x787
noncomputable def F51_0z (n : Nat) : Sm G := inZ G 0 ⟨[0, 1, 5, 6], []⟩ F51_0s fun R x K => F51_0_it n (fun u0 u1 => K (.exit 0) (SSh.enc G F51_0x0 ((u0, (u1, ())), ()))) n x.1.1 x.1.2.1 x.1.2.2.1 x.1.2.2.2.1
theorem F51_0_eq (n : Nat) (R : Type) (rec : SSh.den G F51_0s → Option R) (x : SSh.den G F51_0s) (K : AE → St G → Option R) :
  F51_0_step n (fun u0 u1 => K (.exit 0) (SSh.enc G F51_0x0 ((u0, (u1, ())), ()))) (fun x784 x785 x786 x787 => rec ((x784, (x785, (x786, (x787, ())))), ())) x.1.1 x.1.2.1 x.1.2.2.1 x.1.2.2.2.1 = exec prog G (ro G (tabOf (E28 n)) (frOf []) R) 0 (codeAt F51c [1, 1, 1, 1, 0, 1, 0, 0]) .no (SSh.enc G F51_0s x) (kLoop G (ro G (tabOf (E28 n)) (frOf []) R) 0 ⟨[0, 1, 5, 6], []⟩ F51_0s ⟨⟨[1, 5], []⟩, ⟨[4], []⟩, [(0, ⟨[1, 5], []⟩)]⟩ rec K) := by kernel_rfl
theorem F51_0_ok (n : Nat) : FragOK prog G 0 (codeAt F51c [1, 1, 1, 1, 0, 1, 0]) (F51_0z n) :=
  frag_loop (Z := fun R k (x : SSh.den G F51_0s) K => F51_0_it n (fun u0 u1 => K (.exit 0) (SSh.enc G F51_0x0 ((u0, (u1, ())), ()))) k x.1.1 x.1.2.1 x.1.2.2.1 x.1.2.2.2.1) laws fnok (E28_ok n).tab (AllF.of (l := []) (by kernel_rfl) AllF.nil) (fun _ _ _ => rfl) (fun R k y K => F51_0_eq n R (fun (x : SSh.den G F51_0s) => F51_0_it n (fun u0 u1 => K (.exit 0) (SSh.enc G F51_0x0 ((u0, (u1, ())), ()))) k x.1.1 x.1.2.1 x.1.2.2.1 x.1.2.2.2.1) y K) n
noncomputable def F51 (n : Nat) (a779 : List Int) (a780 : Bool) : Option (ByteArray × Unit) :=
  (andThen (F50v1 n a779) fun r781 =>
  (bif (((r781.1.length) : Int) == (0 : Int)) then
  some (({ data := #[48] } : ByteArray), ())
  else (F51_0 n r781.1 a780 ({ data := #[] } : ByteArray) (0 : Int) (fun z799 z800 =>
  (bif z799 then
  (bif (decide (((1 : Nat) + (z800.size)) ≤ (68719476736 : Nat))) then
  some ((({ data := #[45] } : ByteArray) ++ z800), ())
  else none)
  else some (z800, ()))))))
noncomputable def F51e (n : Nat) : Ent G := ⟨51, (.cons (.imm 0) (.cons .bool .nil)), [], .str, [], fun x y => F51 n x.1 x.2.1⟩
theorem F51_eq (n : Nat) (x : ShL.den G (.cons (.imm 0) (.cons .bool .nil))) (y : denO G []) : (F51e n).F x y = runFn prog G (ro G (tabOf (E28 n)) (frOf [F51_0z n]) _) Go.Proofs.Try.f51 (.nd .no (.nd .no (.nd .no (.nd .no (.nd (.nd .no (.nd (.use 0) .no)) .no))))) [(0, .fz)] (ShL.enc G (.cons (.imm 0) (.cons .bool .nil)) x) (encO G [] y) (decR .str []) := by kernel_rfl
theorem F51_ok (n : Nat) : EntOK prog G (F51e n) :=
  ent_ok (fr := frOf [F51_0z n]) (ann := (.nd .no (.nd .no (.nd .no (.nd .no (.nd (.nd .no (.nd (.use 0) .no)) .no)))))) (frm := [(0, .fz)]) laws fnok (E28_ok n).tab (e := F51e n) (fn := Go.Proofs.Try.f51) (by kernel_rfl) (AllF.ofB (cd := F51c) (l := [(0, codeAt F51c [1, 1, 1, 1, 0, 1, 0])]) (by kernel_rfl) (by kernel_rfl) (AllF.cons (F51_0_ok n) AllF.nil)) (F51_eq n)
noncomputable def E29 (n : Nat) : List (Ent G) := F51e n :: E28 n
theorem E29_ok (n : Nat) : AllE prog G (E29 n) := AllE.cons (F51_ok n) (E28_ok n)
noncomputable def F62 (n : Nat) (a761 : List Int) (a762 : Bool) : Option ((ByteArray × (Bool × Unit)) × Unit) :=
  (andThen (F50v1 n a761) fun r776 =>
  (bif (decide (((r776.1.length) : Int) > (40 : Int))) then
  some ((({ data := #[] } : ByteArray), (false, ())), ())
  else (andThen (F51 n a761 a762) fun r802 =>
  some ((r802.1, (true, ())), ()))))
noncomputable def F62e (n : Nat) : Ent G := ⟨62, (.cons (.imm 0) (.cons .bool .nil)), [], (.tup (.cons .str (.cons .bool .nil))), [], fun x y => F62 n x.1 x.2.1⟩
theorem F62_eq (n : Nat) (x : ShL.den G (.cons (.imm 0) (.cons .bool .nil))) (y : denO G []) : (F62e n).F x y = runFn prog G (ro G (tabOf (E29 n)) (frOf []) _) Go.Proofs.Try.f62 .no [(0, .fz), (1, .fz)] (ShL.enc G (.cons (.imm 0) (.cons .bool .nil)) x) (encO G [] y) (decR (.tup (.cons .str (.cons .bool .nil))) []) := by kernel_rfl
theorem F62_ok (n : Nat) : EntOK prog G (F62e n) :=
  ent_ok (fr := frOf []) (ann := .no) (frm := [(0, .fz), (1, .fz)]) laws fnok (E29_ok n).tab (e := F62e n) (fn := Go.Proofs.Try.f62) (by kernel_rfl) (AllF.ofB (cd := F62c) (l := []) (by kernel_rfl) (by kernel_rfl) AllF.nil) (F62_eq n)
noncomputable def E30 (n : Nat) : List (Ent G) := F62e n :: E29 n
theorem E30_ok (n : Nat) : AllE prog G (E30 n) := AllE.cons (F62_ok n) (E29_ok n)
-- 48 loop.example/slowworm/spec.compareDigits
noncomputable def F48c : Code := bodyOf Go.Proofs.Try.f48
noncomputable def F48_0x0 : SSh := ⟨41, [(4, (.int .i64))], []⟩
noncomputable def F48_0x1 : SSh := ⟨41, [], []⟩
noncomputable def F48_0s : SSh := ⟨41, [(0, (.imm 0)), (1, (.imm 0)), (5, (.int .i64))], []⟩
noncomputable def F48_0_step {R : Type} (n : Nat) (k0 : Int → Option R) (k1 : Option R) (rec : List Int → List Int → Int → Option R) (x814 : List Int) (x815 : List Int) (x816 : Int) : Option R :=
  (bif (decide (x816 ≥ (0 : Int))) then
  (bif (decide ((0 : Int) ≤ x816)) then
  (bif (decide (x816 < ((x814.length) : Int))) then
  (bif (decide ((0 : Int) ≤ x816)) then
  (bif (decide (x816 < ((x815.length) : Int))) then
  (bif ((x814.getD (x816.toNat) (0 : Int)) != (x815.getD (x816.toNat) (0 : Int))) then
  (bif (decide ((0 : Int) ≤ x816)) then
  (bif (decide (x816 < ((x814.length) : Int))) then
  (bif (decide ((0 : Int) ≤ x816)) then
  (bif (decide (x816 < ((x815.length) : Int))) then
  (bif (decide ((x814.getD (x816.toNat) (0 : Int)) < (x815.getD (x816.toNat) (0 : Int)))) then
  (k0 (-1 : Int))
  else (k0 (1 : Int)))
  else none)
  else none)
  else none)
  else none)
  else (rec x814 x815 (IntKind.wrap .i64 (x816 - (1 : Int)))))
  else none)
  else none)
  else none)
  else none)
  else k1)
noncomputable def F48_0_it {R : Type} (n : Nat) (k0 : Int → Option R) (k1 : Option R) : Nat → List Int → List Int → Int → Option R
  | 0, _, _, _ => none
  | k + 1, x814, x815, x816 => F48_0_step n k0 k1 (F48_0_it n k0 k1 k) x814 x815 x816
noncomputable def F48_0 {R : Type} (n : Nat) (x814 : List Int) (x815 : List Int) (x816 : Int) (k0 : Int → Option R) (k1 : Option R) : Option R := F48_0_it n k0 k1 n x814 x815 x816
noncomputable def F48_0z (n : Nat) : Sm G := inZ G 0 ⟨[0, 1, 5], []⟩ F48_0s fun R x K => F48_0_it n (fun u0 => K .ret (SSh.enc G F48_0x0 ((u0, ()), ()))) (K (.exit 0) (SSh.enc G F48_0x1 ((), ()))) n x.1.1 x.1.2.1 x.1.2.2.1
theorem F48_0_eq (n : Nat) (R : Type) (rec : SSh.den G F48_0s → Option R) (x : SSh.den G F48_0s) (K : AE → St G → Option R) :
  F48_0_step n (fun u0 => K .ret (SSh.enc G F48_0x0 ((u0, ()), ()))) (K (.exit 0) (SSh.enc G F48_0x1 ((), ()))) (fun x814 x815 x816 => rec ((x814, (x815, (x816, ()))), ())) x.1.1 x.1.2.1 x.1.2.2.1 = exec prog G (ro G (tabOf (E30 n)) (frOf []) R) 0 (codeAt F48c [1, 1, 0, 1, 0, 0]) .no (SSh.enc G F48_0s x) (kLoop G (ro G (tabOf (E30 n)) (frOf []) R) 0 ⟨[0, 1, 5], []⟩ F48_0s ⟨⟨[], []⟩, ⟨[4], []⟩, [(0, ⟨[], []⟩)]⟩ rec K) := by kernel_rfl
theorem F48_0_ok (n : Nat) : FragOK prog G 0 (codeAt F48c [1, 1, 0, 1, 0]) (F48_0z n) :=
  frag_loop (Z := fun R k (x : SSh.den G F48_0s) K => F48_0_it n (fun u0 => K .ret (SSh.enc G F48_0x0 ((u0, ()), ()))) (K (.exit 0) (SSh.enc G F48_0x1 ((), ()))) k x.1.1 x.1.2.1 x.1.2.2.1) laws fnok (E30_ok n).tab (AllF.of (l := []) (by kernel_rfl) AllF.nil) (fun _ _ _ => rfl) (fun R k y K => F48_0_eq n R (fun (x : SSh.den G F48_0s) => F48_0_it n (fun u0 => K .ret (SSh.enc G F48_0x0 ((u0, ()), ()))) (K (.exit 0) (SSh.enc G F48_0x1 ((), ()))) k x.1.1 x.1.2.1 x.1.2.2.1) y K) n
noncomputable def F48 (n : Nat) (a804 : List Int) (a805 : List Int) : Option (Int × Unit) :=
  (bif (((a804.length) : Int) != ((a805.length) : Int)) then
  (bif (decide (((a804.length) : Int) < ((a805.length) : Int))) then
  some ((-1 : Int), ())
  else some ((1 : Int), ()))
  else (F48_0 n a804 a805 (IntKind.wrap .i64 (((a804.length) : Int) - (1 : Int))) (fun z829 =>
  some (z829, ())) (
  some ((0 : Int), ()))))
noncomputable def F48e (n : Nat) : Ent G := ⟨48, (.cons (.imm 0) (.cons (.imm 0) .nil)), [], (.int .i64), [], fun x y => F48 n x.1 x.2.1⟩
theorem F48_eq (n : Nat) (x : ShL.den G (.cons (.imm 0) (.cons (.imm 0) .nil))) (y : denO G []) : (F48e n).F x y = runFn prog G (ro G (tabOf (E30 n)) (frOf [F48_0z n]) _) Go.Proofs.Try.f48 (.nd .no (.nd .no (.nd (.nd .no (.nd (.use 0) .no)) .no))) [(0, .fz)] (ShL.enc G (.cons (.imm 0) (.cons (.imm 0) .nil)) x) (encO G [] y) (decR (.int .i64) []) := by kernel_rfl
theorem F48_ok (n : Nat) : EntOK prog G (F48e n) :=
  ent_ok (fr := frOf [F48_0z n]) (ann := (.nd .no (.nd .no (.nd (.nd .no (.nd (.use 0) .no)) .no)))) (frm := [(0, .fz)]) laws fnok (E30_ok n).tab (e := F48e n) (fn := Go.Proofs.Try.f48) (by kernel_rfl) (AllF.ofB (cd := F48c) (l := [(0, codeAt F48c [1, 1, 0, 1, 0])]) (by kernel_rfl) (by kernel_rfl) (AllF.cons (F48_0_ok n) AllF.nil)) (F48_eq n)
noncomputable def E31 (n : Nat) : List (Ent G) := F48e n :: E30 n
theorem E31_ok (n : Nat) : AllE prog G (E31 n) := AllE.cons (F48_ok n) (E30_ok n)
-- 64 loop.example/slowworm/spec.lessDigits
noncomputable def F64c : Code := bodyOf Go.Proofs.Try.f64
noncomputable def F64_0x0 : SSh := ⟨42, [(0, (.imm 0)), (1, (.imm 0)), (5, (.own 0)), (7, (.int .i64)), (8, (.int .i64))], [(.arr 0 true)]⟩
noncomputable def F64_0s : SSh := ⟨42, [(0, (.imm 0)), (1, (.imm 0)), (5, (.own 0)), (7, (.int .i64)), (8, (.int .i64))], [(.arr 0 true)]⟩
noncomputable def F64_0 {R : Type} (n : Nat) (x850 : List Int) (x851 : List Int) (x852 : Int) (x853 : Int) (x854 : List Int) (k0 : List Int → List Int → Int → Int → List Int → Option R) : Option R :=
  (bif (decide (x852 < ((x851.length) : Int))) then
  (bif (decide ((0 : Int) ≤ x852)) then
  (bif (decide (x852 < ((x851.length) : Int))) then
  (k0 x850 x851 x852 (IntKind.wrap .i64 (x853 - (x851.getD (x852.toNat) (0 : Int)))) x854)
  else none)
  else none)
  else (k0 x850 x851 x852 x853 x854))
noncomputable def F64_0z (n : Nat) : Sm G := inZ G 0 ⟨[0, 1, 5, 7, 8], []⟩ F64_0s fun R x K => F64_0 n x.1.1 x.1.2.1 x.1.2.2.2.1 x.1.2.2.2.2.1 x.2.1 (fun u0 u1 u2 u3 u4 => K .normal (SSh.enc G F64_0x0 ((u0, (u1, ((), (u2, (u3, ()))))), (u4, ()))))
theorem F64_0_eq (n : Nat) (R : Type) (x : SSh.den G F64_0s) (K : AE → St G → Option R) :
  F64_0 n x.1.1 x.1.2.1 x.1.2.2.2.1 x.1.2.2.2.2.1 x.2.1 (fun u0 u1 u2 u3 u4 => K .normal (SSh.enc G F64_0x0 ((u0, (u1, ((), (u2, (u3, ()))))), (u4, ())))) = exec prog G (ro G (tabOf (E31 n)) (frOf []) R) 0 (codeAt F64c [1, 1, 1, 0, 1, 0, 0, 1, 0, 0, 1, 0]) .no (SSh.enc G F64_0s x) (kNrm G (ro G (tabOf (E31 n)) (frOf []) R) 0 ⟨⟨[0, 1, 5, 7, 8], []⟩, ⟨[4], []⟩, [(1, ⟨[0, 1, 5, 6, 7], []⟩), (0, ⟨[5], []⟩)]⟩ K) := by kernel_rfl
theorem F64_0_ok (n : Nat) : FragOK prog G 0 (codeAt F64c [1, 1, 1, 0, 1, 0, 0, 1, 0, 0, 1, 0]) (F64_0z n) :=
  frag_plain laws fnok (E31_ok n).tab (AllF.of (l := []) (by kernel_rfl) AllF.nil) (F64_0_eq n)
noncomputable def F64_1x0 : SSh := ⟨42, [(0, (.imm 0)), (1, (.imm 0)), (5, (.own 0)), (6, (.int .i64)), (7, (.int .i64)), (8, (.int .i64))], [(.arr 0 true)]⟩
noncomputable def F64_1s : SSh := ⟨42, [(0, (.imm 0)), (1, (.imm 0)), (5, (.own 0)), (6, (.int .i64)), (7, (.int .i64)), (8, (.int .i64))], [(.arr 0 true)]⟩
noncomputable def F64_1 {R : Type} (n : Nat) (x865 : List Int) (x866 : List Int) (x867 : Int) (x868 : Int) (x869 : Int) (x870 : List Int) (k0 : List Int → List Int → Int → Int → Int → List Int → Option R) : Option R :=
  (bif (decide (x869 < (0 : Int))) then
  (k0 x865 x866 (1 : Int) x868 (IntKind.wrap .i64 (x869 + (10 : Int))) x870)
  else (k0 x865 x866 x867 x868 x869 x870))
noncomputable def F64_1z (n : Nat) : Sm G := inZ G 0 ⟨[0, 1, 5, 6, 7, 8], []⟩ F64_1s fun R x K => F64_1 n x.1.1 x.1.2.1 x.1.2.2.2.1 x.1.2.2.2.2.1 x.1.2.2.2.2.2.1 x.2.1 (fun u0 u1 u2 u3 u4 u5 => K .normal (SSh.enc G F64_1x0 ((u0, (u1, ((), (u2, (u3, (u4, ())))))), (u5, ()))))
theorem F64_1_eq (n : Nat) (R : Type) (x : SSh.den G F64_1s) (K : AE → St G → Option R) :
  F64_1 n x.1.1 x.1.2.1 x.1.2.2.2.1 x.1.2.2.2.2.1 x.1.2.2.2.2.2.1 x.2.1 (fun u0 u1 u2 u3 u4 u5 => K .normal (SSh.enc G F64_1x0 ((u0, (u1, ((), (u2, (u3, (u4, ())))))), (u5, ())))) = exec prog G (ro G (tabOf (E31 n)) (frOf [F64_0z n]) R) 0 (codeAt F64c [1, 1, 1, 0, 1, 0, 0, 1, 0, 0, 1, 1, 1, 0]) .no (SSh.enc G F64_1s x) (kNrm G (ro G (tabOf (E31 n)) (frOf [F64_0z n]) R) 0 ⟨⟨[0, 1, 5, 6, 7, 8], []⟩, ⟨[4], []⟩, [(1, ⟨[0, 1, 5, 6, 7], []⟩), (0, ⟨[5], []⟩)]⟩ K) := by kernel_rfl
theorem F64_1_ok (n : Nat) : FragOK prog G 0 (codeAt F64c [1, 1, 1, 0, 1, 0, 0, 1, 0, 0, 1, 1, 1, 0]) (F64_1z n) :=
  frag_plain laws fnok (E31_ok n).tab (AllF.of (l := []) (by kernel_rfl) AllF.nil) (F64_1_eq n)
noncomputable def F64_2x0 : SSh := ⟨42, [(0, (.imm 0)), (1, (.imm 0)), (5, (.own 0)), (6, (.int .i64)), (7, (.int .i64))], [(.arr 0 true)]⟩
noncomputable def F64_2s : SSh := ⟨42, [(0, (.imm 0)), (1, (.imm 0)), (5, (.own 0)), (6, (.int .i64)), (7, (.int .i64))], [(.arr 0 true)]⟩
noncomputable def F64_2 {R : Type} (n : Nat) (x842 : List Int) (x843 : List Int) (x844 : Int) (x845 : Int) (x846 : List Int) (k0 : List Int → List Int → Int → Int → List Int → Option R) : Option R :=
  (bif (decide ((0 : Int) ≤ x845)) then
  (bif (decide (x845 < ((x842.length) : Int))) then
  (F64_0 n x842 x843 x845 (IntKind.wrap .i64 ((x842.getD (x845.toNat) (0 : Int)) - x844)) x846 (fun z860 z861 z862 z863 z864 =>
  (F64_1 n z860 z861 (0 : Int) z862 z863 z864 (fun z873 z874 z875 z876 z877 z878 =>
  let v879 := (z877 :: [])
  (bif (decide (((z878.length) + (v879.length)) ≤ (68719476736 : Nat))) then
  (k0 z873 z874 z875 z876 (z878 ++ v879))
  else none)))))
  else none)
  else none)
noncomputable def F64_2z (n : Nat) : Sm G := inZ G 0 ⟨[0, 1, 5, 6, 7], []⟩ F64_2s fun R x K => F64_2 n x.1.1 x.1.2.1 x.1.2.2.2.1 x.1.2.2.2.2.1 x.2.1 (fun u0 u1 u2 u3 u4 => K .normal (SSh.enc G F64_2x0 ((u0, (u1, ((), (u2, (u3, ()))))), (u4, ()))))
theorem F64_2_eq (n : Nat) (R : Type) (x : SSh.den G F64_2s) (K : AE → St G → Option R) :
  F64_2 n x.1.1 x.1.2.1 x.1.2.2.2.1 x.1.2.2.2.2.1 x.2.1 (fun u0 u1 u2 u3 u4 => K .normal (SSh.enc G F64_2x0 ((u0, (u1, ((), (u2, (u3, ()))))), (u4, ())))) = exec prog G (ro G (tabOf (E31 n)) (frOf [F64_0z n, F64_1z n]) R) 0 (codeAt F64c [1, 1, 1, 0, 1, 0, 0, 1, 0]) (.nd (.nd .no (.nd (.use 0) (.nd .no (.nd (.use 1) .no)))) .no) (SSh.enc G F64_2s x) (kNrm G (ro G (tabOf (E31 n)) (frOf [F64_0z n, F64_1z n]) R) 0 ⟨⟨[0, 1, 5, 6, 7], []⟩, ⟨[4], []⟩, [(0, ⟨[5], []⟩)]⟩ K) := by kernel_rfl
theorem F64_2_ok (n : Nat) : FragOK prog G 0 (codeAt F64c [1, 1, 1, 0, 1, 0, 0, 1, 0]) (F64_2z n) :=
  frag_plain laws fnok (E31_ok n).tab (AllF.of (l := [(0, codeAt F64c [1, 1, 1, 0, 1, 0, 0, 1, 0, 0, 1, 0]), (1, codeAt F64c [1, 1, 1, 0, 1, 0, 0, 1, 0, 0, 1, 1, 1, 0])]) (by kernel_rfl) (AllF.cons (F64_0_ok n) (AllF.cons (F64_1_ok n) AllF.nil))) (F64_2_eq n)
noncomputable def F64_3x0 : SSh := ⟨42, [(5, (.own 0))], [(.arr 0 true)]⟩
noncomputable def F64_3s : SSh := ⟨42, [(0, (.imm 0)), (1, (.imm 0)), (5, (.own 0)), (6, (.int .i64)), (7, (.int .i64))], [(.arr 0 true)]⟩
noncomputable def F64_3_step {R : Type} (n : Nat) (k0 : List Int → Option R) (rec : List Int → List Int → Int → Int → List Int → Option R) (x835 : List Int) (x836 : List Int) (x837 : Int) (x838 : Int) (x839 : List Int) : Option R :=
  (bif (decide (x838 < ((x835.length) : Int))) then
  (F64_2 n x835 x836 x837 x838 x839 (fun z881 z882 z883 z884 z885 =>
  (rec z881 z882 z883 (IntKind.wrap .i64 (z884 + (1 : Int))) z885)))
  else (k0 x839))
noncomputable def F64_3_it {R : Type} (n : Nat) (k0 : List Int → Option R) : Nat → List Int → List Int → Int → Int → List Int → Option R
  | 0, _, _, _, _, _ => none
  | k + 1, x835, x836, x837, x838, x839 => F64_3_step n k0 (F64_3_it n k0 k) x835 x836 x837 x838 x839
noncomputable def F64_3 {R : Type} (n : Nat) (x835 : List Int) (x836 : List Int) (x837 : Int) (x838 : Int) (x839 : List Int) (k0 : List Int → Option R) : Option R := F64_3_it n k0 n x835 x836 x837 x838 x839
noncomputable def F64_3z (n : Nat) : Sm G := inZ G 0 ⟨[0, 1, 5, 6, 7], []⟩ F64_3s fun R x K => F64_3_it n (fun u0 => K (.exit 0) (SSh.enc G F64_3x0 (((), ()), (u0, ())))) n x.1.1 x.1.2.1 x.1.2.2.2.1 x.1.2.2.2.2.1 x.2.1
theorem F64_3_eq (n : Nat) (R : Type) (rec : SSh.den G F64_3s → Option R) (x : SSh.den G F64_3s) (K : AE → St G → Option R) :
  F64_3_step n (fun u0 => K (.exit 0) (SSh.enc G F64_3x0 (((), ()), (u0, ())))) (fun x835 x836 x837 x838 x839 => rec ((x835, (x836, ((), (x837, (x838, ()))))), (x839, ()))) x.1.1 x.1.2.1 x.1.2.2.2.1 x.1.2.2.2.2.1 x.2.1 = exec prog G (ro G (tabOf (E31 n)) (frOf [F64_0z n, F64_1z n, F64_2z n]) R) 0 (codeAt F64c [1, 1, 1, 0, 1, 0, 0]) (.nd .no (.nd (.use 2) .no)) (SSh.enc G F64_3s x) (kLoop G (ro G (tabOf (E31 n)) (frOf [F64_0z n, F64_1z n, F64_2z n]) R) 0 ⟨[0, 1, 5, 6, 7], []⟩ F64_3s ⟨⟨[5], []⟩, ⟨[4], []⟩, [(0, ⟨[5], []⟩)]⟩ rec K) := by kernel_rfl
theorem F64_3_ok (n : Nat) : FragOK prog G 0 (codeAt F64c [1, 1, 1, 0, 1, 0]) (F64_3z n) :=
  frag_loop (Z := fun R k (x : SSh.den G F64_3s) K => F64_3_it n (fun u0 => K (.exit 0) (SSh.enc G F64_3x0 (((), ()), (u0, ())))) k x.1.1 x.1.2.1 x.1.2.2.2.1 x.1.2.2.2.2.1 x.2.1) laws fnok (E31_ok n).tab (AllF.of (l := [(2, codeAt F64c [1, 1, 1, 0, 1, 0, 0, 1, 0])]) (by kernel_rfl) (AllF.cons (F64_2_ok n) AllF.nil)) (fun _ _ _ => rfl) (fun R k y K => F64_3_eq n R (fun (x : SSh.den G F64_3s) => F64_3_it n (fun u0 => K (.exit 0) (SSh.enc G F64_3x0 (((), ()), (u0, ())))) k x.1.1 x.1.2.1 x.1.2.2.2.1 x.1.2.2.2.2.1 x.2.1) y K) n
noncomputable def F64 (n : Nat) (a832 : List Int) (a833 : List Int) : Option (List Int × Unit) :=
  (F64_3 n a832 a833 (0 : Int) (0 : Int) [] (fun z887 =>
  (andThen (F50 n z887) fun r888 =>
  some ((r888.2.1.take r888.1), ()))))
noncomputable def F64e (n : Nat) : Ent G := ⟨64, (.cons (.imm 0) (.cons (.imm 0) .nil)), [], (.imm 0), [], fun x y => F64 n x.1 x.2.1⟩
theorem F64_eq (n : Nat) (x : ShL.den G (.cons (.imm 0) (.cons (.imm 0) .nil))) (y : denO G []) : (F64e n).F x y = runFn prog G (ro G (tabOf (E31 n)) (frOf [F64_0z n, F64_1z n, F64_2z n, F64_3z n]) _) Go.Proofs.Try.f64 (.nd .no (.nd .no (.nd .no (.nd (.nd .no (.nd (.use 3) .no)) .no)))) [(0, .fz)] (ShL.enc G (.cons (.imm 0) (.cons (.imm 0) .nil)) x) (encO G [] y) (decR (.imm 0) []) := by kernel_rfl
theorem F64_ok (n : Nat) : EntOK prog G (F64e n) :=
  ent_ok (fr := frOf [F64_0z n, F64_1z n, F64_2z n, F64_3z n]) (ann := (.nd .no (.nd .no (.nd .no (.nd (.nd .no (.nd (.use 3) .no)) .no))))) (frm := [(0, .fz)]) laws fnok (E31_ok n).tab (e := F64e n) (fn := Go.Proofs.Try.f64) (by kernel_rfl) (AllF.ofB (cd := F64c) (l := [(3, codeAt F64c [1, 1, 1, 0, 1, 0])]) (by kernel_rfl) (by kernel_rfl) (AllF.cons (F64_3_ok n) AllF.nil)) (F64_eq n)
noncomputable def E32 (n : Nat) : List (Ent G) := F64e n :: E31 n
theorem E32_ok (n : Nat) : AllE prog G (E32 n) := AllE.cons (F64_ok n) (E31_ok n)
noncomputable def F37 (n : Nat) (a637 : ByteArray) (a638 : ByteArray) : Option ((ByteArray × (Bool × Unit)) × Unit) :=
  (andThen (F47 n a637) fun r684 =>
  (andThen (F47 n a638) fun r685 =>
  (bif (r684.1.2.1 == r685.1.2.1) then
  (andThen (F63 n r684.1.1 r685.1.1) fun r760 =>
  (andThen (F62 n r760.1 r684.1.2.1) fun r803 =>
  some ((r803.1.1, (r803.1.2.1, ())), ())))
  else (andThen (F48 n r684.1.1 r685.1.1) fun r830 =>
  (bif (decide (r830.1 < (0 : Int))) then
  (andThen (F64 n r685.1.1 r684.1.1) fun r890 =>
  (andThen (F62 n r890.1 r685.1.2.1) fun r891 =>
  some ((r891.1.1, (r891.1.2.1, ())), ())))
  else (andThen (F64 n r684.1.1 r685.1.1) fun r892 =>
  (andThen (F62 n r892.1 r684.1.2.1) fun r893 =>
  some ((r893.1.1, (r893.1.2.1, ())), ()))))))))
noncomputable def F37e (n : Nat) : Ent G := ⟨37, (.cons .str (.cons .str .nil)), [], (.tup (.cons .str (.cons .bool .nil))), [], fun x y => F37 n x.1 x.2.1⟩
theorem F37_eq (n : Nat) (x : ShL.den G (.cons .str (.cons .str .nil))) (y : denO G []) : (F37e n).F x y = runFn prog G (ro G (tabOf (E32 n)) (frOf []) _) Go.Proofs.Try.f37 .no [(0, .fz), (1, .fz)] (ShL.enc G (.cons .str (.cons .str .nil)) x) (encO G [] y) (decR (.tup (.cons .str (.cons .bool .nil))) []) := by kernel_rfl
theorem F37_ok (n : Nat) : EntOK prog G (F37e n) :=
  ent_ok (fr := frOf []) (ann := .no) (frm := [(0, .fz), (1, .fz)]) laws fnok (E32_ok n).tab (e := F37e n) (fn := Go.Proofs.Try.f37) (by kernel_rfl) (AllF.ofB (cd := F37c) (l := []) (by kernel_rfl) (by kernel_rfl) AllF.nil) (F37_eq n)
noncomputable def E33 (n : Nat) : List (Ent G) := F37e n :: E32 n
theorem E33_ok (n : Nat) : AllE prog G (E33 n) := AllE.cons (F37_ok n) (E32_ok n)
noncomputable def F12 (n : Nat) (a598 : ByteArray) (a599 : ByteArray) : Option ((ByteArray × (Bool × Unit)) × Unit) :=
  (andThen (F36 n a598) fun r633 =>
  (bif (!r633.1) then
  some ((({ data := #[] } : ByteArray), (false, ())), ())
  else (andThen (F36 n a599) fun r635 =>
  (bif (!r635.1) then
  some ((({ data := #[] } : ByteArray), (false, ())), ())
  else (andThen (F37 n a598 a599) fun r894 =>
  some ((r894.1.1, (r894.1.2.1, ())), ()))))))
noncomputable def F12e (n : Nat) : Ent G := ⟨12, (.cons .str (.cons .str .nil)), [], (.tup (.cons .str (.cons .bool .nil))), [], fun x y => F12 n x.1 x.2.1⟩
theorem F12_eq (n : Nat) (x : ShL.den G (.cons .str (.cons .str .nil))) (y : denO G []) : (F12e n).F x y = runFn prog G (ro G (tabOf (E33 n)) (frOf []) _) Go.Proofs.Try.f12 .no [(0, .fz), (1, .fz)] (ShL.enc G (.cons .str (.cons .str .nil)) x) (encO G [] y) (decR (.tup (.cons .str (.cons .bool .nil))) []) := by kernel_rfl
theorem F12_ok (n : Nat) : EntOK prog G (F12e n) :=
  ent_ok (fr := frOf []) (ann := .no) (frm := [(0, .fz), (1, .fz)]) laws fnok (E33_ok n).tab (e := F12e n) (fn := Go.Proofs.Try.f12) (by kernel_rfl) (AllF.ofB (cd := F12c) (l := []) (by kernel_rfl) (by kernel_rfl) AllF.nil) (F12_eq n)
noncomputable def E34 (n : Nat) : List (Ent G) := F12e n :: E33 n
theorem E34_ok (n : Nat) : AllE prog G (E34 n) := AllE.cons (F12_ok n) (E33_ok n)
-- 13 loop.example/slowworm/impl.IntSub
noncomputable def F13c : Code := bodyOf Go.Proofs.Try.f13
-- 38 (loop.example/slowworm/impl.number).minus
noncomputable def F38c : Code := bodyOf Go.Proofs.Try.f38
noncomputable def F38 (n : Nat) (a905 : Bool) (a906 : List Int) : Option ((Bool × (List Int × Unit)) × Unit) :=
  (andThen (F57 n (!a905) a906) fun r908 =>
  some ((r908.1.1, (r908.1.2.1, ())), ()))
noncomputable def F38e (n : Nat) : Ent G := ⟨38, (.cons (.agg (.cons .bool (.cons (.imm 0) .nil))) .nil), [], (.agg (.cons .bool (.cons (.imm 0) .nil))), [], fun x y => F38 n x.1.1 x.1.2.1⟩
theorem F38_eq (n : Nat) (x : ShL.den G (.cons (.agg (.cons .bool (.cons (.imm 0) .nil))) .nil)) (y : denO G []) : (F38e n).F x y = runFn prog G (ro G (tabOf (E34 n)) (frOf []) _) Go.Proofs.Try.f38 .no [(0, .fz)] (ShL.enc G (.cons (.agg (.cons .bool (.cons (.imm 0) .nil))) .nil) x) (encO G [] y) (decR (.agg (.cons .bool (.cons (.imm 0) .nil))) []) := by kernel_rfl
theorem F38_ok (n : Nat) : EntOK prog G (F38e n) :=
  ent_ok (fr := frOf []) (ann := .no) (frm := [(0, .fz)]) laws fnok (E34_ok n).tab (e := F38e n) (fn := Go.Proofs.Try.f38) (by kernel_rfl) (AllF.ofB (cd := F38c) (l := []) (by kernel_rfl) (by kernel_rfl) AllF.nil) (F38_eq n)
noncomputable def E35 (n : Nat) : List (Ent G) := F38e n :: E34 n
theorem E35_ok (n : Nat) : AllE prog G (E35 n) := AllE.cons (F38_ok n) (E34_ok n)
noncomputable def F13 (n : Nat) (a901 : ByteArray) (a902 : ByteArray) : Option ((ByteArray × (Bool × Unit)) × Unit) :=
  (andThen (F33 n a901 a902) fun r903 =>
  (bif (!r903.1.2.2.1) then
  some ((({ data := #[] } : ByteArray), (false, ())), ())
  else (andThen (F38 n r903.1.2.1.1 r903.1.2.1.2.1) fun r909 =>
  (andThen (F34 n r903.1.1.1 r903.1.1.2.1 r909.1.1 r909.1.2.1) fun r910 =>
  (andThen (F35 n r910.1.1 r910.1.2.1) fun r911 =>
  some ((r911.1.1, (r911.1.2.1, ())), ()))))))
noncomputable def F13e (n : Nat) : Ent G := ⟨13, (.cons .str (.cons .str .nil)), [], (.tup (.cons .str (.cons .bool .nil))), [], fun x y => F13 n x.1 x.2.1⟩
theorem F13_eq (n : Nat) (x : ShL.den G (.cons .str (.cons .str .nil))) (y : denO G []) : (F13e n).F x y = runFn prog G (ro G (tabOf (E35 n)) (frOf []) _) Go.Proofs.Try.f13 .no [(0, .fz), (1, .fz)] (ShL.enc G (.cons .str (.cons .str .nil)) x) (encO G [] y) (decR (.tup (.cons .str (.cons .bool .nil))) []) := by kernel_rfl
theorem F13_ok (n : Nat) : EntOK prog G (F13e n) :=
  ent_ok (fr := frOf []) (ann := .no) (frm := [(0, .fz), (1, .fz)]) laws fnok (E35_ok n).tab (e := F13e n) (fn := Go.Proofs.Try.f13) (by kernel_rfl) (AllF.ofB (cd := F13c) (l := []) (by kernel_rfl) (by kernel_rfl) AllF.nil) (F13_eq n)
noncomputable def E36 (n : Nat) : List (Ent G) := F13e n :: E35 n
theorem E36_ok (n : Nat) : AllE prog G (E36 n) := AllE.cons (F13_ok n) (E35_ok n)
noncomputable def F3 (n : Nat) (a0 : List Int) : Option (Bool × Unit) :=
  (bif (decide (((a0.length) : Int) > (1048576 : Int))) then
  some (true, ())
  else (andThen (F10 n a0) fun r199 =>
  (andThen (F11 n r199.1.1 r199.1.2.1) fun r597 =>
  (andThen (F12 n r199.1.1 r199.1.2.1) fun r895 =>
  (bif ((r597.1.1.toList) == (r895.1.1.toList)) then
  let v897 := (r597.1.2.1 == r895.1.2.1)
  (bif (!v897) then
  some (v897, ())
  else (bif (!r597.1.2.1) then
  some (v897, ())
  else (andThen (F11 n r199.1.2.1 r199.1.1) fun r900 =>
  (andThen (F13 n r597.1.1 r199.1.2.1) fun r912 =>
  (bif r900.1.2.1 then
  (bif ((r900.1.1.toList) == (r597.1.1.toList)) then
  (bif r912.1.2.1 then
  some (((r912.1.1.toList) == (r199.1.1.toList)), ())
  else some (false, ()))
  else some (false, ()))
  else some (false, ()))))))
  else some (false, ()))))))
noncomputable def F3e (n : Nat) : Ent G := ⟨3, (.cons (.imm 1) .nil), [], .bool, [], fun x y => F3 n x.1⟩
theorem F3_eq (n : Nat) (x : ShL.den G (.cons (.imm 1) .nil)) (y : denO G []) : (F3e n).F x y = runFn prog G (ro G (tabOf (E36 n)) (frOf []) _) Go.Proofs.Try.f3 .no [(0, .fz)] (ShL.enc G (.cons (.imm 1) .nil) x) (encO G [] y) (decR .bool []) := by kernel_rfl
theorem F3_ok (n : Nat) : EntOK prog G (F3e n) :=
  ent_ok (fr := frOf []) (ann := .no) (frm := [(0, .fz)]) laws fnok (E36_ok n).tab (e := F3e n) (fn := Go.Proofs.Try.f3) (by kernel_rfl) (AllF.ofB (cd := F3c) (l := []) (by kernel_rfl) (by kernel_rfl) AllF.nil) (F3_eq n)
noncomputable def E37 (n : Nat) : List (Ent G) := F3e n :: E36 n
theorem E37_ok (n : Nat) : AllE prog G (E37 n) := AllE.cons (F3_ok n) (E36_ok n)
-- 4 loop.example/slowworm/laws.FnIntMul
noncomputable def F4c : Code := bodyOf Go.Proofs.Try.f4
-- 14 loop.example/slowworm/spec.DrawIntMul
noncomputable def F14c : Code := bodyOf Go.Proofs.Try.f14
noncomputable def F14 (n : Nat) (a918 : List Int) : Option ((ByteArray × (ByteArray × Unit)) × Unit) :=
  (andThen (F30 n a918) fun r919 =>
  (andThen (F31 n r919.2.1.1 r919.2.1.2.1) fun r920 =>
  (andThen (F32 n (6 : Int) r920.2.1.1 r920.2.1.2.1) fun r921 =>
  (bif (r921.1 == (0 : Int)) then
  some ((r920.1, (r920.1, ())), ())
  else (andThen (F31 n r921.2.1.1 r921.2.1.2.1) fun r923 =>
  some ((r920.1, (r923.1, ())), ()))))))
noncomputable def F14e (n : Nat) : Ent G := ⟨14, (.cons (.imm 1) .nil), [], (.tup (.cons .str (.cons .str .nil))), [], fun x y => F14 n x.1⟩
theorem F14_eq (n : Nat) (x : ShL.den G (.cons (.imm 1) .nil)) (y : denO G []) : (F14e n).F x y = runFn prog G (ro G (tabOf (E37 n)) (frOf []) _) Go.Proofs.Try.f14 .no [(0, .fz), (1, .fz)] (ShL.enc G (.cons (.imm 1) .nil) x) (encO G [] y) (decR (.tup (.cons .str (.cons .str .nil))) []) := by kernel_rfl
theorem F14_ok (n : Nat) : EntOK prog G (F14e n) :=
  ent_ok (fr := frOf []) (ann := .no) (frm := [(0, .fz), (1, .fz)]) laws fnok (E37_ok n).tab (e := F14e n) (fn := Go.Proofs.Try.f14) (by kernel_rfl) (AllF.ofB (cd := F14c) (l := []) (by kernel_rfl) (by kernel_rfl) AllF.nil) (F14_eq n)
noncomputable def E38 (n : Nat) : List (Ent G) := F14e n :: E37 n
theorem E38_ok (n : Nat) : AllE prog G (E38 n) := AllE.cons (F14_ok n) (E37_ok n)
-- 15 loop.example/slowworm/impl.IntMul
noncomputable def F15c : Code := bodyOf Go.Proofs.Try.f15
-- 39 (loop.example/slowworm/impl.number).times
noncomputable def F39c : Code := bodyOf Go.Proofs.Try.f39
-- 46 loop.example/slowworm/impl.magMul
noncomputable def F46c : Code := bodyOf Go.Proofs.Try.f46
noncomputable def F46_0x0 : SSh := ⟨66, [(1, (.imm 0)), (5, (.own 0)), (6, (.int .i64)), (7, (.int .i64)), (8, (.int .i64)), (9, (.int .i64)), (17, (.imm 0)), (18, (.int .i64)), (19, (.int .i64))], [(.arr 0 true)]⟩
noncomputable def F46_0s : SSh := ⟨66, [(1, (.imm 0)), (5, (.own 0)), (6, (.int .i64)), (7, (.int .i64)), (8, (.int .i64)), (9, (.int .i64)), (17, (.imm 0)), (18, (.int .i64)), (19, (.int .i64))], [(.arr 0 true)]⟩
noncomputable def F46_0 {R : Type} (n : Nat) (x974 : List Int) (x975 : Int) (x976 : Int) (x977 : Int) (x978 : Int) (x979 : List Int) (x980 : Int) (x981 : Int) (x982 : List Int) (k0 : List Int → Int → Int → Int → Int → List Int → Int → Int → List Int → Option R) : Option R :=
  (bif (decide (x978 < ((x974.length) : Int))) then
  (bif (decide ((0 : Int) ≤ x978)) then
  (bif (decide (x978 < ((x974.length) : Int))) then
  (k0 x974 x975 x976 (IntKind.wrap .i64 (x977 + (IntKind.wrap .i64 (x976 * (x974.getD (x978.toNat) (0 : Int)))))) x978 x979 x980 x981 x982)
  else none)
  else none)
  else (k0 x974 x975 x976 x977 x978 x979 x980 x981 x982))
noncomputable def F46_0z (n : Nat) : Sm G := inZ G 0 ⟨[1, 5, 6, 7, 8, 9, 17, 18, 19], []⟩ F46_0s fun R x K => F46_0 n x.1.1 x.1.2.2.1 x.1.2.2.2.1 x.1.2.2.2.2.1 x.1.2.2.2.2.2.1 x.1.2.2.2.2.2.2.1 x.1.2.2.2.2.2.2.2.1 x.1.2.2.2.2.2.2.2.2.1 x.2.1 (fun u0 u1 u2 u3 u4 u5 u6 u7 u8 => K .normal (SSh.enc G F46_0x0 ((u0, ((), (u1, (u2, (u3, (u4, (u5, (u6, (u7, ()))))))))), (u8, ()))))
theorem F46_0_eq (n : Nat) (R : Type) (x : SSh.den G F46_0s) (K : AE → St G → Option R) :
  F46_0 n x.1.1 x.1.2.2.1 x.1.2.2.2.1 x.1.2.2.2.2.1 x.1.2.2.2.2.2.1 x.1.2.2.2.2.2.2.1 x.1.2.2.2.2.2.2.2.1 x.1.2.2.2.2.2.2.2.2.1 x.2.1 (fun u0 u1 u2 u3 u4 u5 u6 u7 u8 => K .normal (SSh.enc G F46_0x0 ((u0, ((), (u1, (u2, (u3, (u4, (u5, (u6, (u7, ()))))))))), (u8, ())))) = exec prog G (ro G (tabOf (E38 n)) (frOf []) R) 0 (codeAt F46c [1, 1, 0, 1, 0, 0, 1, 1, 0, 0, 1, 1, 1, 0, 0, 1, 0, 0, 1, 0]) .no (SSh.enc G F46_0s x) (kNrm G (ro G (tabOf (E38 n)) (frOf []) R) 0 ⟨⟨[1, 5, 6, 7, 8, 9, 17, 18, 19], []⟩, ⟨[4], []⟩, [(3, ⟨[1, 5, 6, 7, 8, 9, 17, 18, 19], []⟩), (2, ⟨[1, 5, 17, 18, 19], []⟩), (1, ⟨[1, 5, 17, 18, 19], []⟩), (0, ⟨[5], []⟩)]⟩ K) := by kernel_rfl
theorem F46_0_ok (n : Nat) : FragOK prog G 0 (codeAt F46c [1, 1, 0, 1, 0, 0, 1, 1, 0, 0, 1, 1, 1, 0, 0, 1, 0, 0, 1, 0]) (F46_0z n) :=
  frag_plain laws fnok (E38_ok n).tab (AllF.of (l := []) (by kernel_rfl) AllF.nil) (F46_0_eq n)
noncomputable def F46_1x0 : SSh := ⟨66, [(1, (.imm 0)), (5, (.own 0)), (6, (.int .i64)), (7, (.int .i64)), (8, (.int .i64)), (9, (.int .i64)), (17, (.imm 0)), (18, (.int .i64)), (19, (.int .i64))], [(.arr 0 true)]⟩
noncomputable def F46_1s : SSh := ⟨66, [(1, (.imm 0)), (5, (.own 0)), (6, (.int .i64)), (7, (.int .i64)), (8, (.int .i64)), (9, (.int .i64)), (17, (.imm 0)), (18, (.int .i64)), (19, (.int .i64))], [(.arr 0 true)]⟩
noncomputable def F46_1 {R : Type} (n : Nat) (x961 : List Int) (x962 : Int) (x963 : Int) (x964 : Int) (x965 : Int) (x966 : List Int) (x967 : Int) (x968 : Int) (x969 : List Int) (k0 : List Int → Int → Int → Int → Int → List Int → Int → Int → List Int → Option R) : Option R :=
  let v970 := (IntKind.wrap .i64 (x962 + x965))
  (bif (decide ((0 : Int) ≤ v970)) then
  (bif (decide (v970 < ((x969.length) : Int))) then
  (F46_0 n x961 x962 x963 (IntKind.wrap .i64 (x964 + (x969.getD (v970.toNat) (0 : Int)))) x965 x966 x967 x968 x969 (fun z989 z990 z991 z992 z993 z994 z995 z996 z997 =>
  let v998 := (IntKind.wrap .i64 (z990 + z993))
  (bif (decide ((0 : Int) ≤ v998)) then
  (bif (decide (v998 < ((z997.length) : Int))) then
  (k0 z989 z990 z991 (IntKind.wrap .i64 (z992.tdiv (10 : Int))) z993 z994 z995 z996 (z997.set (v998.toNat) (z992.tmod (10 : Int))))
  else none)
  else none)))
  else none)
  else none)
noncomputable def F46_1z (n : Nat) : Sm G := inZ G 0 ⟨[1, 5, 6, 7, 8, 9, 17, 18, 19], []⟩ F46_1s fun R x K => F46_1 n x.1.1 x.1.2.2.1 x.1.2.2.2.1 x.1.2.2.2.2.1 x.1.2.2.2.2.2.1 x.1.2.2.2.2.2.2.1 x.1.2.2.2.2.2.2.2.1 x.1.2.2.2.2.2.2.2.2.1 x.2.1 (fun u0 u1 u2 u3 u4 u5 u6 u7 u8 => K .normal (SSh.enc G F46_1x0 ((u0, ((), (u1, (u2, (u3, (u4, (u5, (u6, (u7, ()))))))))), (u8, ()))))
theorem F46_1_eq (n : Nat) (R : Type) (x : SSh.den G F46_1s) (K : AE → St G → Option R) :
  F46_1 n x.1.1 x.1.2.2.1 x.1.2.2.2.1 x.1.2.2.2.2.1 x.1.2.2.2.2.2.1 x.1.2.2.2.2.2.2.1 x.1.2.2.2.2.2.2.2.1 x.1.2.2.2.2.2.2.2.2.1 x.2.1 (fun u0 u1 u2 u3 u4 u5 u6 u7 u8 => K .normal (SSh.enc G F46_1x0 ((u0, ((), (u1, (u2, (u3, (u4, (u5, (u6, (u7, ()))))))))), (u8, ())))) = exec prog G (ro G (tabOf (E38 n)) (frOf [F46_0z n]) R) 0 (codeAt F46c [1, 1, 0, 1, 0, 0, 1, 1, 0, 0, 1, 1, 1, 0, 0, 1, 0]) (.nd (.nd .no (.nd (.use 0) .no)) .no) (SSh.enc G F46_1s x) (kNrm G (ro G (tabOf (E38 n)) (frOf [F46_0z n]) R) 0 ⟨⟨[1, 5, 6, 7, 8, 9, 17, 18, 19], []⟩, ⟨[4], []⟩, [(2, ⟨[1, 5, 17, 18, 19], []⟩), (1, ⟨[1, 5, 17, 18, 19], []⟩), (0, ⟨[5], []⟩)]⟩ K) := by kernel_rfl
theorem F46_1_ok (n : Nat) : FragOK prog G 0 (codeAt F46c [1, 1, 0, 1, 0, 0, 1, 1, 0, 0, 1, 1, 1, 0, 0, 1, 0]) (F46_1z n) :=
  frag_plain laws fnok (E38_ok n).tab (AllF.of (l := [(0, codeAt F46c [1, 1, 0, 1, 0, 0, 1, 1, 0, 0, 1, 1, 1, 0, 0, 1, 0, 0, 1, 0])]) (by kernel_rfl) (AllF.cons (F46_0_ok n) AllF.nil)) (F46_1_eq n)
noncomputable def F46_2x0 : SSh := ⟨66, [(1, (.imm 0)), (5, (.own 0)), (17, (.imm 0)), (18, (.int .i64)), (19, (.int .i64))], [(.arr 0 true)]⟩
noncomputable def F46_2s : SSh := ⟨66, [(1, (.imm 0)), (5, (.own 0)), (6, (.int .i64)), (7, (.int .i64)), (8, (.int .i64)), (9, (.int .i64)), (17, (.imm 0)), (18, (.int .i64)), (19, (.int .i64))], [(.arr 0 true)]⟩
noncomputable def F46_2_step {R : Type} (n : Nat) (k0 : List Int → List Int → Int → Int → List Int → Option R) (rec : List Int → Int → Int → Int → Int → List Int → Int → Int → List Int → Option R) (x950 : List Int) (x951 : Int) (x952 : Int) (x953 : Int) (x954 : Int) (x955 : List Int) (x956 : Int) (x957 : Int) (x958 : List Int) : Option R :=
  (bif (decide (x954 < ((x950.length) : Int))) then
  (F46_1 n x950 x951 x952 x953 x954 x955 x956 x957 x958 (fun z1003 z1004 z1005 z1006 z1007 z1008 z1009 z1010 z1011 =>
  (rec z1003 z1004 z1005 z1006 (IntKind.wrap .i64 (z1007 + (1 : Int))) z1008 z1009 z1010 z1011)))
  else (bif (decide (x953 > (0 : Int))) then
  (F46_1 n x950 x951 x952 x953 x954 x955 x956 x957 x958 (fun z1014 z1015 z1016 z1017 z1018 z1019 z1020 z1021 z1022 =>
  (rec z1014 z1015 z1016 z1017 (IntKind.wrap .i64 (z1018 + (1 : Int))) z1019 z1020 z1021 z1022)))
  else (k0 x950 x955 x956 x957 x958)))
noncomputable def F46_2_it {R : Type} (n : Nat) (k0 : List Int → List Int → Int → Int → List Int → Option R) : Nat → List Int → Int → Int → Int → Int → List Int → Int → Int → List Int → Option R
  | 0, _, _, _, _, _, _, _, _, _ => none
  | k + 1, x950, x951, x952, x953, x954, x955, x956, x957, x958 => F46_2_step n k0 (F46_2_it n k0 k) x950 x951 x952 x953 x954 x955 x956 x957 x958
noncomputable def F46_2 {R : Type} (n : Nat) (x950 : List Int) (x951 : Int) (x952 : Int) (x953 : Int) (x954 : Int) (x955 : List Int) (x956 : Int) (x957 : Int) (x958 : List Int) (k0 : List Int → List Int → Int → Int → List Int → Option R) : Option R := F46_2_it n k0 n x950 x951 x952 x953 x954 x955 x956 x957 x958
noncomputable def F46_2z (n : Nat) : Sm G := inZ G 0 ⟨[1, 5, 6, 7, 8, 9, 17, 18, 19], []⟩ F46_2s fun R x K => F46_2_it n (fun u0 u1 u2 u3 u4 => K (.exit 2) (SSh.enc G F46_2x0 ((u0, ((), (u1, (u2, (u3, ()))))), (u4, ())))) n x.1.1 x.1.2.2.1 x.1.2.2.2.1 x.1.2.2.2.2.1 x.1.2.2.2.2.2.1 x.1.2.2.2.2.2.2.1 x.1.2.2.2.2.2.2.2.1 x.1.2.2.2.2.2.2.2.2.1 x.2.1
theorem F46_2_eq (n : Nat) (R : Type) (rec : SSh.den G F46_2s → Option R) (x : SSh.den G F46_2s) (K : AE → St G → Option R) :
  F46_2_step n (fun u0 u1 u2 u3 u4 => K (.exit 2) (SSh.enc G F46_2x0 ((u0, ((), (u1, (u2, (u3, ()))))), (u4, ())))) (fun x950 x951 x952 x953 x954 x955 x956 x957 x958 => rec ((x950, ((), (x951, (x952, (x953, (x954, (x955, (x956, (x957, ()))))))))), (x958, ()))) x.1.1 x.1.2.2.1 x.1.2.2.2.1 x.1.2.2.2.2.1 x.1.2.2.2.2.2.1 x.1.2.2.2.2.2.2.1 x.1.2.2.2.2.2.2.2.1 x.1.2.2.2.2.2.2.2.2.1 x.2.1 = exec prog G (ro G (tabOf (E38 n)) (frOf [F46_0z n, F46_1z n]) R) 0 (codeAt F46c [1, 1, 0, 1, 0, 0, 1, 1, 0, 0, 1, 1, 1, 0, 0]) (.nd .no (.nd (.use 1) .no)) (SSh.enc G F46_2s x) (kLoop G (ro G (tabOf (E38 n)) (frOf [F46_0z n, F46_1z n]) R) 0 ⟨[1, 5, 6, 7, 8, 9, 17, 18, 19], []⟩ F46_2s ⟨⟨[1, 5, 17, 18, 19], []⟩, ⟨[4], []⟩, [(2, ⟨[1, 5, 17, 18, 19], []⟩), (1, ⟨[1, 5, 17, 18, 19], []⟩), (0, ⟨[5], []⟩)]⟩ rec K) := by kernel_rfl
theorem F46_2_ok (n : Nat) : FragOK prog G 0 (codeAt F46c [1, 1, 0, 1, 0, 0, 1, 1, 0, 0, 1, 1, 1, 0]) (F46_2z n) :=
  frag_loop (Z := fun R k (x : SSh.den G F46_2s) K => F46_2_it n (fun u0 u1 u2 u3 u4 => K (.exit 2) (SSh.enc G F46_2x0 ((u0, ((), (u1, (u2, (u3, ()))))), (u4, ())))) k x.1.1 x.1.2.2.1 x.1.2.2.2.1 x.1.2.2.2.2.1 x.1.2.2.2.2.2.1 x.1.2.2.2.2.2.2.1 x.1.2.2.2.2.2.2.2.1 x.1.2.2.2.2.2.2.2.2.1 x.2.1) laws fnok (E38_ok n).tab (AllF.of (l := [(1, codeAt F46c [1, 1, 0, 1, 0, 0, 1, 1, 0, 0, 1, 1, 1, 0, 0, 1, 0])]) (by kernel_rfl) (AllF.cons (F46_1_ok n) AllF.nil)) (fun _ _ _ => rfl) (fun R k y K => F46_2_eq n R (fun (x : SSh.den G F46_2s) => F46_2_it n (fun u0 u1 u2 u3 u4 => K (.exit 2) (SSh.enc G F46_2x0 ((u0, ((), (u1, (u2, (u3, ()))))), (u4, ())))) k x.1.1 x.1.2.2.1 x.1.2.2.2.1 x.1.2.2.2.2.1 x.1.2.2.2.2.2.1 x.1.2.2.2.2.2.2.1 x.1.2.2.2.2.2.2.2.1 x.1.2.2.2.2.2.2.2.2.1 x.2.1) y K) n
noncomputable def F46_3x0 : SSh := ⟨66, [(5, (.own 0))], [(.arr 0 true)]⟩
noncomputable def F46_3s : SSh := ⟨66, [(1, (.imm 0)), (5, (.own 0)), (17, (.imm 0)), (18, (.int .i64)), (19, (.int .i64))], [(.arr 0 true)]⟩
noncomputable def F46_3_step {R : Type} (n : Nat) (k0 : List Int → Option R) (rec : List Int → List Int → Int → Int → List Int → Option R) (x942 : List Int) (x943 : List Int) (x944 : Int) (x945 : Int) (x946 : List Int) : Option R :=
  (bif (decide (x945 < x944)) then
  (bif (decide ((0 : Int) ≤ x945)) then
  (bif (decide (x945 < ((x943.length) : Int))) then
  (F46_2 n x942 x945 (x943.getD (x945.toNat) (0 : Int)) (0 : Int) (0 : Int) x943 x944 x945 x946 (fun z1024 z1025 z1026 z1027 z1028 =>
  (rec z1024 z1025 z1026 (IntKind.wrap .i64 (z1027 + (1 : Int))) z1028)))
  else none)
  else none)
  else (k0 x946))
noncomputable def F46_3_it {R : Type} (n : Nat) (k0 : List Int → Option R) : Nat → List Int → List Int → Int → Int → List Int → Option R
  | 0, _, _, _, _, _ => none
  | k + 1, x942, x943, x944, x945, x946 => F46_3_step n k0 (F46_3_it n k0 k) x942 x943 x944 x945 x946
noncomputable def F46_3 {R : Type} (n : Nat) (x942 : List Int) (x943 : List Int) (x944 : Int) (x945 : Int) (x946 : List Int) (k0 : List Int → Option R) : Option R := F46_3_it n k0 n x942 x943 x944 x945 x946
noncomputable def F46_3z (n : Nat) : Sm G := inZ G 0 ⟨[1, 5, 17, 18, 19], []⟩ F46_3s fun R x K => F46_3_it n (fun u0 => K (.exit 0) (SSh.enc G F46_3x0 (((), ()), (u0, ())))) n x.1.1 x.1.2.2.1 x.1.2.2.2.1 x.1.2.2.2.2.1 x.2.1
theorem F46_3_eq (n : Nat) (R : Type) (rec : SSh.den G F46_3s → Option R) (x : SSh.den G F46_3s) (K : AE → St G → Option R) :
  F46_3_step n (fun u0 => K (.exit 0) (SSh.enc G F46_3x0 (((), ()), (u0, ())))) (fun x942 x943 x944 x945 x946 => rec ((x942, ((), (x943, (x944, (x945, ()))))), (x946, ()))) x.1.1 x.1.2.2.1 x.1.2.2.2.1 x.1.2.2.2.2.1 x.2.1 = exec prog G (ro G (tabOf (E38 n)) (frOf [F46_0z n, F46_1z n, F46_2z n]) R) 0 (codeAt F46c [1, 1, 0, 1, 0, 0]) (.nd .no (.nd .no (.nd (.nd (.nd .no (.nd .no (.nd .no (.nd (.use 2) .no)))) .no) .no))) (SSh.enc G F46_3s x) (kLoop G (ro G (tabOf (E38 n)) (frOf [F46_0z n, F46_1z n, F46_2z n]) R) 0 ⟨[1, 5, 17, 18, 19], []⟩ F46_3s ⟨⟨[5], []⟩, ⟨[4], []⟩, [(0, ⟨[5], []⟩)]⟩ rec K) := by kernel_rfl
theorem F46_3_ok (n : Nat) : FragOK prog G 0 (codeAt F46c [1, 1, 0, 1, 0]) (F46_3z n) :=
  frag_loop (Z := fun R k (x : SSh.den G F46_3s) K => F46_3_it n (fun u0 => K (.exit 0) (SSh.enc G F46_3x0 (((), ()), (u0, ())))) k x.1.1 x.1.2.2.1 x.1.2.2.2.1 x.1.2.2.2.2.1 x.2.1) laws fnok (E38_ok n).tab (AllF.of (l := [(2, codeAt F46c [1, 1, 0, 1, 0, 0, 1, 1, 0, 0, 1, 1, 1, 0])]) (by kernel_rfl) (AllF.cons (F46_2_ok n) AllF.nil)) (fun _ _ _ => rfl) (fun R k y K => F46_3_eq n R (fun (x : SSh.den G F46_3s) => F46_3_it n (fun u0 => K (.exit 0) (SSh.enc G F46_3x0 (((), ()), (u0, ())))) k x.1.1 x.1.2.2.1 x.1.2.2.2.1 x.1.2.2.2.2.1 x.2.1) y K) n
noncomputable def F46 (n : Nat) (a934 : List Int) (a935 : List Int) : Option (List Int × Unit) :=
  let v939 := (IntKind.wrap .i64 ((IntKind.wrap .i64 (((a934.length) : Int) + ((a935.length) : Int))) + (1 : Int)))
  (bif (decide ((0 : Int) ≤ v939)) then
  (bif (decide (v939 ≤ v939)) then
  (bif (decide (v939 ≤ ((68719476736 : Nat) : Int))) then
  (F46_3 n a935 a934 ((a934.length) : Int) (0 : Int) (List.replicate (v939.toNat) (0 : Int)) (fun z1030 =>
  (andThen (F44 n z1030) fun r1031 =>
  some (r1031.1, ()))))
  else none)
  else none)
  else none)
noncomputable def F46e (n : Nat) : Ent G := ⟨46, (.cons (.imm 0) (.cons (.imm 0) .nil)), [], (.imm 0), [], fun x y => F46 n x.1 x.2.1⟩
theorem F46_eq (n : Nat) (x : ShL.den G (.cons (.imm 0) (.cons (.imm 0) .nil))) (y : denO G []) : (F46e n).F x y = runFn prog G (ro G (tabOf (E38 n)) (frOf [F46_0z n, F46_1z n, F46_2z n, F46_3z n]) _) Go.Proofs.Try.f46 (.nd .no (.nd .no (.nd (.nd .no (.nd (.use 3) .no)) .no))) [(0, .fz)] (ShL.enc G (.cons (.imm 0) (.cons (.imm 0) .nil)) x) (encO G [] y) (decR (.imm 0) []) := by kernel_rfl
theorem F46_ok (n : Nat) : EntOK prog G (F46e n) :=
  ent_ok (fr := frOf [F46_0z n, F46_1z n, F46_2z n, F46_3z n]) (ann := (.nd .no (.nd .no (.nd (.nd .no (.nd (.use 3) .no)) .no)))) (frm := [(0, .fz)]) laws fnok (E38_ok n).tab (e := F46e n) (fn := Go.Proofs.Try.f46) (by kernel_rfl) (AllF.ofB (cd := F46c) (l := [(3, codeAt F46c [1, 1, 0, 1, 0])]) (by kernel_rfl) (by kernel_rfl) (AllF.cons (F46_3_ok n) AllF.nil)) (F46_eq n)
noncomputable def E39 (n : Nat) : List (Ent G) := F46e n :: E38 n
theorem E39_ok (n : Nat) : AllE prog G (E39 n) := AllE.cons (F46_ok n) (E38_ok n)
noncomputable def F39 (n : Nat) (a929 : Bool) (a930 : List Int) (a931 : Bool) (a932 : List Int) : Option ((Bool × (List Int × Unit)) × Unit) :=
  (andThen (F46 n a930 a932) fun r1032 =>
  (andThen (F57 n (!(a929 == a931)) r1032.1) fun r1033 =>
  some ((r1033.1.1, (r1033.1.2.1, ())), ())))
noncomputable def F39e (n : Nat) : Ent G := ⟨39, (.cons (.agg (.cons .bool (.cons (.imm 0) .nil))) (.cons (.agg (.cons .bool (.cons (.imm 0) .nil))) .nil)), [], (.agg (.cons .bool (.cons (.imm 0) .nil))), [], fun x y => F39 n x.1.1 x.1.2.1 x.2.1.1 x.2.1.2.1⟩
theorem F39_eq (n : Nat) (x : ShL.den G (.cons (.agg (.cons .bool (.cons (.imm 0) .nil))) (.cons (.agg (.cons .bool (.cons (.imm 0) .nil))) .nil))) (y : denO G []) : (F39e n).F x y = runFn prog G (ro G (tabOf (E39 n)) (frOf []) _) Go.Proofs.Try.f39 .no [(0, .fz)] (ShL.enc G (.cons (.agg (.cons .bool (.cons (.imm 0) .nil))) (.cons (.agg (.cons .bool (.cons (.imm 0) .nil))) .nil)) x) (encO G [] y) (decR (.agg (.cons .bool (.cons (.imm 0) .nil))) []) := by kernel_rfl
theorem F39_ok (n : Nat) : EntOK prog G (F39e n) :=
  ent_ok (fr := frOf []) (ann := .no) (frm := [(0, .fz)]) laws fnok (E39_ok n).tab (e := F39e n) (fn := Go.Proofs.Try.f39) (by kernel_rfl) (AllF.ofB (cd := F39c) (l := []) (by kernel_rfl) (by kernel_rfl) AllF.nil) (F39_eq n)
noncomputable def E40 (n : Nat) : List (Ent G) := F39e n :: E39 n
theorem E40_ok (n : Nat) : AllE prog G (E40 n) := AllE.cons (F39_ok n) (E39_ok n)
noncomputable def F15 (n : Nat) (a925 : ByteArray) (a926 : ByteArray) : Option ((ByteArray × (Bool × Unit)) × Unit) :=
  (andThen (F33 n a925 a926) fun r927 =>
  (bif (!r927.1.2.2.1) then
  some ((({ data := #[] } : ByteArray), (false, ())), ())
  else (andThen (F39 n r927.1.1.1 r927.1.1.2.1 r927.1.2.1.1 r927.1.2.1.2.1) fun r1034 =>
  (andThen (F35 n r1034.1.1 r1034.1.2.1) fun r1035 =>
  some ((r1035.1.1, (r1035.1.2.1, ())), ())))))
noncomputable def F15e (n : Nat) : Ent G := ⟨15, (.cons .str (.cons .str .nil)), [], (.tup (.cons .str (.cons .bool .nil))), [], fun x y => F15 n x.1 x.2.1⟩
theorem F15_eq (n : Nat) (x : ShL.den G (.cons .str (.cons .str .nil))) (y : denO G []) : (F15e n).F x y = runFn prog G (ro G (tabOf (E40 n)) (frOf []) _) Go.Proofs.Try.f15 .no [(0, .fz), (1, .fz)] (ShL.enc G (.cons .str (.cons .str .nil)) x) (encO G [] y) (decR (.tup (.cons .str (.cons .bool .nil))) []) := by kernel_rfl
theorem F15_ok (n : Nat) : EntOK prog G (F15e n) :=
  ent_ok (fr := frOf []) (ann := .no) (frm := [(0, .fz), (1, .fz)]) laws fnok (E40_ok n).tab (e := F15e n) (fn := Go.Proofs.Try.f15) (by kernel_rfl) (AllF.ofB (cd := F15c) (l := []) (by kernel_rfl) (by kernel_rfl) AllF.nil) (F15_eq n)
noncomputable def E41 (n : Nat) : List (Ent G) := F15e n :: E40 n
theorem E41_ok (n : Nat) : AllE prog G (E41 n) := AllE.cons (F15_ok n) (E40_ok n)
-- 16 loop.example/slowworm/spec.IntMul
noncomputable def F16c : Code := bodyOf Go.Proofs.Try.f16
-- 40 loop.example/slowworm/spec.mulInts
noncomputable def F40c : Code := bodyOf Go.Proofs.Try.f40
-- 49 loop.example/slowworm/spec.timesDigits
noncomputable def F49c : Code := bodyOf Go.Proofs.Try.f49
noncomputable def F49_0x0 : SSh := ⟨72, [(0, (.imm 0)), (1, (.imm 0)), (5, (.own 0)), (6, (.int .i64))], [(.arr 0 true)]⟩
noncomputable def F49_0s : SSh := ⟨72, [(0, (.imm 0)), (1, (.imm 0)), (5, (.own 0)), (6, (.int .i64)), (7, (.int .i64))], [(.arr 0 true)]⟩
noncomputable def F49_0_step {R : Type} (n : Nat) (k0 : List Int → List Int → Int → List Int → Option R) (rec : List Int → List Int → Int → Int → List Int → Option R) (x1060 : List Int) (x1061 : List Int) (x1062 : Int) (x1063 : Int) (x1064 : List Int) : Option R :=
  (bif (decide (x1063 < ((x1061.length) : Int))) then
  let v1067 := (IntKind.wrap .i64 (x1062 + x1063))
  let v1068 := (IntKind.wrap .i64 (x1062 + x1063))
  (bif (decide ((0 : Int) ≤ v1068)) then
  (bif (decide (v1068 < ((x1064.length) : Int))) then
  (bif (decide ((0 : Int) ≤ x1062)) then
  (bif (decide (x1062 < ((x1060.length) : Int))) then
  (bif (decide ((0 : Int) ≤ x1063)) then
  (bif (decide (x1063 < ((x1061.length) : Int))) then
  (bif (decide ((0 : Int) ≤ v1067)) then
  (bif (decide (v1067 < ((x1064.length) : Int))) then
  (rec x1060 x1061 x1062 (IntKind.wrap .i64 (x1063 + (1 : Int))) (x1064.set (v1067.toNat) (IntKind.wrap .i64 ((x1064.getD (v1068.toNat) (0 : Int)) + (IntKind.wrap .i64 ((x1060.getD (x1062.toNat) (0 : Int)) * (x1061.getD (x1063.toNat) (0 : Int))))))))
  else none)
  else none)
  else none)
  else none)
  else none)
  else none)
  else none)
  else none)
  else (k0 x1060 x1061 x1062 x1064))
noncomputable def F49_0_it {R : Type} (n : Nat) (k0 : List Int → List Int → Int → List Int → Option R) : Nat → List Int → List Int → Int → Int → List Int → Option R
  | 0, _, _, _, _, _ => none
  | k + 1, x1060, x1061, x1062, x1063, x1064 => F49_0_step n k0 (F49_0_it n k0 k) x1060 x1061 x1062 x1063 x1064
noncomputable def F49_0 {R : Type} (n : Nat) (x1060 : List Int) (x1061 : List Int) (x1062 : Int) (x1063 : Int) (x1064 : List Int) (k0 : List Int → List Int → Int → List Int → Option R) : Option R := F49_0_it n k0 n x1060 x1061 x1062 x1063 x1064
noncomputable def F49_0z (n : Nat) : Sm G := inZ G 0 ⟨[0, 1, 5, 6, 7], []⟩ F49_0s fun R x K => F49_0_it n (fun u0 u1 u2 u3 => K (.exit 2) (SSh.enc G F49_0x0 ((u0, (u1, ((), (u2, ())))), (u3, ())))) n x.1.1 x.1.2.1 x.1.2.2.2.1 x.1.2.2.2.2.1 x.2.1
theorem F49_0_eq (n : Nat) (R : Type) (rec : SSh.den G F49_0s → Option R) (x : SSh.den G F49_0s) (K : AE → St G → Option R) :
  F49_0_step n (fun u0 u1 u2 u3 => K (.exit 2) (SSh.enc G F49_0x0 ((u0, (u1, ((), (u2, ())))), (u3, ())))) (fun x1060 x1061 x1062 x1063 x1064 => rec ((x1060, (x1061, ((), (x1062, (x1063, ()))))), (x1064, ()))) x.1.1 x.1.2.1 x.1.2.2.2.1 x.1.2.2.2.2.1 x.2.1 = exec prog G (ro G (tabOf (E41 n)) (frOf []) R) 0 (codeAt F49c [1, 1, 0, 1, 0, 0, 1, 0, 0, 1, 0, 0]) .no (SSh.enc G F49_0s x) (kLoop G (ro G (tabOf (E41 n)) (frOf []) R) 0 ⟨[0, 1, 5, 6, 7], []⟩ F49_0s ⟨⟨[0, 1, 5, 6], []⟩, ⟨[4], []⟩, [(2, ⟨[0, 1, 5, 6], []⟩), (1, ⟨[0, 1, 5, 6], []⟩), (0, ⟨[5], []⟩)]⟩ rec K) := by kernel_rfl
theorem F49_0_ok (n : Nat) : FragOK prog G 0 (codeAt F49c [1, 1, 0, 1, 0, 0, 1, 0, 0, 1, 0]) (F49_0z n) :=
  frag_loop (Z := fun R k (x : SSh.den G F49_0s) K => F49_0_it n (fun u0 u1 u2 u3 => K (.exit 2) (SSh.enc G F49_0x0 ((u0, (u1, ((), (u2, ())))), (u3, ())))) k x.1.1 x.1.2.1 x.1.2.2.2.1 x.1.2.2.2.2.1 x.2.1) laws fnok (E41_ok n).tab (AllF.of (l := []) (by kernel_rfl) AllF.nil) (fun _ _ _ => rfl) (fun R k y K => F49_0_eq n R (fun (x : SSh.den G F49_0s) => F49_0_it n (fun u0 u1 u2 u3 => K (.exit 2) (SSh.enc G F49_0x0 ((u0, (u1, ((), (u2, ())))), (u3, ())))) k x.1.1 x.1.2.1 x.1.2.2.2.1 x.1.2.2.2.2.1 x.2.1) y K) n
noncomputable def F49_1x0 : SSh := ⟨72, [(5, (.own 0))], [(.arr 0 true)]⟩
noncomputable def F49_1s : SSh := ⟨72, [(0, (.imm 0)), (1, (.imm 0)), (5, (.own 0)), (6, (.int .i64))], [(.arr 0 true)]⟩
noncomputable def F49_1_step {R : Type} (n : Nat) (k0 : List Int → Option R) (rec : List Int → List Int → Int → List Int → Option R) (x1054 : List Int) (x1055 : List Int) (x1056 : Int) (x1057 : List Int) : Option R :=
  (bif (decide (x1056 < ((x1054.length) : Int))) then
  (F49_0 n x1054 x1055 x1056 (0 : Int) x1057 (fun z1080 z1081 z1082 z1083 =>
  (rec z1080 z1081 (IntKind.wrap .i64 (z1082 + (1 : Int))) z1083)))
  else (k0 x1057))
noncomputable def F49_1_it {R : Type} (n : Nat) (k0 : List Int → Option R) : Nat → List Int → List Int → Int → List Int → Option R
  | 0, _, _, _, _ => none
  | k + 1, x1054, x1055, x1056, x1057 => F49_1_step n k0 (F49_1_it n k0 k) x1054 x1055 x1056 x1057
noncomputable def F49_1 {R : Type} (n : Nat) (x1054 : List Int) (x1055 : List Int) (x1056 : Int) (x1057 : List Int) (k0 : List Int → Option R) : Option R := F49_1_it n k0 n x1054 x1055 x1056 x1057
noncomputable def F49_1z (n : Nat) : Sm G := inZ G 0 ⟨[0, 1, 5, 6], []⟩ F49_1s fun R x K => F49_1_it n (fun u0 => K (.exit 0) (SSh.enc G F49_1x0 (((), ()), (u0, ())))) n x.1.1 x.1.2.1 x.1.2.2.2.1 x.2.1
theorem F49_1_eq (n : Nat) (R : Type) (rec : SSh.den G F49_1s → Option R) (x : SSh.den G F49_1s) (K : AE → St G → Option R) :
  F49_1_step n (fun u0 => K (.exit 0) (SSh.enc G F49_1x0 (((), ()), (u0, ())))) (fun x1054 x1055 x1056 x1057 => rec ((x1054, (x1055, ((), (x1056, ())))), (x1057, ()))) x.1.1 x.1.2.1 x.1.2.2.2.1 x.2.1 = exec prog G (ro G (tabOf (E41 n)) (frOf [F49_0z n]) R) 0 (codeAt F49c [1, 1, 0, 1, 0, 0]) (.nd .no (.nd (.nd (.nd .no (.nd (.use 0) .no)) .no) .no)) (SSh.enc G F49_1s x) (kLoop G (ro G (tabOf (E41 n)) (frOf [F49_0z n]) R) 0 ⟨[0, 1, 5, 6], []⟩ F49_1s ⟨⟨[5], []⟩, ⟨[4], []⟩, [(0, ⟨[5], []⟩)]⟩ rec K) := by kernel_rfl
theorem F49_1_ok (n : Nat) : FragOK prog G 0 (codeAt F49c [1, 1, 0, 1, 0]) (F49_1z n) :=
  frag_loop (Z := fun R k (x : SSh.den G F49_1s) K => F49_1_it n (fun u0 => K (.exit 0) (SSh.enc G F49_1x0 (((), ()), (u0, ())))) k x.1.1 x.1.2.1 x.1.2.2.2.1 x.2.1) laws fnok (E41_ok n).tab (AllF.of (l := [(0, codeAt F49c [1, 1, 0, 1, 0, 0, 1, 0, 0, 1, 0])]) (by kernel_rfl) (AllF.cons (F49_0_ok n) AllF.nil)) (fun _ _ _ => rfl) (fun R k y K => F49_1_eq n R (fun (x : SSh.den G F49_1s) => F49_1_it n (fun u0 => K (.exit 0) (SSh.enc G F49_1x0 (((), ()), (u0, ())))) k x.1.1 x.1.2.1 x.1.2.2.2.1 x.2.1) y K) n
noncomputable def F49_2x0 : SSh := ⟨72, [(5, (.own 0))], [(.arr 0 true)]⟩
noncomputable def F49_2s : SSh := ⟨72, [(5, (.own 0)), (8, (.int .i64)), (9, (.int .i64))], [(.arr 0 true)]⟩
noncomputable def F49_2_step {R : Type} (n : Nat) (k0 : List Int → Option R) (rec : Int → Int → List Int → Option R) (x1086 : Int) (x1087 : Int) (x1088 : List Int) : Option R :=
  (bif (decide (x1087 < ((x1088.length) : Int))) then
  (bif (decide ((0 : Int) ≤ x1087)) then
  (bif (decide (x1087 < ((x1088.length) : Int))) then
  let v1093 := (IntKind.wrap .i64 ((x1088.getD (x1087.toNat) (0 : Int)) + x1086))
  (bif (decide ((0 : Int) ≤ x1087)) then
  (bif (decide (x1087 < ((x1088.length) : Int))) then
  (rec (IntKind.wrap .i64 (v1093.tdiv (10 : Int))) (IntKind.wrap .i64 (x1087 + (1 : Int))) (x1088.set (x1087.toNat) (v1093.tmod (10 : Int))))
  else none)
  else none)
  else none)
  else none)
  else (k0 x1088))
noncomputable def F49_2_it {R : Type} (n : Nat) (k0 : List Int → Option R) : Nat → Int → Int → List Int → Option R
  | 0, _, _, _ => none
  | k + 1, x1086, x1087, x1088 => F49_2_step n k0 (F49_2_it n k0 k) x1086 x1087 x1088
noncomputable def F49_2 {R : Type} (n : Nat) (x1086 : Int) (x1087 : Int) (x1088 : List Int) (k0 : List Int → Option R) : Option R := F49_2_it n k0 n x1086 x1087 x1088
noncomputable def F49_2z (n : Nat) : Sm G := inZ G 0 ⟨[5, 8, 9], []⟩ F49_2s fun R x K => F49_2_it n (fun u0 => K (.exit 4) (SSh.enc G F49_2x0 (((), ()), (u0, ())))) n x.1.2.1 x.1.2.2.1 x.2.1
theorem F49_2_eq (n : Nat) (R : Type) (rec : SSh.den G F49_2s → Option R) (x : SSh.den G F49_2s) (K : AE → St G → Option R) :
  F49_2_step n (fun u0 => K (.exit 4) (SSh.enc G F49_2x0 (((), ()), (u0, ())))) (fun x1086 x1087 x1088 => rec (((), (x1086, (x1087, ()))), (x1088, ()))) x.1.2.1 x.1.2.2.1 x.2.1 = exec prog G (ro G (tabOf (E41 n)) (frOf [F49_0z n, F49_1z n]) R) 0 (codeAt F49c [1, 1, 1, 1, 0, 1, 0, 0]) .no (SSh.enc G F49_2s x) (kLoop G (ro G (tabOf (E41 n)) (frOf [F49_0z n, F49_1z n]) R) 0 ⟨[5, 8, 9], []⟩ F49_2s ⟨⟨[5], []⟩, ⟨[4], []⟩, [(4, ⟨[5], []⟩)]⟩ rec K) := by kernel_rfl
theorem F49_2_ok (n : Nat) : FragOK prog G 0 (codeAt F49c [1, 1, 1, 1, 0, 1, 0]) (F49_2z n) :=
  frag_loop (Z := fun R k (x : SSh.den G F49_2s) K => F49_2_it n (fun u0 => K (.exit 4) (SSh.enc G F49_2x0 (((), ()), (u0, ())))) k x.1.2.1 x.1.2.2.1 x.2.1) laws fnok (E41_ok n).tab (AllF.of (l := []) (by kernel_rfl) AllF.nil) (fun _ _ _ => rfl) (fun R k y K => F49_2_eq n R (fun (x : SSh.den G F49_2s) => F49_2_it n (fun u0 => K (.exit 4) (SSh.enc G F49_2x0 (((), ()), (u0, ())))) k x.1.2.1 x.1.2.2.1 x.2.1) y K) n
noncomputable def F49 (n : Nat) (a1047 : List Int) (a1048 : List Int) : Option (Nat × (List Int × Unit)) :=
  let v1052 := (IntKind.wrap .i64 ((IntKind.wrap .i64 (((a1047.length) : Int) + ((a1048.length) : Int))) + (1 : Int)))
  (bif (decide ((0 : Int) ≤ v1052)) then
  (bif (decide (v1052 ≤ v1052)) then
  (bif (decide (v1052 ≤ ((68719476736 : Nat) : Int))) then
  (F49_1 n a1047 a1048 (0 : Int) (List.replicate (v1052.toNat) (0 : Int)) (fun z1085 =>
  (F49_2 n (0 : Int) (0 : Int) z1085 (fun z1099 =>
  (andThen (F50 n z1099) fun r1100 =>
  some (r1100.1, (r1100.2.1, ())))))))
  else none)
  else none)
  else none)
noncomputable def F49e (n : Nat) : Ent G := ⟨49, (.cons (.imm 0) (.cons (.imm 0) .nil)), [], (.pre 0), [(.arr 0 true)], fun x y => F49 n x.1 x.2.1⟩
theorem F49_eq (n : Nat) (x : ShL.den G (.cons (.imm 0) (.cons (.imm 0) .nil))) (y : denO G []) : (F49e n).F x y = runFn prog G (ro G (tabOf (E41 n)) (frOf [F49_0z n, F49_1z n, F49_2z n]) _) Go.Proofs.Try.f49 (.nd .no (.nd .no (.nd (.nd .no (.nd (.use 1) .no)) (.nd .no (.nd (.nd .no (.nd (.use 2) .no)) .no))))) [] (ShL.enc G (.cons (.imm 0) (.cons (.imm 0) .nil)) x) (encO G [] y) (decR (.pre 0) [(.arr 0 true)]) := by kernel_rfl
theorem F49_ok (n : Nat) : EntOK prog G (F49e n) :=
  ent_ok (fr := frOf [F49_0z n, F49_1z n, F49_2z n]) (ann := (.nd .no (.nd .no (.nd (.nd .no (.nd (.use 1) .no)) (.nd .no (.nd (.nd .no (.nd (.use 2) .no)) .no)))))) (frm := []) laws fnok (E41_ok n).tab (e := F49e n) (fn := Go.Proofs.Try.f49) (by kernel_rfl) (AllF.ofB (cd := F49c) (l := [(1, codeAt F49c [1, 1, 0, 1, 0]), (2, codeAt F49c [1, 1, 1, 1, 0, 1, 0])]) (by kernel_rfl) (by kernel_rfl) (AllF.cons (F49_1_ok n) (AllF.cons (F49_2_ok n) AllF.nil))) (F49_eq n)
noncomputable def E42 (n : Nat) : List (Ent G) := F49e n :: E41 n
theorem E42_ok (n : Nat) : AllE prog G (E42 n) := AllE.cons (F49_ok n) (E41_ok n)
noncomputable def F40 (n : Nat) (a1043 : ByteArray) (a1044 : ByteArray) : Option ((ByteArray × (Bool × Unit)) × Unit) :=
  (andThen (F47 n a1043) fun r1045 =>
  (andThen (F47 n a1044) fun r1046 =>
  (andThen (F49 n r1045.1.1 r1046.1.1) fun r1101 =>
  (andThen (F62 n (r1101.2.1.take r1101.1) (!(r1045.1.2.1 == r1046.1.2.1))) fun r1103 =>
  some ((r1103.1.1, (r1103.1.2.1, ())), ())))))
noncomputable def F40e (n : Nat) : Ent G := ⟨40, (.cons .str (.cons .str .nil)), [], (.tup (.cons .str (.cons .bool .nil))), [], fun x y => F40 n x.1 x.2.1⟩
theorem F40_eq (n : Nat) (x : ShL.den G (.cons .str (.cons .str .nil))) (y : denO G []) : (F40e n).F x y = runFn prog G (ro G (tabOf (E42 n)) (frOf []) _) Go.Proofs.Try.f40 .no [(0, .fz), (1, .fz)] (ShL.enc G (.cons .str (.cons .str .nil)) x) (encO G [] y) (decR (.tup (.cons .str (.cons .bool .nil))) []) := by kernel_rfl
theorem F40_ok (n : Nat) : EntOK prog G (F40e n) :=
  ent_ok (fr := frOf []) (ann := .no) (frm := [(0, .fz), (1, .fz)]) laws fnok (E42_ok n).tab (e := F40e n) (fn := Go.Proofs.Try.f40) (by kernel_rfl) (AllF.ofB (cd := F40c) (l := []) (by kernel_rfl) (by kernel_rfl) AllF.nil) (F40_eq n)
noncomputable def E43 (n : Nat) : List (Ent G) := F40e n :: E42 n
theorem E43_ok (n : Nat) : AllE prog G (E43 n) := AllE.cons (F40_ok n) (E42_ok n)
noncomputable def F16 (n : Nat) (a1037 : ByteArray) (a1038 : ByteArray) : Option ((ByteArray × (Bool × Unit)) × Unit) :=
  (andThen (F36 n a1037) fun r1039 =>
  (bif (!r1039.1) then
  some ((({ data := #[] } : ByteArray), (false, ())), ())
  else (andThen (F36 n a1038) fun r1041 =>
  (bif (!r1041.1) then
  some ((({ data := #[] } : ByteArray), (false, ())), ())
  else (andThen (F40 n a1037 a1038) fun r1104 =>
  some ((r1104.1.1, (r1104.1.2.1, ())), ()))))))
noncomputable def F16e (n : Nat) : Ent G := ⟨16, (.cons .str (.cons .str .nil)), [], (.tup (.cons .str (.cons .bool .nil))), [], fun x y => F16 n x.1 x.2.1⟩
theorem F16_eq (n : Nat) (x : ShL.den G (.cons .str (.cons .str .nil))) (y : denO G []) : (F16e n).F x y = runFn prog G (ro G (tabOf (E43 n)) (frOf []) _) Go.Proofs.Try.f16 .no [(0, .fz), (1, .fz)] (ShL.enc G (.cons .str (.cons .str .nil)) x) (encO G [] y) (decR (.tup (.cons .str (.cons .bool .nil))) []) := by kernel_rfl
theorem F16_ok (n : Nat) : EntOK prog G (F16e n) :=
  ent_ok (fr := frOf []) (ann := .no) (frm := [(0, .fz), (1, .fz)]) laws fnok (E43_ok n).tab (e := F16e n) (fn := Go.Proofs.Try.f16) (by kernel_rfl) (AllF.ofB (cd := F16c) (l := []) (by kernel_rfl) (by kernel_rfl) AllF.nil) (F16_eq n)
noncomputable def E44 (n : Nat) : List (Ent G) := F16e n :: E43 n
theorem E44_ok (n : Nat) : AllE prog G (E44 n) := AllE.cons (F16_ok n) (E43_ok n)
-- 17 loop.example/slowworm/impl.IntDiv
noncomputable def F17c : Code := bodyOf Go.Proofs.Try.f17
-- 41 (loop.example/slowworm/impl.number).parts
noncomputable def F41c : Code := bodyOf Go.Proofs.Try.f41
-- 65 loop.example/slowworm/impl.magDiv
noncomputable def F65c : Code := bodyOf Go.Proofs.Try.f65
noncomputable def F65_0x0 : SSh := ⟨41, [(0, (.imm 0)), (1, (.imm 0)), (4, (.own 0)), (5, (.imm 0)), (6, (.int .i64))], [(.arr 0 true)]⟩
noncomputable def F65_0s : SSh := ⟨41, [(0, (.imm 0)), (1, (.imm 0)), (4, (.own 0)), (5, (.imm 0)), (6, (.int .i64))], [(.arr 0 true)]⟩
noncomputable def F65_0_step {R : Type} (n : Nat) (k0 : List Int → List Int → List Int → Int → List Int → Option R) (rec : List Int → List Int → List Int → Int → List Int → Option R) (x1177 : List Int) (x1178 : List Int) (x1179 : List Int) (x1180 : Int) (x1181 : List Int) : Option R :=
  (andThen (F45 n x1179 x1178) fun r1182 =>
  (bif (decide (r1182.1 ≥ (0 : Int))) then
  (andThen (F58 n x1179 x1178) fun r1184 =>
  (bif (decide ((0 : Int) ≤ x1180)) then
  (bif (decide (x1180 < ((x1181.length) : Int))) then
  (bif (decide ((0 : Int) ≤ x1180)) then
  (bif (decide (x1180 < ((x1181.length) : Int))) then
  (rec x1177 x1178 r1184.1 x1180 (x1181.set (x1180.toNat) (IntKind.wrap .i64 ((x1181.getD (x1180.toNat) (0 : Int)) + (1 : Int)))))
  else none)
  else none)
  else none)
  else none))
  else (k0 x1177 x1178 x1179 x1180 x1181)))
noncomputable def F65_0_it {R : Type} (n : Nat) (k0 : List Int → List Int → List Int → Int → List Int → Option R) : Nat → List Int → List Int → List Int → Int → List Int → Option R
  | 0, _, _, _, _, _ => none
  | k + 1, x1177, x1178, x1179, x1180, x1181 => F65_0_step n k0 (F65_0_it n k0 k) x1177 x1178 x1179 x1180 x1181
noncomputable def F65_0 {R : Type} (n : Nat) (x1177 : List Int) (x1178 : List Int) (x1179 : List Int) (x1180 : Int) (x1181 : List Int) (k0 : List Int → List Int → List Int → Int → List Int → Option R) : Option R := F65_0_it n k0 n x1177 x1178 x1179 x1180 x1181
noncomputable def F65_0z (n : Nat) : Sm G := inZ G 0 ⟨[0, 1, 4, 5, 6], []⟩ F65_0s fun R x K => F65_0_it n (fun u0 u1 u2 u3 u4 => K (.exit 2) (SSh.enc G F65_0x0 ((u0, (u1, ((), (u2, (u3, ()))))), (u4, ())))) n x.1.1 x.1.2.1 x.1.2.2.2.1 x.1.2.2.2.2.1 x.2.1
theorem F65_0_eq (n : Nat) (R : Type) (rec : SSh.den G F65_0s → Option R) (x : SSh.den G F65_0s) (K : AE → St G → Option R) :
  F65_0_step n (fun u0 u1 u2 u3 u4 => K (.exit 2) (SSh.enc G F65_0x0 ((u0, (u1, ((), (u2, (u3, ()))))), (u4, ())))) (fun x1177 x1178 x1179 x1180 x1181 => rec ((x1177, (x1178, ((), (x1179, (x1180, ()))))), (x1181, ()))) x.1.1 x.1.2.1 x.1.2.2.2.1 x.1.2.2.2.2.1 x.2.1 = exec prog G (ro G (tabOf (E44 n)) (frOf []) R) 0 (codeAt F65c [1, 1, 0, 1, 0, 0, 1, 0, 0, 1, 0, 0]) .no (SSh.enc G F65_0s x) (kLoop G (ro G (tabOf (E44 n)) (frOf []) R) 0 ⟨[0, 1, 4, 5, 6], []⟩ F65_0s ⟨⟨[0, 1, 4, 5, 6], []⟩, ⟨[4, 5], []⟩, [(2, ⟨[0, 1, 4, 5, 6], []⟩), (1, ⟨[0, 1, 4, 5, 6], []⟩), (0, ⟨[4, 5], []⟩)]⟩ rec K) := by kernel_rfl
theorem F65_0_ok (n : Nat) : FragOK prog G 0 (codeAt F65c [1, 1, 0, 1, 0, 0, 1, 0, 0, 1, 0]) (F65_0z n) :=
  frag_loop (Z := fun R k (x : SSh.den G F65_0s) K => F65_0_it n (fun u0 u1 u2 u3 u4 => K (.exit 2) (SSh.enc G F65_0x0 ((u0, (u1, ((), (u2, (u3, ()))))), (u4, ())))) k x.1.1 x.1.2.1 x.1.2.2.2.1 x.1.2.2.2.2.1 x.2.1) laws fnok (E44_ok n).tab (AllF.of (l := []) (by kernel_rfl) AllF.nil) (fun _ _ _ => rfl) (fun R k y K => F65_0_eq n R (fun (x : SSh.den G F65_0s) => F65_0_it n (fun u0 u1 u2 u3 u4 => K (.exit 2) (SSh.enc G F65_0x0 ((u0, (u1, ((), (u2, (u3, ()))))), (u4, ())))) k x.1.1 x.1.2.1 x.1.2.2.2.1 x.1.2.2.2.2.1 x.2.1) y K) n
noncomputable def F65_1x0 : SSh := ⟨41, [(4, (.own 0)), (5, (.imm 0))], [(.arr 0 true)]⟩
noncomputable def F65_1s : SSh := ⟨41, [(0, (.imm 0)), (1, (.imm 0)), (4, (.own 0)), (5, (.imm 0)), (6, (.int .i64))], [(.arr 0 true)]⟩
noncomputable def F65_1_step {R : Type} (n : Nat) (k0 : List Int → List Int → Option R) (rec : List Int → List Int → List Int → Int → List Int → Option R) (x1166 : List Int) (x1167 : List Int) (x1168 : List Int) (x1169 : Int) (x1170 : List Int) : Option R :=
  (bif (decide (x1169 ≥ (0 : Int))) then
  (bif (decide ((0 : Int) ≤ x1169)) then
  (bif (decide (x1169 < ((x1166.length) : Int))) then
  let v1174 := ((x1166.getD (x1169.toNat) (0 : Int)) :: [])
  (bif (decide (((v1174.length) + (x1168.length)) ≤ (68719476736 : Nat))) then
  (andThen (F44 n (v1174 ++ x1168)) fun r1176 =>
  (F65_0 n x1166 x1167 r1176.1 x1169 x1170 (fun z1190 z1191 z1192 z1193 z1194 =>
  (rec z1190 z1191 z1192 (IntKind.wrap .i64 (z1193 - (1 : Int))) z1194))))
  else none)
  else none)
  else none)
  else (k0 x1168 x1170))
noncomputable def F65_1_it {R : Type} (n : Nat) (k0 : List Int → List Int → Option R) : Nat → List Int → List Int → List Int → Int → List Int → Option R
  | 0, _, _, _, _, _ => none
  | k + 1, x1166, x1167, x1168, x1169, x1170 => F65_1_step n k0 (F65_1_it n k0 k) x1166 x1167 x1168 x1169 x1170
noncomputable def F65_1 {R : Type} (n : Nat) (x1166 : List Int) (x1167 : List Int) (x1168 : List Int) (x1169 : Int) (x1170 : List Int) (k0 : List Int → List Int → Option R) : Option R := F65_1_it n k0 n x1166 x1167 x1168 x1169 x1170
noncomputable def F65_1z (n : Nat) : Sm G := inZ G 0 ⟨[0, 1, 4, 5, 6], []⟩ F65_1s fun R x K => F65_1_it n (fun u0 u1 => K (.exit 0) (SSh.enc G F65_1x0 (((), (u0, ())), (u1, ())))) n x.1.1 x.1.2.1 x.1.2.2.2.1 x.1.2.2.2.2.1 x.2.1
theorem F65_1_eq (n : Nat) (R : Type) (rec : SSh.den G F65_1s → Option R) (x : SSh.den G F65_1s) (K : AE → St G → Option R) :
  F65_1_step n (fun u0 u1 => K (.exit 0) (SSh.enc G F65_1x0 (((), (u0, ())), (u1, ())))) (fun x1166 x1167 x1168 x1169 x1170 => rec ((x1166, (x1167, ((), (x1168, (x1169, ()))))), (x1170, ()))) x.1.1 x.1.2.1 x.1.2.2.2.1 x.1.2.2.2.2.1 x.2.1 = exec prog G (ro G (tabOf (E44 n)) (frOf [F65_0z n]) R) 0 (codeAt F65c [1, 1, 0, 1, 0, 0]) (.nd .no (.nd (.nd (.nd .no (.nd (.use 0) .no)) .no) .no)) (SSh.enc G F65_1s x) (kLoop G (ro G (tabOf (E44 n)) (frOf [F65_0z n]) R) 0 ⟨[0, 1, 4, 5, 6], []⟩ F65_1s ⟨⟨[4, 5], []⟩, ⟨[4, 5], []⟩, [(0, ⟨[4, 5], []⟩)]⟩ rec K) := by kernel_rfl
theorem F65_1_ok (n : Nat) : FragOK prog G 0 (codeAt F65c [1, 1, 0, 1, 0]) (F65_1z n) :=
  frag_loop (Z := fun R k (x : SSh.den G F65_1s) K => F65_1_it n (fun u0 u1 => K (.exit 0) (SSh.enc G F65_1x0 (((), (u0, ())), (u1, ())))) k x.1.1 x.1.2.1 x.1.2.2.2.1 x.1.2.2.2.2.1 x.2.1) laws fnok (E44_ok n).tab (AllF.of (l := [(0, codeAt F65c [1, 1, 0, 1, 0, 0, 1, 0, 0, 1, 0])]) (by kernel_rfl) (AllF.cons (F65_0_ok n) AllF.nil)) (fun _ _ _ => rfl) (fun R k y K => F65_1_eq n R (fun (x : SSh.den G F65_1s) => F65_1_it n (fun u0 u1 => K (.exit 0) (SSh.enc G F65_1x0 (((), (u0, ())), (u1, ())))) k x.1.1 x.1.2.1 x.1.2.2.2.1 x.1.2.2.2.2.1 x.2.1) y K) n
noncomputable def F65 (n : Nat) (a1160 : List Int) (a1161 : List Int) : Option ((List Int × (List Int × Unit)) × Unit) :=
  let v1162 := ((a1160.length) : Int)
  (bif (decide ((0 : Int) ≤ v1162)) then
  (bif (decide (v1162 ≤ v1162)) then
  (bif (decide (v1162 ≤ ((68719476736 : Nat) : Int))) then
  (F65_1 n a1160 a1161 [] (IntKind.wrap .i64 (((a1160.length) : Int) - (1 : Int))) (List.replicate (v1162.toNat) (0 : Int)) (fun z1196 z1197 =>
  (andThen (F44 n z1197) fun r1198 =>
  some ((r1198.1, (z1196, ())), ()))))
  else none)
  else none)
  else none)
noncomputable def F65e (n : Nat) : Ent G := ⟨65, (.cons (.imm 0) (.cons (.imm 0) .nil)), [], (.tup (.cons (.imm 0) (.cons (.imm 0) .nil))), [], fun x y => F65 n x.1 x.2.1⟩
theorem F65_eq (n : Nat) (x : ShL.den G (.cons (.imm 0) (.cons (.imm 0) .nil))) (y : denO G []) : (F65e n).F x y = runFn prog G (ro G (tabOf (E44 n)) (frOf [F65_0z n, F65_1z n]) _) Go.Proofs.Try.f65 (.nd .no (.nd .no (.nd (.nd .no (.nd (.use 1) .no)) .no))) [(0, .fz), (1, .fz)] (ShL.enc G (.cons (.imm 0) (.cons (.imm 0) .nil)) x) (encO G [] y) (decR (.tup (.cons (.imm 0) (.cons (.imm 0) .nil))) []) := by kernel_rfl
theorem F65_ok (n : Nat) : EntOK prog G (F65e n) :=
  ent_ok (fr := frOf [F65_0z n, F65_1z n]) (ann := (.nd .no (.nd .no (.nd (.nd .no (.nd (.use 1) .no)) .no)))) (frm := [(0, .fz), (1, .fz)]) laws fnok (E44_ok n).tab (e := F65e n) (fn := Go.Proofs.Try.f65) (by kernel_rfl) (AllF.ofB (cd := F65c) (l := [(1, codeAt F65c [1, 1, 0, 1, 0])]) (by kernel_rfl) (by kernel_rfl) (AllF.cons (F65_1_ok n) AllF.nil)) (F65_eq n)
noncomputable def E45 (n : Nat) : List (Ent G) := F65e n :: E44 n
theorem E45_ok (n : Nat) : AllE prog G (E45 n) := AllE.cons (F65_ok n) (E44_ok n)
noncomputable def F41_0x0 : SSh := ⟨49, [(4, (.ptr 0 0)), (5, (.ptr 1 0))], [(.box 38 (.cons .bool (.cons (.imm 0) .nil))), (.box 38 (.cons .bool (.cons (.imm 0) .nil)))]⟩
noncomputable def F41_0s : SSh := ⟨49, [(3, (.ptr 0 0)), (4, (.ptr 1 0)), (5, (.ptr 2 0))], [(.box 38 (.cons .bool (.cons (.imm 0) .nil))), (.box 38 (.cons .bool (.cons (.imm 0) .nil))), (.box 38 (.cons .bool (.cons (.imm 0) .nil)))]⟩
noncomputable def F41_0 {R : Type} (n : Nat) (x1203 : Bool) (x1204 : List Int) (x1205 : Bool) (x1206 : List Int) (x1207 : Bool) (x1208 : List Int) (k0 : Bool → List Int → Bool → List Int → Option R) : Option R :=
  (bif (decide (((x1208.length) : Int) > (0 : Int))) then
  (bif (!(x1207 == x1203)) then
  (andThen (F34 n x1205 x1206 true ((1 : Int) :: [])) fun r1213 =>
  (andThen (F34 n x1207 x1208 x1203 x1204) fun r1214 =>
  (k0 r1213.1.1 r1213.1.2.1 r1214.1.1 r1214.1.2.1)))
  else (k0 x1205 x1206 x1207 x1208))
  else (k0 x1205 x1206 x1207 x1208))
noncomputable def F41_0z (n : Nat) : Sm G := inZ G 0 ⟨[3, 4, 5], []⟩ F41_0s fun R x K => F41_0 n x.2.1.1 x.2.1.2.1 x.2.2.1.1 x.2.2.1.2.1 x.2.2.2.1.1 x.2.2.2.1.2.1 (fun u0 u1 u2 u3 => K .normal (SSh.enc G F41_0x0 (((), ((), ())), ((u0, (u1, ())), ((u2, (u3, ())), ())))))
theorem F41_0_eq (n : Nat) (R : Type) (x : SSh.den G F41_0s) (K : AE → St G → Option R) :
  F41_0 n x.2.1.1 x.2.1.2.1 x.2.2.1.1 x.2.2.1.2.1 x.2.2.2.1.1 x.2.2.2.1.2.1 (fun u0 u1 u2 u3 => K .normal (SSh.enc G F41_0x0 (((), ((), ())), ((u0, (u1, ())), ((u2, (u3, ())), ()))))) = exec prog G (ro G (tabOf (E45 n)) (frOf []) R) 0 (codeAt F41c [1, 1, 1, 0]) .no (SSh.enc G F41_0s x) (kNrm G (ro G (tabOf (E45 n)) (frOf []) R) 0 ⟨⟨[4, 5], []⟩, ⟨[4, 5], []⟩, []⟩ K) := by kernel_rfl
theorem F41_0_ok (n : Nat) : FragOK prog G 0 (codeAt F41c [1, 1, 1, 0]) (F41_0z n) :=
  frag_plain laws fnok (E45_ok n).tab (AllF.of (l := []) (by kernel_rfl) AllF.nil) (F41_0_eq n)
noncomputable def F41 (n : Nat) (a1121 : Bool) (a1122 : List Int) (a1123 : Bool) (a1124 : List Int) : Option (((Bool × (List Int × Unit)) × ((Bool × (List Int × Unit)) × Unit)) × Unit) :=
  (andThen (F65 n a1122 a1124) fun r1199 =>
  (andThen (F57 n (!(a1121 == a1123)) r1199.1.1) fun r1201 =>
  (andThen (F57 n a1121 r1199.1.2.1) fun r1202 =>
  (F41_0 n a1123 a1124 r1201.1.1 r1201.1.2.1 r1202.1.1 r1202.1.2.1 (fun z1215 z1216 z1217 z1218 =>
  some (((z1215, (z1216, ())), ((z1217, (z1218, ())), ())), ()))))))
noncomputable def F41e (n : Nat) : Ent G := ⟨41, (.cons (.agg (.cons .bool (.cons (.imm 0) .nil))) (.cons (.agg (.cons .bool (.cons (.imm 0) .nil))) .nil)), [], (.tup (.cons (.agg (.cons .bool (.cons (.imm 0) .nil))) (.cons (.agg (.cons .bool (.cons (.imm 0) .nil))) .nil))), [], fun x y => F41 n x.1.1 x.1.2.1 x.2.1.1 x.2.1.2.1⟩
theorem F41_eq (n : Nat) (x : ShL.den G (.cons (.agg (.cons .bool (.cons (.imm 0) .nil))) (.cons (.agg (.cons .bool (.cons (.imm 0) .nil))) .nil))) (y : denO G []) : (F41e n).F x y = runFn prog G (ro G (tabOf (E45 n)) (frOf [F41_0z n]) _) Go.Proofs.Try.f41 (.nd .no (.nd .no (.nd .no (.nd (.use 0) .no)))) [(0, .fz), (1, .fz)] (ShL.enc G (.cons (.agg (.cons .bool (.cons (.imm 0) .nil))) (.cons (.agg (.cons .bool (.cons (.imm 0) .nil))) .nil)) x) (encO G [] y) (decR (.tup (.cons (.agg (.cons .bool (.cons (.imm 0) .nil))) (.cons (.agg (.cons .bool (.cons (.imm 0) .nil))) .nil))) []) := by kernel_rfl
theorem F41_ok (n : Nat) : EntOK prog G (F41e n) :=
  ent_ok (fr := frOf [F41_0z n]) (ann := (.nd .no (.nd .no (.nd .no (.nd (.use 0) .no))))) (frm := [(0, .fz), (1, .fz)]) laws fnok (E45_ok n).tab (e := F41e n) (fn := Go.Proofs.Try.f41) (by kernel_rfl) (AllF.ofB (cd := F41c) (l := [(0, codeAt F41c [1, 1, 1, 0])]) (by kernel_rfl) (by kernel_rfl) (AllF.cons (F41_0_ok n) AllF.nil)) (F41_eq n)
noncomputable def E46 (n : Nat) : List (Ent G) := F41e n :: E45 n
theorem E46_ok (n : Nat) : AllE prog G (E46 n) := AllE.cons (F41_ok n) (E45_ok n)
noncomputable def F17 (n : Nat) (a1115 : ByteArray) (a1116 : ByteArray) : Option ((ByteArray × (Bool × Unit)) × Unit) :=
  (andThen (F33 n a1115 a1116) fun r1117 =>
  (bif (!r1117.1.2.2.1) then
  some ((({ data := #[] } : ByteArray), (false, ())), ())
  else (bif (((r1117.1.2.1.2.1.length) : Int) == (0 : Int)) then
  some ((({ data := #[] } : ByteArray), (false, ())), ())
  else (andThen (F41 n r1117.1.1.1 r1117.1.1.2.1 r1117.1.2.1.1 r1117.1.2.1.2.1) fun r1219 =>
  (andThen (F35 n r1219.1.1.1 r1219.1.1.2.1) fun r1220 =>
  some ((r1220.1.1, (r1220.1.2.1, ())), ()))))))
noncomputable def F17e (n : Nat) : Ent G := ⟨17, (.cons .str (.cons .str .nil)), [], (.tup (.cons .str (.cons .bool .nil))), [], fun x y => F17 n x.1 x.2.1⟩
theorem F17_eq (n : Nat) (x : ShL.den G (.cons .str (.cons .str .nil))) (y : denO G []) : (F17e n).F x y = runFn prog G (ro G (tabOf (E46 n)) (frOf []) _) Go.Proofs.Try.f17 .no [(0, .fz), (1, .fz)] (ShL.enc G (.cons .str (.cons .str .nil)) x) (encO G [] y) (decR (.tup (.cons .str (.cons .bool .nil))) []) := by kernel_rfl
theorem F17_ok (n : Nat) : EntOK prog G (F17e n) :=
  ent_ok (fr := frOf []) (ann := .no) (frm := [(0, .fz), (1, .fz)]) laws fnok (E46_ok n).tab (e := F17e n) (fn := Go.Proofs.Try.f17) (by kernel_rfl) (AllF.ofB (cd := F17c) (l := []) (by kernel_rfl) (by kernel_rfl) AllF.nil) (F17_eq n)
noncomputable def E47 (n : Nat) : List (Ent G) := F17e n :: E46 n
theorem E47_ok (n : Nat) : AllE prog G (E47 n) := AllE.cons (F17_ok n) (E46_ok n)
-- 18 loop.example/slowworm/impl.IntMod
noncomputable def F18c : Code := bodyOf Go.Proofs.Try.f18
noncomputable def F18 (n : Nat) (a1222 : ByteArray) (a1223 : ByteArray) : Option ((ByteArray × (Bool × Unit)) × Unit) :=
  (andThen (F33 n a1222 a1223) fun r1224 =>
  (bif (!r1224.1.2.2.1) then
  some ((({ data := #[] } : ByteArray), (false, ())), ())
  else (bif (((r1224.1.2.1.2.1.length) : Int) == (0 : Int)) then
  some ((({ data := #[] } : ByteArray), (false, ())), ())
  else (andThen (F41 n r1224.1.1.1 r1224.1.1.2.1 r1224.1.2.1.1 r1224.1.2.1.2.1) fun r1228 =>
  (andThen (F35 n r1228.1.2.1.1 r1228.1.2.1.2.1) fun r1229 =>
  some ((r1229.1.1, (r1229.1.2.1, ())), ()))))))
noncomputable def F18e (n : Nat) : Ent G := ⟨18, (.cons .str (.cons .str .nil)), [], (.tup (.cons .str (.cons .bool .nil))), [], fun x y => F18 n x.1 x.2.1⟩
theorem F18_eq (n : Nat) (x : ShL.den G (.cons .str (.cons .str .nil))) (y : denO G []) : (F18e n).F x y = runFn prog G (ro G (tabOf (E47 n)) (frOf []) _) Go.Proofs.Try.f18 .no [(0, .fz), (1, .fz)] (ShL.enc G (.cons .str (.cons .str .nil)) x) (encO G [] y) (decR (.tup (.cons .str (.cons .bool .nil))) []) := by kernel_rfl
theorem F18_ok (n : Nat) : EntOK prog G (F18e n) :=
  ent_ok (fr := frOf []) (ann := .no) (frm := [(0, .fz), (1, .fz)]) laws fnok (E47_ok n).tab (e := F18e n) (fn := Go.Proofs.Try.f18) (by kernel_rfl) (AllF.ofB (cd := F18c) (l := []) (by kernel_rfl) (by kernel_rfl) AllF.nil) (F18_eq n)
noncomputable def E48 (n : Nat) : List (Ent G) := F18e n :: E47 n
theorem E48_ok (n : Nat) : AllE prog G (E48 n) := AllE.cons (F18_ok n) (E47_ok n)
noncomputable def F4 (n : Nat) (a915 : List Int) : Option (Bool × Unit) :=
  (bif (decide (((a915.length) : Int) > (1048576 : Int))) then
  some (true, ())
  else (andThen (F14 n a915) fun r924 =>
  (andThen (F15 n r924.1.1 r924.1.2.1) fun r1036 =>
  (andThen (F16 n r924.1.1 r924.1.2.1) fun r1105 =>
  (bif ((r1036.1.1.toList) == (r1105.1.1.toList)) then
  let v1107 := (r1036.1.2.1 == r1105.1.2.1)
  (bif (!v1107) then
  some (v1107, ())
  else (bif (!r1036.1.2.1) then
  some (v1107, ())
  else (andThen (F15 n r924.1.2.1 r924.1.1) fun r1110 =>
  (bif (!r1110.1.2.1) then
  some (false, ())
  else (bif (!((r1110.1.1.toList) == (r1036.1.1.toList))) then
  some (false, ())
  else (bif ((r924.1.2.1.toList) == (({ data := #[48] } : ByteArray).toList)) then
  some (((r1036.1.1.toList) == (({ data := #[48] } : ByteArray).toList)), ())
  else (andThen (F17 n r1036.1.1 r924.1.2.1) fun r1221 =>
  (andThen (F18 n r1036.1.1 r924.1.2.1) fun r1230 =>
  (bif r1221.1.2.1 then
  (bif ((r1221.1.1.toList) == (r924.1.1.toList)) then
  (bif r1230.1.2.1 then
  some (((r1230.1.1.toList) == (({ data := #[48] } : ByteArray).toList)), ())
  else some (false, ()))
  else some (false, ()))
  else some (false, ()))))))))))
  else some (false, ()))))))
noncomputable def F4e (n : Nat) : Ent G := ⟨4, (.cons (.imm 1) .nil), [], .bool, [], fun x y => F4 n x.1⟩
theorem F4_eq (n : Nat) (x : ShL.den G (.cons (.imm 1) .nil)) (y : denO G []) : (F4e n).F x y = runFn prog G (ro G (tabOf (E48 n)) (frOf []) _) Go.Proofs.Try.f4 .no [(0, .fz)] (ShL.enc G (.cons (.imm 1) .nil) x) (encO G [] y) (decR .bool []) := by kernel_rfl
theorem F4_ok (n : Nat) : EntOK prog G (F4e n) :=
  ent_ok (fr := frOf []) (ann := .no) (frm := [(0, .fz)]) laws fnok (E48_ok n).tab (e := F4e n) (fn := Go.Proofs.Try.f4) (by kernel_rfl) (AllF.ofB (cd := F4c) (l := []) (by kernel_rfl) (by kernel_rfl) AllF.nil) (F4_eq n)
noncomputable def E49 (n : Nat) : List (Ent G) := F4e n :: E48 n
theorem E49_ok (n : Nat) : AllE prog G (E49 n) := AllE.cons (F4_ok n) (E48_ok n)
-- 5 loop.example/slowworm/laws.FnIntSub
noncomputable def F5c : Code := bodyOf Go.Proofs.Try.f5
-- 19 loop.example/slowworm/spec.DrawIntSub
noncomputable def F19c : Code := bodyOf Go.Proofs.Try.f19
noncomputable def F19 (n : Nat) (a1236 : List Int) : Option ((ByteArray × (ByteArray × Unit)) × Unit) :=
  (andThen (F30 n a1236) fun r1237 =>
  (andThen (F31 n r1237.2.1.1 r1237.2.1.2.1) fun r1238 =>
  (andThen (F32 n (6 : Int) r1238.2.1.1 r1238.2.1.2.1) fun r1239 =>
  (bif (r1239.1 == (0 : Int)) then
  some ((r1238.1, (r1238.1, ())), ())
  else (andThen (F31 n r1239.2.1.1 r1239.2.1.2.1) fun r1241 =>
  some ((r1238.1, (r1241.1, ())), ()))))))
noncomputable def F19e (n : Nat) : Ent G := ⟨19, (.cons (.imm 1) .nil), [], (.tup (.cons .str (.cons .str .nil))), [], fun x y => F19 n x.1⟩
theorem F19_eq (n : Nat) (x : ShL.den G (.cons (.imm 1) .nil)) (y : denO G []) : (F19e n).F x y = runFn prog G (ro G (tabOf (E49 n)) (frOf []) _) Go.Proofs.Try.f19 .no [(0, .fz), (1, .fz)] (ShL.enc G (.cons (.imm 1) .nil) x) (encO G [] y) (decR (.tup (.cons .str (.cons .str .nil))) []) := by kernel_rfl
theorem F19_ok (n : Nat) : EntOK prog G (F19e n) :=
  ent_ok (fr := frOf []) (ann := .no) (frm := [(0, .fz), (1, .fz)]) laws fnok (E49_ok n).tab (e := F19e n) (fn := Go.Proofs.Try.f19) (by kernel_rfl) (AllF.ofB (cd := F19c) (l := []) (by kernel_rfl) (by kernel_rfl) AllF.nil) (F19_eq n)
noncomputable def E50 (n : Nat) : List (Ent G) := F19e n :: E49 n
theorem E50_ok (n : Nat) : AllE prog G (E50 n) := AllE.cons (F19_ok n) (E49_ok n)
-- 20 loop.example/slowworm/spec.IntSub
noncomputable def F20c : Code := bodyOf Go.Proofs.Try.f20
-- 42 loop.example/slowworm/spec.negInt
noncomputable def F42c : Code := bodyOf Go.Proofs.Try.f42
noncomputable def F42 (n : Nat) (a1250 : ByteArray) : Option (ByteArray × Unit) :=
  (andThen (F47 n a1250) fun r1251 =>
  (andThen (F51 n r1251.1.1 (!r1251.1.2.1)) fun r1253 =>
  some (r1253.1, ())))
noncomputable def F42e (n : Nat) : Ent G := ⟨42, (.cons .str .nil), [], .str, [], fun x y => F42 n x.1⟩
theorem F42_eq (n : Nat) (x : ShL.den G (.cons .str .nil)) (y : denO G []) : (F42e n).F x y = runFn prog G (ro G (tabOf (E50 n)) (frOf []) _) Go.Proofs.Try.f42 .no [(0, .fz)] (ShL.enc G (.cons .str .nil) x) (encO G [] y) (decR .str []) := by kernel_rfl
theorem F42_ok (n : Nat) : EntOK prog G (F42e n) :=
  ent_ok (fr := frOf []) (ann := .no) (frm := [(0, .fz)]) laws fnok (E50_ok n).tab (e := F42e n) (fn := Go.Proofs.Try.f42) (by kernel_rfl) (AllF.ofB (cd := F42c) (l := []) (by kernel_rfl) (by kernel_rfl) AllF.nil) (F42_eq n)
noncomputable def E51 (n : Nat) : List (Ent G) := F42e n :: E50 n
theorem E51_ok (n : Nat) : AllE prog G (E51 n) := AllE.cons (F42_ok n) (E50_ok n)
noncomputable def F20 (n : Nat) (a1244 : ByteArray) (a1245 : ByteArray) : Option ((ByteArray × (Bool × Unit)) × Unit) :=
  (andThen (F36 n a1244) fun r1246 =>
  (bif (!r1246.1) then
  some ((({ data := #[] } : ByteArray), (false, ())), ())
  else (andThen (F36 n a1245) fun r1248 =>
  (bif (!r1248.1) then
  some ((({ data := #[] } : ByteArray), (false, ())), ())
  else (andThen (F42 n a1245) fun r1254 =>
  (andThen (F37 n a1244 r1254.1) fun r1255 =>
  some ((r1255.1.1, (r1255.1.2.1, ())), ())))))))
noncomputable def F20e (n : Nat) : Ent G := ⟨20, (.cons .str (.cons .str .nil)), [], (.tup (.cons .str (.cons .bool .nil))), [], fun x y => F20 n x.1 x.2.1⟩
theorem F20_eq (n : Nat) (x : ShL.den G (.cons .str (.cons .str .nil))) (y : denO G []) : (F20e n).F x y = runFn prog G (ro G (tabOf (E51 n)) (frOf []) _) Go.Proofs.Try.f20 .no [(0, .fz), (1, .fz)] (ShL.enc G (.cons .str (.cons .str .nil)) x) (encO G [] y) (decR (.tup (.cons .str (.cons .bool .nil))) []) := by kernel_rfl
theorem F20_ok (n : Nat) : EntOK prog G (F20e n) :=
  ent_ok (fr := frOf []) (ann := .no) (frm := [(0, .fz), (1, .fz)]) laws fnok (E51_ok n).tab (e := F20e n) (fn := Go.Proofs.Try.f20) (by kernel_rfl) (AllF.ofB (cd := F20c) (l := []) (by kernel_rfl) (by kernel_rfl) AllF.nil) (F20_eq n)
noncomputable def E52 (n : Nat) : List (Ent G) := F20e n :: E51 n
theorem E52_ok (n : Nat) : AllE prog G (E52 n) := AllE.cons (F20_ok n) (E51_ok n)
noncomputable def F5 (n : Nat) (a1233 : List Int) : Option (Bool × Unit) :=
  (bif (decide (((a1233.length) : Int) > (1048576 : Int))) then
  some (true, ())
  else (andThen (F19 n a1233) fun r1242 =>
  (andThen (F13 n r1242.1.1 r1242.1.2.1) fun r1243 =>
  (andThen (F20 n r1242.1.1 r1242.1.2.1) fun r1256 =>
  (bif ((r1243.1.1.toList) == (r1256.1.1.toList)) then
  let v1258 := (r1243.1.2.1 == r1256.1.2.1)
  (bif (!v1258) then
  some (v1258, ())
  else (bif (!r1243.1.2.1) then
  some (v1258, ())
  else (andThen (F11 n r1243.1.1 r1242.1.2.1) fun r1261 =>
  (andThen (F13 n r1242.1.2.1 r1242.1.1) fun r1262 =>
  (andThen (F11 n r1243.1.1 r1262.1.1) fun r1263 =>
  (bif r1261.1.2.1 then
  (bif ((r1261.1.1.toList) == (r1242.1.1.toList)) then
  (bif r1262.1.2.1 then
  (bif r1263.1.2.1 then
  some (((r1263.1.1.toList) == (({ data := #[48] } : ByteArray).toList)), ())
  else some (false, ()))
  else some (false, ()))
  else some (false, ()))
  else some (false, ())))))))
  else some (false, ()))))))
noncomputable def F5e (n : Nat) : Ent G := ⟨5, (.cons (.imm 1) .nil), [], .bool, [], fun x y => F5 n x.1⟩
theorem F5_eq (n : Nat) (x : ShL.den G (.cons (.imm 1) .nil)) (y : denO G []) : (F5e n).F x y = runFn prog G (ro G (tabOf (E52 n)) (frOf []) _) Go.Proofs.Try.f5 .no [(0, .fz)] (ShL.enc G (.cons (.imm 1) .nil) x) (encO G [] y) (decR .bool []) := by kernel_rfl
theorem F5_ok (n : Nat) : EntOK prog G (F5e n) :=
  ent_ok (fr := frOf []) (ann := .no) (frm := [(0, .fz)]) laws fnok (E52_ok n).tab (e := F5e n) (fn := Go.Proofs.Try.f5) (by kernel_rfl) (AllF.ofB (cd := F5c) (l := []) (by kernel_rfl) (by kernel_rfl) AllF.nil) (F5_eq n)
noncomputable def E53 (n : Nat) : List (Ent G) := F5e n :: E52 n
theorem E53_ok (n : Nat) : AllE prog G (E53 n) := AllE.cons (F5_ok n) (E52_ok n)
-- 6 loop.example/slowworm/laws.FnIntRoot
noncomputable def F6c : Code := bodyOf Go.Proofs.Try.f6
-- 21 loop.example/slowworm/spec.DrawIntRoot
noncomputable def F21c : Code := bodyOf Go.Proofs.Try.f21
noncomputable def F21 (n : Nat) (a1269 : List Int) : Option (ByteArray × Unit) :=
  (andThen (F30 n a1269) fun r1270 =>
  (andThen (F31 n r1270.2.1.1 r1270.2.1.2.1) fun r1271 =>
  some (r1271.1, ())))
noncomputable def F21e (n : Nat) : Ent G := ⟨21, (.cons (.imm 1) .nil), [], .str, [], fun x y => F21 n x.1⟩
theorem F21_eq (n : Nat) (x : ShL.den G (.cons (.imm 1) .nil)) (y : denO G []) : (F21e n).F x y = runFn prog G (ro G (tabOf (E53 n)) (frOf []) _) Go.Proofs.Try.f21 .no [(0, .fz)] (ShL.enc G (.cons (.imm 1) .nil) x) (encO G [] y) (decR .str []) := by kernel_rfl
theorem F21_ok (n : Nat) : EntOK prog G (F21e n) :=
  ent_ok (fr := frOf []) (ann := .no) (frm := [(0, .fz)]) laws fnok (E53_ok n).tab (e := F21e n) (fn := Go.Proofs.Try.f21) (by kernel_rfl) (AllF.ofB (cd := F21c) (l := []) (by kernel_rfl) (by kernel_rfl) AllF.nil) (F21_eq n)
noncomputable def E54 (n : Nat) : List (Ent G) := F21e n :: E53 n
theorem E54_ok (n : Nat) : AllE prog G (E54 n) := AllE.cons (F21_ok n) (E53_ok n)
-- 22 loop.example/slowworm/impl.IntRoot
noncomputable def F22c : Code := bodyOf Go.Proofs.Try.f22
noncomputable def F22_0x0 : SSh := ⟨58, [(4, (.ptr 0 0)), (6, (.own 1)), (7, (.int .i64))], [(.box 38 (.cons .bool (.cons (.imm 0) .nil))), (.arr 0 true)]⟩
noncomputable def F22_0s : SSh := ⟨58, [(4, (.ptr 0 0)), (6, (.own 1)), (7, (.int .i64)), (8, (.int .i64))], [(.box 38 (.cons .bool (.cons (.imm 0) .nil))), (.arr 0 true)]⟩
noncomputable def F22_0_step {R : Type} (n : Nat) (k0 : Int → Bool → List Int → List Int → Option R) (rec : Int → Int → Bool → List Int → List Int → Option R) (x1291 : Int) (x1292 : Int) (x1293 : Bool) (x1294 : List Int) (x1295 : List Int) : Option R :=
  (bif (decide (x1292 ≥ (0 : Int))) then
  (bif (decide ((0 : Int) ≤ x1291)) then
  (bif (decide (x1291 < ((x1295.length) : Int))) then
  let v1298 := (x1295.set (x1291.toNat) x1292)
  (bif (decide ((v1298.length) ≤ (68719476736 : Nat))) then
  (andThen (F44 n v1298) fun r1300 =>
  (andThen (F46 n r1300.1 r1300.1) fun r1301 =>
  (andThen (F45 n r1301.1 x1294) fun r1302 =>
  (bif (decide (r1302.1 ≤ (0 : Int))) then
  (k0 x1291 x1293 x1294 v1298)
  else (rec x1291 (IntKind.wrap .i64 (x1292 - (1 : Int))) x1293 x1294 v1298)))))
  else none)
  else none)
  else none)
  else (k0 x1291 x1293 x1294 x1295))
noncomputable def F22_0_it {R : Type} (n : Nat) (k0 : Int → Bool → List Int → List Int → Option R) : Nat → Int → Int → Bool → List Int → List Int → Option R
  | 0, _, _, _, _, _ => none
  | k + 1, x1291, x1292, x1293, x1294, x1295 => F22_0_step n k0 (F22_0_it n k0 k) x1291 x1292 x1293 x1294 x1295
noncomputable def F22_0 {R : Type} (n : Nat) (x1291 : Int) (x1292 : Int) (x1293 : Bool) (x1294 : List Int) (x1295 : List Int) (k0 : Int → Bool → List Int → List Int → Option R) : Option R := F22_0_it n k0 n x1291 x1292 x1293 x1294 x1295
noncomputable def F22_0z (n : Nat) : Sm G := inZ G 0 ⟨[4, 6, 7, 8], []⟩ F22_0s fun R x K => F22_0_it n (fun u0 u1 u2 u3 => K (.exit 2) (SSh.enc G F22_0x0 (((), ((), (u0, ()))), ((u1, (u2, ())), (u3, ()))))) n x.1.2.2.1 x.1.2.2.2.1 x.2.1.1 x.2.1.2.1 x.2.2.1
theorem F22_0_eq (n : Nat) (R : Type) (rec : SSh.den G F22_0s → Option R) (x : SSh.den G F22_0s) (K : AE → St G → Option R) :
  F22_0_step n (fun u0 u1 u2 u3 => K (.exit 2) (SSh.enc G F22_0x0 (((), ((), (u0, ()))), ((u1, (u2, ())), (u3, ()))))) (fun x1291 x1292 x1293 x1294 x1295 => rec (((), ((), (x1291, (x1292, ())))), ((x1293, (x1294, ())), (x1295, ())))) x.1.2.2.1 x.1.2.2.2.1 x.2.1.1 x.2.1.2.1 x.2.2.1 = exec prog G (ro G (tabOf (E54 n)) (frOf []) R) 0 (codeAt F22c [1, 1, 1, 1, 0, 1, 0, 0, 1, 0, 0, 1, 0, 0]) .no (SSh.enc G F22_0s x) (kLoop G (ro G (tabOf (E54 n)) (frOf []) R) 0 ⟨[4, 6, 7, 8], []⟩ F22_0s ⟨⟨[4, 6, 7], []⟩, ⟨[2, 3], []⟩, [(2, ⟨[4, 6, 7], []⟩), (1, ⟨[4, 6, 7], []⟩), (0, ⟨[6], []⟩)]⟩ rec K) := by kernel_rfl
theorem F22_0_ok (n : Nat) : FragOK prog G 0 (codeAt F22c [1, 1, 1, 1, 0, 1, 0, 0, 1, 0, 0, 1, 0]) (F22_0z n) :=
  frag_loop (Z := fun R k (x : SSh.den G F22_0s) K => F22_0_it n (fun u0 u1 u2 u3 => K (.exit 2) (SSh.enc G F22_0x0 (((), ((), (u0, ()))), ((u1, (u2, ())), (u3, ()))))) k x.1.2.2.1 x.1.2.2.2.1 x.2.1.1 x.2.1.2.1 x.2.2.1) laws fnok (E54_ok n).tab (AllF.of (l := []) (by kernel_rfl) AllF.nil) (fun _ _ _ => rfl) (fun R k y K => F22_0_eq n R (fun (x : SSh.den G F22_0s) => F22_0_it n (fun u0 u1 u2 u3 => K (.exit 2) (SSh.enc G F22_0x0 (((), ((), (u0, ()))), ((u1, (u2, ())), (u3, ()))))) k x.1.2.2.1 x.1.2.2.2.1 x.2.1.1 x.2.1.2.1 x.2.2.1) y K) n
noncomputable def F22_1x0 : SSh := ⟨58, [(4, (.ptr 0 0)), (6, (.own 1)), (7, (.int .i64))], [(.box 38 (.cons .bool (.cons (.imm 0) .nil))), (.arr 0 true)]⟩
noncomputable def F22_1s : SSh := ⟨58, [(4, (.ptr 0 0)), (6, (.own 1)), (7, (.int .i64))], [(.box 38 (.cons .bool (.cons (.imm 0) .nil))), (.arr 0 true)]⟩
noncomputable def F22_1 {R : Type} (n : Nat) (x1287 : Int) (x1288 : Bool) (x1289 : List Int) (x1290 : List Int) (k0 : Int → Bool → List Int → List Int → Option R) : Option R :=
  (F22_0 n x1287 (9 : Int) x1288 x1289 x1290 (fun z1305 z1306 z1307 z1308 =>
  (k0 z1305 z1306 z1307 z1308)))
noncomputable def F22_1z (n : Nat) : Sm G := inZ G 0 ⟨[4, 6, 7], []⟩ F22_1s fun R x K => F22_1 n x.1.2.2.1 x.2.1.1 x.2.1.2.1 x.2.2.1 (fun u0 u1 u2 u3 => K .normal (SSh.enc G F22_1x0 (((), ((), (u0, ()))), ((u1, (u2, ())), (u3, ())))))
theorem F22_1_eq (n : Nat) (R : Type) (x : SSh.den G F22_1s) (K : AE → St G → Option R) :
  F22_1 n x.1.2.2.1 x.2.1.1 x.2.1.2.1 x.2.2.1 (fun u0 u1 u2 u3 => K .normal (SSh.enc G F22_1x0 (((), ((), (u0, ()))), ((u1, (u2, ())), (u3, ()))))) = exec prog G (ro G (tabOf (E54 n)) (frOf [F22_0z n]) R) 0 (codeAt F22c [1, 1, 1, 1, 0, 1, 0, 0, 1, 0]) (.nd (.nd .no (.nd (.use 0) .no)) .no) (SSh.enc G F22_1s x) (kNrm G (ro G (tabOf (E54 n)) (frOf [F22_0z n]) R) 0 ⟨⟨[4, 6, 7], []⟩, ⟨[2, 3], []⟩, [(0, ⟨[6], []⟩)]⟩ K) := by kernel_rfl
theorem F22_1_ok (n : Nat) : FragOK prog G 0 (codeAt F22c [1, 1, 1, 1, 0, 1, 0, 0, 1, 0]) (F22_1z n) :=
  frag_plain laws fnok (E54_ok n).tab (AllF.of (l := [(0, codeAt F22c [1, 1, 1, 1, 0, 1, 0, 0, 1, 0, 0, 1, 0])]) (by kernel_rfl) (AllF.cons (F22_0_ok n) AllF.nil)) (F22_1_eq n)
noncomputable def F22_2x0 : SSh := ⟨58, [(6, (.own 0))], [(.arr 0 true)]⟩
noncomputable def F22_2s : SSh := ⟨58, [(4, (.ptr 0 0)), (6, (.own 1)), (7, (.int .i64))], [(.box 38 (.cons .bool (.cons (.imm 0) .nil))), (.arr 0 true)]⟩
noncomputable def F22_2_step {R : Type} (n : Nat) (k0 : List Int → Option R) (rec : Int → Bool → List Int → List Int → Option R) (x1282 : Int) (x1283 : Bool) (x1284 : List Int) (x1285 : List Int) : Option R :=
  (bif (decide (x1282 ≥ (0 : Int))) then
  (F22_1 n x1282 x1283 x1284 x1285 (fun z1309 z1310 z1311 z1312 =>
  (rec (IntKind.wrap .i64 (z1309 - (1 : Int))) z1310 z1311 z1312)))
  else (k0 x1285))
noncomputable def F22_2_it {R : Type} (n : Nat) (k0 : List Int → Option R) : Nat → Int → Bool → List Int → List Int → Option R
  | 0, _, _, _, _ => none
  | k + 1, x1282, x1283, x1284, x1285 => F22_2_step n k0 (F22_2_it n k0 k) x1282 x1283 x1284 x1285
noncomputable def F22_2 {R : Type} (n : Nat) (x1282 : Int) (x1283 : Bool) (x1284 : List Int) (x1285 : List Int) (k0 : List Int → Option R) : Option R := F22_2_it n k0 n x1282 x1283 x1284 x1285
noncomputable def F22_2z (n : Nat) : Sm G := inZ G 0 ⟨[4, 6, 7], []⟩ F22_2s fun R x K => F22_2_it n (fun u0 => K (.exit 0) (SSh.enc G F22_2x0 (((), ()), (u0, ())))) n x.1.2.2.1 x.2.1.1 x.2.1.2.1 x.2.2.1
theorem F22_2_eq (n : Nat) (R : Type) (rec : SSh.den G F22_2s → Option R) (x : SSh.den G F22_2s) (K : AE → St G → Option R) :
  F22_2_step n (fun u0 => K (.exit 0) (SSh.enc G F22_2x0 (((), ()), (u0, ())))) (fun x1282 x1283 x1284 x1285 => rec (((), ((), (x1282, ()))), ((x1283, (x1284, ())), (x1285, ())))) x.1.2.2.1 x.2.1.1 x.2.1.2.1 x.2.2.1 = exec prog G (ro G (tabOf (E54 n)) (frOf [F22_0z n, F22_1z n]) R) 0 (codeAt F22c [1, 1, 1, 1, 0, 1, 0, 0]) (.nd .no (.nd (.use 1) .no)) (SSh.enc G F22_2s x) (kLoop G (ro G (tabOf (E54 n)) (frOf [F22_0z n, F22_1z n]) R) 0 ⟨[4, 6, 7], []⟩ F22_2s ⟨⟨[6], []⟩, ⟨[2, 3], []⟩, [(0, ⟨[6], []⟩)]⟩ rec K) := by kernel_rfl
theorem F22_2_ok (n : Nat) : FragOK prog G 0 (codeAt F22c [1, 1, 1, 1, 0, 1, 0]) (F22_2z n) :=
  frag_loop (Z := fun R k (x : SSh.den G F22_2s) K => F22_2_it n (fun u0 => K (.exit 0) (SSh.enc G F22_2x0 (((), ()), (u0, ())))) k x.1.2.2.1 x.2.1.1 x.2.1.2.1 x.2.2.1) laws fnok (E54_ok n).tab (AllF.of (l := [(1, codeAt F22c [1, 1, 1, 1, 0, 1, 0, 0, 1, 0])]) (by kernel_rfl) (AllF.cons (F22_1_ok n) AllF.nil)) (fun _ _ _ => rfl) (fun R k y K => F22_2_eq n R (fun (x : SSh.den G F22_2s) => F22_2_it n (fun u0 => K (.exit 0) (SSh.enc G F22_2x0 (((), ()), (u0, ())))) k x.1.2.2.1 x.2.1.1 x.2.1.2.1 x.2.2.1) y K) n
noncomputable def F22 (n : Nat) (a1273 : ByteArray) : Option ((ByteArray × (Bool × Unit)) × Unit) :=
  (andThen (F43 n a1273) fun r1274 =>
  (bif (!r1274.1.2.1) then
  some ((({ data := #[] } : ByteArray), (false, ())), ())
  else (bif r1274.1.1.1 then
  some ((({ data := #[] } : ByteArray), (false, ())), ())
  else let v1278 := (IntKind.wrap .i64 ((IntKind.wrap .i64 (((r1274.1.1.2.1.length) : Int).tdiv (2 : Int))) + (1 : Int)))
  (bif (decide ((0 : Int) ≤ v1278)) then
  (bif (decide (v1278 ≤ v1278)) then
  (bif (decide (v1278 ≤ ((68719476736 : Nat) : Int))) then
  let v1279 := (List.replicate (v1278.toNat) (0 : Int))
  (F22_2 n (IntKind.wrap .i64 (((v1279.length) : Int) - (1 : Int))) r1274.1.1.1 r1274.1.1.2.1 v1279 (fun z1314 =>
  (andThen (F44 n z1314) fun r1315 =>
  (andThen (F35 n false r1315.1) fun r1316 =>
  some ((r1316.1.1, (r1316.1.2.1, ())), ())))))
  else none)
  else none)
  else none))))
noncomputable def F22e (n : Nat) : Ent G := ⟨22, (.cons .str .nil), [], (.tup (.cons .str (.cons .bool .nil))), [], fun x y => F22 n x.1⟩
theorem F22_eq (n : Nat) (x : ShL.den G (.cons .str .nil)) (y : denO G []) : (F22e n).F x y = runFn prog G (ro G (tabOf (E54 n)) (frOf [F22_0z n, F22_1z n, F22_2z n]) _) Go.Proofs.Try.f22 (.nd .no (.nd .no (.nd .no (.nd .no (.nd (.nd .no (.nd (.use 2) .no)) .no))))) [(0, .fz), (1, .fz)] (ShL.enc G (.cons .str .nil) x) (encO G [] y) (decR (.tup (.cons .str (.cons .bool .nil))) []) := by kernel_rfl
theorem F22_ok (n : Nat) : EntOK prog G (F22e n) :=
  ent_ok (fr := frOf [F22_0z n, F22_1z n, F22_2z n]) (ann := (.nd .no (.nd .no (.nd .no (.nd .no (.nd (.nd .no (.nd (.use 2) .no)) .no)))))) (frm := [(0, .fz), (1, .fz)]) laws fnok (E54_ok n).tab (e := F22e n) (fn := Go.Proofs.Try.f22) (by kernel_rfl) (AllF.ofB (cd := F22c) (l := [(2, codeAt F22c [1, 1, 1, 1, 0, 1, 0])]) (by kernel_rfl) (by kernel_rfl) (AllF.cons (F22_2_ok n) AllF.nil)) (F22_eq n)
noncomputable def E55 (n : Nat) : List (Ent G) := F22e n :: E54 n
theorem E55_ok (n : Nat) : AllE prog G (E55 n) := AllE.cons (F22_ok n) (E54_ok n)
-- 23 loop.example/slowworm/spec.IntRoot
noncomputable def F23c : Code := bodyOf Go.Proofs.Try.f23
noncomputable def F23_0x0 : SSh := ⟨64, [(4, (.imm 0)), (6, (.own 0)), (7, (.int .i64))], [(.arr 0 true)]⟩
noncomputable def F23_0s : SSh := ⟨64, [(4, (.imm 0)), (6, (.own 0)), (7, (.int .i64))], [(.arr 0 true)]⟩
noncomputable def F23_0_step {R : Type} (n : Nat) (k0 : List Int → Int → List Int → Option R) (rec : List Int → Int → List Int → Option R) (x1337 : List Int) (x1338 : Int) (x1339 : List Int) : Option R :=
  (bif (decide ((0 : Int) ≤ x1338)) then
  (bif (decide (x1338 < ((x1339.length) : Int))) then
  (bif (decide ((x1339.getD (x1338.toNat) (0 : Int)) < (9 : Int))) then
  (bif (decide ((0 : Int) ≤ x1338)) then
  (bif (decide (x1338 < ((x1339.length) : Int))) then
  (bif (decide ((0 : Int) ≤ x1338)) then
  (bif (decide (x1338 < ((x1339.length) : Int))) then
  (andThen (F50 n (x1339.set (x1338.toNat) (IntKind.wrap .i64 ((x1339.getD (x1338.toNat) (0 : Int)) + (1 : Int))))) fun r1348 =>
  (andThen (F50 n r1348.2.1) fun r1349 =>
  (andThen (F49 n (r1349.2.1.take r1348.1) (r1349.2.1.take r1349.1)) fun r1350 =>
  (andThen (F48 n (r1350.2.1.take r1350.1) x1337) fun r1351 =>
  (bif (decide (r1351.1 > (0 : Int))) then
  (bif (decide ((0 : Int) ≤ x1338)) then
  (bif (decide (x1338 < ((r1349.2.1.length) : Int))) then
  (bif (decide ((0 : Int) ≤ x1338)) then
  (bif (decide (x1338 < ((r1349.2.1.length) : Int))) then
  (k0 x1337 x1338 (r1349.2.1.set (x1338.toNat) (IntKind.wrap .i64 ((r1349.2.1.getD (x1338.toNat) (0 : Int)) - (1 : Int)))))
  else none)
  else none)
  else none)
  else none)
  else (rec x1337 x1338 r1349.2.1))))))
  else none)
  else none)
  else none)
  else none)
  else (k0 x1337 x1338 x1339))
  else none)
  else none)
noncomputable def F23_0_it {R : Type} (n : Nat) (k0 : List Int → Int → List Int → Option R) : Nat → List Int → Int → List Int → Option R
  | 0, _, _, _ => none
  | k + 1, x1337, x1338, x1339 => F23_0_step n k0 (F23_0_it n k0 k) x1337 x1338 x1339
noncomputable def F23_0 {R : Type} (n : Nat) (x1337 : List Int) (x1338 : Int) (x1339 : List Int) (k0 : List Int → Int → List Int → Option R) : Option R := F23_0_it n k0 n x1337 x1338 x1339
noncomputable def F23_0z (n : Nat) : Sm G := inZ G 0 ⟨[4, 6, 7], []⟩ F23_0s fun R x K => F23_0_it n (fun u0 u1 u2 => K (.exit 2) (SSh.enc G F23_0x0 ((u0, ((), (u1, ()))), (u2, ())))) n x.1.1 x.1.2.2.1 x.2.1
theorem F23_0_eq (n : Nat) (R : Type) (rec : SSh.den G F23_0s → Option R) (x : SSh.den G F23_0s) (K : AE → St G → Option R) :
  F23_0_step n (fun u0 u1 u2 => K (.exit 2) (SSh.enc G F23_0x0 ((u0, ((), (u1, ()))), (u2, ())))) (fun x1337 x1338 x1339 => rec ((x1337, ((), (x1338, ()))), (x1339, ()))) x.1.1 x.1.2.2.1 x.2.1 = exec prog G (ro G (tabOf (E55 n)) (frOf []) R) 0 (codeAt F23c [1, 1, 1, 1, 0, 1, 0, 0, 1, 0, 0, 0, 0]) .no (SSh.enc G F23_0s x) (kLoop G (ro G (tabOf (E55 n)) (frOf []) R) 0 ⟨[4, 6, 7], []⟩ F23_0s ⟨⟨[4, 6, 7], []⟩, ⟨[2, 3], []⟩, [(2, ⟨[4, 6, 7], []⟩), (1, ⟨[4, 6, 7], []⟩), (0, ⟨[6], []⟩)]⟩ rec K) := by kernel_rfl
theorem F23_0_ok (n : Nat) : FragOK prog G 0 (codeAt F23c [1, 1, 1, 1, 0, 1, 0, 0, 1, 0, 0, 0]) (F23_0z n) :=
  frag_loop (Z := fun R k (x : SSh.den G F23_0s) K => F23_0_it n (fun u0 u1 u2 => K (.exit 2) (SSh.enc G F23_0x0 ((u0, ((), (u1, ()))), (u2, ())))) k x.1.1 x.1.2.2.1 x.2.1) laws fnok (E55_ok n).tab (AllF.of (l := []) (by kernel_rfl) AllF.nil) (fun _ _ _ => rfl) (fun R k y K => F23_0_eq n R (fun (x : SSh.den G F23_0s) => F23_0_it n (fun u0 u1 u2 => K (.exit 2) (SSh.enc G F23_0x0 ((u0, ((), (u1, ()))), (u2, ())))) k x.1.1 x.1.2.2.1 x.2.1) y K) n
noncomputable def F23_1x0 : SSh := ⟨64, [(4, (.imm 0)), (6, (.own 0)), (7, (.int .i64))], [(.arr 0 true)]⟩
noncomputable def F23_1s : SSh := ⟨64, [(4, (.imm 0)), (6, (.own 0)), (7, (.int .i64))], [(.arr 0 true)]⟩
noncomputable def F23_1 {R : Type} (n : Nat) (x1334 : List Int) (x1335 : Int) (x1336 : List Int) (k0 : List Int → Int → List Int → Option R) : Option R :=
  (F23_0 n x1334 x1335 x1336 (fun z1358 z1359 z1360 =>
  (k0 z1358 z1359 z1360)))
noncomputable def F23_1z (n : Nat) : Sm G := inZ G 0 ⟨[4, 6, 7], []⟩ F23_1s fun R x K => F23_1 n x.1.1 x.1.2.2.1 x.2.1 (fun u0 u1 u2 => K .normal (SSh.enc G F23_1x0 ((u0, ((), (u1, ()))), (u2, ()))))
theorem F23_1_eq (n : Nat) (R : Type) (x : SSh.den G F23_1s) (K : AE → St G → Option R) :
  F23_1 n x.1.1 x.1.2.2.1 x.2.1 (fun u0 u1 u2 => K .normal (SSh.enc G F23_1x0 ((u0, ((), (u1, ()))), (u2, ())))) = exec prog G (ro G (tabOf (E55 n)) (frOf [F23_0z n]) R) 0 (codeAt F23c [1, 1, 1, 1, 0, 1, 0, 0, 1, 0]) (.nd (.nd (.use 0) .no) .no) (SSh.enc G F23_1s x) (kNrm G (ro G (tabOf (E55 n)) (frOf [F23_0z n]) R) 0 ⟨⟨[4, 6, 7], []⟩, ⟨[2, 3], []⟩, [(0, ⟨[6], []⟩)]⟩ K) := by kernel_rfl
theorem F23_1_ok (n : Nat) : FragOK prog G 0 (codeAt F23c [1, 1, 1, 1, 0, 1, 0, 0, 1, 0]) (F23_1z n) :=
  frag_plain laws fnok (E55_ok n).tab (AllF.of (l := [(0, codeAt F23c [1, 1, 1, 1, 0, 1, 0, 0, 1, 0, 0, 0])]) (by kernel_rfl) (AllF.cons (F23_0_ok n) AllF.nil)) (F23_1_eq n)
noncomputable def F23_2x0 : SSh := ⟨64, [(6, (.own 0))], [(.arr 0 true)]⟩
noncomputable def F23_2s : SSh := ⟨64, [(4, (.imm 0)), (6, (.own 0)), (7, (.int .i64))], [(.arr 0 true)]⟩
noncomputable def F23_2_step {R : Type} (n : Nat) (k0 : List Int → Option R) (rec : List Int → Int → List Int → Option R) (x1330 : List Int) (x1331 : Int) (x1332 : List Int) : Option R :=
  (bif (decide (x1331 ≥ (0 : Int))) then
  (F23_1 n x1330 x1331 x1332 (fun z1361 z1362 z1363 =>
  (rec z1361 (IntKind.wrap .i64 (z1362 - (1 : Int))) z1363)))
  else (k0 x1332))
noncomputable def F23_2_it {R : Type} (n : Nat) (k0 : List Int → Option R) : Nat → List Int → Int → List Int → Option R
  | 0, _, _, _ => none
  | k + 1, x1330, x1331, x1332 => F23_2_step n k0 (F23_2_it n k0 k) x1330 x1331 x1332
noncomputable def F23_2 {R : Type} (n : Nat) (x1330 : List Int) (x1331 : Int) (x1332 : List Int) (k0 : List Int → Option R) : Option R := F23_2_it n k0 n x1330 x1331 x1332
noncomputable def F23_2z (n : Nat) : Sm G := inZ G 0 ⟨[4, 6, 7], []⟩ F23_2s fun R x K => F23_2_it n (fun u0 => K (.exit 0) (SSh.enc G F23_2x0 (((), ()), (u0, ())))) n x.1.1 x.1.2.2.1 x.2.1
theorem F23_2_eq (n : Nat) (R : Type) (rec : SSh.den G F23_2s → Option R) (x : SSh.den G F23_2s) (K : AE → St G → Option R) :
  F23_2_step n (fun u0 => K (.exit 0) (SSh.enc G F23_2x0 (((), ()), (u0, ())))) (fun x1330 x1331 x1332 => rec ((x1330, ((), (x1331, ()))), (x1332, ()))) x.1.1 x.1.2.2.1 x.2.1 = exec prog G (ro G (tabOf (E55 n)) (frOf [F23_0z n, F23_1z n]) R) 0 (codeAt F23c [1, 1, 1, 1, 0, 1, 0, 0]) (.nd .no (.nd (.use 1) .no)) (SSh.enc G F23_2s x) (kLoop G (ro G (tabOf (E55 n)) (frOf [F23_0z n, F23_1z n]) R) 0 ⟨[4, 6, 7], []⟩ F23_2s ⟨⟨[6], []⟩, ⟨[2, 3], []⟩, [(0, ⟨[6], []⟩)]⟩ rec K) := by kernel_rfl
theorem F23_2_ok (n : Nat) : FragOK prog G 0 (codeAt F23c [1, 1, 1, 1, 0, 1, 0]) (F23_2z n) :=
  frag_loop (Z := fun R k (x : SSh.den G F23_2s) K => F23_2_it n (fun u0 => K (.exit 0) (SSh.enc G F23_2x0 (((), ()), (u0, ())))) k x.1.1 x.1.2.2.1 x.2.1) laws fnok (E55_ok n).tab (AllF.of (l := [(1, codeAt F23c [1, 1, 1, 1, 0, 1, 0, 0, 1, 0])]) (by kernel_rfl) (AllF.cons (F23_1_ok n) AllF.nil)) (fun _ _ _ => rfl) (fun R k y K => F23_2_eq n R (fun (x : SSh.den G F23_2s) => F23_2_it n (fun u0 => K (.exit 0) (SSh.enc G F23_2x0 (((), ()), (u0, ())))) k x.1.1 x.1.2.2.1 x.2.1) y K) n
noncomputable def F23 (n : Nat) (a1318 : ByteArray) : Option ((ByteArray × (Bool × Unit)) × Unit) :=
  (andThen (F36 n a1318) fun r1319 =>
  (bif (!r1319.1) then
  some ((({ data := #[] } : ByteArray), (false, ())), ())
  else (bif (decide ((0 : Int) < ((a1318.size) : Int))) then
  (bif ((strOf a1318 (0 : Nat)) == (45 : Int)) then
  some ((({ data := #[] } : ByteArray), (false, ())), ())
  else (andThen (F47 n a1318) fun r1323 =>
  let v1326 := (IntKind.wrap .i64 ((IntKind.wrap .i64 (((r1323.1.1.length) : Int).tdiv (2 : Int))) + (1 : Int)))
  (bif (decide ((0 : Int) ≤ v1326)) then
  (bif (decide (v1326 ≤ v1326)) then
  (bif (decide (v1326 ≤ ((68719476736 : Nat) : Int))) then
  let v1327 := (List.replicate (v1326.toNat) (0 : Int))
  (F23_2 n r1323.1.1 (IntKind.wrap .i64 (((v1327.length) : Int) - (1 : Int))) v1327 (fun z1365 =>
  (andThen (F51 n z1365 false) fun r1366 =>
  some ((r1366.1, (true, ())), ()))))
  else none)
  else none)
  else none)))
  else none)))
noncomputable def F23e (n : Nat) : Ent G := ⟨23, (.cons .str .nil), [], (.tup (.cons .str (.cons .bool .nil))), [], fun x y => F23 n x.1⟩
theorem F23_eq (n : Nat) (x : ShL.den G (.cons .str .nil)) (y : denO G []) : (F23e n).F x y = runFn prog G (ro G (tabOf (E55 n)) (frOf [F23_0z n, F23_1z n, F23_2z n]) _) Go.Proofs.Try.f23 (.nd .no (.nd .no (.nd .no (.nd .no (.nd (.nd .no (.nd (.use 2) .no)) .no))))) [(0, .fz), (1, .fz)] (ShL.enc G (.cons .str .nil) x) (encO G [] y) (decR (.tup (.cons .str (.cons .bool .nil))) []) := by kernel_rfl
theorem F23_ok (n : Nat) : EntOK prog G (F23e n) :=
  ent_ok (fr := frOf [F23_0z n, F23_1z n, F23_2z n]) (ann := (.nd .no (.nd .no (.nd .no (.nd .no (.nd (.nd .no (.nd (.use 2) .no)) .no)))))) (frm := [(0, .fz), (1, .fz)]) laws fnok (E55_ok n).tab (e := F23e n) (fn := Go.Proofs.Try.f23) (by kernel_rfl) (AllF.ofB (cd := F23c) (l := [(2, codeAt F23c [1, 1, 1, 1, 0, 1, 0])]) (by kernel_rfl) (by kernel_rfl) (AllF.cons (F23_2_ok n) AllF.nil)) (F23_eq n)
noncomputable def E56 (n : Nat) : List (Ent G) := F23e n :: E55 n
theorem E56_ok (n : Nat) : AllE prog G (E56 n) := AllE.cons (F23_ok n) (E55_ok n)
-- 24 loop.example/slowworm/impl.IntCmp
noncomputable def F24c : Code := bodyOf Go.Proofs.Try.f24
noncomputable def F24 (n : Nat) (a1375 : ByteArray) (a1376 : ByteArray) : Option (Int × Unit) :=
  (andThen (F33 n a1375 a1376) fun r1377 =>
  (bif (!r1377.1.2.2.1) then
  some ((-2 : Int), ())
  else (andThen (F38 n r1377.1.2.1.1 r1377.1.2.1.2.1) fun r1379 =>
  (andThen (F34 n r1377.1.1.1 r1377.1.1.2.1 r1379.1.1 r1379.1.2.1) fun r1380 =>
  (bif (((r1380.1.2.1.length) : Int) == (0 : Int)) then
  some ((0 : Int), ())
  else (bif r1380.1.1 then
  some ((-1 : Int), ())
  else some ((1 : Int), ())))))))
noncomputable def F24e (n : Nat) : Ent G := ⟨24, (.cons .str (.cons .str .nil)), [], (.int .i64), [], fun x y => F24 n x.1 x.2.1⟩
theorem F24_eq (n : Nat) (x : ShL.den G (.cons .str (.cons .str .nil))) (y : denO G []) : (F24e n).F x y = runFn prog G (ro G (tabOf (E56 n)) (frOf []) _) Go.Proofs.Try.f24 .no [(0, .fz)] (ShL.enc G (.cons .str (.cons .str .nil)) x) (encO G [] y) (decR (.int .i64) []) := by kernel_rfl
theorem F24_ok (n : Nat) : EntOK prog G (F24e n) :=
  ent_ok (fr := frOf []) (ann := .no) (frm := [(0, .fz)]) laws fnok (E56_ok n).tab (e := F24e n) (fn := Go.Proofs.Try.f24) (by kernel_rfl) (AllF.ofB (cd := F24c) (l := []) (by kernel_rfl) (by kernel_rfl) AllF.nil) (F24_eq n)
noncomputable def E57 (n : Nat) : List (Ent G) := F24e n :: E56 n
theorem E57_ok (n : Nat) : AllE prog G (E57 n) := AllE.cons (F24_ok n) (E56_ok n)
noncomputable def F6 (n : Nat) (a1266 : List Int) : Option (Bool × Unit) :=
  (bif (decide (((a1266.length) : Int) > (1048576 : Int))) then
  some (true, ())
  else (andThen (F21 n a1266) fun r1272 =>
  (andThen (F22 n r1272.1) fun r1317 =>
  (andThen (F23 n r1272.1) fun r1367 =>
  (bif ((r1317.1.1.toList) == (r1367.1.1.toList)) then
  let v1369 := (r1317.1.2.1 == r1367.1.2.1)
  (bif (!v1369) then
  some (v1369, ())
  else (bif (!r1317.1.2.1) then
  some (v1369, ())
  else (andThen (F15 n r1317.1.1 r1317.1.1) fun r1372 =>
  (andThen (F11 n r1317.1.1 ({ data := #[49] } : ByteArray)) fun r1373 =>
  (andThen (F15 n r1373.1.1 r1373.1.1) fun r1374 =>
  (bif r1372.1.2.1 then
  (andThen (F24 n r1372.1.1 r1272.1) fun r1383 =>
  (bif (decide (r1383.1 ≤ (0 : Int))) then
  (bif r1373.1.2.1 then
  (bif (!r1374.1.2.1) then
  some (true, ())
  else (andThen (F24 n r1374.1.1 r1272.1) fun r1386 =>
  some ((decide (r1386.1 > (0 : Int))), ())))
  else some (false, ()))
  else some (false, ())))
  else some (false, ())))))))
  else some (false, ()))))))
noncomputable def F6e (n : Nat) : Ent G := ⟨6, (.cons (.imm 1) .nil), [], .bool, [], fun x y => F6 n x.1⟩
theorem F6_eq (n : Nat) (x : ShL.den G (.cons (.imm 1) .nil)) (y : denO G []) : (F6e n).F x y = runFn prog G (ro G (tabOf (E57 n)) (frOf []) _) Go.Proofs.Try.f6 .no [(0, .fz)] (ShL.enc G (.cons (.imm 1) .nil) x) (encO G [] y) (decR .bool []) := by kernel_rfl
theorem F6_ok (n : Nat) : EntOK prog G (F6e n) :=
  ent_ok (fr := frOf []) (ann := .no) (frm := [(0, .fz)]) laws fnok (E57_ok n).tab (e := F6e n) (fn := Go.Proofs.Try.f6) (by kernel_rfl) (AllF.ofB (cd := F6c) (l := []) (by kernel_rfl) (by kernel_rfl) AllF.nil) (F6_eq n)
noncomputable def E58 (n : Nat) : List (Ent G) := F6e n :: E57 n
theorem E58_ok (n : Nat) : AllE prog G (E58 n) := AllE.cons (F6_ok n) (E57_ok n)
-- 7 loop.example/slowworm/laws.FnIntMod
noncomputable def F7c : Code := bodyOf Go.Proofs.Try.f7
-- 25 loop.example/slowworm/spec.DrawIntMod
noncomputable def F25c : Code := bodyOf Go.Proofs.Try.f25
noncomputable def F25 (n : Nat) (a1391 : List Int) : Option ((ByteArray × (ByteArray × Unit)) × Unit) :=
  (andThen (F30 n a1391) fun r1392 =>
  (andThen (F31 n r1392.2.1.1 r1392.2.1.2.1) fun r1393 =>
  (andThen (F32 n (6 : Int) r1393.2.1.1 r1393.2.1.2.1) fun r1394 =>
  (bif (r1394.1 == (0 : Int)) then
  some ((r1393.1, (r1393.1, ())), ())
  else (andThen (F31 n r1394.2.1.1 r1394.2.1.2.1) fun r1396 =>
  some ((r1393.1, (r1396.1, ())), ()))))))
noncomputable def F25e (n : Nat) : Ent G := ⟨25, (.cons (.imm 1) .nil), [], (.tup (.cons .str (.cons .str .nil))), [], fun x y => F25 n x.1⟩
theorem F25_eq (n : Nat) (x : ShL.den G (.cons (.imm 1) .nil)) (y : denO G []) : (F25e n).F x y = runFn prog G (ro G (tabOf (E58 n)) (frOf []) _) Go.Proofs.Try.f25 .no [(0, .fz), (1, .fz)] (ShL.enc G (.cons (.imm 1) .nil) x) (encO G [] y) (decR (.tup (.cons .str (.cons .str .nil))) []) := by kernel_rfl
theorem F25_ok (n : Nat) : EntOK prog G (F25e n) :=
  ent_ok (fr := frOf []) (ann := .no) (frm := [(0, .fz), (1, .fz)]) laws fnok (E58_ok n).tab (e := F25e n) (fn := Go.Proofs.Try.f25) (by kernel_rfl) (AllF.ofB (cd := F25c) (l := []) (by kernel_rfl) (by kernel_rfl) AllF.nil) (F25_eq n)
noncomputable def E59 (n : Nat) : List (Ent G) := F25e n :: E58 n
theorem E59_ok (n : Nat) : AllE prog G (E59 n) := AllE.cons (F25_ok n) (E58_ok n)
-- 26 loop.example/slowworm/spec.IntMod
noncomputable def F26c : Code := bodyOf Go.Proofs.Try.f26
-- 52 loop.example/slowworm/spec.divInts
noncomputable def F52c : Code := bodyOf Go.Proofs.Try.f52
-- 67 loop.example/slowworm/spec.dividedDigits
noncomputable def F67c : Code := bodyOf Go.Proofs.Try.f67
noncomputable def F67_0x0 : SSh := ⟨46, [(0, (.imm 0)), (1, (.imm 0)), (6, (.own 0)), (7, (.imm 0)), (8, (.int .i64))], [(.arr 0 true)]⟩
noncomputable def F67_0s : SSh := ⟨46, [(0, (.imm 0)), (1, (.imm 0)), (6, (.own 0)), (7, (.imm 0)), (8, (.int .i64))], [(.arr 0 true)]⟩
noncomputable def F67_0_step {R : Type} (n : Nat) (k0 : List Int → List Int → List Int → Int → List Int → Option R) (rec : List Int → List Int → List Int → Int → List Int → Option R) (x1499 : List Int) (x1500 : List Int) (x1501 : List Int) (x1502 : Int) (x1503 : List Int) : Option R :=
  (andThen (F48 n x1501 x1500) fun r1504 =>
  (bif (decide (r1504.1 ≥ (0 : Int))) then
  (andThen (F64 n x1501 x1500) fun r1506 =>
  (bif (decide ((0 : Int) ≤ x1502)) then
  (bif (decide (x1502 < ((x1503.length) : Int))) then
  (bif (decide ((0 : Int) ≤ x1502)) then
  (bif (decide (x1502 < ((x1503.length) : Int))) then
  (rec x1499 x1500 r1506.1 x1502 (x1503.set (x1502.toNat) (IntKind.wrap .i64 ((x1503.getD (x1502.toNat) (0 : Int)) + (1 : Int)))))
  else none)
  else none)
  else none)
  else none))
  else (k0 x1499 x1500 x1501 x1502 x1503)))
noncomputable def F67_0_it {R : Type} (n : Nat) (k0 : List Int → List Int → List Int → Int → List Int → Option R) : Nat → List Int → List Int → List Int → Int → List Int → Option R
  | 0, _, _, _, _, _ => none
  | k + 1, x1499, x1500, x1501, x1502, x1503 => F67_0_step n k0 (F67_0_it n k0 k) x1499 x1500 x1501 x1502 x1503
noncomputable def F67_0 {R : Type} (n : Nat) (x1499 : List Int) (x1500 : List Int) (x1501 : List Int) (x1502 : Int) (x1503 : List Int) (k0 : List Int → List Int → List Int → Int → List Int → Option R) : Option R := F67_0_it n k0 n x1499 x1500 x1501 x1502 x1503
noncomputable def F67_0z (n : Nat) : Sm G := inZ G 0 ⟨[0, 1, 6, 7, 8], [(7, .fz)]⟩ F67_0s fun R x K => F67_0_it n (fun u0 u1 u2 u3 u4 => K (.exit 2) (SSh.enc G F67_0x0 ((u0, (u1, ((), (u2, (u3, ()))))), (u4, ())))) n x.1.1 x.1.2.1 x.1.2.2.2.1 x.1.2.2.2.2.1 x.2.1
theorem F67_0_eq (n : Nat) (R : Type) (rec : SSh.den G F67_0s → Option R) (x : SSh.den G F67_0s) (K : AE → St G → Option R) :
  F67_0_step n (fun u0 u1 u2 u3 u4 => K (.exit 2) (SSh.enc G F67_0x0 ((u0, (u1, ((), (u2, (u3, ()))))), (u4, ())))) (fun x1499 x1500 x1501 x1502 x1503 => rec ((x1499, (x1500, ((), (x1501, (x1502, ()))))), (x1503, ()))) x.1.1 x.1.2.1 x.1.2.2.2.1 x.1.2.2.2.2.1 x.2.1 = exec prog G (ro G (tabOf (E59 n)) (frOf []) R) 0 (codeAt F67c [1, 1, 1, 0, 1, 0, 0, 1, 0, 0, 1, 0, 0]) .no (SSh.enc G F67_0s x) (kLoop G (ro G (tabOf (E59 n)) (frOf []) R) 0 ⟨[0, 1, 6, 7, 8], [(7, .fz)]⟩ F67_0s ⟨⟨[0, 1, 6, 7, 8], []⟩, ⟨[4, 5], []⟩, [(2, ⟨[0, 1, 6, 7, 8], []⟩), (1, ⟨[0, 1, 6, 7, 8], []⟩), (0, ⟨[6, 7], []⟩)]⟩ rec K) := by kernel_rfl
theorem F67_0_ok (n : Nat) : FragOK prog G 0 (codeAt F67c [1, 1, 1, 0, 1, 0, 0, 1, 0, 0, 1, 0]) (F67_0z n) :=
  frag_loop (Z := fun R k (x : SSh.den G F67_0s) K => F67_0_it n (fun u0 u1 u2 u3 u4 => K (.exit 2) (SSh.enc G F67_0x0 ((u0, (u1, ((), (u2, (u3, ()))))), (u4, ())))) k x.1.1 x.1.2.1 x.1.2.2.2.1 x.1.2.2.2.2.1 x.2.1) laws fnok (E59_ok n).tab (AllF.of (l := []) (by kernel_rfl) AllF.nil) (fun _ _ _ => rfl) (fun R k y K => F67_0_eq n R (fun (x : SSh.den G F67_0s) => F67_0_it n (fun u0 u1 u2 u3 u4 => K (.exit 2) (SSh.enc G F67_0x0 ((u0, (u1, ((), (u2, (u3, ()))))), (u4, ())))) k x.1.1 x.1.2.1 x.1.2.2.2.1 x.1.2.2.2.2.1 x.2.1) y K) n
noncomputable def F67_1x0 : SSh := ⟨46, [(6, (.own 0)), (7, (.imm 0))], [(.arr 0 true)]⟩
noncomputable def F67_1s : SSh := ⟨46, [(0, (.imm 0)), (1, (.imm 0)), (6, (.own 0)), (7, (.imm 0)), (8, (.int .i64))], [(.arr 0 true)]⟩
noncomputable def F67_1_step {R : Type} (n : Nat) (k0 : List Int → List Int → Option R) (rec : List Int → List Int → List Int → Int → List Int → Option R) (x1487 : List Int) (x1488 : List Int) (x1489 : List Int) (x1490 : Int) (x1491 : List Int) : Option R :=
  (bif (decide (x1490 ≥ (0 : Int))) then
  (bif (decide ((0 : Int) ≤ x1490)) then
  (bif (decide (x1490 < ((x1487.length) : Int))) then
  let v1495 := ((x1487.getD (x1490.toNat) (0 : Int)) :: [])
  (bif (decide (((v1495.length) + (x1489.length)) ≤ (68719476736 : Nat))) then
  (andThen (F50 n (v1495 ++ x1489)) fun r1497 =>
  (F67_0 n x1487 x1488 (r1497.2.1.take r1497.1) x1490 x1491 (fun z1512 z1513 z1514 z1515 z1516 =>
  (rec z1512 z1513 z1514 (IntKind.wrap .i64 (z1515 - (1 : Int))) z1516))))
  else none)
  else none)
  else none)
  else (k0 x1489 x1491))
noncomputable def F67_1_it {R : Type} (n : Nat) (k0 : List Int → List Int → Option R) : Nat → List Int → List Int → List Int → Int → List Int → Option R
  | 0, _, _, _, _, _ => none
  | k + 1, x1487, x1488, x1489, x1490, x1491 => F67_1_step n k0 (F67_1_it n k0 k) x1487 x1488 x1489 x1490 x1491
noncomputable def F67_1 {R : Type} (n : Nat) (x1487 : List Int) (x1488 : List Int) (x1489 : List Int) (x1490 : Int) (x1491 : List Int) (k0 : List Int → List Int → Option R) : Option R := F67_1_it n k0 n x1487 x1488 x1489 x1490 x1491
noncomputable def F67_1z (n : Nat) : Sm G := inZ G 0 ⟨[0, 1, 6, 7, 8], [(7, .fz)]⟩ F67_1s fun R x K => F67_1_it n (fun u0 u1 => K (.exit 0) (SSh.enc G F67_1x0 (((), (u0, ())), (u1, ())))) n x.1.1 x.1.2.1 x.1.2.2.2.1 x.1.2.2.2.2.1 x.2.1
theorem F67_1_eq (n : Nat) (R : Type) (rec : SSh.den G F67_1s → Option R) (x : SSh.den G F67_1s) (K : AE → St G → Option R) :
  F67_1_step n (fun u0 u1 => K (.exit 0) (SSh.enc G F67_1x0 (((), (u0, ())), (u1, ())))) (fun x1487 x1488 x1489 x1490 x1491 => rec ((x1487, (x1488, ((), (x1489, (x1490, ()))))), (x1491, ()))) x.1.1 x.1.2.1 x.1.2.2.2.1 x.1.2.2.2.2.1 x.2.1 = exec prog G (ro G (tabOf (E59 n)) (frOf [F67_0z n]) R) 0 (codeAt F67c [1, 1, 1, 0, 1, 0, 0]) (.nd .no (.nd (.nd (.nd .no (.nd (.use 0) .no)) .no) .no)) (SSh.enc G F67_1s x) (kLoop G (ro G (tabOf (E59 n)) (frOf [F67_0z n]) R) 0 ⟨[0, 1, 6, 7, 8], [(7, .fz)]⟩ F67_1s ⟨⟨[6, 7], []⟩, ⟨[4, 5], []⟩, [(0, ⟨[6, 7], []⟩)]⟩ rec K) := by kernel_rfl
theorem F67_1_ok (n : Nat) : FragOK prog G 0 (codeAt F67c [1, 1, 1, 0, 1, 0]) (F67_1z n) :=
  frag_loop (Z := fun R k (x : SSh.den G F67_1s) K => F67_1_it n (fun u0 u1 => K (.exit 0) (SSh.enc G F67_1x0 (((), (u0, ())), (u1, ())))) k x.1.1 x.1.2.1 x.1.2.2.2.1 x.1.2.2.2.2.1 x.2.1) laws fnok (E59_ok n).tab (AllF.of (l := [(0, codeAt F67c [1, 1, 1, 0, 1, 0, 0, 1, 0, 0, 1, 0])]) (by kernel_rfl) (AllF.cons (F67_0_ok n) AllF.nil)) (fun _ _ _ => rfl) (fun R k y K => F67_1_eq n R (fun (x : SSh.den G F67_1s) => F67_1_it n (fun u0 u1 => K (.exit 0) (SSh.enc G F67_1x0 (((), (u0, ())), (u1, ())))) k x.1.1 x.1.2.1 x.1.2.2.2.1 x.1.2.2.2.2.1 x.2.1) y K) n
noncomputable def F67 (n : Nat) (a1480 : List Int) (a1481 : List Int) : Option ((List Int × (List Int × Unit)) × Unit) :=
  let v1482 := ((a1480.length) : Int)
  (bif (decide ((0 : Int) ≤ v1482)) then
  (bif (decide (v1482 ≤ v1482)) then
  (bif (decide (v1482 ≤ ((68719476736 : Nat) : Int))) then
  (F67_1 n a1480 a1481 [] (IntKind.wrap .i64 (((a1480.length) : Int) - (1 : Int))) (List.replicate (v1482.toNat) (0 : Int)) (fun z1518 z1519 =>
  (andThen (F50 n z1519) fun r1520 =>
  some (((r1520.2.1.take r1520.1), (z1518, ())), ()))))
  else none)
  else none)
  else none)
noncomputable def F67e (n : Nat) : Ent G := ⟨67, (.cons (.imm 0) (.cons (.imm 0) .nil)), [], (.tup (.cons (.imm 0) (.cons (.imm 0) .nil))), [], fun x y => F67 n x.1 x.2.1⟩
theorem F67_eq (n : Nat) (x : ShL.den G (.cons (.imm 0) (.cons (.imm 0) .nil))) (y : denO G []) : (F67e n).F x y = runFn prog G (ro G (tabOf (E59 n)) (frOf [F67_0z n, F67_1z n]) _) Go.Proofs.Try.f67 (.nd .no (.nd .no (.nd .no (.nd (.nd .no (.nd (.use 1) .no)) .no)))) [(0, .fz), (1, .fz)] (ShL.enc G (.cons (.imm 0) (.cons (.imm 0) .nil)) x) (encO G [] y) (decR (.tup (.cons (.imm 0) (.cons (.imm 0) .nil))) []) := by kernel_rfl
theorem F67_ok (n : Nat) : EntOK prog G (F67e n) :=
  ent_ok (fr := frOf [F67_0z n, F67_1z n]) (ann := (.nd .no (.nd .no (.nd .no (.nd (.nd .no (.nd (.use 1) .no)) .no))))) (frm := [(0, .fz), (1, .fz)]) laws fnok (E59_ok n).tab (e := F67e n) (fn := Go.Proofs.Try.f67) (by kernel_rfl) (AllF.ofB (cd := F67c) (l := [(1, codeAt F67c [1, 1, 1, 0, 1, 0])]) (by kernel_rfl) (by kernel_rfl) (AllF.cons (F67_1_ok n) AllF.nil)) (F67_eq n)
noncomputable def E60 (n : Nat) : List (Ent G) := F67e n :: E59 n
theorem E60_ok (n : Nat) : AllE prog G (E60 n) := AllE.cons (F67_ok n) (E59_ok n)
noncomputable def F52_0x0 : SSh := ⟨50, [(7, .bool), (9, .bool), (10, (.imm 0)), (11, (.imm 0))], []⟩
noncomputable def F52_0s : SSh := ⟨50, [(7, .bool), (8, (.imm 0)), (9, .bool), (10, (.imm 0)), (11, (.imm 0))], []⟩
noncomputable def F52_0 {R : Type} (n : Nat) (x1523 : Bool) (x1524 : List Int) (x1525 : Bool) (x1526 : List Int) (x1527 : List Int) (k0 : Bool → Bool → List Int → List Int → Option R) : Option R :=
  (bif (decide (((x1527.length) : Int) > (0 : Int))) then
  (bif (!(x1523 == x1525)) then
  (andThen (F63 n x1526 ((1 : Int) :: [])) fun r1532 =>
  (andThen (F64 n x1524 x1527) fun r1533 =>
  (k0 x1523 x1525 r1532.1 r1533.1)))
  else (k0 x1523 x1525 x1526 x1527))
  else (k0 x1523 x1525 x1526 x1527))
noncomputable def F52_0z (n : Nat) : Sm G := inZ G 0 ⟨[7, 8, 9, 10, 11], []⟩ F52_0s fun R x K => F52_0 n x.1.1 x.1.2.1 x.1.2.2.1 x.1.2.2.2.1 x.1.2.2.2.2.1 (fun u0 u1 u2 u3 => K .normal (SSh.enc G F52_0x0 ((u0, (u1, (u2, (u3, ())))), ())))
theorem F52_0_eq (n : Nat) (R : Type) (x : SSh.den G F52_0s) (K : AE → St G → Option R) :
  F52_0 n x.1.1 x.1.2.1 x.1.2.2.1 x.1.2.2.2.1 x.1.2.2.2.2.1 (fun u0 u1 u2 u3 => K .normal (SSh.enc G F52_0x0 ((u0, (u1, (u2, (u3, ())))), ()))) = exec prog G (ro G (tabOf (E60 n)) (frOf []) R) 0 (codeAt F52c [1, 1, 1, 1, 0]) .no (SSh.enc G F52_0s x) (kNrm G (ro G (tabOf (E60 n)) (frOf []) R) 0 ⟨⟨[7, 9, 10, 11], []⟩, ⟨[4, 5], []⟩, []⟩ K) := by kernel_rfl
theorem F52_0_ok (n : Nat) : FragOK prog G 0 (codeAt F52c [1, 1, 1, 1, 0]) (F52_0z n) :=
  frag_plain laws fnok (E60_ok n).tab (AllF.of (l := []) (by kernel_rfl) AllF.nil) (F52_0_eq n)
noncomputable def F52 (n : Nat) (a1406 : ByteArray) (a1407 : ByteArray) : Option ((ByteArray × (ByteArray × Unit)) × Unit) :=
  (andThen (F47 n a1406) fun r1408 =>
  (andThen (F47 n a1407) fun r1409 =>
  (andThen (F67 n r1408.1.1 r1409.1.1) fun r1522 =>
  (F52_0 n r1408.1.2.1 r1409.1.1 r1409.1.2.1 r1522.1.1 r1522.1.2.1 (fun z1534 z1535 z1536 z1537 =>
  (andThen (F51 n z1536 (!(z1534 == z1535))) fun r1539 =>
  (andThen (F51 n z1537 z1535) fun r1540 =>
  some ((r1539.1, (r1540.1, ())), ()))))))))
noncomputable def F52e (n : Nat) : Ent G := ⟨52, (.cons .str (.cons .str .nil)), [], (.tup (.cons .str (.cons .str .nil))), [], fun x y => F52 n x.1 x.2.1⟩
theorem F52_eq (n : Nat) (x : ShL.den G (.cons .str (.cons .str .nil))) (y : denO G []) : (F52e n).F x y = runFn prog G (ro G (tabOf (E60 n)) (frOf [F52_0z n]) _) Go.Proofs.Try.f52 (.nd .no (.nd .no (.nd .no (.nd .no (.nd (.use 0) .no))))) [(0, .fz), (1, .fz)] (ShL.enc G (.cons .str (.cons .str .nil)) x) (encO G [] y) (decR (.tup (.cons .str (.cons .str .nil))) []) := by kernel_rfl
theorem F52_ok (n : Nat) : EntOK prog G (F52e n) :=
  ent_ok (fr := frOf [F52_0z n]) (ann := (.nd .no (.nd .no (.nd .no (.nd .no (.nd (.use 0) .no)))))) (frm := [(0, .fz), (1, .fz)]) laws fnok (E60_ok n).tab (e := F52e n) (fn := Go.Proofs.Try.f52) (by kernel_rfl) (AllF.ofB (cd := F52c) (l := [(0, codeAt F52c [1, 1, 1, 1, 0])]) (by kernel_rfl) (by kernel_rfl) (AllF.cons (F52_0_ok n) AllF.nil)) (F52_eq n)
noncomputable def E61 (n : Nat) : List (Ent G) := F52e n :: E60 n
theorem E61_ok (n : Nat) : AllE prog G (E61 n) := AllE.cons (F52_ok n) (E60_ok n)
noncomputable def F26 (n : Nat) (a1399 : ByteArray) (a1400 : ByteArray) : Option ((ByteArray × (Bool × Unit)) × Unit) :=
  (andThen (F36 n a1399) fun r1401 =>
  (bif (!r1401.1) then
  some ((({ data := #[] } : ByteArray), (false, ())), ())
  else (andThen (F36 n a1400) fun r1403 =>
  (bif (!r1403.1) then
  some ((({ data := #[] } : ByteArray), (false, ())), ())
  else (bif ((a1400.toList) == (({ data := #[48] } : ByteArray).toList)) then
  some ((({ data := #[] } : ByteArray), (false, ())), ())
  else (andThen (F52 n a1399 a1400) fun r1541 =>
  some ((r1541.1.2.1, (true, ())), ())))))))
noncomputable def F26e (n : Nat) : Ent G := ⟨26, (.cons .str (.cons .str .nil)), [], (.tup (.cons .str (.cons .bool .nil))), [], fun x y => F26 n x.1 x.2.1⟩
theorem F26_eq (n : Nat) (x : ShL.den G (.cons .str (.cons .str .nil))) (y : denO G []) : (F26e n).F x y = runFn prog G (ro G (tabOf (E61 n)) (frOf []) _) Go.Proofs.Try.f26 .no [(0, .fz), (1, .fz)] (ShL.enc G (.cons .str (.cons .str .nil)) x) (encO G [] y) (decR (.tup (.cons .str (.cons .bool .nil))) []) := by kernel_rfl
theorem F26_ok (n : Nat) : EntOK prog G (F26e n) :=
  ent_ok (fr := frOf []) (ann := .no) (frm := [(0, .fz), (1, .fz)]) laws fnok (E61_ok n).tab (e := F26e n) (fn := Go.Proofs.Try.f26) (by kernel_rfl) (AllF.ofB (cd := F26c) (l := []) (by kernel_rfl) (by kernel_rfl) AllF.nil) (F26_eq n)
noncomputable def E62 (n : Nat) : List (Ent G) := F26e n :: E61 n
theorem E62_ok (n : Nat) : AllE prog G (E62 n) := AllE.cons (F26_ok n) (E61_ok n)
noncomputable def F7 (n : Nat) (a1388 : List Int) : Option (Bool × Unit) :=
  (bif (decide (((a1388.length) : Int) > (1048576 : Int))) then
  some (true, ())
  else (andThen (F25 n a1388) fun r1397 =>
  (andThen (F18 n r1397.1.1 r1397.1.2.1) fun r1398 =>
  (andThen (F26 n r1397.1.1 r1397.1.2.1) fun r1542 =>
  (bif ((r1398.1.1.toList) == (r1542.1.1.toList)) then
  let v1544 := (r1398.1.2.1 == r1542.1.2.1)
  (bif (!v1544) then
  some (v1544, ())
  else (bif (!r1398.1.2.1) then
  some (v1544, ())
  else (andThen (F18 n r1398.1.1 r1397.1.2.1) fun r1547 =>
  (andThen (F24 n r1398.1.1 ({ data := #[48] } : ByteArray)) fun r1548 =>
  (andThen (F24 n r1397.1.2.1 ({ data := #[48] } : ByteArray)) fun r1549 =>
  (bif (decide (r1549.1 > (0 : Int))) then
  (bif r1547.1.2.1 then
  (bif ((r1547.1.1.toList) == (r1398.1.1.toList)) then
  (bif (decide (r1548.1 ≥ (0 : Int))) then
  (andThen (F24 n r1398.1.1 r1397.1.2.1) fun r1553 =>
  some ((decide (r1553.1 < (0 : Int))), ()))
  else some (false, ()))
  else some (false, ()))
  else some (false, ()))
  else (bif r1547.1.2.1 then
  (bif ((r1547.1.1.toList) == (r1398.1.1.toList)) then
  (bif (decide (r1548.1 ≤ (0 : Int))) then
  (andThen (F24 n r1398.1.1 r1397.1.2.1) fun r1557 =>
  some ((decide (r1557.1 > (0 : Int))), ()))
  else some (false, ()))
  else some (false, ()))
  else some (false, ()))))))))
  else some (false, ()))))))
noncomputable def F7e (n : Nat) : Ent G := ⟨7, (.cons (.imm 1) .nil), [], .bool, [], fun x y => F7 n x.1⟩
theorem F7_eq (n : Nat) (x : ShL.den G (.cons (.imm 1) .nil)) (y : denO G []) : (F7e n).F x y = runFn prog G (ro G (tabOf (E62 n)) (frOf []) _) Go.Proofs.Try.f7 .no [(0, .fz)] (ShL.enc G (.cons (.imm 1) .nil) x) (encO G [] y) (decR .bool []) := by kernel_rfl
theorem F7_ok (n : Nat) : EntOK prog G (F7e n) :=
  ent_ok (fr := frOf []) (ann := .no) (frm := [(0, .fz)]) laws fnok (E62_ok n).tab (e := F7e n) (fn := Go.Proofs.Try.f7) (by kernel_rfl) (AllF.ofB (cd := F7c) (l := []) (by kernel_rfl) (by kernel_rfl) AllF.nil) (F7_eq n)
noncomputable def E63 (n : Nat) : List (Ent G) := F7e n :: E62 n
theorem E63_ok (n : Nat) : AllE prog G (E63 n) := AllE.cons (F7_ok n) (E62_ok n)
-- 8 loop.example/slowworm/laws.FnIntDiv
noncomputable def F8c : Code := bodyOf Go.Proofs.Try.f8
-- 27 loop.example/slowworm/spec.DrawIntDiv
noncomputable def F27c : Code := bodyOf Go.Proofs.Try.f27
noncomputable def F27 (n : Nat) (a1562 : List Int) : Option ((ByteArray × (ByteArray × Unit)) × Unit) :=
  (andThen (F30 n a1562) fun r1563 =>
  (andThen (F31 n r1563.2.1.1 r1563.2.1.2.1) fun r1564 =>
  (andThen (F32 n (6 : Int) r1564.2.1.1 r1564.2.1.2.1) fun r1565 =>
  (bif (r1565.1 == (0 : Int)) then
  some ((r1564.1, (r1564.1, ())), ())
  else (andThen (F31 n r1565.2.1.1 r1565.2.1.2.1) fun r1567 =>
  some ((r1564.1, (r1567.1, ())), ()))))))
noncomputable def F27e (n : Nat) : Ent G := ⟨27, (.cons (.imm 1) .nil), [], (.tup (.cons .str (.cons .str .nil))), [], fun x y => F27 n x.1⟩
theorem F27_eq (n : Nat) (x : ShL.den G (.cons (.imm 1) .nil)) (y : denO G []) : (F27e n).F x y = runFn prog G (ro G (tabOf (E63 n)) (frOf []) _) Go.Proofs.Try.f27 .no [(0, .fz), (1, .fz)] (ShL.enc G (.cons (.imm 1) .nil) x) (encO G [] y) (decR (.tup (.cons .str (.cons .str .nil))) []) := by kernel_rfl
theorem F27_ok (n : Nat) : EntOK prog G (F27e n) :=
  ent_ok (fr := frOf []) (ann := .no) (frm := [(0, .fz), (1, .fz)]) laws fnok (E63_ok n).tab (e := F27e n) (fn := Go.Proofs.Try.f27) (by kernel_rfl) (AllF.ofB (cd := F27c) (l := []) (by kernel_rfl) (by kernel_rfl) AllF.nil) (F27_eq n)
noncomputable def E64 (n : Nat) : List (Ent G) := F27e n :: E63 n
theorem E64_ok (n : Nat) : AllE prog G (E64 n) := AllE.cons (F27_ok n) (E63_ok n)
-- 28 loop.example/slowworm/spec.IntDiv
noncomputable def F28c : Code := bodyOf Go.Proofs.Try.f28
noncomputable def F28 (n : Nat) (a1570 : ByteArray) (a1571 : ByteArray) : Option ((ByteArray × (Bool × Unit)) × Unit) :=
  (andThen (F36 n a1570) fun r1572 =>
  (bif (!r1572.1) then
  some ((({ data := #[] } : ByteArray), (false, ())), ())
  else (andThen (F36 n a1571) fun r1574 =>
  (bif (!r1574.1) then
  some ((({ data := #[] } : ByteArray), (false, ())), ())
  else (bif ((a1571.toList) == (({ data := #[48] } : ByteArray).toList)) then
  some ((({ data := #[] } : ByteArray), (false, ())), ())
  else (andThen (F52 n a1570 a1571) fun r1577 =>
  some ((r1577.1.1, (true, ())), ())))))))
noncomputable def F28e (n : Nat) : Ent G := ⟨28, (.cons .str (.cons .str .nil)), [], (.tup (.cons .str (.cons .bool .nil))), [], fun x y => F28 n x.1 x.2.1⟩
theorem F28_eq (n : Nat) (x : ShL.den G (.cons .str (.cons .str .nil))) (y : denO G []) : (F28e n).F x y = runFn prog G (ro G (tabOf (E64 n)) (frOf []) _) Go.Proofs.Try.f28 .no [(0, .fz), (1, .fz)] (ShL.enc G (.cons .str (.cons .str .nil)) x) (encO G [] y) (decR (.tup (.cons .str (.cons .bool .nil))) []) := by kernel_rfl
theorem F28_ok (n : Nat) : EntOK prog G (F28e n) :=
  ent_ok (fr := frOf []) (ann := .no) (frm := [(0, .fz), (1, .fz)]) laws fnok (E64_ok n).tab (e := F28e n) (fn := Go.Proofs.Try.f28) (by kernel_rfl) (AllF.ofB (cd := F28c) (l := []) (by kernel_rfl) (by kernel_rfl) AllF.nil) (F28_eq n)
noncomputable def E65 (n : Nat) : List (Ent G) := F28e n :: E64 n
theorem E65_ok (n : Nat) : AllE prog G (E65 n) := AllE.cons (F28_ok n) (E64_ok n)
noncomputable def F8 (n : Nat) (a1559 : List Int) : Option (Bool × Unit) :=
  (bif (decide (((a1559.length) : Int) > (1048576 : Int))) then
  some (true, ())
  else (andThen (F27 n a1559) fun r1568 =>
  (andThen (F17 n r1568.1.1 r1568.1.2.1) fun r1569 =>
  (andThen (F28 n r1568.1.1 r1568.1.2.1) fun r1578 =>
  (bif ((r1569.1.1.toList) == (r1578.1.1.toList)) then
  let v1580 := (r1569.1.2.1 == r1578.1.2.1)
  (bif (!v1580) then
  some (v1580, ())
  else (bif (!r1569.1.2.1) then
  some (v1580, ())
  else (andThen (F18 n r1568.1.1 r1568.1.2.1) fun r1583 =>
  (andThen (F15 n r1569.1.1 r1568.1.2.1) fun r1584 =>
  (bif (!r1583.1.2.1) then
  some (r1583.1.2.1, ())
  else (bif (!r1584.1.2.1) then
  some (r1583.1.2.1, ())
  else (andThen (F11 n r1584.1.1 r1583.1.1) fun r1587 =>
  (bif r1587.1.2.1 then
  some (((r1587.1.1.toList) == (r1568.1.1.toList)), ())
  else some (false, ())))))))))
  else some (false, ()))))))
noncomputable def F8e (n : Nat) : Ent G := ⟨8, (.cons (.imm 1) .nil), [], .bool, [], fun x y => F8 n x.1⟩
theorem F8_eq (n : Nat) (x : ShL.den G (.cons (.imm 1) .nil)) (y : denO G []) : (F8e n).F x y = runFn prog G (ro G (tabOf (E65 n)) (frOf []) _) Go.Proofs.Try.f8 .no [(0, .fz)] (ShL.enc G (.cons (.imm 1) .nil) x) (encO G [] y) (decR .bool []) := by kernel_rfl
theorem F8_ok (n : Nat) : EntOK prog G (F8e n) :=
  ent_ok (fr := frOf []) (ann := .no) (frm := [(0, .fz)]) laws fnok (E65_ok n).tab (e := F8e n) (fn := Go.Proofs.Try.f8) (by kernel_rfl) (AllF.ofB (cd := F8c) (l := []) (by kernel_rfl) (by kernel_rfl) AllF.nil) (F8_eq n)
noncomputable def E66 (n : Nat) : List (Ent G) := F8e n :: E65 n
theorem E66_ok (n : Nat) : AllE prog G (E66 n) := AllE.cons (F8_ok n) (E65_ok n)
-- 9 loop.example/slowworm/laws.FnIntShift
noncomputable def F9c : Code := bodyOf Go.Proofs.Try.f9
-- 29 loop.example/slowworm/spec.Half
noncomputable def F29c : Code := bodyOf Go.Proofs.Try.f29
noncomputable def F29 (n : Nat) (a1593 : List Int) : Option (List Int × Unit) :=
  let v1595 := (IntKind.wrap .i64 (((a1593.length) : Int).tdiv (2 : Int)))
  (bif (decide ((0 : Int) ≤ v1595)) then
  (bif (decide (v1595 ≤ ((a1593.length) : Int))) then
  (bif (decide (((a1593.length) : Int) ≤ ((a1593.length) : Int))) then
  some (((a1593.take (((a1593.length) : Int).toNat)).drop (v1595.toNat)), ())
  else none)
  else none)
  else none)
noncomputable def F29e (n : Nat) : Ent G := ⟨29, (.cons (.imm 1) .nil), [], (.imm 1), [], fun x y => F29 n x.1⟩
theorem F29_eq (n : Nat) (x : ShL.den G (.cons (.imm 1) .nil)) (y : denO G []) : (F29e n).F x y = runFn prog G (ro G (tabOf (E66 n)) (frOf []) _) Go.Proofs.Try.f29 .no [(0, .fz)] (ShL.enc G (.cons (.imm 1) .nil) x) (encO G [] y) (decR (.imm 1) []) := by kernel_rfl
theorem F29_ok (n : Nat) : EntOK prog G (F29e n) :=
  ent_ok (fr := frOf []) (ann := .no) (frm := [(0, .fz)]) laws fnok (E66_ok n).tab (e := F29e n) (fn := Go.Proofs.Try.f29) (by kernel_rfl) (AllF.ofB (cd := F29c) (l := []) (by kernel_rfl) (by kernel_rfl) AllF.nil) (F29_eq n)
noncomputable def E67 (n : Nat) : List (Ent G) := F29e n :: E66 n
theorem E67_ok (n : Nat) : AllE prog G (E67 n) := AllE.cons (F29_ok n) (E66_ok n)
noncomputable def F9 (n : Nat) (a1589 : List Int) : Option (Bool × Unit) :=
  (bif (decide (((a1589.length) : Int) > (1048576 : Int))) then
  some (true, ())
  else (andThen (F27 n a1589) fun r1592 =>
  (andThen (F29 n a1589) fun r1597 =>
  (andThen (F10 n r1597.1) fun r1598 =>
  (andThen (F17 n r1592.1.1 r1592.1.2.1) fun r1599 =>
  (andThen (F28 n r1592.1.1 r1592.1.2.1) fun r1600 =>
  (bif (!((r1599.1.1.toList) == (r1600.1.1.toList))) then
  some (false, ())
  else (bif (!(r1599.1.2.1 == r1600.1.2.1)) then
  some (false, ())
  else (andThen (F15 n r1592.1.2.1 r1598.1.1) fun r1603 =>
  (andThen (F11 n r1592.1.1 r1603.1.1) fun r1604 =>
  (bif (!r1599.1.2.1) then
  some (true, ())
  else (bif (!r1603.1.2.1) then
  some (true, ())
  else (bif (!r1604.1.2.1) then
  some (true, ())
  else (andThen (F18 n r1592.1.1 r1592.1.2.1) fun r1608 =>
  (andThen (F18 n r1604.1.1 r1592.1.2.1) fun r1609 =>
  (andThen (F11 n r1599.1.1 r1598.1.1) fun r1610 =>
  (andThen (F17 n r1604.1.1 r1592.1.2.1) fun r1611 =>
  (bif ((r1608.1.1.toList) == (r1609.1.1.toList)) then
  (bif r1611.1.2.1 then
  (bif (!r1610.1.2.1) then
  some (true, ())
  else some (((r1611.1.1.toList) == (r1610.1.1.toList)), ()))
  else some (false, ()))
  else some (false, ())))))))))))))))))))
noncomputable def F9e (n : Nat) : Ent G := ⟨9, (.cons (.imm 1) .nil), [], .bool, [], fun x y => F9 n x.1⟩
theorem F9_eq (n : Nat) (x : ShL.den G (.cons (.imm 1) .nil)) (y : denO G []) : (F9e n).F x y = runFn prog G (ro G (tabOf (E67 n)) (frOf []) _) Go.Proofs.Try.f9 .no [(0, .fz)] (ShL.enc G (.cons (.imm 1) .nil) x) (encO G [] y) (decR .bool []) := by kernel_rfl
theorem F9_ok (n : Nat) : EntOK prog G (F9e n) :=
  ent_ok (fr := frOf []) (ann := .no) (frm := [(0, .fz)]) laws fnok (E67_ok n).tab (e := F9e n) (fn := Go.Proofs.Try.f9) (by kernel_rfl) (AllF.ofB (cd := F9c) (l := []) (by kernel_rfl) (by kernel_rfl) AllF.nil) (F9_eq n)
noncomputable def E68 (n : Nat) : List (Ent G) := F9e n :: E67 n
theorem E68_ok (n : Nat) : AllE prog G (E68 n) := AllE.cons (F9_ok n) (E67_ok n)
end Go.Proofs.Ytgaghaeniadkkaa.Am
