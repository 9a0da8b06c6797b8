/- The functions of the seat of finalizers, printed. -/
import Derived.Test.YtfelakjmajooaaaAmFinSig
namespace Go.Proofs.Ytfelakjmajooaaa.Am
open Go Go.Proofs.Try
set_option autoImplicit false
set_option linter.unusedVariables false
set_option maxRecDepth 100000
noncomputable def E0 (n : Nat) : List (Ent G) := []
theorem E0_ok (n : Nat) : AllE prog G (E0 n) := AllE.nil
-- 3 loop.example/slowworm/laws.FnExactFinalSweep
noncomputable def F3c : Code := bodyOf Go.Proofs.Try.f3
-- 5 loop.example/slowworm/laws.szIntSS
noncomputable def F5c : Code := bodyOf Go.Proofs.Try.f5
-- 27 loop.example/slowworm/laws.szIntS
noncomputable def F27c : Code := bodyOf Go.Proofs.Try.f27
noncomputable def F27 (n : Nat) (a17 : List Int) (a18 : Int) : Option (Int × Unit) :=
  let v20 := (IntKind.wrap .i64 (a18 - ((a17.length) : Int)))
  (bif (decide (v20 < (0 : Int))) then
  some ((-1 : Int), ())
  else some (v20, ()))
noncomputable def F27e (n : Nat) : Ent G := ⟨27, (.cons (.imm 0) (.cons (.int .i64) .nil)), [], (.int .i64), [], fun x y => F27 n x.1 x.2.1⟩
theorem F27_eq (n : Nat) (x : ShL.den G (.cons (.imm 0) (.cons (.int .i64) .nil))) (y : denO G []) : (F27e n).F x y = runFn prog G (ro G (tabOf (E0 n)) (frOf []) _) Go.Proofs.Try.f27 .no [(0, .fz)] (ShL.enc G (.cons (.imm 0) (.cons (.int .i64) .nil)) x) (encO G [] y) (decR (.int .i64) []) := by kernel_rfl
theorem F27_ok (n : Nat) : EntOK prog G (F27e n) :=
  ent_ok (fr := frOf []) (ann := .no) (frm := [(0, .fz)]) laws fnok (E0_ok n).tab (e := F27e n) (fn := Go.Proofs.Try.f27) (by kernel_rfl) (AllF.ofB (cd := F27c) (l := []) (by kernel_rfl) (by kernel_rfl) AllF.nil) (F27_eq n)
noncomputable def E1 (n : Nat) : List (Ent G) := F27e n :: E0 n
theorem E1_ok (n : Nat) : AllE prog G (E1 n) := AllE.cons (F27_ok n) (E0_ok n)
noncomputable def F5_0x0 : SSh := ⟨27, [(4, (.int .i64))], []⟩
noncomputable def F5_0x1 : SSh := ⟨27, [(1, (.int .i64))], []⟩
noncomputable def F5_0s : SSh := ⟨27, [(0, (.imm 2)), (1, (.int .i64)), (5, (.int .i64))], []⟩
noncomputable def F5_0_step {R : Type} (n : Nat) (k0 : Int → Option R) (k1 : Int → Option R) (rec : List (List Int) → Int → Int → Option R) (x10 : List (List Int)) (x11 : Int) (x12 : Int) : Option R :=
  (bif (decide (x12 < ((x10.length) : Int))) then
  (bif (decide ((0 : Int) ≤ x12)) then
  (bif (decide (x12 < ((x10.length) : Int))) then
  (andThen (F27 n (x10.getD (x12.toNat) []) x11) fun r22 =>
  (bif (decide (r22.1 < (0 : Int))) then
  (k0 (-1 : Int))
  else (rec x10 r22.1 (IntKind.wrap .i64 (x12 + (1 : Int))))))
  else none)
  else none)
  else (k1 x11))
noncomputable def F5_0_it {R : Type} (n : Nat) (k0 : Int → Option R) (k1 : Int → Option R) : Nat → List (List Int) → Int → Int → Option R
  | 0, _, _, _ => none
  | k + 1, x10, x11, x12 => F5_0_step n k0 k1 (F5_0_it n k0 k1 k) x10 x11 x12
noncomputable def F5_0 {R : Type} (n : Nat) (x10 : List (List Int)) (x11 : Int) (x12 : Int) (k0 : Int → Option R) (k1 : Int → Option R) : Option R := F5_0_it n k0 k1 n x10 x11 x12
noncomputable def F5_0z (n : Nat) : Sm G := inZ G 0 ⟨[0, 1, 5], []⟩ F5_0s fun R x K => F5_0_it n (fun u0 => K .ret (SSh.enc G F5_0x0 ((u0, ()), ()))) (fun u0 => K (.exit 0) (SSh.enc G F5_0x1 ((u0, ()), ()))) n x.1.1 x.1.2.1 x.1.2.2.1
theorem F5_0_eq (n : Nat) (R : Type) (rec : SSh.den G F5_0s → Option R) (x : SSh.den G F5_0s) (K : AE → St G → Option R) :
  F5_0_step n (fun u0 => K .ret (SSh.enc G F5_0x0 ((u0, ()), ()))) (fun u0 => K (.exit 0) (SSh.enc G F5_0x1 ((u0, ()), ()))) (fun x10 x11 x12 => rec ((x10, (x11, (x12, ()))), ())) x.1.1 x.1.2.1 x.1.2.2.1 = exec prog G (ro G (tabOf (E1 n)) (frOf []) R) 0 (codeAt F5c [1, 1, 1, 0, 1, 0, 0]) .no (SSh.enc G F5_0s x) (kLoop G (ro G (tabOf (E1 n)) (frOf []) R) 0 ⟨[0, 1, 5], []⟩ F5_0s ⟨⟨[1], []⟩, ⟨[4], []⟩, [(0, ⟨[1], []⟩)]⟩ rec K) := by kernel_rfl
theorem F5_0_ok (n : Nat) : FragOK prog G 0 (codeAt F5c [1, 1, 1, 0, 1, 0]) (F5_0z n) :=
  frag_loop (Z := fun R k (x : SSh.den G F5_0s) K => F5_0_it n (fun u0 => K .ret (SSh.enc G F5_0x0 ((u0, ()), ()))) (fun u0 => K (.exit 0) (SSh.enc G F5_0x1 ((u0, ()), ()))) k x.1.1 x.1.2.1 x.1.2.2.1) laws fnok (E1_ok n).tab (AllF.of (l := []) (by kernel_rfl) AllF.nil) (fun _ _ _ => rfl) (fun R k y K => F5_0_eq n R (fun (x : SSh.den G F5_0s) => F5_0_it n (fun u0 => K .ret (SSh.enc G F5_0x0 ((u0, ()), ()))) (fun u0 => K (.exit 0) (SSh.enc G F5_0x1 ((u0, ()), ()))) k x.1.1 x.1.2.1 x.1.2.2.1) y K) n
noncomputable def F5 (n : Nat) (a5 : List (List Int)) (a6 : Int) : Option (Int × Unit) :=
  let v8 := (IntKind.wrap .i64 (a6 - ((a5.length) : Int)))
  (bif (decide (v8 < (0 : Int))) then
  some ((-1 : Int), ())
  else (F5_0 n a5 v8 (0 : Int) (fun z25 =>
  some (z25, ())) (fun z26 =>
  some (z26, ()))))
noncomputable def F5e (n : Nat) : Ent G := ⟨5, (.cons (.imm 2) (.cons (.int .i64) .nil)), [], (.int .i64), [], fun x y => F5 n x.1 x.2.1⟩
theorem F5_eq (n : Nat) (x : ShL.den G (.cons (.imm 2) (.cons (.int .i64) .nil))) (y : denO G []) : (F5e n).F x y = runFn prog G (ro G (tabOf (E1 n)) (frOf [F5_0z n]) _) Go.Proofs.Try.f5 (.nd .no (.nd .no (.nd .no (.nd (.nd .no (.nd (.use 0) .no)) .no)))) [(0, .fz)] (ShL.enc G (.cons (.imm 2) (.cons (.int .i64) .nil)) x) (encO G [] y) (decR (.int .i64) []) := by kernel_rfl
theorem F5_ok (n : Nat) : EntOK prog G (F5e n) :=
  ent_ok (fr := frOf [F5_0z n]) (ann := (.nd .no (.nd .no (.nd .no (.nd (.nd .no (.nd (.use 0) .no)) .no))))) (frm := [(0, .fz)]) laws fnok (E1_ok n).tab (e := F5e n) (fn := Go.Proofs.Try.f5) (by kernel_rfl) (AllF.ofB (cd := F5c) (l := [(0, codeAt F5c [1, 1, 1, 0, 1, 0])]) (by kernel_rfl) (by kernel_rfl) (AllF.cons (F5_0_ok n) AllF.nil)) (F5_eq n)
noncomputable def E2 (n : Nat) : List (Ent G) := F5e n :: E1 n
theorem E2_ok (n : Nat) : AllE prog G (E2 n) := AllE.cons (F5_ok n) (E1_ok n)
-- 6 loop.example/slowworm/laws.szFinalS
noncomputable def F6c : Code := bodyOf Go.Proofs.Try.f6
noncomputable def F6 (n : Nat) (a29 : List Fnl) (a30 : Int) : Option (Int × Unit) :=
  let v32 := (IntKind.wrap .i64 (a30 - ((a29.length) : Int)))
  (bif (decide (v32 < (0 : Int))) then
  some ((-1 : Int), ())
  else some (v32, ()))
noncomputable def F6e (n : Nat) : Ent G := ⟨6, (.cons (.imm 4) (.cons (.int .i64) .nil)), [], (.int .i64), [], fun x y => F6 n x.1 x.2.1⟩
theorem F6_eq (n : Nat) (x : ShL.den G (.cons (.imm 4) (.cons (.int .i64) .nil))) (y : denO G []) : (F6e n).F x y = runFn prog G (ro G (tabOf (E2 n)) (frOf []) _) Go.Proofs.Try.f6 .no [(0, .fz)] (ShL.enc G (.cons (.imm 4) (.cons (.int .i64) .nil)) x) (encO G [] y) (decR (.int .i64) []) := by kernel_rfl
theorem F6_ok (n : Nat) : EntOK prog G (F6e n) :=
  ent_ok (fr := frOf []) (ann := .no) (frm := [(0, .fz)]) laws fnok (E2_ok n).tab (e := F6e n) (fn := Go.Proofs.Try.f6) (by kernel_rfl) (AllF.ofB (cd := F6c) (l := []) (by kernel_rfl) (by kernel_rfl) AllF.nil) (F6_eq n)
noncomputable def E3 (n : Nat) : List (Ent G) := F6e n :: E2 n
theorem E3_ok (n : Nat) : AllE prog G (E3 n) := AllE.cons (F6_ok n) (E2_ok n)
-- 8 loop.example/slowworm/laws.toIntSS
noncomputable def F8c : Code := bodyOf Go.Proofs.Try.f8
-- 9 loop.example/slowworm/laws.toIntS
noncomputable def F9c : Code := bodyOf Go.Proofs.Try.f9
noncomputable def F9_0x0 : SSh := ⟨22, [(3, (.own 0))], [(.arr 0 true)]⟩
noncomputable def F9_0s : SSh := ⟨22, [(0, (.old 0)), (3, (.own 0)), (4, (.int .i64))], [(.arr 0 true)]⟩
noncomputable def F9_0_step {R : Type} (n : Nat) (k0 : List Int → Option R) (rec : List Int → Int → List Int → Option R) (x49 : List Int) (x50 : Int) (x51 : List Int) : Option R :=
  (bif (decide (x50 < ((x49.length) : Int))) then
  (bif (decide ((0 : Int) ≤ x50)) then
  (bif (decide (x50 < ((x49.length) : Int))) then
  (bif (decide ((0 : Int) ≤ x50)) then
  (bif (decide (x50 < ((x51.length) : Int))) then
  (rec x49 (IntKind.wrap .i64 (x50 + (1 : Int))) (x51.set (x50.toNat) (x49.getD (x50.toNat) (0 : Int))))
  else none)
  else none)
  else none)
  else none)
  else (k0 x51))
noncomputable def F9_0_it {R : Type} (n : Nat) (k0 : List Int → Option R) : Nat → List Int → Int → List Int → Option R
  | 0, _, _, _ => none
  | k + 1, x49, x50, x51 => F9_0_step n k0 (F9_0_it n k0 k) x49 x50 x51
noncomputable def F9_0 {R : Type} (n : Nat) (x49 : List Int) (x50 : Int) (x51 : List Int) (k0 : List Int → Option R) : Option R := F9_0_it n k0 n x49 x50 x51
noncomputable def F9_0z (n : Nat) : Sm G := inZ G 0 ⟨[0, 3, 4], []⟩ F9_0s fun R x K => F9_0_it n (fun u0 => K (.exit 0) (SSh.enc G F9_0x0 (((), ()), (u0, ())))) n x.1.1 x.1.2.2.1 x.2.1
theorem F9_0_eq (n : Nat) (R : Type) (rec : SSh.den G F9_0s → Option R) (x : SSh.den G F9_0s) (K : AE → St G → Option R) :
  F9_0_step n (fun u0 => K (.exit 0) (SSh.enc G F9_0x0 (((), ()), (u0, ())))) (fun x49 x50 x51 => rec ((x49, ((), (x50, ()))), (x51, ()))) x.1.1 x.1.2.2.1 x.2.1 = exec prog G (ro G (tabOf (E3 n)) (frOf []) R) 0 (codeAt F9c [1, 1, 0, 1, 0, 0]) .no (SSh.enc G F9_0s x) (kLoop G (ro G (tabOf (E3 n)) (frOf []) R) 0 ⟨[0, 3, 4], []⟩ F9_0s ⟨⟨[3], []⟩, ⟨[2], []⟩, [(0, ⟨[3], []⟩)]⟩ rec K) := by kernel_rfl
theorem F9_0_ok (n : Nat) : FragOK prog G 0 (codeAt F9c [1, 1, 0, 1, 0]) (F9_0z n) :=
  frag_loop (Z := fun R k (x : SSh.den G F9_0s) K => F9_0_it n (fun u0 => K (.exit 0) (SSh.enc G F9_0x0 (((), ()), (u0, ())))) k x.1.1 x.1.2.2.1 x.2.1) laws fnok (E3_ok n).tab (AllF.of (l := []) (by kernel_rfl) AllF.nil) (fun _ _ _ => rfl) (fun R k y K => F9_0_eq n R (fun (x : SSh.den G F9_0s) => F9_0_it n (fun u0 => K (.exit 0) (SSh.enc G F9_0x0 (((), ()), (u0, ())))) k x.1.1 x.1.2.2.1 x.2.1) y K) n
noncomputable def F9 (n : Nat) (a46 : List Int) : Option (Unit × (List Int × Unit)) :=
  let v47 := ((a46.length) : Int)
  (bif (decide ((0 : Int) ≤ v47)) then
  (bif (decide (v47 ≤ v47)) then
  (bif (decide (v47 ≤ ((68719476736 : Nat) : Int))) then
  (F9_0 n a46 (0 : Int) (List.replicate (v47.toNat) (0 : Int)) (fun z59 =>
  some ((), (z59, ()))))
  else none)
  else none)
  else none)
noncomputable def F9e (n : Nat) : Ent G := ⟨9, (.cons (.old 0) .nil), [], (.own 0), [(.arr 0 true)], fun x y => F9 n x.1⟩
theorem F9_eq (n : Nat) (x : ShL.den G (.cons (.old 0) .nil)) (y : denO G []) : (F9e n).F x y = runFn prog G (ro G (tabOf (E3 n)) (frOf [F9_0z n]) _) Go.Proofs.Try.f9 (.nd .no (.nd .no (.nd (.nd .no (.nd (.use 0) .no)) .no))) [(0, (.own 0))] (ShL.enc G (.cons (.old 0) .nil) x) (encO G [] y) (decR (.own 0) [(.arr 0 true)]) := by kernel_rfl
theorem F9_ok (n : Nat) : EntOK prog G (F9e n) :=
  ent_ok (fr := frOf [F9_0z n]) (ann := (.nd .no (.nd .no (.nd (.nd .no (.nd (.use 0) .no)) .no)))) (frm := [(0, (.own 0))]) laws fnok (E3_ok n).tab (e := F9e n) (fn := Go.Proofs.Try.f9) (by kernel_rfl) (AllF.ofB (cd := F9c) (l := [(0, codeAt F9c [1, 1, 0, 1, 0])]) (by kernel_rfl) (by kernel_rfl) (AllF.cons (F9_0_ok n) AllF.nil)) (F9_eq n)
noncomputable def E4 (n : Nat) : List (Ent G) := F9e n :: E3 n
theorem E4_ok (n : Nat) : AllE prog G (E4 n) := AllE.cons (F9_ok n) (E3_ok n)
noncomputable def F8_0x0 : SSh := ⟨23, [(3, (.own 0))], [(.arr 2 true)]⟩
noncomputable def F8_0s : SSh := ⟨23, [(0, (.old 2)), (3, (.own 0)), (4, (.int .i64))], [(.arr 2 true)]⟩
noncomputable def F8_0_step {R : Type} (n : Nat) (k0 : List (List Int) → Option R) (rec : List (List Int) → Int → List (List Int) → Option R) (x39 : List (List Int)) (x40 : Int) (x41 : List (List Int)) : Option R :=
  (bif (decide (x40 < ((x39.length) : Int))) then
  (bif (decide ((0 : Int) ≤ x40)) then
  (bif (decide (x40 < ((x39.length) : Int))) then
  (andThen (F9 n (x39.getD (x40.toNat) [])) fun r60 =>
  (bif (decide ((0 : Int) ≤ x40)) then
  (bif (decide (x40 < ((x41.length) : Int))) then
  (rec x39 (IntKind.wrap .i64 (x40 + (1 : Int))) (x41.set (x40.toNat) r60.2.1))
  else none)
  else none))
  else none)
  else none)
  else (k0 x41))
noncomputable def F8_0_it {R : Type} (n : Nat) (k0 : List (List Int) → Option R) : Nat → List (List Int) → Int → List (List Int) → Option R
  | 0, _, _, _ => none
  | k + 1, x39, x40, x41 => F8_0_step n k0 (F8_0_it n k0 k) x39 x40 x41
noncomputable def F8_0 {R : Type} (n : Nat) (x39 : List (List Int)) (x40 : Int) (x41 : List (List Int)) (k0 : List (List Int) → Option R) : Option R := F8_0_it n k0 n x39 x40 x41
noncomputable def F8_0z (n : Nat) : Sm G := inZ G 0 ⟨[0, 3, 4], []⟩ F8_0s fun R x K => F8_0_it n (fun u0 => K (.exit 0) (SSh.enc G F8_0x0 (((), ()), (u0, ())))) n x.1.1 x.1.2.2.1 x.2.1
theorem F8_0_eq (n : Nat) (R : Type) (rec : SSh.den G F8_0s → Option R) (x : SSh.den G F8_0s) (K : AE → St G → Option R) :
  F8_0_step n (fun u0 => K (.exit 0) (SSh.enc G F8_0x0 (((), ()), (u0, ())))) (fun x39 x40 x41 => rec ((x39, ((), (x40, ()))), (x41, ()))) x.1.1 x.1.2.2.1 x.2.1 = exec prog G (ro G (tabOf (E4 n)) (frOf []) R) 0 (codeAt F8c [1, 1, 0, 1, 0, 0]) .no (SSh.enc G F8_0s x) (kLoop G (ro G (tabOf (E4 n)) (frOf []) R) 0 ⟨[0, 3, 4], []⟩ F8_0s ⟨⟨[3], []⟩, ⟨[2], []⟩, [(0, ⟨[3], []⟩)]⟩ rec K) := by kernel_rfl
theorem F8_0_ok (n : Nat) : FragOK prog G 0 (codeAt F8c [1, 1, 0, 1, 0]) (F8_0z n) :=
  frag_loop (Z := fun R k (x : SSh.den G F8_0s) K => F8_0_it n (fun u0 => K (.exit 0) (SSh.enc G F8_0x0 (((), ()), (u0, ())))) k x.1.1 x.1.2.2.1 x.2.1) laws fnok (E4_ok n).tab (AllF.of (l := []) (by kernel_rfl) AllF.nil) (fun _ _ _ => rfl) (fun R k y K => F8_0_eq n R (fun (x : SSh.den G F8_0s) => F8_0_it n (fun u0 => K (.exit 0) (SSh.enc G F8_0x0 (((), ()), (u0, ())))) k x.1.1 x.1.2.2.1 x.2.1) y K) n
noncomputable def F8 (n : Nat) (a36 : List (List Int)) : Option (List (List Int) × Unit) :=
  let v37 := ((a36.length) : Int)
  (bif (decide ((0 : Int) ≤ v37)) then
  (bif (decide (v37 ≤ v37)) then
  (bif (decide (v37 ≤ ((68719476736 : Nat) : Int))) then
  (F8_0 n a36 (0 : Int) (List.replicate (v37.toNat) []) (fun z64 =>
  some (z64, ())))
  else none)
  else none)
  else none)
noncomputable def F8e (n : Nat) : Ent G := ⟨8, (.cons (.old 2) .nil), [], (.imm 2), [], fun x y => F8 n x.1⟩
theorem F8_eq (n : Nat) (x : ShL.den G (.cons (.old 2) .nil)) (y : denO G []) : (F8e n).F x y = runFn prog G (ro G (tabOf (E4 n)) (frOf [F8_0z n]) _) Go.Proofs.Try.f8 (.nd .no (.nd .no (.nd (.nd .no (.nd (.use 0) .no)) .no))) [(0, .fz)] (ShL.enc G (.cons (.old 2) .nil) x) (encO G [] y) (decR (.imm 2) []) := by kernel_rfl
theorem F8_ok (n : Nat) : EntOK prog G (F8e n) :=
  ent_ok (fr := frOf [F8_0z n]) (ann := (.nd .no (.nd .no (.nd (.nd .no (.nd (.use 0) .no)) .no)))) (frm := [(0, .fz)]) laws fnok (E4_ok n).tab (e := F8e n) (fn := Go.Proofs.Try.f8) (by kernel_rfl) (AllF.ofB (cd := F8c) (l := [(0, codeAt F8c [1, 1, 0, 1, 0])]) (by kernel_rfl) (by kernel_rfl) (AllF.cons (F8_0_ok n) AllF.nil)) (F8_eq n)
noncomputable def E5 (n : Nat) : List (Ent G) := F8e n :: E4 n
theorem E5_ok (n : Nat) : AllE prog G (E5 n) := AllE.cons (F8_ok n) (E4_ok n)
-- 9 loop.example/slowworm/laws.toIntS
noncomputable def F9v1c : Code := bodyOf Go.Proofs.Try.f9
noncomputable def F9v1_0x0 : SSh := ⟨22, [(3, (.own 0))], [(.arr 0 true)]⟩
noncomputable def F9v1_0s : SSh := ⟨22, [(0, (.imm 0)), (3, (.own 0)), (4, (.int .i64))], [(.arr 0 true)]⟩
noncomputable def F9v1_0_step {R : Type} (n : Nat) (k0 : List Int → Option R) (rec : List Int → Int → List Int → Option R) (x70 : List Int) (x71 : Int) (x72 : List Int) : Option R :=
  (bif (decide (x71 < ((x70.length) : Int))) then
  (bif (decide ((0 : Int) ≤ x71)) then
  (bif (decide (x71 < ((x70.length) : Int))) then
  (bif (decide ((0 : Int) ≤ x71)) then
  (bif (decide (x71 < ((x72.length) : Int))) then
  (rec x70 (IntKind.wrap .i64 (x71 + (1 : Int))) (x72.set (x71.toNat) (x70.getD (x71.toNat) (0 : Int))))
  else none)
  else none)
  else none)
  else none)
  else (k0 x72))
noncomputable def F9v1_0_it {R : Type} (n : Nat) (k0 : List Int → Option R) : Nat → List Int → Int → List Int → Option R
  | 0, _, _, _ => none
  | k + 1, x70, x71, x72 => F9v1_0_step n k0 (F9v1_0_it n k0 k) x70 x71 x72
noncomputable def F9v1_0 {R : Type} (n : Nat) (x70 : List Int) (x71 : Int) (x72 : List Int) (k0 : List Int → Option R) : Option R := F9v1_0_it n k0 n x70 x71 x72
noncomputable def F9v1_0z (n : Nat) : Sm G := inZ G 0 ⟨[0, 3, 4], []⟩ F9v1_0s fun R x K => F9v1_0_it n (fun u0 => K (.exit 0) (SSh.enc G F9v1_0x0 (((), ()), (u0, ())))) n x.1.1 x.1.2.2.1 x.2.1
theorem F9v1_0_eq (n : Nat) (R : Type) (rec : SSh.den G F9v1_0s → Option R) (x : SSh.den G F9v1_0s) (K : AE → St G → Option R) :
  F9v1_0_step n (fun u0 => K (.exit 0) (SSh.enc G F9v1_0x0 (((), ()), (u0, ())))) (fun x70 x71 x72 => rec ((x70, ((), (x71, ()))), (x72, ()))) x.1.1 x.1.2.2.1 x.2.1 = exec prog G (ro G (tabOf (E5 n)) (frOf []) R) 0 (codeAt F9v1c [1, 1, 0, 1, 0, 0]) .no (SSh.enc G F9v1_0s x) (kLoop G (ro G (tabOf (E5 n)) (frOf []) R) 0 ⟨[0, 3, 4], []⟩ F9v1_0s ⟨⟨[3], []⟩, ⟨[2], []⟩, [(0, ⟨[3], []⟩)]⟩ rec K) := by kernel_rfl
theorem F9v1_0_ok (n : Nat) : FragOK prog G 0 (codeAt F9v1c [1, 1, 0, 1, 0]) (F9v1_0z n) :=
  frag_loop (Z := fun R k (x : SSh.den G F9v1_0s) K => F9v1_0_it n (fun u0 => K (.exit 0) (SSh.enc G F9v1_0x0 (((), ()), (u0, ())))) k x.1.1 x.1.2.2.1 x.2.1) laws fnok (E5_ok n).tab (AllF.of (l := []) (by kernel_rfl) AllF.nil) (fun _ _ _ => rfl) (fun R k y K => F9v1_0_eq n R (fun (x : SSh.den G F9v1_0s) => F9v1_0_it n (fun u0 => K (.exit 0) (SSh.enc G F9v1_0x0 (((), ()), (u0, ())))) k x.1.1 x.1.2.2.1 x.2.1) y K) n
noncomputable def F9v1 (n : Nat) (a67 : List Int) : Option (Unit × (List Int × Unit)) :=
  let v68 := ((a67.length) : Int)
  (bif (decide ((0 : Int) ≤ v68)) then
  (bif (decide (v68 ≤ v68)) then
  (bif (decide (v68 ≤ ((68719476736 : Nat) : Int))) then
  (F9v1_0 n a67 (0 : Int) (List.replicate (v68.toNat) (0 : Int)) (fun z80 =>
  some ((), (z80, ()))))
  else none)
  else none)
  else none)
noncomputable def F9v1e (n : Nat) : Ent G := ⟨9, (.cons (.imm 0) .nil), [], (.own 0), [(.arr 0 true)], fun x y => F9v1 n x.1⟩
theorem F9v1_eq (n : Nat) (x : ShL.den G (.cons (.imm 0) .nil)) (y : denO G []) : (F9v1e n).F x y = runFn prog G (ro G (tabOf (E5 n)) (frOf [F9v1_0z n]) _) Go.Proofs.Try.f9 (.nd .no (.nd .no (.nd (.nd .no (.nd (.use 0) .no)) .no))) [(0, (.own 0))] (ShL.enc G (.cons (.imm 0) .nil) x) (encO G [] y) (decR (.own 0) [(.arr 0 true)]) := by kernel_rfl
theorem F9v1_ok (n : Nat) : EntOK prog G (F9v1e n) :=
  ent_ok (fr := frOf [F9v1_0z n]) (ann := (.nd .no (.nd .no (.nd (.nd .no (.nd (.use 0) .no)) .no)))) (frm := [(0, (.own 0))]) laws fnok (E5_ok n).tab (e := F9v1e n) (fn := Go.Proofs.Try.f9) (by kernel_rfl) (AllF.ofB (cd := F9v1c) (l := [(0, codeAt F9v1c [1, 1, 0, 1, 0])]) (by kernel_rfl) (by kernel_rfl) (AllF.cons (F9v1_0_ok n) AllF.nil)) (F9v1_eq n)
noncomputable def E6 (n : Nat) : List (Ent G) := F9v1e n :: E5 n
theorem E6_ok (n : Nat) : AllE prog G (E6 n) := AllE.cons (F9v1_ok n) (E5_ok n)
-- 10 loop.example/slowworm/laws.toFinalS
noncomputable def F10c : Code := bodyOf Go.Proofs.Try.f10
-- 32 loop.example/slowworm/laws.toFinal
noncomputable def F32c : Code := bodyOf Go.Proofs.Try.f32
noncomputable def F32 (n : Nat) (a94 : Int) (a95 : Int) (a96 : Bool) : Option ((Int × (Int × (Bool × Unit))) × Unit) :=
  some ((a94, (a95, (a96, ()))), ())
noncomputable def F32e (n : Nat) : Ent G := ⟨32, (.cons (.agg (.cons (.int .i64) (.cons (.int .i64) (.cons .bool .nil)))) .nil), [], (.agg (.cons (.int .i64) (.cons (.int .i64) (.cons .bool .nil)))), [], fun x y => F32 n x.1.1 x.1.2.1 x.1.2.2.1⟩
theorem F32_eq (n : Nat) (x : ShL.den G (.cons (.agg (.cons (.int .i64) (.cons (.int .i64) (.cons .bool .nil)))) .nil)) (y : denO G []) : (F32e n).F x y = runFn prog G (ro G (tabOf (E6 n)) (frOf []) _) Go.Proofs.Try.f32 .no [(0, .fz)] (ShL.enc G (.cons (.agg (.cons (.int .i64) (.cons (.int .i64) (.cons .bool .nil)))) .nil) x) (encO G [] y) (decR (.agg (.cons (.int .i64) (.cons (.int .i64) (.cons .bool .nil)))) []) := by kernel_rfl
theorem F32_ok (n : Nat) : EntOK prog G (F32e n) :=
  ent_ok (fr := frOf []) (ann := .no) (frm := [(0, .fz)]) laws fnok (E6_ok n).tab (e := F32e n) (fn := Go.Proofs.Try.f32) (by kernel_rfl) (AllF.ofB (cd := F32c) (l := []) (by kernel_rfl) (by kernel_rfl) AllF.nil) (F32_eq n)
noncomputable def E7 (n : Nat) : List (Ent G) := F32e n :: E6 n
theorem E7_ok (n : Nat) : AllE prog G (E7 n) := AllE.cons (F32_ok n) (E6_ok n)
noncomputable def F10_0x0 : SSh := ⟨23, [(3, (.own 0))], [(.arr 3 true)]⟩
noncomputable def F10_0s : SSh := ⟨23, [(0, (.imm 4)), (3, (.own 0)), (4, (.int .i64))], [(.arr 3 true)]⟩
noncomputable def F10_0_step {R : Type} (n : Nat) (k0 : List Fnl → Option R) (rec : List Fnl → Int → List Fnl → Option R) (x85 : List Fnl) (x86 : Int) (x87 : List Fnl) : Option R :=
  (bif (decide (x86 < ((x85.length) : Int))) then
  (bif (decide ((0 : Int) ≤ x86)) then
  (bif (decide (x86 < ((x85.length) : Int))) then
  let v90 := (x85.getD (x86.toNat) (Fnl.mk (0 : Int) (0 : Int) false))
  (andThen (F32 n v90.at_ v90.saves v90.done) fun r97 =>
  (bif (decide ((0 : Int) ≤ x86)) then
  (bif (decide (x86 < ((x87.length) : Int))) then
  (rec x85 (IntKind.wrap .i64 (x86 + (1 : Int))) (x87.set (x86.toNat) (Fnl.mk r97.1.1 r97.1.2.1 r97.1.2.2.1)))
  else none)
  else none))
  else none)
  else none)
  else (k0 x87))
noncomputable def F10_0_it {R : Type} (n : Nat) (k0 : List Fnl → Option R) : Nat → List Fnl → Int → List Fnl → Option R
  | 0, _, _, _ => none
  | k + 1, x85, x86, x87 => F10_0_step n k0 (F10_0_it n k0 k) x85 x86 x87
noncomputable def F10_0 {R : Type} (n : Nat) (x85 : List Fnl) (x86 : Int) (x87 : List Fnl) (k0 : List Fnl → Option R) : Option R := F10_0_it n k0 n x85 x86 x87
noncomputable def F10_0z (n : Nat) : Sm G := inZ G 0 ⟨[0, 3, 4], []⟩ F10_0s fun R x K => F10_0_it n (fun u0 => K (.exit 0) (SSh.enc G F10_0x0 (((), ()), (u0, ())))) n x.1.1 x.1.2.2.1 x.2.1
theorem F10_0_eq (n : Nat) (R : Type) (rec : SSh.den G F10_0s → Option R) (x : SSh.den G F10_0s) (K : AE → St G → Option R) :
  F10_0_step n (fun u0 => K (.exit 0) (SSh.enc G F10_0x0 (((), ()), (u0, ())))) (fun x85 x86 x87 => rec ((x85, ((), (x86, ()))), (x87, ()))) x.1.1 x.1.2.2.1 x.2.1 = exec prog G (ro G (tabOf (E7 n)) (frOf []) R) 0 (codeAt F10c [1, 1, 0, 1, 0, 0]) .no (SSh.enc G F10_0s x) (kLoop G (ro G (tabOf (E7 n)) (frOf []) R) 0 ⟨[0, 3, 4], []⟩ F10_0s ⟨⟨[3], []⟩, ⟨[2], []⟩, [(0, ⟨[3], []⟩)]⟩ rec K) := by kernel_rfl
theorem F10_0_ok (n : Nat) : FragOK prog G 0 (codeAt F10c [1, 1, 0, 1, 0]) (F10_0z n) :=
  frag_loop (Z := fun R k (x : SSh.den G F10_0s) K => F10_0_it n (fun u0 => K (.exit 0) (SSh.enc G F10_0x0 (((), ()), (u0, ())))) k x.1.1 x.1.2.2.1 x.2.1) laws fnok (E7_ok n).tab (AllF.of (l := []) (by kernel_rfl) AllF.nil) (fun _ _ _ => rfl) (fun R k y K => F10_0_eq n R (fun (x : SSh.den G F10_0s) => F10_0_it n (fun u0 => K (.exit 0) (SSh.enc G F10_0x0 (((), ()), (u0, ())))) k x.1.1 x.1.2.2.1 x.2.1) y K) n
noncomputable def F10 (n : Nat) (a82 : List Fnl) : Option (Unit × (List Fnl × Unit)) :=
  let v83 := ((a82.length) : Int)
  (bif (decide ((0 : Int) ≤ v83)) then
  (bif (decide (v83 ≤ v83)) then
  (bif (decide (v83 ≤ ((68719476736 : Nat) : Int))) then
  (F10_0 n a82 (0 : Int) (List.replicate (v83.toNat) (Fnl.mk (0 : Int) (0 : Int) false)) (fun z101 =>
  some ((), (z101, ()))))
  else none)
  else none)
  else none)
noncomputable def F10e (n : Nat) : Ent G := ⟨10, (.cons (.imm 4) .nil), [], (.own 0), [(.arr 3 true)], fun x y => F10 n x.1⟩
theorem F10_eq (n : Nat) (x : ShL.den G (.cons (.imm 4) .nil)) (y : denO G []) : (F10e n).F x y = runFn prog G (ro G (tabOf (E7 n)) (frOf [F10_0z n]) _) Go.Proofs.Try.f10 (.nd .no (.nd .no (.nd (.nd .no (.nd (.use 0) .no)) .no))) [(0, (.own 3))] (ShL.enc G (.cons (.imm 4) .nil) x) (encO G [] y) (decR (.own 0) [(.arr 3 true)]) := by kernel_rfl
theorem F10_ok (n : Nat) : EntOK prog G (F10e n) :=
  ent_ok (fr := frOf [F10_0z n]) (ann := (.nd .no (.nd .no (.nd (.nd .no (.nd (.use 0) .no)) .no)))) (frm := [(0, (.own 3))]) laws fnok (E7_ok n).tab (e := F10e n) (fn := Go.Proofs.Try.f10) (by kernel_rfl) (AllF.ofB (cd := F10c) (l := [(0, codeAt F10c [1, 1, 0, 1, 0])]) (by kernel_rfl) (by kernel_rfl) (AllF.cons (F10_0_ok n) AllF.nil)) (F10_eq n)
noncomputable def E8 (n : Nat) : List (Ent G) := F10e n :: E7 n
theorem E8_ok (n : Nat) : AllE prog G (E8 n) := AllE.cons (F10_ok n) (E7_ok n)
-- 28 loop.example/slowworm/spec.validGraph
noncomputable def F28c : Code := bodyOf Go.Proofs.Try.f28
-- 51 loop.example/slowworm/spec.inRange
noncomputable def F51c : Code := bodyOf Go.Proofs.Try.f51
noncomputable def F51 (n : Nat) (a124 : Int) (a125 : Int) (a126 : Int) : Option (Bool × Unit) :=
  (bif (decide (a124 ≥ a125)) then
  some ((decide (a124 ≤ a126)), ())
  else some (false, ()))
noncomputable def F51e (n : Nat) : Ent G := ⟨51, (.cons (.int .i64) (.cons (.int .i64) (.cons (.int .i64) .nil))), [], .bool, [], fun x y => F51 n x.1 x.2.1 x.2.2.1⟩
theorem F51_eq (n : Nat) (x : ShL.den G (.cons (.int .i64) (.cons (.int .i64) (.cons (.int .i64) .nil)))) (y : denO G []) : (F51e n).F x y = runFn prog G (ro G (tabOf (E8 n)) (frOf []) _) Go.Proofs.Try.f51 .no [(0, .fz)] (ShL.enc G (.cons (.int .i64) (.cons (.int .i64) (.cons (.int .i64) .nil))) x) (encO G [] y) (decR .bool []) := by kernel_rfl
theorem F51_ok (n : Nat) : EntOK prog G (F51e n) :=
  ent_ok (fr := frOf []) (ann := .no) (frm := [(0, .fz)]) laws fnok (E8_ok n).tab (e := F51e n) (fn := Go.Proofs.Try.f51) (by kernel_rfl) (AllF.ofB (cd := F51c) (l := []) (by kernel_rfl) (by kernel_rfl) AllF.nil) (F51_eq n)
noncomputable def E9 (n : Nat) : List (Ent G) := F51e n :: E8 n
theorem E9_ok (n : Nat) : AllE prog G (E9 n) := AllE.cons (F51_ok n) (E8_ok n)
noncomputable def F28_0x0 : SSh := ⟨41, [(2, .bool)], []⟩
noncomputable def F28_0x1 : SSh := ⟨41, [(0, (.imm 2)), (3, (.int .i64))], []⟩
noncomputable def F28_0s : SSh := ⟨41, [(0, (.imm 2)), (3, (.int .i64)), (4, (.int .i64))], []⟩
noncomputable def F28_0_step {R : Type} (n : Nat) (k0 : Bool → Option R) (k1 : List (List Int) → Int → Option R) (rec : List (List Int) → Int → Int → Option R) (x111 : List (List Int)) (x112 : Int) (x113 : Int) : Option R :=
  (bif (decide ((0 : Int) ≤ x112)) then
  (bif (decide (x112 < ((x111.length) : Int))) then
  (bif (decide (x113 < (((x111.getD (x112.toNat) []).length) : Int))) then
  (bif (decide ((0 : Int) ≤ x112)) then
  (bif (decide (x112 < ((x111.length) : Int))) then
  let v119 := (x111.getD (x112.toNat) [])
  (bif (decide ((0 : Int) ≤ x113)) then
  (bif (decide (x113 < ((v119.length) : Int))) then
  (andThen (F51 n (v119.getD (x113.toNat) (0 : Int)) (0 : Int) (IntKind.wrap .i64 (((x111.length) : Int) - (1 : Int)))) fun r129 =>
  (bif (!r129.1) then
  (k0 false)
  else (rec x111 x112 (IntKind.wrap .i64 (x113 + (1 : Int))))))
  else none)
  else none)
  else none)
  else none)
  else (k1 x111 x112))
  else none)
  else none)
noncomputable def F28_0_it {R : Type} (n : Nat) (k0 : Bool → Option R) (k1 : List (List Int) → Int → Option R) : Nat → List (List Int) → Int → Int → Option R
  | 0, _, _, _ => none
  | k + 1, x111, x112, x113 => F28_0_step n k0 k1 (F28_0_it n k0 k1 k) x111 x112 x113
noncomputable def F28_0 {R : Type} (n : Nat) (x111 : List (List Int)) (x112 : Int) (x113 : Int) (k0 : Bool → Option R) (k1 : List (List Int) → Int → Option R) : Option R := F28_0_it n k0 k1 n x111 x112 x113
noncomputable def F28_0z (n : Nat) : Sm G := inZ G 0 ⟨[0, 3, 4], []⟩ F28_0s fun R x K => F28_0_it n (fun u0 => K .ret (SSh.enc G F28_0x0 ((u0, ()), ()))) (fun u0 u1 => K (.exit 2) (SSh.enc G F28_0x1 ((u0, (u1, ())), ()))) n x.1.1 x.1.2.1 x.1.2.2.1
theorem F28_0_eq (n : Nat) (R : Type) (rec : SSh.den G F28_0s → Option R) (x : SSh.den G F28_0s) (K : AE → St G → Option R) :
  F28_0_step n (fun u0 => K .ret (SSh.enc G F28_0x0 ((u0, ()), ()))) (fun u0 u1 => K (.exit 2) (SSh.enc G F28_0x1 ((u0, (u1, ())), ()))) (fun x111 x112 x113 => rec ((x111, (x112, (x113, ()))), ())) x.1.1 x.1.2.1 x.1.2.2.1 = exec prog G (ro G (tabOf (E9 n)) (frOf []) R) 0 (codeAt F28c [1, 0, 1, 0, 0, 1, 0, 0, 0, 1, 0, 0]) .no (SSh.enc G F28_0s x) (kLoop G (ro G (tabOf (E9 n)) (frOf []) R) 0 ⟨[0, 3, 4], []⟩ F28_0s ⟨⟨[0, 3], []⟩, ⟨[2], []⟩, [(2, ⟨[0, 3], []⟩), (1, ⟨[0, 3], []⟩), (0, ⟨[0], []⟩)]⟩ rec K) := by kernel_rfl
theorem F28_0_ok (n : Nat) : FragOK prog G 0 (codeAt F28c [1, 0, 1, 0, 0, 1, 0, 0, 0, 1, 0]) (F28_0z n) :=
  frag_loop (Z := fun R k (x : SSh.den G F28_0s) K => F28_0_it n (fun u0 => K .ret (SSh.enc G F28_0x0 ((u0, ()), ()))) (fun u0 u1 => K (.exit 2) (SSh.enc G F28_0x1 ((u0, (u1, ())), ()))) k x.1.1 x.1.2.1 x.1.2.2.1) laws fnok (E9_ok n).tab (AllF.of (l := []) (by kernel_rfl) AllF.nil) (fun _ _ _ => rfl) (fun R k y K => F28_0_eq n R (fun (x : SSh.den G F28_0s) => F28_0_it n (fun u0 => K .ret (SSh.enc G F28_0x0 ((u0, ()), ()))) (fun u0 u1 => K (.exit 2) (SSh.enc G F28_0x1 ((u0, (u1, ())), ()))) k x.1.1 x.1.2.1 x.1.2.2.1) y K) n
noncomputable def F28_1x0 : SSh := ⟨41, [(2, .bool)], []⟩
noncomputable def F28_1x1 : SSh := ⟨41, [(0, (.imm 2))], []⟩
noncomputable def F28_1s : SSh := ⟨41, [(0, (.imm 2)), (3, (.int .i64))], []⟩
noncomputable def F28_1_step {R : Type} (n : Nat) (k0 : Bool → Option R) (k1 : List (List Int) → Option R) (rec : List (List Int) → Int → Option R) (x107 : List (List Int)) (x108 : Int) : Option R :=
  (bif (decide (x108 < ((x107.length) : Int))) then
  (F28_0 n x107 x108 (0 : Int) (fun z132 =>
  (k0 z132)) (fun z133 z134 =>
  (bif (decide ((0 : Int) ≤ z134)) then
  (bif (decide (z134 < ((z133.length) : Int))) then
  (bif (decide ((((z133.getD (z134.toNat) []).length) : Int) > (5 : Int))) then
  (k0 false)
  else (rec z133 (IntKind.wrap .i64 (z134 + (1 : Int)))))
  else none)
  else none)))
  else (k1 x107))
noncomputable def F28_1_it {R : Type} (n : Nat) (k0 : Bool → Option R) (k1 : List (List Int) → Option R) : Nat → List (List Int) → Int → Option R
  | 0, _, _ => none
  | k + 1, x107, x108 => F28_1_step n k0 k1 (F28_1_it n k0 k1 k) x107 x108
noncomputable def F28_1 {R : Type} (n : Nat) (x107 : List (List Int)) (x108 : Int) (k0 : Bool → Option R) (k1 : List (List Int) → Option R) : Option R := F28_1_it n k0 k1 n x107 x108
noncomputable def F28_1z (n : Nat) : Sm G := inZ G 0 ⟨[0, 3], []⟩ F28_1s fun R x K => F28_1_it n (fun u0 => K .ret (SSh.enc G F28_1x0 ((u0, ()), ()))) (fun u0 => K (.exit 0) (SSh.enc G F28_1x1 ((u0, ()), ()))) n x.1.1 x.1.2.1
theorem F28_1_eq (n : Nat) (R : Type) (rec : SSh.den G F28_1s → Option R) (x : SSh.den G F28_1s) (K : AE → St G → Option R) :
  F28_1_step n (fun u0 => K .ret (SSh.enc G F28_1x0 ((u0, ()), ()))) (fun u0 => K (.exit 0) (SSh.enc G F28_1x1 ((u0, ()), ()))) (fun x107 x108 => rec ((x107, (x108, ())), ())) x.1.1 x.1.2.1 = exec prog G (ro G (tabOf (E9 n)) (frOf [F28_0z n]) R) 0 (codeAt F28c [1, 0, 1, 0, 0]) (.nd .no (.nd (.nd (.nd (.nd .no (.nd (.use 0) .no)) .no) .no) .no)) (SSh.enc G F28_1s x) (kLoop G (ro G (tabOf (E9 n)) (frOf [F28_0z n]) R) 0 ⟨[0, 3], []⟩ F28_1s ⟨⟨[0], []⟩, ⟨[2], []⟩, [(0, ⟨[0], []⟩)]⟩ rec K) := by kernel_rfl
theorem F28_1_ok (n : Nat) : FragOK prog G 0 (codeAt F28c [1, 0, 1, 0]) (F28_1z n) :=
  frag_loop (Z := fun R k (x : SSh.den G F28_1s) K => F28_1_it n (fun u0 => K .ret (SSh.enc G F28_1x0 ((u0, ()), ()))) (fun u0 => K (.exit 0) (SSh.enc G F28_1x1 ((u0, ()), ()))) k x.1.1 x.1.2.1) laws fnok (E9_ok n).tab (AllF.of (l := [(0, codeAt F28c [1, 0, 1, 0, 0, 1, 0, 0, 0, 1, 0])]) (by kernel_rfl) (AllF.cons (F28_0_ok n) AllF.nil)) (fun _ _ _ => rfl) (fun R k y K => F28_1_eq n R (fun (x : SSh.den G F28_1s) => F28_1_it n (fun u0 => K .ret (SSh.enc G F28_1x0 ((u0, ()), ()))) (fun u0 => K (.exit 0) (SSh.enc G F28_1x1 ((u0, ()), ()))) k x.1.1 x.1.2.1) y K) n
noncomputable def F28 (n : Nat) (a106 : List (List Int)) : Option (Bool × Unit) :=
  (F28_1 n a106 (0 : Int) (fun z140 =>
  some (z140, ())) (fun z141 =>
  some ((decide (((z141.length) : Int) ≤ (12 : Int))), ())))
noncomputable def F28e (n : Nat) : Ent G := ⟨28, (.cons (.imm 2) .nil), [], .bool, [], fun x y => F28 n x.1⟩
theorem F28_eq (n : Nat) (x : ShL.den G (.cons (.imm 2) .nil)) (y : denO G []) : (F28e n).F x y = runFn prog G (ro G (tabOf (E9 n)) (frOf [F28_0z n, F28_1z n]) _) Go.Proofs.Try.f28 (.nd .no (.nd (.nd .no (.nd (.use 1) .no)) .no)) [(0, .fz)] (ShL.enc G (.cons (.imm 2) .nil) x) (encO G [] y) (decR .bool []) := by kernel_rfl
theorem F28_ok (n : Nat) : EntOK prog G (F28e n) :=
  ent_ok (fr := frOf [F28_0z n, F28_1z n]) (ann := (.nd .no (.nd (.nd .no (.nd (.use 1) .no)) .no))) (frm := [(0, .fz)]) laws fnok (E9_ok n).tab (e := F28e n) (fn := Go.Proofs.Try.f28) (by kernel_rfl) (AllF.ofB (cd := F28c) (l := [(1, codeAt F28c [1, 0, 1, 0])]) (by kernel_rfl) (by kernel_rfl) (AllF.cons (F28_1_ok n) AllF.nil)) (F28_eq n)
noncomputable def E10 (n : Nat) : List (Ent G) := F28e n :: E9 n
theorem E10_ok (n : Nat) : AllE prog G (E10 n) := AllE.cons (F28_ok n) (E9_ok n)
-- 29 loop.example/slowworm/spec.validRoots
noncomputable def F29c : Code := bodyOf Go.Proofs.Try.f29
noncomputable def F29_0x0 : SSh := ⟨23, [(4, .bool)], []⟩
noncomputable def F29_0x1 : SSh := ⟨23, [(0, (.imm 0))], []⟩
noncomputable def F29_0s : SSh := ⟨23, [(0, (.imm 0)), (1, (.int .i64)), (5, (.int .i64))], []⟩
noncomputable def F29_0_step {R : Type} (n : Nat) (k0 : Bool → Option R) (k1 : List Int → Option R) (rec : List Int → Int → Int → Option R) (x149 : List Int) (x150 : Int) (x151 : Int) : Option R :=
  (bif (decide (x151 < ((x149.length) : Int))) then
  (bif (decide ((0 : Int) ≤ x151)) then
  (bif (decide (x151 < ((x149.length) : Int))) then
  (andThen (F51 n (x149.getD (x151.toNat) (0 : Int)) (0 : Int) (IntKind.wrap .i64 (x150 - (1 : Int)))) fun r157 =>
  (bif (!r157.1) then
  (k0 false)
  else (rec x149 x150 (IntKind.wrap .i64 (x151 + (1 : Int))))))
  else none)
  else none)
  else (k1 x149))
noncomputable def F29_0_it {R : Type} (n : Nat) (k0 : Bool → Option R) (k1 : List Int → Option R) : Nat → List Int → Int → Int → Option R
  | 0, _, _, _ => none
  | k + 1, x149, x150, x151 => F29_0_step n k0 k1 (F29_0_it n k0 k1 k) x149 x150 x151
noncomputable def F29_0 {R : Type} (n : Nat) (x149 : List Int) (x150 : Int) (x151 : Int) (k0 : Bool → Option R) (k1 : List Int → Option R) : Option R := F29_0_it n k0 k1 n x149 x150 x151
noncomputable def F29_0z (n : Nat) : Sm G := inZ G 0 ⟨[0, 1, 5], []⟩ F29_0s fun R x K => F29_0_it n (fun u0 => K .ret (SSh.enc G F29_0x0 ((u0, ()), ()))) (fun u0 => K (.exit 0) (SSh.enc G F29_0x1 ((u0, ()), ()))) n x.1.1 x.1.2.1 x.1.2.2.1
theorem F29_0_eq (n : Nat) (R : Type) (rec : SSh.den G F29_0s → Option R) (x : SSh.den G F29_0s) (K : AE → St G → Option R) :
  F29_0_step n (fun u0 => K .ret (SSh.enc G F29_0x0 ((u0, ()), ()))) (fun u0 => K (.exit 0) (SSh.enc G F29_0x1 ((u0, ()), ()))) (fun x149 x150 x151 => rec ((x149, (x150, (x151, ()))), ())) x.1.1 x.1.2.1 x.1.2.2.1 = exec prog G (ro G (tabOf (E10 n)) (frOf []) R) 0 (codeAt F29c [1, 0, 1, 0, 0]) .no (SSh.enc G F29_0s x) (kLoop G (ro G (tabOf (E10 n)) (frOf []) R) 0 ⟨[0, 1, 5], []⟩ F29_0s ⟨⟨[0], []⟩, ⟨[4], []⟩, [(0, ⟨[0], []⟩)]⟩ rec K) := by kernel_rfl
theorem F29_0_ok (n : Nat) : FragOK prog G 0 (codeAt F29c [1, 0, 1, 0]) (F29_0z n) :=
  frag_loop (Z := fun R k (x : SSh.den G F29_0s) K => F29_0_it n (fun u0 => K .ret (SSh.enc G F29_0x0 ((u0, ()), ()))) (fun u0 => K (.exit 0) (SSh.enc G F29_0x1 ((u0, ()), ()))) k x.1.1 x.1.2.1 x.1.2.2.1) laws fnok (E10_ok n).tab (AllF.of (l := []) (by kernel_rfl) AllF.nil) (fun _ _ _ => rfl) (fun R k y K => F29_0_eq n R (fun (x : SSh.den G F29_0s) => F29_0_it n (fun u0 => K .ret (SSh.enc G F29_0x0 ((u0, ()), ()))) (fun u0 => K (.exit 0) (SSh.enc G F29_0x1 ((u0, ()), ()))) k x.1.1 x.1.2.1 x.1.2.2.1) y K) n
noncomputable def F29 (n : Nat) (a147 : List Int) (a148 : Int) : Option (Bool × Unit) :=
  (F29_0 n a147 a148 (0 : Int) (fun z160 =>
  some (z160, ())) (fun z161 =>
  some ((decide (((z161.length) : Int) ≤ (12 : Int))), ())))
noncomputable def F29e (n : Nat) : Ent G := ⟨29, (.cons (.imm 0) (.cons (.int .i64) .nil)), [], .bool, [], fun x y => F29 n x.1 x.2.1⟩
theorem F29_eq (n : Nat) (x : ShL.den G (.cons (.imm 0) (.cons (.int .i64) .nil))) (y : denO G []) : (F29e n).F x y = runFn prog G (ro G (tabOf (E10 n)) (frOf [F29_0z n]) _) Go.Proofs.Try.f29 (.nd .no (.nd (.nd .no (.nd (.use 0) .no)) .no)) [(0, .fz)] (ShL.enc G (.cons (.imm 0) (.cons (.int .i64) .nil)) x) (encO G [] y) (decR .bool []) := by kernel_rfl
theorem F29_ok (n : Nat) : EntOK prog G (F29e n) :=
  ent_ok (fr := frOf [F29_0z n]) (ann := (.nd .no (.nd (.nd .no (.nd (.use 0) .no)) .no))) (frm := [(0, .fz)]) laws fnok (E10_ok n).tab (e := F29e n) (fn := Go.Proofs.Try.f29) (by kernel_rfl) (AllF.ofB (cd := F29c) (l := [(0, codeAt F29c [1, 0, 1, 0])]) (by kernel_rfl) (by kernel_rfl) (AllF.cons (F29_0_ok n) AllF.nil)) (F29_eq n)
noncomputable def E11 (n : Nat) : List (Ent G) := F29e n :: E10 n
theorem E11_ok (n : Nat) : AllE prog G (E11 n) := AllE.cons (F29_ok n) (E10_ok n)
-- 30 loop.example/slowworm/spec.validFinals
noncomputable def F30c : Code := bodyOf Go.Proofs.Try.f30
noncomputable def F30_0x0 : SSh := ⟨48, [(4, .bool)], []⟩
noncomputable def F30_0x1 : SSh := ⟨48, [(0, (.imm 3)), (1, (.int .i64)), (5, (.int .i64))], []⟩
noncomputable def F30_0s : SSh := ⟨48, [(0, (.imm 3)), (1, (.int .i64)), (5, (.int .i64)), (6, (.ptr 0 0)), (7, (.int .i64))], [(.box 58 (.cons (.int .i64) (.cons (.int .i64) (.cons .bool .nil))))]⟩
noncomputable def F30_0_step {R : Type} (n : Nat) (k0 : Bool → Option R) (k1 : List Fnl → Int → Int → Option R) (rec : List Fnl → Int → Int → Int → Int → Int → Bool → Option R) (x184 : List Fnl) (x185 : Int) (x186 : Int) (x187 : Int) (x188 : Int) (x189 : Int) (x190 : Bool) : Option R :=
  (bif (decide (x187 < x186)) then
  (bif (decide ((0 : Int) ≤ x187)) then
  (bif (decide (x187 < ((x184.length) : Int))) then
  (bif ((x184.getD (x187.toNat) (Fnl.mk (0 : Int) (0 : Int) false)).at_ == x188) then
  (k0 false)
  else (rec x184 x185 x186 (IntKind.wrap .i64 (x187 + (1 : Int))) x188 x189 x190))
  else none)
  else none)
  else (k1 x184 x185 x186))
noncomputable def F30_0_it {R : Type} (n : Nat) (k0 : Bool → Option R) (k1 : List Fnl → Int → Int → Option R) : Nat → List Fnl → Int → Int → Int → Int → Int → Bool → Option R
  | 0, _, _, _, _, _, _, _ => none
  | k + 1, x184, x185, x186, x187, x188, x189, x190 => F30_0_step n k0 k1 (F30_0_it n k0 k1 k) x184 x185 x186 x187 x188 x189 x190
noncomputable def F30_0 {R : Type} (n : Nat) (x184 : List Fnl) (x185 : Int) (x186 : Int) (x187 : Int) (x188 : Int) (x189 : Int) (x190 : Bool) (k0 : Bool → Option R) (k1 : List Fnl → Int → Int → Option R) : Option R := F30_0_it n k0 k1 n x184 x185 x186 x187 x188 x189 x190
noncomputable def F30_0z (n : Nat) : Sm G := inZ G 0 ⟨[0, 1, 5, 6, 7], []⟩ F30_0s fun R x K => F30_0_it n (fun u0 => K .ret (SSh.enc G F30_0x0 ((u0, ()), ()))) (fun u0 u1 u2 => K (.exit 2) (SSh.enc G F30_0x1 ((u0, (u1, (u2, ()))), ()))) n x.1.1 x.1.2.1 x.1.2.2.1 x.1.2.2.2.2.1 x.2.1.1 x.2.1.2.1 x.2.1.2.2.1
theorem F30_0_eq (n : Nat) (R : Type) (rec : SSh.den G F30_0s → Option R) (x : SSh.den G F30_0s) (K : AE → St G → Option R) :
  F30_0_step n (fun u0 => K .ret (SSh.enc G F30_0x0 ((u0, ()), ()))) (fun u0 u1 u2 => K (.exit 2) (SSh.enc G F30_0x1 ((u0, (u1, (u2, ()))), ()))) (fun x184 x185 x186 x187 x188 x189 x190 => rec ((x184, (x185, (x186, ((), (x187, ()))))), ((x188, (x189, (x190, ()))), ()))) x.1.1 x.1.2.1 x.1.2.2.1 x.1.2.2.2.2.1 x.2.1.1 x.2.1.2.1 x.2.1.2.2.1 = exec prog G (ro G (tabOf (E11 n)) (frOf []) R) 0 (codeAt F30c [1, 0, 1, 0, 0, 1, 0, 0, 1, 1, 1, 0, 0]) .no (SSh.enc G F30_0s x) (kLoop G (ro G (tabOf (E11 n)) (frOf []) R) 0 ⟨[0, 1, 5, 6, 7], []⟩ F30_0s ⟨⟨[0, 1, 5], []⟩, ⟨[4], []⟩, [(2, ⟨[0, 1, 5], []⟩), (1, ⟨[0, 1, 5], []⟩), (0, ⟨[0], []⟩)]⟩ rec K) := by kernel_rfl
theorem F30_0_ok (n : Nat) : FragOK prog G 0 (codeAt F30c [1, 0, 1, 0, 0, 1, 0, 0, 1, 1, 1, 0]) (F30_0z n) :=
  frag_loop (Z := fun R k (x : SSh.den G F30_0s) K => F30_0_it n (fun u0 => K .ret (SSh.enc G F30_0x0 ((u0, ()), ()))) (fun u0 u1 u2 => K (.exit 2) (SSh.enc G F30_0x1 ((u0, (u1, (u2, ()))), ()))) k x.1.1 x.1.2.1 x.1.2.2.1 x.1.2.2.2.2.1 x.2.1.1 x.2.1.2.1 x.2.1.2.2.1) laws fnok (E11_ok n).tab (AllF.of (l := []) (by kernel_rfl) AllF.nil) (fun _ _ _ => rfl) (fun R k y K => F30_0_eq n R (fun (x : SSh.den G F30_0s) => F30_0_it n (fun u0 => K .ret (SSh.enc G F30_0x0 ((u0, ()), ()))) (fun u0 u1 u2 => K (.exit 2) (SSh.enc G F30_0x1 ((u0, (u1, (u2, ()))), ()))) k x.1.1 x.1.2.1 x.1.2.2.1 x.1.2.2.2.2.1 x.2.1.1 x.2.1.2.1 x.2.1.2.2.1) y K) n
noncomputable def F30_1x0 : SSh := ⟨48, [(4, .bool)], []⟩
noncomputable def F30_1x1 : SSh := ⟨48, [(0, (.imm 3))], []⟩
noncomputable def F30_1s : SSh := ⟨48, [(0, (.imm 3)), (1, (.int .i64)), (5, (.int .i64))], []⟩
noncomputable def F30_1_step {R : Type} (n : Nat) (k0 : Bool → Option R) (k1 : List Fnl → Option R) (rec : List Fnl → Int → Int → Option R) (x169 : List Fnl) (x170 : Int) (x171 : Int) : Option R :=
  (bif (decide (x171 < ((x169.length) : Int))) then
  (bif (decide ((0 : Int) ≤ x171)) then
  (bif (decide (x171 < ((x169.length) : Int))) then
  let v174 := (x169.getD (x171.toNat) (Fnl.mk (0 : Int) (0 : Int) false))
  let v175 := v174.at_
  let v176 := v174.saves
  (andThen (F51 n v175 (0 : Int) (IntKind.wrap .i64 (x170 - (1 : Int)))) fun r179 =>
  (bif (!r179.1) then
  (k0 false)
  else (andThen (F51 n v176 (-1 : Int) (IntKind.wrap .i64 (x170 - (1 : Int)))) fun r182 =>
  (bif (!r182.1) then
  (k0 false)
  else (F30_0 n x169 x170 x171 (0 : Int) v175 v176 v174.done (fun z196 =>
  (k0 z196)) (fun z197 z198 z199 =>
  (rec z197 z198 (IntKind.wrap .i64 (z199 + (1 : Int))))))))))
  else none)
  else none)
  else (k1 x169))
noncomputable def F30_1_it {R : Type} (n : Nat) (k0 : Bool → Option R) (k1 : List Fnl → Option R) : Nat → List Fnl → Int → Int → Option R
  | 0, _, _, _ => none
  | k + 1, x169, x170, x171 => F30_1_step n k0 k1 (F30_1_it n k0 k1 k) x169 x170 x171
noncomputable def F30_1 {R : Type} (n : Nat) (x169 : List Fnl) (x170 : Int) (x171 : Int) (k0 : Bool → Option R) (k1 : List Fnl → Option R) : Option R := F30_1_it n k0 k1 n x169 x170 x171
noncomputable def F30_1z (n : Nat) : Sm G := inZ G 0 ⟨[0, 1, 5], []⟩ F30_1s fun R x K => F30_1_it n (fun u0 => K .ret (SSh.enc G F30_1x0 ((u0, ()), ()))) (fun u0 => K (.exit 0) (SSh.enc G F30_1x1 ((u0, ()), ()))) n x.1.1 x.1.2.1 x.1.2.2.1
theorem F30_1_eq (n : Nat) (R : Type) (rec : SSh.den G F30_1s → Option R) (x : SSh.den G F30_1s) (K : AE → St G → Option R) :
  F30_1_step n (fun u0 => K .ret (SSh.enc G F30_1x0 ((u0, ()), ()))) (fun u0 => K (.exit 0) (SSh.enc G F30_1x1 ((u0, ()), ()))) (fun x169 x170 x171 => rec ((x169, (x170, (x171, ()))), ())) x.1.1 x.1.2.1 x.1.2.2.1 = exec prog G (ro G (tabOf (E11 n)) (frOf [F30_0z n]) R) 0 (codeAt F30c [1, 0, 1, 0, 0]) (.nd .no (.nd (.nd (.nd .no (.nd .no (.nd .no (.nd (.use 0) .no)))) .no) .no)) (SSh.enc G F30_1s x) (kLoop G (ro G (tabOf (E11 n)) (frOf [F30_0z n]) R) 0 ⟨[0, 1, 5], []⟩ F30_1s ⟨⟨[0], []⟩, ⟨[4], []⟩, [(0, ⟨[0], []⟩)]⟩ rec K) := by kernel_rfl
theorem F30_1_ok (n : Nat) : FragOK prog G 0 (codeAt F30c [1, 0, 1, 0]) (F30_1z n) :=
  frag_loop (Z := fun R k (x : SSh.den G F30_1s) K => F30_1_it n (fun u0 => K .ret (SSh.enc G F30_1x0 ((u0, ()), ()))) (fun u0 => K (.exit 0) (SSh.enc G F30_1x1 ((u0, ()), ()))) k x.1.1 x.1.2.1 x.1.2.2.1) laws fnok (E11_ok n).tab (AllF.of (l := [(0, codeAt F30c [1, 0, 1, 0, 0, 1, 0, 0, 1, 1, 1, 0])]) (by kernel_rfl) (AllF.cons (F30_0_ok n) AllF.nil)) (fun _ _ _ => rfl) (fun R k y K => F30_1_eq n R (fun (x : SSh.den G F30_1s) => F30_1_it n (fun u0 => K .ret (SSh.enc G F30_1x0 ((u0, ()), ()))) (fun u0 => K (.exit 0) (SSh.enc G F30_1x1 ((u0, ()), ()))) k x.1.1 x.1.2.1 x.1.2.2.1) y K) n
noncomputable def F30 (n : Nat) (a167 : List Fnl) (a168 : Int) : Option (Bool × Unit) :=
  (F30_1 n a167 a168 (0 : Int) (fun z201 =>
  some (z201, ())) (fun z202 =>
  some ((decide (((z202.length) : Int) ≤ (12 : Int))), ())))
noncomputable def F30e (n : Nat) : Ent G := ⟨30, (.cons (.imm 3) (.cons (.int .i64) .nil)), [], .bool, [], fun x y => F30 n x.1 x.2.1⟩
theorem F30_eq (n : Nat) (x : ShL.den G (.cons (.imm 3) (.cons (.int .i64) .nil))) (y : denO G []) : (F30e n).F x y = runFn prog G (ro G (tabOf (E11 n)) (frOf [F30_0z n, F30_1z n]) _) Go.Proofs.Try.f30 (.nd .no (.nd (.nd .no (.nd (.use 1) .no)) .no)) [(0, .fz)] (ShL.enc G (.cons (.imm 3) (.cons (.int .i64) .nil)) x) (encO G [] y) (decR .bool []) := by kernel_rfl
theorem F30_ok (n : Nat) : EntOK prog G (F30e n) :=
  ent_ok (fr := frOf [F30_0z n, F30_1z n]) (ann := (.nd .no (.nd (.nd .no (.nd (.use 1) .no)) .no))) (frm := [(0, .fz)]) laws fnok (E11_ok n).tab (e := F30e n) (fn := Go.Proofs.Try.f30) (by kernel_rfl) (AllF.ofB (cd := F30c) (l := [(1, codeAt F30c [1, 0, 1, 0])]) (by kernel_rfl) (by kernel_rfl) (AllF.cons (F30_1_ok n) AllF.nil)) (F30_eq n)
noncomputable def E12 (n : Nat) : List (Ent G) := F30e n :: E11 n
theorem E12_ok (n : Nat) : AllE prog G (E12 n) := AllE.cons (F30_ok n) (E11_ok n)
-- 52 loop.example/slowworm/spec.marked
noncomputable def F52c : Code := bodyOf Go.Proofs.Try.f52
noncomputable def F52_0x0 : SSh := ⟨43, [(0, (.imm 2)), (5, (.own 0)), (6, (.own 1)), (7, (.int .i64))], [(.arr 1 true), (.arr 0 true)]⟩
noncomputable def F52_0s : SSh := ⟨43, [(0, (.imm 2)), (5, (.own 0)), (6, (.own 1)), (7, (.int .i64))], [(.arr 1 true), (.arr 0 true)]⟩
noncomputable def F52_0 {R : Type} (n : Nat) (x224 : List (List Int)) (x225 : Int) (x226 : List Bool) (x227 : List Int) (k0 : List (List Int) → Int → List Bool → List Int → Option R) : Option R :=
  (bif (decide ((0 : Int) ≤ x225)) then
  (bif (decide (x225 < ((x227.length) : Int))) then
  let v229 := (x227.getD (x225.toNat) (0 : Int))
  (bif (decide ((0 : Int) ≤ v229)) then
  (bif (decide (v229 < ((x226.length) : Int))) then
  (bif (x226.getD (v229.toNat) false) then
  (k0 x224 x225 x226 x227)
  else (bif (decide ((0 : Int) ≤ x225)) then
  (bif (decide (x225 < ((x227.length) : Int))) then
  let v233 := (x227.getD (x225.toNat) (0 : Int))
  (bif (decide ((0 : Int) ≤ v233)) then
  (bif (decide (v233 < ((x226.length) : Int))) then
  (bif (decide ((0 : Int) ≤ x225)) then
  (bif (decide (x225 < ((x227.length) : Int))) then
  let v237 := (x227.getD (x225.toNat) (0 : Int))
  (bif (decide ((0 : Int) ≤ v237)) then
  (bif (decide (v237 < ((x224.length) : Int))) then
  let v239 := (x224.getD (v237.toNat) [])
  (bif (decide (((x227.length) + (v239.length)) ≤ (68719476736 : Nat))) then
  (k0 x224 x225 (x226.set (v233.toNat) true) (x227 ++ v239))
  else none)
  else none)
  else none)
  else none)
  else none)
  else none)
  else none)
  else none)
  else none))
  else none)
  else none)
  else none)
  else none)
noncomputable def F52_0z (n : Nat) : Sm G := inZ G 0 ⟨[0, 5, 6, 7], []⟩ F52_0s fun R x K => F52_0 n x.1.1 x.1.2.2.2.1 x.2.1 x.2.2.1 (fun u0 u1 u2 u3 => K .normal (SSh.enc G F52_0x0 ((u0, ((), ((), (u1, ())))), (u2, (u3, ())))))
theorem F52_0_eq (n : Nat) (R : Type) (x : SSh.den G F52_0s) (K : AE → St G → Option R) :
  F52_0 n x.1.1 x.1.2.2.2.1 x.2.1 x.2.2.1 (fun u0 u1 u2 u3 => K .normal (SSh.enc G F52_0x0 ((u0, ((), ((), (u1, ())))), (u2, (u3, ()))))) = exec prog G (ro G (tabOf (E12 n)) (frOf []) R) 0 (codeAt F52c [1, 1, 1, 0, 1, 0, 0, 1, 0]) .no (SSh.enc G F52_0s x) (kNrm G (ro G (tabOf (E12 n)) (frOf []) R) 0 ⟨⟨[0, 5, 6, 7], []⟩, ⟨[4], []⟩, [(0, ⟨[5], []⟩)]⟩ K) := by kernel_rfl
theorem F52_0_ok (n : Nat) : FragOK prog G 0 (codeAt F52c [1, 1, 1, 0, 1, 0, 0, 1, 0]) (F52_0z n) :=
  frag_plain laws fnok (E12_ok n).tab (AllF.of (l := []) (by kernel_rfl) AllF.nil) (F52_0_eq n)
noncomputable def F52_1x0 : SSh := ⟨43, [(5, (.own 0))], [(.arr 1 true)]⟩
noncomputable def F52_1s : SSh := ⟨43, [(0, (.imm 2)), (5, (.own 0)), (6, (.own 1)), (7, (.int .i64))], [(.arr 1 true), (.arr 0 true)]⟩
noncomputable def F52_1_step {R : Type} (n : Nat) (k0 : List Bool → Option R) (rec : List (List Int) → Int → List Bool → List Int → Option R) (x218 : List (List Int)) (x219 : Int) (x220 : List Bool) (x221 : List Int) : Option R :=
  (bif (decide (x219 < ((x221.length) : Int))) then
  (F52_0 n x218 x219 x220 x221 (fun z241 z242 z243 z244 =>
  (rec z241 (IntKind.wrap .i64 (z242 + (1 : Int))) z243 z244)))
  else (k0 x220))
noncomputable def F52_1_it {R : Type} (n : Nat) (k0 : List Bool → Option R) : Nat → List (List Int) → Int → List Bool → List Int → Option R
  | 0, _, _, _, _ => none
  | k + 1, x218, x219, x220, x221 => F52_1_step n k0 (F52_1_it n k0 k) x218 x219 x220 x221
noncomputable def F52_1 {R : Type} (n : Nat) (x218 : List (List Int)) (x219 : Int) (x220 : List Bool) (x221 : List Int) (k0 : List Bool → Option R) : Option R := F52_1_it n k0 n x218 x219 x220 x221
noncomputable def F52_1z (n : Nat) : Sm G := inZ G 0 ⟨[0, 5, 6, 7], []⟩ F52_1s fun R x K => F52_1_it n (fun u0 => K (.exit 0) (SSh.enc G F52_1x0 (((), ()), (u0, ())))) n x.1.1 x.1.2.2.2.1 x.2.1 x.2.2.1
theorem F52_1_eq (n : Nat) (R : Type) (rec : SSh.den G F52_1s → Option R) (x : SSh.den G F52_1s) (K : AE → St G → Option R) :
  F52_1_step n (fun u0 => K (.exit 0) (SSh.enc G F52_1x0 (((), ()), (u0, ())))) (fun x218 x219 x220 x221 => rec ((x218, ((), ((), (x219, ())))), (x220, (x221, ())))) x.1.1 x.1.2.2.2.1 x.2.1 x.2.2.1 = exec prog G (ro G (tabOf (E12 n)) (frOf [F52_0z n]) R) 0 (codeAt F52c [1, 1, 1, 0, 1, 0, 0]) (.nd .no (.nd (.use 0) .no)) (SSh.enc G F52_1s x) (kLoop G (ro G (tabOf (E12 n)) (frOf [F52_0z n]) R) 0 ⟨[0, 5, 6, 7], []⟩ F52_1s ⟨⟨[5], []⟩, ⟨[4], []⟩, [(0, ⟨[5], []⟩)]⟩ rec K) := by kernel_rfl
theorem F52_1_ok (n : Nat) : FragOK prog G 0 (codeAt F52c [1, 1, 1, 0, 1, 0]) (F52_1z n) :=
  frag_loop (Z := fun R k (x : SSh.den G F52_1s) K => F52_1_it n (fun u0 => K (.exit 0) (SSh.enc G F52_1x0 (((), ()), (u0, ())))) k x.1.1 x.1.2.2.2.1 x.2.1 x.2.2.1) laws fnok (E12_ok n).tab (AllF.of (l := [(0, codeAt F52c [1, 1, 1, 0, 1, 0, 0, 1, 0])]) (by kernel_rfl) (AllF.cons (F52_0_ok n) AllF.nil)) (fun _ _ _ => rfl) (fun R k y K => F52_1_eq n R (fun (x : SSh.den G F52_1s) => F52_1_it n (fun u0 => K (.exit 0) (SSh.enc G F52_1x0 (((), ()), (u0, ())))) k x.1.1 x.1.2.2.2.1 x.2.1 x.2.2.1) y K) n
noncomputable def F52 (n : Nat) (a212 : List (List Int)) (a213 : List Int) : Option (List Bool × Unit) :=
  let v214 := ((a212.length) : Int)
  (bif (decide ((0 : Int) ≤ v214)) then
  (bif (decide (v214 ≤ v214)) then
  (bif (decide (v214 ≤ ((68719476736 : Nat) : Int))) then
  let v216 := []
  (bif (decide (((v216.length) + (a213.length)) ≤ (68719476736 : Nat))) then
  (F52_1 n a212 (0 : Int) (List.replicate (v214.toNat) false) (v216 ++ a213) (fun z246 =>
  some (z246, ())))
  else none)
  else none)
  else none)
  else none)
noncomputable def F52e (n : Nat) : Ent G := ⟨52, (.cons (.imm 2) (.cons (.imm 0) .nil)), [], (.imm 1), [], fun x y => F52 n x.1 x.2.1⟩
theorem F52_eq (n : Nat) (x : ShL.den G (.cons (.imm 2) (.cons (.imm 0) .nil))) (y : denO G []) : (F52e n).F x y = runFn prog G (ro G (tabOf (E12 n)) (frOf [F52_0z n, F52_1z n]) _) Go.Proofs.Try.f52 (.nd .no (.nd .no (.nd .no (.nd (.nd .no (.nd (.use 1) .no)) .no)))) [(0, .fz)] (ShL.enc G (.cons (.imm 2) (.cons (.imm 0) .nil)) x) (encO G [] y) (decR (.imm 1) []) := by kernel_rfl
theorem F52_ok (n : Nat) : EntOK prog G (F52e n) :=
  ent_ok (fr := frOf [F52_0z n, F52_1z n]) (ann := (.nd .no (.nd .no (.nd .no (.nd (.nd .no (.nd (.use 1) .no)) .no))))) (frm := [(0, .fz)]) laws fnok (E12_ok n).tab (e := F52e n) (fn := Go.Proofs.Try.f52) (by kernel_rfl) (AllF.ofB (cd := F52c) (l := [(1, codeAt F52c [1, 1, 1, 0, 1, 0])]) (by kernel_rfl) (by kernel_rfl) (AllF.cons (F52_1_ok n) AllF.nil)) (F52_eq n)
noncomputable def E13 (n : Nat) : List (Ent G) := F52e n :: E12 n
theorem E13_ok (n : Nat) : AllE prog G (E13 n) := AllE.cons (F52_ok n) (E12_ok n)
-- 31 loop.example/slowworm/spec.finalized
noncomputable def F31c : Code := bodyOf Go.Proofs.Try.f31
noncomputable def F31_0x0 : SSh := ⟨80, [(0, (.imm 2)), (2, (.imm 3)), (6, (.ptr 0 0)), (7, (.ptr 1 0)), (8, (.imm 1)), (9, (.int .i64))], [(.box 29 (.cons (.own 2) (.cons (.own 3) (.cons (.own 4) (.cons (.own 5) .nil))))), (.box 29 (.cons (.own 6) (.cons (.own 7) (.cons .nil0 (.cons (.own 8) .nil))))), (.arr 0 true), (.arr 0 true), (.arr 0 true), (.arr 3 true), (.arr 0 true), (.arr 0 true), (.arr 3 true)]⟩
noncomputable def F31_0s : SSh := ⟨80, [(0, (.imm 2)), (2, (.imm 3)), (6, (.ptr 0 0)), (7, (.ptr 1 0)), (8, (.imm 1)), (9, (.int .i64))], [(.box 29 (.cons (.own 2) (.cons (.own 3) (.cons (.own 4) (.cons (.own 5) .nil))))), (.box 29 (.cons (.own 6) (.cons (.own 7) (.cons .nil0 (.cons (.own 8) .nil))))), (.arr 0 true), (.arr 0 true), (.arr 0 true), (.arr 3 true), (.arr 0 true), (.arr 0 true), (.arr 3 true)]⟩
noncomputable def F31_0 {R : Type} (n : Nat) (x387 : List (List Int)) (x388 : List Fnl) (x389 : List Bool) (x390 : Int) (x391 : List Int) (x392 : List Int) (x393 : List Int) (x394 : List Fnl) (x395 : List Int) (x396 : List Int) (x397 : List Fnl) (k0 : List (List Int) → List Fnl → List Bool → Int → List Int → List Int → List Int → List Fnl → List Int → List Int → List Fnl → Option R) : Option R :=
  (bif (decide ((0 : Int) ≤ x390)) then
  (bif (decide (x390 < ((x388.length) : Int))) then
  let v398 := (x388.getD (x390.toNat) (Fnl.mk (0 : Int) (0 : Int) false))
  let v399 := v398.at_
  let v400 := v398.saves
  let v401 := v398.done
  (bif (decide ((0 : Int) ≤ v399)) then
  (bif (decide (v399 < ((x389.length) : Int))) then
  (bif (x389.getD (v399.toNat) false) then
  let v404 := ((Fnl.mk v399 v400 v401) :: [])
  (bif (decide (((x397.length) + (v404.length)) ≤ (68719476736 : Nat))) then
  (k0 x387 x388 x389 x390 x391 x392 x393 x394 x395 x396 (x397 ++ v404))
  else none)
  else (bif v401 then
  let v406 := ((Fnl.mk v399 v400 v401) :: [])
  (bif (decide (((x397.length) + (v406.length)) ≤ (68719476736 : Nat))) then
  (k0 x387 x388 x389 x390 x391 x392 x393 x394 x395 x396 (x397 ++ v406))
  else none)
  else let v408 := (v399 :: [])
  (bif (decide (((x395.length) + (v408.length)) ≤ (68719476736 : Nat))) then
  let v409 := (x395 ++ v408)
  let v410 := ((Fnl.mk v399 v400 true) :: [])
  (bif (decide (((x397.length) + (v410.length)) ≤ (68719476736 : Nat))) then
  let v411 := (x397 ++ v410)
  (bif (decide (v400 ≥ (0 : Int))) then
  (bif (decide (((x396.length) : Int) < (12 : Int))) then
  let v415 := (v400 :: [])
  (bif (decide (((x396.length) + (v415.length)) ≤ (68719476736 : Nat))) then
  (k0 x387 x388 x389 x390 x391 x392 x393 x394 v409 (x396 ++ v415) v411)
  else none)
  else (k0 x387 x388 x389 x390 x391 x392 x393 x394 v409 x396 v411))
  else (k0 x387 x388 x389 x390 x391 x392 x393 x394 v409 x396 v411))
  else none)
  else none)))
  else none)
  else none)
  else none)
  else none)
noncomputable def F31_0z (n : Nat) : Sm G := inZ G 0 ⟨[0, 2, 6, 7, 8, 9], []⟩ F31_0s fun R x K => F31_0 n x.1.1 x.1.2.1 x.1.2.2.2.2.1 x.1.2.2.2.2.2.1 x.2.2.2.1 x.2.2.2.2.1 x.2.2.2.2.2.1 x.2.2.2.2.2.2.1 x.2.2.2.2.2.2.2.1 x.2.2.2.2.2.2.2.2.1 x.2.2.2.2.2.2.2.2.2.1 (fun u0 u1 u2 u3 u4 u5 u6 u7 u8 u9 u10 => K .normal (SSh.enc G F31_0x0 ((u0, (u1, ((), ((), (u2, (u3, ())))))), (((), ((), ((), ((), ())))), (((), ((), ((), ((), ())))), (u4, (u5, (u6, (u7, (u8, (u9, (u10, ()))))))))))))
theorem F31_0_eq (n : Nat) (R : Type) (x : SSh.den G F31_0s) (K : AE → St G → Option R) :
  F31_0 n x.1.1 x.1.2.1 x.1.2.2.2.2.1 x.1.2.2.2.2.2.1 x.2.2.2.1 x.2.2.2.2.1 x.2.2.2.2.2.1 x.2.2.2.2.2.2.1 x.2.2.2.2.2.2.2.1 x.2.2.2.2.2.2.2.2.1 x.2.2.2.2.2.2.2.2.2.1 (fun u0 u1 u2 u3 u4 u5 u6 u7 u8 u9 u10 => K .normal (SSh.enc G F31_0x0 ((u0, (u1, ((), ((), (u2, (u3, ())))))), (((), ((), ((), ((), ())))), (((), ((), ((), ((), ())))), (u4, (u5, (u6, (u7, (u8, (u9, (u10, ())))))))))))) = exec prog G (ro G (tabOf (E13 n)) (frOf []) R) 0 (codeAt F31c [1, 1, 1, 0, 1, 0, 0, 1, 0]) .no (SSh.enc G F31_0s x) (kNrm G (ro G (tabOf (E13 n)) (frOf []) R) 0 ⟨⟨[0, 2, 6, 7, 8, 9], []⟩, ⟨[6], []⟩, [(0, ⟨[0, 6, 7], []⟩)]⟩ K) := by kernel_rfl
theorem F31_0_ok (n : Nat) : FragOK prog G 0 (codeAt F31c [1, 1, 1, 0, 1, 0, 0, 1, 0]) (F31_0z n) :=
  frag_plain laws fnok (E13_ok n).tab (AllF.of (l := []) (by kernel_rfl) AllF.nil) (F31_0_eq n)
noncomputable def F31_1x0 : SSh := ⟨80, [(0, (.imm 2)), (6, (.ptr 0 0)), (7, (.ptr 1 0))], [(.box 29 (.cons (.own 2) (.cons (.own 3) (.cons (.own 4) (.cons (.own 5) .nil))))), (.box 29 (.cons (.own 6) (.cons (.own 7) (.cons .nil0 (.cons (.own 8) .nil))))), (.arr 0 true), (.arr 0 true), (.arr 0 true), (.arr 3 true), (.arr 0 true), (.arr 0 true), (.arr 3 true)]⟩
noncomputable def F31_1s : SSh := ⟨80, [(0, (.imm 2)), (2, (.imm 3)), (6, (.ptr 0 0)), (7, (.ptr 1 0)), (8, (.imm 1)), (9, (.int .i64))], [(.box 29 (.cons (.own 2) (.cons (.own 3) (.cons (.own 4) (.cons (.own 5) .nil))))), (.box 29 (.cons (.own 6) (.cons (.own 7) (.cons .nil0 (.cons (.own 8) .nil))))), (.arr 0 true), (.arr 0 true), (.arr 0 true), (.arr 3 true), (.arr 0 true), (.arr 0 true), (.arr 3 true)]⟩
noncomputable def F31_1_step {R : Type} (n : Nat) (k0 : List (List Int) → List Int → List Int → List Int → List Fnl → List Int → List Int → List Fnl → Option R) (rec : List (List Int) → List Fnl → List Bool → Int → List Int → List Int → List Int → List Fnl → List Int → List Int → List Fnl → Option R) (x374 : List (List Int)) (x375 : List Fnl) (x376 : List Bool) (x377 : Int) (x378 : List Int) (x379 : List Int) (x380 : List Int) (x381 : List Fnl) (x382 : List Int) (x383 : List Int) (x384 : List Fnl) : Option R :=
  (bif (decide (x377 < ((x375.length) : Int))) then
  (F31_0 n x374 x375 x376 x377 x378 x379 x380 x381 x382 x383 x384 (fun z417 z418 z419 z420 z421 z422 z423 z424 z425 z426 z427 =>
  (rec z417 z418 z419 (IntKind.wrap .i64 (z420 + (1 : Int))) z421 z422 z423 z424 z425 z426 z427)))
  else (k0 x374 x378 x379 x380 x381 x382 x383 x384))
noncomputable def F31_1_it {R : Type} (n : Nat) (k0 : List (List Int) → List Int → List Int → List Int → List Fnl → List Int → List Int → List Fnl → Option R) : Nat → List (List Int) → List Fnl → List Bool → Int → List Int → List Int → List Int → List Fnl → List Int → List Int → List Fnl → Option R
  | 0, _, _, _, _, _, _, _, _, _, _, _ => none
  | k + 1, x374, x375, x376, x377, x378, x379, x380, x381, x382, x383, x384 => F31_1_step n k0 (F31_1_it n k0 k) x374 x375 x376 x377 x378 x379 x380 x381 x382 x383 x384
noncomputable def F31_1 {R : Type} (n : Nat) (x374 : List (List Int)) (x375 : List Fnl) (x376 : List Bool) (x377 : Int) (x378 : List Int) (x379 : List Int) (x380 : List Int) (x381 : List Fnl) (x382 : List Int) (x383 : List Int) (x384 : List Fnl) (k0 : List (List Int) → List Int → List Int → List Int → List Fnl → List Int → List Int → List Fnl → Option R) : Option R := F31_1_it n k0 n x374 x375 x376 x377 x378 x379 x380 x381 x382 x383 x384
noncomputable def F31_1z (n : Nat) : Sm G := inZ G 0 ⟨[0, 2, 6, 7, 8, 9], [(7, (.cell 3 (.own 3))), (7, (.cell 0 (.own 0)))]⟩ F31_1s fun R x K => F31_1_it n (fun u0 u1 u2 u3 u4 u5 u6 u7 => K (.exit 0) (SSh.enc G F31_1x0 ((u0, ((), ((), ()))), (((), ((), ((), ((), ())))), (((), ((), ((), ((), ())))), (u1, (u2, (u3, (u4, (u5, (u6, (u7, ())))))))))))) n x.1.1 x.1.2.1 x.1.2.2.2.2.1 x.1.2.2.2.2.2.1 x.2.2.2.1 x.2.2.2.2.1 x.2.2.2.2.2.1 x.2.2.2.2.2.2.1 x.2.2.2.2.2.2.2.1 x.2.2.2.2.2.2.2.2.1 x.2.2.2.2.2.2.2.2.2.1
theorem F31_1_eq (n : Nat) (R : Type) (rec : SSh.den G F31_1s → Option R) (x : SSh.den G F31_1s) (K : AE → St G → Option R) :
  F31_1_step n (fun u0 u1 u2 u3 u4 u5 u6 u7 => K (.exit 0) (SSh.enc G F31_1x0 ((u0, ((), ((), ()))), (((), ((), ((), ((), ())))), (((), ((), ((), ((), ())))), (u1, (u2, (u3, (u4, (u5, (u6, (u7, ())))))))))))) (fun x374 x375 x376 x377 x378 x379 x380 x381 x382 x383 x384 => rec ((x374, (x375, ((), ((), (x376, (x377, ())))))), (((), ((), ((), ((), ())))), (((), ((), ((), ((), ())))), (x378, (x379, (x380, (x381, (x382, (x383, (x384, ()))))))))))) x.1.1 x.1.2.1 x.1.2.2.2.2.1 x.1.2.2.2.2.2.1 x.2.2.2.1 x.2.2.2.2.1 x.2.2.2.2.2.1 x.2.2.2.2.2.2.1 x.2.2.2.2.2.2.2.1 x.2.2.2.2.2.2.2.2.1 x.2.2.2.2.2.2.2.2.2.1 = exec prog G (ro G (tabOf (E13 n)) (frOf [F31_0z n]) R) 0 (codeAt F31c [1, 1, 1, 0, 1, 0, 0]) (.nd .no (.nd (.use 0) .no)) (SSh.enc G F31_1s x) (kLoop G (ro G (tabOf (E13 n)) (frOf [F31_0z n]) R) 0 ⟨[0, 2, 6, 7, 8, 9], [(7, (.cell 3 (.own 3))), (7, (.cell 0 (.own 0)))]⟩ F31_1s ⟨⟨[0, 6, 7], []⟩, ⟨[6], []⟩, [(0, ⟨[0, 6, 7], []⟩)]⟩ rec K) := by kernel_rfl
theorem F31_1_ok (n : Nat) : FragOK prog G 0 (codeAt F31c [1, 1, 1, 0, 1, 0]) (F31_1z n) :=
  frag_loop (Z := fun R k (x : SSh.den G F31_1s) K => F31_1_it n (fun u0 u1 u2 u3 u4 u5 u6 u7 => K (.exit 0) (SSh.enc G F31_1x0 ((u0, ((), ((), ()))), (((), ((), ((), ((), ())))), (((), ((), ((), ((), ())))), (u1, (u2, (u3, (u4, (u5, (u6, (u7, ())))))))))))) k x.1.1 x.1.2.1 x.1.2.2.2.2.1 x.1.2.2.2.2.2.1 x.2.2.2.1 x.2.2.2.2.1 x.2.2.2.2.2.1 x.2.2.2.2.2.2.1 x.2.2.2.2.2.2.2.1 x.2.2.2.2.2.2.2.2.1 x.2.2.2.2.2.2.2.2.2.1) laws fnok (E13_ok n).tab (AllF.of (l := [(0, codeAt F31c [1, 1, 1, 0, 1, 0, 0, 1, 0])]) (by kernel_rfl) (AllF.cons (F31_0_ok n) AllF.nil)) (fun _ _ _ => rfl) (fun R k y K => F31_1_eq n R (fun (x : SSh.den G F31_1s) => F31_1_it n (fun u0 u1 u2 u3 u4 u5 u6 u7 => K (.exit 0) (SSh.enc G F31_1x0 ((u0, ((), ((), ()))), (((), ((), ((), ((), ())))), (((), ((), ((), ((), ())))), (u1, (u2, (u3, (u4, (u5, (u6, (u7, ())))))))))))) k x.1.1 x.1.2.1 x.1.2.2.2.2.1 x.1.2.2.2.2.2.1 x.2.2.2.1 x.2.2.2.2.1 x.2.2.2.2.2.1 x.2.2.2.2.2.2.1 x.2.2.2.2.2.2.2.1 x.2.2.2.2.2.2.2.2.1 x.2.2.2.2.2.2.2.2.2.1) y K) n
-- 53 loop.example/slowworm/spec.indices
noncomputable def F53c : Code := bodyOf Go.Proofs.Try.f53
noncomputable def F53_0x0 : SSh := ⟨25, [(0, (.imm 1)), (1, .bool), (5, (.own 0)), (6, (.int .i64))], [(.arr 0 true)]⟩
noncomputable def F53_0s : SSh := ⟨25, [(0, (.imm 1)), (1, .bool), (5, (.own 0)), (6, (.int .i64))], [(.arr 0 true)]⟩
noncomputable def F53_0 {R : Type} (n : Nat) (x447 : List Bool) (x448 : Bool) (x449 : Int) (x450 : List Int) (k0 : List Bool → Bool → Int → List Int → Option R) : Option R :=
  (bif (decide ((0 : Int) ≤ x449)) then
  (bif (decide (x449 < ((x447.length) : Int))) then
  (bif ((x447.getD (x449.toNat) false) == x448) then
  let v454 := (x449 :: [])
  (bif (decide (((x450.length) + (v454.length)) ≤ (68719476736 : Nat))) then
  (k0 x447 x448 x449 (x450 ++ v454))
  else none)
  else (k0 x447 x448 x449 x450))
  else none)
  else none)
noncomputable def F53_0z (n : Nat) : Sm G := inZ G 0 ⟨[0, 1, 5, 6], []⟩ F53_0s fun R x K => F53_0 n x.1.1 x.1.2.1 x.1.2.2.2.1 x.2.1 (fun u0 u1 u2 u3 => K .normal (SSh.enc G F53_0x0 ((u0, (u1, ((), (u2, ())))), (u3, ()))))
theorem F53_0_eq (n : Nat) (R : Type) (x : SSh.den G F53_0s) (K : AE → St G → Option R) :
  F53_0 n x.1.1 x.1.2.1 x.1.2.2.2.1 x.2.1 (fun u0 u1 u2 u3 => K .normal (SSh.enc G F53_0x0 ((u0, (u1, ((), (u2, ())))), (u3, ())))) = exec prog G (ro G (tabOf (E13 n)) (frOf []) R) 0 (codeAt F53c [1, 1, 0, 1, 0, 0, 1, 0]) .no (SSh.enc G F53_0s x) (kNrm G (ro G (tabOf (E13 n)) (frOf []) R) 0 ⟨⟨[0, 1, 5, 6], []⟩, ⟨[4], []⟩, [(0, ⟨[5], []⟩)]⟩ K) := by kernel_rfl
theorem F53_0_ok (n : Nat) : FragOK prog G 0 (codeAt F53c [1, 1, 0, 1, 0, 0, 1, 0]) (F53_0z n) :=
  frag_plain laws fnok (E13_ok n).tab (AllF.of (l := []) (by kernel_rfl) AllF.nil) (F53_0_eq n)
noncomputable def F53_1x0 : SSh := ⟨25, [(5, (.own 0))], [(.arr 0 true)]⟩
noncomputable def F53_1s : SSh := ⟨25, [(0, (.imm 1)), (1, .bool), (5, (.own 0)), (6, (.int .i64))], [(.arr 0 true)]⟩
noncomputable def F53_1_step {R : Type} (n : Nat) (k0 : List Int → Option R) (rec : List Bool → Bool → Int → List Int → Option R) (x441 : List Bool) (x442 : Bool) (x443 : Int) (x444 : List Int) : Option R :=
  (bif (decide (x443 < ((x441.length) : Int))) then
  (F53_0 n x441 x442 x443 x444 (fun z456 z457 z458 z459 =>
  (rec z456 z457 (IntKind.wrap .i64 (z458 + (1 : Int))) z459)))
  else (k0 x444))
noncomputable def F53_1_it {R : Type} (n : Nat) (k0 : List Int → Option R) : Nat → List Bool → Bool → Int → List Int → Option R
  | 0, _, _, _, _ => none
  | k + 1, x441, x442, x443, x444 => F53_1_step n k0 (F53_1_it n k0 k) x441 x442 x443 x444
noncomputable def F53_1 {R : Type} (n : Nat) (x441 : List Bool) (x442 : Bool) (x443 : Int) (x444 : List Int) (k0 : List Int → Option R) : Option R := F53_1_it n k0 n x441 x442 x443 x444
noncomputable def F53_1z (n : Nat) : Sm G := inZ G 0 ⟨[0, 1, 5, 6], []⟩ F53_1s fun R x K => F53_1_it n (fun u0 => K (.exit 0) (SSh.enc G F53_1x0 (((), ()), (u0, ())))) n x.1.1 x.1.2.1 x.1.2.2.2.1 x.2.1
theorem F53_1_eq (n : Nat) (R : Type) (rec : SSh.den G F53_1s → Option R) (x : SSh.den G F53_1s) (K : AE → St G → Option R) :
  F53_1_step n (fun u0 => K (.exit 0) (SSh.enc G F53_1x0 (((), ()), (u0, ())))) (fun x441 x442 x443 x444 => rec ((x441, (x442, ((), (x443, ())))), (x444, ()))) x.1.1 x.1.2.1 x.1.2.2.2.1 x.2.1 = exec prog G (ro G (tabOf (E13 n)) (frOf [F53_0z n]) R) 0 (codeAt F53c [1, 1, 0, 1, 0, 0]) (.nd .no (.nd (.use 0) .no)) (SSh.enc G F53_1s x) (kLoop G (ro G (tabOf (E13 n)) (frOf [F53_0z n]) R) 0 ⟨[0, 1, 5, 6], []⟩ F53_1s ⟨⟨[5], []⟩, ⟨[4], []⟩, [(0, ⟨[5], []⟩)]⟩ rec K) := by kernel_rfl
theorem F53_1_ok (n : Nat) : FragOK prog G 0 (codeAt F53c [1, 1, 0, 1, 0]) (F53_1z n) :=
  frag_loop (Z := fun R k (x : SSh.den G F53_1s) K => F53_1_it n (fun u0 => K (.exit 0) (SSh.enc G F53_1x0 (((), ()), (u0, ())))) k x.1.1 x.1.2.1 x.1.2.2.2.1 x.2.1) laws fnok (E13_ok n).tab (AllF.of (l := [(0, codeAt F53c [1, 1, 0, 1, 0, 0, 1, 0])]) (by kernel_rfl) (AllF.cons (F53_0_ok n) AllF.nil)) (fun _ _ _ => rfl) (fun R k y K => F53_1_eq n R (fun (x : SSh.den G F53_1s) => F53_1_it n (fun u0 => K (.exit 0) (SSh.enc G F53_1x0 (((), ()), (u0, ())))) k x.1.1 x.1.2.1 x.1.2.2.2.1 x.2.1) y K) n
noncomputable def F53 (n : Nat) (a438 : List Bool) (a439 : Bool) : Option (List Int × Unit) :=
  (F53_1 n a438 a439 (0 : Int) [] (fun z461 =>
  some (z461, ())))
noncomputable def F53e (n : Nat) : Ent G := ⟨53, (.cons (.imm 1) (.cons .bool .nil)), [], (.imm 0), [], fun x y => F53 n x.1 x.2.1⟩
theorem F53_eq (n : Nat) (x : ShL.den G (.cons (.imm 1) (.cons .bool .nil))) (y : denO G []) : (F53e n).F x y = runFn prog G (ro G (tabOf (E13 n)) (frOf [F53_0z n, F53_1z n]) _) Go.Proofs.Try.f53 (.nd .no (.nd .no (.nd (.nd .no (.nd (.use 1) .no)) .no))) [(0, .fz)] (ShL.enc G (.cons (.imm 1) (.cons .bool .nil)) x) (encO G [] y) (decR (.imm 0) []) := by kernel_rfl
theorem F53_ok (n : Nat) : EntOK prog G (F53e n) :=
  ent_ok (fr := frOf [F53_0z n, F53_1z n]) (ann := (.nd .no (.nd .no (.nd (.nd .no (.nd (.use 1) .no)) .no)))) (frm := [(0, .fz)]) laws fnok (E13_ok n).tab (e := F53e n) (fn := Go.Proofs.Try.f53) (by kernel_rfl) (AllF.ofB (cd := F53c) (l := [(1, codeAt F53c [1, 1, 0, 1, 0])]) (by kernel_rfl) (by kernel_rfl) (AllF.cons (F53_1_ok n) AllF.nil)) (F53_eq n)
noncomputable def E14 (n : Nat) : List (Ent G) := F53e n :: E13 n
theorem E14_ok (n : Nat) : AllE prog G (E14 n) := AllE.cons (F53_ok n) (E13_ok n)
noncomputable def F31 (n : Nat) (a368 : List (List Int)) (a369 : List Int) (a370 : List Fnl) : Option ((List Int × (List Int × (List Int × (List Fnl × Unit)))) × Unit) :=
  let v371 := []
  (bif (decide (((v371.length) + (a369.length)) ≤ (68719476736 : Nat))) then
  (andThen (F52 n a368 a369) fun r373 =>
  (F31_1 n a368 a370 r373.1 (0 : Int) [] [] [] [] [] (v371 ++ a369) [] (fun z429 z430 z431 z432 z433 z434 z435 z436 =>
  (andThen (F52 n z429 z435) fun r437 =>
  (andThen (F53 n r437.1 false) fun r462 =>
  some ((z434, (z435, (r462.1, (z436, ())))), ()))))))
  else none)
noncomputable def F31e (n : Nat) : Ent G := ⟨31, (.cons (.imm 2) (.cons (.imm 0) (.cons (.imm 3) .nil))), [], (.agg (.cons (.imm 0) (.cons (.imm 0) (.cons (.imm 0) (.cons (.imm 3) .nil))))), [], fun x y => F31 n x.1 x.2.1 x.2.2.1⟩
theorem F31_eq (n : Nat) (x : ShL.den G (.cons (.imm 2) (.cons (.imm 0) (.cons (.imm 3) .nil)))) (y : denO G []) : (F31e n).F x y = runFn prog G (ro G (tabOf (E14 n)) (frOf [F31_0z n, F31_1z n]) _) Go.Proofs.Try.f31 (.nd .no (.nd .no (.nd .no (.nd (.nd .no (.nd (.use 1) .no)) .no)))) [(0, .fz)] (ShL.enc G (.cons (.imm 2) (.cons (.imm 0) (.cons (.imm 3) .nil))) x) (encO G [] y) (decR (.agg (.cons (.imm 0) (.cons (.imm 0) (.cons (.imm 0) (.cons (.imm 3) .nil))))) []) := by kernel_rfl
theorem F31_ok (n : Nat) : EntOK prog G (F31e n) :=
  ent_ok (fr := frOf [F31_0z n, F31_1z n]) (ann := (.nd .no (.nd .no (.nd .no (.nd (.nd .no (.nd (.use 1) .no)) .no))))) (frm := [(0, .fz)]) laws fnok (E14_ok n).tab (e := F31e n) (fn := Go.Proofs.Try.f31) (by kernel_rfl) (AllF.ofB (cd := F31c) (l := [(1, codeAt F31c [1, 1, 1, 0, 1, 0])]) (by kernel_rfl) (by kernel_rfl) (AllF.cons (F31_1_ok n) AllF.nil)) (F31_eq n)
noncomputable def E15 (n : Nat) : List (Ent G) := F31e n :: E14 n
theorem E15_ok (n : Nat) : AllE prog G (E15 n) := AllE.cons (F31_ok n) (E14_ok n)
-- 7 loop.example/slowworm/spec.FinalSweep
noncomputable def F7c : Code := bodyOf Go.Proofs.Try.f7
noncomputable def F7 (n : Nat) (a464 : List (List Int)) (a465 : List Int) (a466 : List Fnl) : Option ((List Int × (List Int × (List Int × (List Fnl × Unit)))) × Unit) :=
  (andThen (F28 n a464) fun r467 =>
  (bif (!r467.1) then
  some (([], ([], ([], ([], ())))), ())
  else (andThen (F29 n a465 ((a464.length) : Int)) fun r470 =>
  (bif (!r470.1) then
  some (([], ([], ([], ([], ())))), ())
  else (andThen (F30 n a466 ((a464.length) : Int)) fun r473 =>
  (bif (!r473.1) then
  some (([], ([], ([], ([], ())))), ())
  else (andThen (F31 n a464 a465 a466) fun r475 =>
  some ((r475.1.1, (r475.1.2.1, (r475.1.2.2.1, (r475.1.2.2.2.1, ())))), ()))))))))
noncomputable def F7e (n : Nat) : Ent G := ⟨7, (.cons (.imm 2) (.cons (.imm 0) (.cons (.imm 3) .nil))), [], (.agg (.cons (.imm 0) (.cons (.imm 0) (.cons (.imm 0) (.cons (.imm 3) .nil))))), [], fun x y => F7 n x.1 x.2.1 x.2.2.1⟩
theorem F7_eq (n : Nat) (x : ShL.den G (.cons (.imm 2) (.cons (.imm 0) (.cons (.imm 3) .nil)))) (y : denO G []) : (F7e n).F x y = runFn prog G (ro G (tabOf (E15 n)) (frOf []) _) Go.Proofs.Try.f7 .no [(0, .fz)] (ShL.enc G (.cons (.imm 2) (.cons (.imm 0) (.cons (.imm 3) .nil))) x) (encO G [] y) (decR (.agg (.cons (.imm 0) (.cons (.imm 0) (.cons (.imm 0) (.cons (.imm 3) .nil))))) []) := by kernel_rfl
theorem F7_ok (n : Nat) : EntOK prog G (F7e n) :=
  ent_ok (fr := frOf []) (ann := .no) (frm := [(0, .fz)]) laws fnok (E15_ok n).tab (e := F7e n) (fn := Go.Proofs.Try.f7) (by kernel_rfl) (AllF.ofB (cd := F7c) (l := []) (by kernel_rfl) (by kernel_rfl) AllF.nil) (F7_eq n)
noncomputable def E16 (n : Nat) : List (Ent G) := F7e n :: E15 n
theorem E16_ok (n : Nat) : AllE prog G (E16 n) := AllE.cons (F7_ok n) (E15_ok n)
-- 33 loop.example/slowworm/impl.GraphOk
noncomputable def F33c : Code := bodyOf Go.Proofs.Try.f33
-- 54 loop.example/slowworm/impl.indicesOk
noncomputable def F54c : Code := bodyOf Go.Proofs.Try.f54
noncomputable def F54_0x0 : SSh := ⟨21, [(4, .bool)], []⟩
noncomputable def F54_0x1 : SSh := ⟨21, [], []⟩
noncomputable def F54_0s : SSh := ⟨21, [(1, (.int .i64)), (7, (.imm 0)), (8, (.int .i64)), (9, (.int .i64))], []⟩
noncomputable def F54_0_step {R : Type} (n : Nat) (k0 : Bool → Option R) (k1 : Option R) (rec : Int → List Int → Int → Int → Option R) (x494 : Int) (x495 : List Int) (x496 : Int) (x497 : Int) : Option R :=
  (bif (decide (x497 < x496)) then
  (bif (decide ((0 : Int) ≤ x497)) then
  (bif (decide (x497 < ((x495.length) : Int))) then
  let v500 := (x495.getD (x497.toNat) (0 : Int))
  (bif (decide (v500 < (0 : Int))) then
  (k0 false)
  else (bif (decide (v500 ≥ x494)) then
  (k0 false)
  else (rec x494 x495 x496 (IntKind.wrap .i64 (x497 + (1 : Int))))))
  else none)
  else none)
  else k1)
noncomputable def F54_0_it {R : Type} (n : Nat) (k0 : Bool → Option R) (k1 : Option R) : Nat → Int → List Int → Int → Int → Option R
  | 0, _, _, _, _ => none
  | k + 1, x494, x495, x496, x497 => F54_0_step n k0 k1 (F54_0_it n k0 k1 k) x494 x495 x496 x497
noncomputable def F54_0 {R : Type} (n : Nat) (x494 : Int) (x495 : List Int) (x496 : Int) (x497 : Int) (k0 : Bool → Option R) (k1 : Option R) : Option R := F54_0_it n k0 k1 n x494 x495 x496 x497
noncomputable def F54_0z (n : Nat) : Sm G := inZ G 0 ⟨[1, 7, 8, 9], []⟩ F54_0s fun R x K => F54_0_it n (fun u0 => K .ret (SSh.enc G F54_0x0 ((u0, ()), ()))) (K (.exit 0) (SSh.enc G F54_0x1 ((), ()))) n x.1.1 x.1.2.1 x.1.2.2.1 x.1.2.2.2.1
theorem F54_0_eq (n : Nat) (R : Type) (rec : SSh.den G F54_0s → Option R) (x : SSh.den G F54_0s) (K : AE → St G → Option R) :
  F54_0_step n (fun u0 => K .ret (SSh.enc G F54_0x0 ((u0, ()), ()))) (K (.exit 0) (SSh.enc G F54_0x1 ((), ()))) (fun x494 x495 x496 x497 => rec ((x494, (x495, (x496, (x497, ())))), ())) x.1.1 x.1.2.1 x.1.2.2.1 x.1.2.2.2.1 = exec prog G (ro G (tabOf (E16 n)) (frOf []) R) 0 (codeAt F54c [1, 0, 1, 0, 0]) .no (SSh.enc G F54_0s x) (kLoop G (ro G (tabOf (E16 n)) (frOf []) R) 0 ⟨[1, 7, 8, 9], []⟩ F54_0s ⟨⟨[], []⟩, ⟨[4], []⟩, [(0, ⟨[], []⟩)]⟩ rec K) := by kernel_rfl
theorem F54_0_ok (n : Nat) : FragOK prog G 0 (codeAt F54c [1, 0, 1, 0]) (F54_0z n) :=
  frag_loop (Z := fun R k (x : SSh.den G F54_0s) K => F54_0_it n (fun u0 => K .ret (SSh.enc G F54_0x0 ((u0, ()), ()))) (K (.exit 0) (SSh.enc G F54_0x1 ((), ()))) k x.1.1 x.1.2.1 x.1.2.2.1 x.1.2.2.2.1) laws fnok (E16_ok n).tab (AllF.of (l := []) (by kernel_rfl) AllF.nil) (fun _ _ _ => rfl) (fun R k y K => F54_0_eq n R (fun (x : SSh.den G F54_0s) => F54_0_it n (fun u0 => K .ret (SSh.enc G F54_0x0 ((u0, ()), ()))) (K (.exit 0) (SSh.enc G F54_0x1 ((), ()))) k x.1.1 x.1.2.1 x.1.2.2.1 x.1.2.2.2.1) y K) n
noncomputable def F54 (n : Nat) (a491 : List Int) (a492 : Int) : Option (Bool × Unit) :=
  (F54_0 n a492 a491 ((a491.length) : Int) (0 : Int) (fun z504 =>
  some (z504, ())) (
  some (true, ())))
noncomputable def F54e (n : Nat) : Ent G := ⟨54, (.cons (.imm 0) (.cons (.int .i64) .nil)), [], .bool, [], fun x y => F54 n x.1 x.2.1⟩
theorem F54_eq (n : Nat) (x : ShL.den G (.cons (.imm 0) (.cons (.int .i64) .nil))) (y : denO G []) : (F54e n).F x y = runFn prog G (ro G (tabOf (E16 n)) (frOf [F54_0z n]) _) Go.Proofs.Try.f54 (.nd .no (.nd (.nd .no (.nd (.use 0) .no)) .no)) [(0, .fz)] (ShL.enc G (.cons (.imm 0) (.cons (.int .i64) .nil)) x) (encO G [] y) (decR .bool []) := by kernel_rfl
theorem F54_ok (n : Nat) : EntOK prog G (F54e n) :=
  ent_ok (fr := frOf [F54_0z n]) (ann := (.nd .no (.nd (.nd .no (.nd (.use 0) .no)) .no))) (frm := [(0, .fz)]) laws fnok (E16_ok n).tab (e := F54e n) (fn := Go.Proofs.Try.f54) (by kernel_rfl) (AllF.ofB (cd := F54c) (l := [(0, codeAt F54c [1, 0, 1, 0])]) (by kernel_rfl) (by kernel_rfl) (AllF.cons (F54_0_ok n) AllF.nil)) (F54_eq n)
noncomputable def E17 (n : Nat) : List (Ent G) := F54e n :: E16 n
theorem E17_ok (n : Nat) : AllE prog G (E17 n) := AllE.cons (F54_ok n) (E16_ok n)
noncomputable def F33_0x0 : SSh := ⟨39, [(4, .bool)], []⟩
noncomputable def F33_0x1 : SSh := ⟨39, [], []⟩
noncomputable def F33_0s : SSh := ⟨39, [(0, (.imm 2)), (22, (.imm 2)), (23, (.int .i64)), (24, (.int .i64))], []⟩
noncomputable def F33_0_step {R : Type} (n : Nat) (k0 : Bool → Option R) (k1 : Option R) (rec : List (List Int) → List (List Int) → Int → Int → Option R) (x508 : List (List Int)) (x509 : List (List Int)) (x510 : Int) (x511 : Int) : Option R :=
  (bif (decide (x511 < x510)) then
  (bif (decide ((0 : Int) ≤ x511)) then
  (bif (decide (x511 < ((x509.length) : Int))) then
  let v514 := (x509.getD (x511.toNat) [])
  (bif (decide (((v514.length) : Int) > (5 : Int))) then
  (k0 false)
  else (andThen (F54 n v514 ((x508.length) : Int)) fun r518 =>
  (bif (!r518.1) then
  (k0 false)
  else (rec x508 x509 x510 (IntKind.wrap .i64 (x511 + (1 : Int)))))))
  else none)
  else none)
  else k1)
noncomputable def F33_0_it {R : Type} (n : Nat) (k0 : Bool → Option R) (k1 : Option R) : Nat → List (List Int) → List (List Int) → Int → Int → Option R
  | 0, _, _, _, _ => none
  | k + 1, x508, x509, x510, x511 => F33_0_step n k0 k1 (F33_0_it n k0 k1 k) x508 x509 x510 x511
noncomputable def F33_0 {R : Type} (n : Nat) (x508 : List (List Int)) (x509 : List (List Int)) (x510 : Int) (x511 : Int) (k0 : Bool → Option R) (k1 : Option R) : Option R := F33_0_it n k0 k1 n x508 x509 x510 x511
noncomputable def F33_0z (n : Nat) : Sm G := inZ G 0 ⟨[0, 22, 23, 24], []⟩ F33_0s fun R x K => F33_0_it n (fun u0 => K .ret (SSh.enc G F33_0x0 ((u0, ()), ()))) (K (.exit 0) (SSh.enc G F33_0x1 ((), ()))) n x.1.1 x.1.2.1 x.1.2.2.1 x.1.2.2.2.1
theorem F33_0_eq (n : Nat) (R : Type) (rec : SSh.den G F33_0s → Option R) (x : SSh.den G F33_0s) (K : AE → St G → Option R) :
  F33_0_step n (fun u0 => K .ret (SSh.enc G F33_0x0 ((u0, ()), ()))) (K (.exit 0) (SSh.enc G F33_0x1 ((), ()))) (fun x508 x509 x510 x511 => rec ((x508, (x509, (x510, (x511, ())))), ())) x.1.1 x.1.2.1 x.1.2.2.1 x.1.2.2.2.1 = exec prog G (ro G (tabOf (E17 n)) (frOf []) R) 0 (codeAt F33c [1, 1, 0, 1, 0, 0]) .no (SSh.enc G F33_0s x) (kLoop G (ro G (tabOf (E17 n)) (frOf []) R) 0 ⟨[0, 22, 23, 24], []⟩ F33_0s ⟨⟨[], []⟩, ⟨[4], []⟩, [(0, ⟨[], []⟩)]⟩ rec K) := by kernel_rfl
theorem F33_0_ok (n : Nat) : FragOK prog G 0 (codeAt F33c [1, 1, 0, 1, 0]) (F33_0z n) :=
  frag_loop (Z := fun R k (x : SSh.den G F33_0s) K => F33_0_it n (fun u0 => K .ret (SSh.enc G F33_0x0 ((u0, ()), ()))) (K (.exit 0) (SSh.enc G F33_0x1 ((), ()))) k x.1.1 x.1.2.1 x.1.2.2.1 x.1.2.2.2.1) laws fnok (E17_ok n).tab (AllF.of (l := []) (by kernel_rfl) AllF.nil) (fun _ _ _ => rfl) (fun R k y K => F33_0_eq n R (fun (x : SSh.den G F33_0s) => F33_0_it n (fun u0 => K .ret (SSh.enc G F33_0x0 ((u0, ()), ()))) (K (.exit 0) (SSh.enc G F33_0x1 ((), ()))) k x.1.1 x.1.2.1 x.1.2.2.1 x.1.2.2.2.1) y K) n
noncomputable def F33 (n : Nat) (a484 : List (List Int)) (a485 : List Int) : Option (Bool × Unit) :=
  (bif (decide (((a484.length) : Int) > (12 : Int))) then
  some (false, ())
  else (bif (decide (((a485.length) : Int) > (12 : Int))) then
  some (false, ())
  else (andThen (F54 n a485 ((a484.length) : Int)) fun r505 =>
  (bif (!r505.1) then
  some (false, ())
  else (F33_0 n a484 a484 ((a484.length) : Int) (0 : Int) (fun z521 =>
  some (z521, ())) (
  some (true, ())))))))
noncomputable def F33e (n : Nat) : Ent G := ⟨33, (.cons (.imm 2) (.cons (.imm 0) .nil)), [], .bool, [], fun x y => F33 n x.1 x.2.1⟩
theorem F33_eq (n : Nat) (x : ShL.den G (.cons (.imm 2) (.cons (.imm 0) .nil))) (y : denO G []) : (F33e n).F x y = runFn prog G (ro G (tabOf (E17 n)) (frOf [F33_0z n]) _) Go.Proofs.Try.f33 (.nd .no (.nd .no (.nd (.nd .no (.nd (.use 0) .no)) .no))) [(0, .fz)] (ShL.enc G (.cons (.imm 2) (.cons (.imm 0) .nil)) x) (encO G [] y) (decR .bool []) := by kernel_rfl
theorem F33_ok (n : Nat) : EntOK prog G (F33e n) :=
  ent_ok (fr := frOf [F33_0z n]) (ann := (.nd .no (.nd .no (.nd (.nd .no (.nd (.use 0) .no)) .no)))) (frm := [(0, .fz)]) laws fnok (E17_ok n).tab (e := F33e n) (fn := Go.Proofs.Try.f33) (by kernel_rfl) (AllF.ofB (cd := F33c) (l := [(0, codeAt F33c [1, 1, 0, 1, 0])]) (by kernel_rfl) (by kernel_rfl) (AllF.cons (F33_0_ok n) AllF.nil)) (F33_eq n)
noncomputable def E18 (n : Nat) : List (Ent G) := F33e n :: E17 n
theorem E18_ok (n : Nat) : AllE prog G (E18 n) := AllE.cons (F33_ok n) (E17_ok n)
-- 34 loop.example/slowworm/impl.finalsOk
noncomputable def F34c : Code := bodyOf Go.Proofs.Try.f34
-- 55 slices.ContainsFunc[[]loop.example/slowworm/impl.Final,loop.example/slowworm/impl.Final]
noncomputable def F55c : Code := bodyOf Go.Proofs.Try.f55
-- 63 slices.IndexFunc[[]loop.example/slowworm/impl.Final,loop.example/slowworm/impl.Final]
noncomputable def F63c : Code := bodyOf Go.Proofs.Try.f63
-- 56 loop.example/slowworm/impl.finalsOk$1
noncomputable def F56c : Code := bodyOf Go.Proofs.Try.f56
noncomputable def F56 (n : Nat) (a566 : Int) (a567 : Int) (a568 : Bool) (a569 : Int) (a570 : Int) (a571 : Bool) : Option (Bool × ((Int × (Int × (Bool × Unit))) × Unit)) :=
  some ((a566 == a569), ((a569, (a570, (a571, ()))), ()))
noncomputable def F56e (n : Nat) : Ent G := ⟨56, (.cons (.agg (.cons (.int .i64) (.cons (.int .i64) (.cons .bool .nil)))) (.cons (.ptr 0 0) .nil)), [(.box 58 (.cons (.int .i64) (.cons (.int .i64) (.cons .bool .nil))))], .bool, [(.box 58 (.cons (.int .i64) (.cons (.int .i64) (.cons .bool .nil))))], fun x y => F56 n x.1.1 x.1.2.1 x.1.2.2.1 y.1.1 y.1.2.1 y.1.2.2.1⟩
theorem F56_eq (n : Nat) (x : ShL.den G (.cons (.agg (.cons (.int .i64) (.cons (.int .i64) (.cons .bool .nil)))) (.cons (.ptr 0 0) .nil))) (y : denO G [(.box 58 (.cons (.int .i64) (.cons (.int .i64) (.cons .bool .nil))))]) : (F56e n).F x y = runFn prog G (ro G (tabOf (E18 n)) (frOf []) _) Go.Proofs.Try.f56 .no [(0, .fz)] (ShL.enc G (.cons (.agg (.cons (.int .i64) (.cons (.int .i64) (.cons .bool .nil)))) (.cons (.ptr 0 0) .nil)) x) (encO G [(.box 58 (.cons (.int .i64) (.cons (.int .i64) (.cons .bool .nil))))] y) (decR .bool [(.box 58 (.cons (.int .i64) (.cons (.int .i64) (.cons .bool .nil))))]) := by kernel_rfl
theorem F56_ok (n : Nat) : EntOK prog G (F56e n) :=
  ent_ok (fr := frOf []) (ann := .no) (frm := [(0, .fz)]) laws fnok (E18_ok n).tab (e := F56e n) (fn := Go.Proofs.Try.f56) (by kernel_rfl) (AllF.ofB (cd := F56c) (l := []) (by kernel_rfl) (by kernel_rfl) AllF.nil) (F56_eq n)
noncomputable def E19 (n : Nat) : List (Ent G) := F56e n :: E18 n
theorem E19_ok (n : Nat) : AllE prog G (E19 n) := AllE.cons (F56_ok n) (E18_ok n)
noncomputable def F63_0x0 : SSh := ⟨19, [(4, (.int .i64))], [(.box 58 (.cons (.int .i64) (.cons (.int .i64) (.cons .bool .nil))))]⟩
noncomputable def F63_0x1 : SSh := ⟨19, [], [(.box 58 (.cons (.int .i64) (.cons (.int .i64) (.cons .bool .nil))))]⟩
noncomputable def F63_0s : SSh := ⟨19, [(0, (.imm 3)), (1, (.clo 56 (.cons (.ptr 0 0) .nil))), (7, (.int .i64)), (8, (.int .i64))], [(.box 58 (.cons (.int .i64) (.cons (.int .i64) (.cons .bool .nil))))]⟩
noncomputable def F63_0_step {R : Type} (n : Nat) (k0 : Int → Int → Int → Bool → Option R) (k1 : Int → Int → Bool → Option R) (rec : List Fnl → Int → Int → Int → Int → Bool → Option R) (x555 : List Fnl) (x556 : Int) (x557 : Int) (x558 : Int) (x559 : Int) (x560 : Bool) : Option R :=
  (bif (decide (x557 < x556)) then
  (bif (decide ((0 : Int) ≤ x557)) then
  (bif (decide (x557 < ((x555.length) : Int))) then
  let v562 := (x555.getD (x557.toNat) (Fnl.mk (0 : Int) (0 : Int) false))
  (andThen (F56 n v562.at_ v562.saves v562.done x558 x559 x560) fun r573 =>
  (bif r573.1 then
  (k0 x557 r573.2.1.1 r573.2.1.2.1 r573.2.1.2.2.1)
  else (rec x555 x556 (IntKind.wrap .i64 (x557 + (1 : Int))) r573.2.1.1 r573.2.1.2.1 r573.2.1.2.2.1)))
  else none)
  else none)
  else (k1 x558 x559 x560))
noncomputable def F63_0_it {R : Type} (n : Nat) (k0 : Int → Int → Int → Bool → Option R) (k1 : Int → Int → Bool → Option R) : Nat → List Fnl → Int → Int → Int → Int → Bool → Option R
  | 0, _, _, _, _, _, _ => none
  | k + 1, x555, x556, x557, x558, x559, x560 => F63_0_step n k0 k1 (F63_0_it n k0 k1 k) x555 x556 x557 x558 x559 x560
noncomputable def F63_0 {R : Type} (n : Nat) (x555 : List Fnl) (x556 : Int) (x557 : Int) (x558 : Int) (x559 : Int) (x560 : Bool) (k0 : Int → Int → Int → Bool → Option R) (k1 : Int → Int → Bool → Option R) : Option R := F63_0_it n k0 k1 n x555 x556 x557 x558 x559 x560
noncomputable def F63_0z (n : Nat) : Sm G := inZ G 1 ⟨[0, 1, 7, 8], []⟩ F63_0s fun R x K => F63_0_it n (fun u0 u1 u2 u3 => K .ret (SSh.enc G F63_0x0 ((u0, ()), ((u1, (u2, (u3, ()))), ())))) (fun u0 u1 u2 => K (.exit 0) (SSh.enc G F63_0x1 ((), ((u0, (u1, (u2, ()))), ())))) n x.1.1 x.1.2.2.1 x.1.2.2.2.1 x.2.1.1 x.2.1.2.1 x.2.1.2.2.1
theorem F63_0_eq (n : Nat) (R : Type) (rec : SSh.den G F63_0s → Option R) (x : SSh.den G F63_0s) (K : AE → St G → Option R) :
  F63_0_step n (fun u0 u1 u2 u3 => K .ret (SSh.enc G F63_0x0 ((u0, ()), ((u1, (u2, (u3, ()))), ())))) (fun u0 u1 u2 => K (.exit 0) (SSh.enc G F63_0x1 ((), ((u0, (u1, (u2, ()))), ())))) (fun x555 x556 x557 x558 x559 x560 => rec ((x555, (((), ()), (x556, (x557, ())))), ((x558, (x559, (x560, ()))), ()))) x.1.1 x.1.2.2.1 x.1.2.2.2.1 x.2.1.1 x.2.1.2.1 x.2.1.2.2.1 = exec prog G (ro G (tabOf (E19 n)) (frOf []) R) 1 (codeAt F63c [1, 0, 1, 0, 0]) .no (SSh.enc G F63_0s x) (kLoop G (ro G (tabOf (E19 n)) (frOf []) R) 1 ⟨[0, 1, 7, 8], []⟩ F63_0s ⟨⟨[], []⟩, ⟨[4], []⟩, [(0, ⟨[], []⟩)]⟩ rec K) := by kernel_rfl
theorem F63_0_ok (n : Nat) : FragOK prog G 1 (codeAt F63c [1, 0, 1, 0]) (F63_0z n) :=
  frag_loop (Z := fun R k (x : SSh.den G F63_0s) K => F63_0_it n (fun u0 u1 u2 u3 => K .ret (SSh.enc G F63_0x0 ((u0, ()), ((u1, (u2, (u3, ()))), ())))) (fun u0 u1 u2 => K (.exit 0) (SSh.enc G F63_0x1 ((), ((u0, (u1, (u2, ()))), ())))) k x.1.1 x.1.2.2.1 x.1.2.2.2.1 x.2.1.1 x.2.1.2.1 x.2.1.2.2.1) laws fnok (E19_ok n).tab (AllF.of (l := []) (by kernel_rfl) AllF.nil) (fun _ _ _ => rfl) (fun R k y K => F63_0_eq n R (fun (x : SSh.den G F63_0s) => F63_0_it n (fun u0 u1 u2 u3 => K .ret (SSh.enc G F63_0x0 ((u0, ()), ((u1, (u2, (u3, ()))), ())))) (fun u0 u1 u2 => K (.exit 0) (SSh.enc G F63_0x1 ((), ((u0, (u1, (u2, ()))), ())))) k x.1.1 x.1.2.2.1 x.1.2.2.2.1 x.2.1.1 x.2.1.2.1 x.2.1.2.2.1) y K) n
noncomputable def F63 (n : Nat) (a550 : List Fnl) (a551 : Int) (a552 : Int) (a553 : Bool) : Option (Int × ((Int × (Int × (Bool × Unit))) × Unit)) :=
  (F63_0 n a550 ((a550.length) : Int) (0 : Int) a551 a552 a553 (fun z575 z576 z577 z578 =>
  some (z575, ((z576, (z577, (z578, ()))), ()))) (fun z579 z580 z581 =>
  some ((-1 : Int), ((z579, (z580, (z581, ()))), ()))))
noncomputable def F63e (n : Nat) : Ent G := ⟨63, (.cons (.imm 3) (.cons (.clo 56 (.cons (.ptr 0 0) .nil)) .nil)), [(.box 58 (.cons (.int .i64) (.cons (.int .i64) (.cons .bool .nil))))], (.int .i64), [(.box 58 (.cons (.int .i64) (.cons (.int .i64) (.cons .bool .nil))))], fun x y => F63 n x.1 y.1.1 y.1.2.1 y.1.2.2.1⟩
theorem F63_eq (n : Nat) (x : ShL.den G (.cons (.imm 3) (.cons (.clo 56 (.cons (.ptr 0 0) .nil)) .nil))) (y : denO G [(.box 58 (.cons (.int .i64) (.cons (.int .i64) (.cons .bool .nil))))]) : (F63e n).F x y = runFn prog G (ro G (tabOf (E19 n)) (frOf [F63_0z n]) _) Go.Proofs.Try.f63 (.nd .no (.nd (.nd .no (.nd (.use 0) .no)) .no)) [(0, .fz)] (ShL.enc G (.cons (.imm 3) (.cons (.clo 56 (.cons (.ptr 0 0) .nil)) .nil)) x) (encO G [(.box 58 (.cons (.int .i64) (.cons (.int .i64) (.cons .bool .nil))))] y) (decR (.int .i64) [(.box 58 (.cons (.int .i64) (.cons (.int .i64) (.cons .bool .nil))))]) := by kernel_rfl
theorem F63_ok (n : Nat) : EntOK prog G (F63e n) :=
  ent_ok (fr := frOf [F63_0z n]) (ann := (.nd .no (.nd (.nd .no (.nd (.use 0) .no)) .no))) (frm := [(0, .fz)]) laws fnok (E19_ok n).tab (e := F63e n) (fn := Go.Proofs.Try.f63) (by kernel_rfl) (AllF.ofB (cd := F63c) (l := [(0, codeAt F63c [1, 0, 1, 0])]) (by kernel_rfl) (by kernel_rfl) (AllF.cons (F63_0_ok n) AllF.nil)) (F63_eq n)
noncomputable def E20 (n : Nat) : List (Ent G) := F63e n :: E19 n
theorem E20_ok (n : Nat) : AllE prog G (E20 n) := AllE.cons (F63_ok n) (E19_ok n)
noncomputable def F55 (n : Nat) (a546 : List Fnl) (a547 : Int) (a548 : Int) (a549 : Bool) : Option (Bool × ((Int × (Int × (Bool × Unit))) × Unit)) :=
  (andThen (F63 n a546 a547 a548 a549) fun r582 =>
  some ((decide (r582.1 ≥ (0 : Int))), ((r582.2.1.1, (r582.2.1.2.1, (r582.2.1.2.2.1, ()))), ())))
noncomputable def F55e (n : Nat) : Ent G := ⟨55, (.cons (.imm 3) (.cons (.clo 56 (.cons (.ptr 0 0) .nil)) .nil)), [(.box 58 (.cons (.int .i64) (.cons (.int .i64) (.cons .bool .nil))))], .bool, [(.box 58 (.cons (.int .i64) (.cons (.int .i64) (.cons .bool .nil))))], fun x y => F55 n x.1 y.1.1 y.1.2.1 y.1.2.2.1⟩
theorem F55_eq (n : Nat) (x : ShL.den G (.cons (.imm 3) (.cons (.clo 56 (.cons (.ptr 0 0) .nil)) .nil))) (y : denO G [(.box 58 (.cons (.int .i64) (.cons (.int .i64) (.cons .bool .nil))))]) : (F55e n).F x y = runFn prog G (ro G (tabOf (E20 n)) (frOf []) _) Go.Proofs.Try.f55 .no [(0, .fz)] (ShL.enc G (.cons (.imm 3) (.cons (.clo 56 (.cons (.ptr 0 0) .nil)) .nil)) x) (encO G [(.box 58 (.cons (.int .i64) (.cons (.int .i64) (.cons .bool .nil))))] y) (decR .bool [(.box 58 (.cons (.int .i64) (.cons (.int .i64) (.cons .bool .nil))))]) := by kernel_rfl
theorem F55_ok (n : Nat) : EntOK prog G (F55e n) :=
  ent_ok (fr := frOf []) (ann := .no) (frm := [(0, .fz)]) laws fnok (E20_ok n).tab (e := F55e n) (fn := Go.Proofs.Try.f55) (by kernel_rfl) (AllF.ofB (cd := F55c) (l := []) (by kernel_rfl) (by kernel_rfl) AllF.nil) (F55_eq n)
noncomputable def E21 (n : Nat) : List (Ent G) := F55e n :: E20 n
theorem E21_ok (n : Nat) : AllE prog G (E21 n) := AllE.cons (F55_ok n) (E20_ok n)
noncomputable def F34_0x0 : SSh := ⟨45, [(4, .bool)], []⟩
noncomputable def F34_0x1 : SSh := ⟨45, [], []⟩
noncomputable def F34_0s : SSh := ⟨45, [(0, (.imm 2)), (1, (.imm 3)), (10, (.imm 3)), (11, (.int .i64)), (12, (.int .i64))], []⟩
noncomputable def F34_0_step {R : Type} (n : Nat) (k0 : Bool → Option R) (k1 : Option R) (rec : List (List Int) → List Fnl → List Fnl → Int → Int → Option R) (x529 : List (List Int)) (x530 : List Fnl) (x531 : List Fnl) (x532 : Int) (x533 : Int) : Option R :=
  (bif (decide (x533 < x532)) then
  (bif (decide ((0 : Int) ≤ x533)) then
  (bif (decide (x533 < ((x531.length) : Int))) then
  let v535 := (x531.getD (x533.toNat) (Fnl.mk (0 : Int) (0 : Int) false))
  let v536 := v535.at_
  let v537 := v535.saves
  (bif (decide (v536 < (0 : Int))) then
  (k0 false)
  else (bif (decide (v536 ≥ ((x529.length) : Int))) then
  (k0 false)
  else (bif (decide (v537 < (-1 : Int))) then
  (k0 false)
  else (bif (decide (v537 ≥ ((x529.length) : Int))) then
  (k0 false)
  else (bif (decide ((0 : Int) ≤ x533)) then
  (bif (decide (x533 ≤ ((x530.length) : Int))) then
  (andThen (F55 n ((x530.take (x533.toNat)).drop (0 : Nat)) v536 v537 v535.done) fun r584 =>
  (bif r584.1 then
  (k0 false)
  else (rec x529 x530 x531 x532 (IntKind.wrap .i64 (x533 + (1 : Int))))))
  else none)
  else none)))))
  else none)
  else none)
  else k1)
noncomputable def F34_0_it {R : Type} (n : Nat) (k0 : Bool → Option R) (k1 : Option R) : Nat → List (List Int) → List Fnl → List Fnl → Int → Int → Option R
  | 0, _, _, _, _, _ => none
  | k + 1, x529, x530, x531, x532, x533 => F34_0_step n k0 k1 (F34_0_it n k0 k1 k) x529 x530 x531 x532 x533
noncomputable def F34_0 {R : Type} (n : Nat) (x529 : List (List Int)) (x530 : List Fnl) (x531 : List Fnl) (x532 : Int) (x533 : Int) (k0 : Bool → Option R) (k1 : Option R) : Option R := F34_0_it n k0 k1 n x529 x530 x531 x532 x533
noncomputable def F34_0z (n : Nat) : Sm G := inZ G 0 ⟨[0, 1, 10, 11, 12], []⟩ F34_0s fun R x K => F34_0_it n (fun u0 => K .ret (SSh.enc G F34_0x0 ((u0, ()), ()))) (K (.exit 0) (SSh.enc G F34_0x1 ((), ()))) n x.1.1 x.1.2.1 x.1.2.2.1 x.1.2.2.2.1 x.1.2.2.2.2.1
theorem F34_0_eq (n : Nat) (R : Type) (rec : SSh.den G F34_0s → Option R) (x : SSh.den G F34_0s) (K : AE → St G → Option R) :
  F34_0_step n (fun u0 => K .ret (SSh.enc G F34_0x0 ((u0, ()), ()))) (K (.exit 0) (SSh.enc G F34_0x1 ((), ()))) (fun x529 x530 x531 x532 x533 => rec ((x529, (x530, (x531, (x532, (x533, ()))))), ())) x.1.1 x.1.2.1 x.1.2.2.1 x.1.2.2.2.1 x.1.2.2.2.2.1 = exec prog G (ro G (tabOf (E21 n)) (frOf []) R) 0 (codeAt F34c [1, 1, 0, 1, 0, 0]) .no (SSh.enc G F34_0s x) (kLoop G (ro G (tabOf (E21 n)) (frOf []) R) 0 ⟨[0, 1, 10, 11, 12], []⟩ F34_0s ⟨⟨[], []⟩, ⟨[4], []⟩, [(0, ⟨[], []⟩)]⟩ rec K) := by kernel_rfl
theorem F34_0_ok (n : Nat) : FragOK prog G 0 (codeAt F34c [1, 1, 0, 1, 0]) (F34_0z n) :=
  frag_loop (Z := fun R k (x : SSh.den G F34_0s) K => F34_0_it n (fun u0 => K .ret (SSh.enc G F34_0x0 ((u0, ()), ()))) (K (.exit 0) (SSh.enc G F34_0x1 ((), ()))) k x.1.1 x.1.2.1 x.1.2.2.1 x.1.2.2.2.1 x.1.2.2.2.2.1) laws fnok (E21_ok n).tab (AllF.of (l := []) (by kernel_rfl) AllF.nil) (fun _ _ _ => rfl) (fun R k y K => F34_0_eq n R (fun (x : SSh.den G F34_0s) => F34_0_it n (fun u0 => K .ret (SSh.enc G F34_0x0 ((u0, ()), ()))) (K (.exit 0) (SSh.enc G F34_0x1 ((), ()))) k x.1.1 x.1.2.1 x.1.2.2.1 x.1.2.2.2.1 x.1.2.2.2.2.1) y K) n
noncomputable def F34 (n : Nat) (a524 : List (List Int)) (a525 : List Fnl) : Option (Bool × Unit) :=
  (bif (decide (((a525.length) : Int) > (12 : Int))) then
  some (false, ())
  else (F34_0 n a524 a525 a525 ((a525.length) : Int) (0 : Int) (fun z586 =>
  some (z586, ())) (
  some (true, ()))))
noncomputable def F34e (n : Nat) : Ent G := ⟨34, (.cons (.imm 2) (.cons (.imm 3) .nil)), [], .bool, [], fun x y => F34 n x.1 x.2.1⟩
theorem F34_eq (n : Nat) (x : ShL.den G (.cons (.imm 2) (.cons (.imm 3) .nil))) (y : denO G []) : (F34e n).F x y = runFn prog G (ro G (tabOf (E21 n)) (frOf [F34_0z n]) _) Go.Proofs.Try.f34 (.nd .no (.nd .no (.nd (.nd .no (.nd (.use 0) .no)) .no))) [(0, .fz)] (ShL.enc G (.cons (.imm 2) (.cons (.imm 3) .nil)) x) (encO G [] y) (decR .bool []) := by kernel_rfl
theorem F34_ok (n : Nat) : EntOK prog G (F34e n) :=
  ent_ok (fr := frOf [F34_0z n]) (ann := (.nd .no (.nd .no (.nd (.nd .no (.nd (.use 0) .no)) .no)))) (frm := [(0, .fz)]) laws fnok (E21_ok n).tab (e := F34e n) (fn := Go.Proofs.Try.f34) (by kernel_rfl) (AllF.ofB (cd := F34c) (l := [(0, codeAt F34c [1, 1, 0, 1, 0])]) (by kernel_rfl) (by kernel_rfl) (AllF.cons (F34_0_ok n) AllF.nil)) (F34_eq n)
noncomputable def E22 (n : Nat) : List (Ent G) := F34e n :: E21 n
theorem E22_ok (n : Nat) : AllE prog G (E22 n) := AllE.cons (F34_ok n) (E21_ok n)
-- 35 slices.Clone[[]int,int]
noncomputable def F35c : Code := bodyOf Go.Proofs.Try.f35
noncomputable def F35 (n : Nat) (a589 : List Int) : Option (Unit × (List Int × Unit)) :=
  (bif (decide ((a589.length) ≤ (0 : Nat))) then
  (both
  (some ((), ([], ())))
  (let v591 := []
  (bif (decide (((v591.length) + (a589.length)) ≤ (68719476736 : Nat))) then
  some ((), ((v591 ++ a589), ()))
  else none)))
  else let v593 := []
  (bif (decide (((v593.length) + (a589.length)) ≤ (68719476736 : Nat))) then
  some ((), ((v593 ++ a589), ()))
  else none))
noncomputable def F35e (n : Nat) : Ent G := ⟨35, (.cons (.imm 0) .nil), [], (.own 0), [(.arr 0 true)], fun x y => F35 n x.1⟩
theorem F35_eq (n : Nat) (x : ShL.den G (.cons (.imm 0) .nil)) (y : denO G []) : (F35e n).F x y = runFn prog G (ro G (tabOf (E22 n)) (frOf []) _) Go.Proofs.Try.f35 .no [(0, (.own 0))] (ShL.enc G (.cons (.imm 0) .nil) x) (encO G [] y) (decR (.own 0) [(.arr 0 true)]) := by kernel_rfl
theorem F35_ok (n : Nat) : EntOK prog G (F35e n) :=
  ent_ok (fr := frOf []) (ann := .no) (frm := [(0, (.own 0))]) laws fnok (E22_ok n).tab (e := F35e n) (fn := Go.Proofs.Try.f35) (by kernel_rfl) (AllF.ofB (cd := F35c) (l := []) (by kernel_rfl) (by kernel_rfl) AllF.nil) (F35_eq n)
noncomputable def E23 (n : Nat) : List (Ent G) := F35e n :: E22 n
theorem E23_ok (n : Nat) : AllE prog G (E23 n) := AllE.cons (F35_ok n) (E22_ok n)
-- 36 slices.Clone[[]loop.example/slowworm/impl.Final,loop.example/slowworm/impl.Final]
noncomputable def F36c : Code := bodyOf Go.Proofs.Try.f36
noncomputable def F36 (n : Nat) (a596 : List Fnl) : Option (Unit × (List Fnl × Unit)) :=
  (bif (decide ((a596.length) ≤ (0 : Nat))) then
  (both
  (some ((), ([], ())))
  (let v598 := []
  (bif (decide (((v598.length) + (a596.length)) ≤ (68719476736 : Nat))) then
  some ((), ((v598 ++ a596), ()))
  else none)))
  else let v600 := []
  (bif (decide (((v600.length) + (a596.length)) ≤ (68719476736 : Nat))) then
  some ((), ((v600 ++ a596), ()))
  else none))
noncomputable def F36e (n : Nat) : Ent G := ⟨36, (.cons (.imm 3) .nil), [], (.own 0), [(.arr 3 true)], fun x y => F36 n x.1⟩
theorem F36_eq (n : Nat) (x : ShL.den G (.cons (.imm 3) .nil)) (y : denO G []) : (F36e n).F x y = runFn prog G (ro G (tabOf (E23 n)) (frOf []) _) Go.Proofs.Try.f36 .no [(0, (.own 3))] (ShL.enc G (.cons (.imm 3) .nil) x) (encO G [] y) (decR (.own 0) [(.arr 3 true)]) := by kernel_rfl
theorem F36_ok (n : Nat) : EntOK prog G (F36e n) :=
  ent_ok (fr := frOf []) (ann := .no) (frm := [(0, (.own 3))]) laws fnok (E23_ok n).tab (e := F36e n) (fn := Go.Proofs.Try.f36) (by kernel_rfl) (AllF.ofB (cd := F36c) (l := []) (by kernel_rfl) (by kernel_rfl) AllF.nil) (F36_eq n)
noncomputable def E24 (n : Nat) : List (Ent G) := F36e n :: E23 n
theorem E24_ok (n : Nat) : AllE prog G (E24 n) := AllE.cons (F36_ok n) (E23_ok n)
-- 37 loop.example/slowworm/impl.reached
noncomputable def F37c : Code := bodyOf Go.Proofs.Try.f37
noncomputable def F37_0x0 : SSh := ⟨42, [(5, (.own 0))], [(.arr 1 true)]⟩
noncomputable def F37_0s : SSh := ⟨42, [(0, (.imm 2)), (5, (.own 0)), (6, (.own 1))], [(.arr 1 true), (.arr 0 true)]⟩
noncomputable def F37_0_step {R : Type} (n : Nat) (k0 : List Bool → Option R) (rec : List (List Int) → List Bool → List Int → Option R) (x633 : List (List Int)) (x634 : List Bool) (x635 : List Int) : Option R :=
  (bif (decide (((x635.length) : Int) > (0 : Int))) then
  let v639 := (IntKind.wrap .i64 (((x635.length) : Int) - (1 : Int)))
  (bif (decide ((0 : Int) ≤ v639)) then
  (bif (decide (v639 < ((x635.length) : Int))) then
  let v641 := (x635.getD (v639.toNat) (0 : Int))
  let v643 := (IntKind.wrap .i64 (((x635.length) : Int) - (1 : Int)))
  (bif (decide ((0 : Int) ≤ v643)) then
  (bif (decide (v643 ≤ ((x635.length) : Int))) then
  let v644 := (v643.toNat)
  (bif (decide ((0 : Int) ≤ v641)) then
  (bif (decide (v641 < ((x634.length) : Int))) then
  (bif (!(x634.getD (v641.toNat) false)) then
  (bif (decide ((0 : Int) ≤ v641)) then
  (bif (decide (v641 < ((x634.length) : Int))) then
  (bif (decide ((0 : Int) ≤ v641)) then
  (bif (decide (v641 < ((x633.length) : Int))) then
  let v651 := (x633.getD (v641.toNat) [])
  (bif (decide ((((x635.take v644).length) + (v651.length)) ≤ (68719476736 : Nat))) then
  (rec x633 (x634.set (v641.toNat) true) ((x635.take v644) ++ v651))
  else none)
  else none)
  else none)
  else none)
  else none)
  else (rec x633 x634 (x635.take v644)))
  else none)
  else none)
  else none)
  else none)
  else none)
  else none)
  else (k0 x634))
noncomputable def F37_0_it {R : Type} (n : Nat) (k0 : List Bool → Option R) : Nat → List (List Int) → List Bool → List Int → Option R
  | 0, _, _, _ => none
  | k + 1, x633, x634, x635 => F37_0_step n k0 (F37_0_it n k0 k) x633 x634 x635
noncomputable def F37_0 {R : Type} (n : Nat) (x633 : List (List Int)) (x634 : List Bool) (x635 : List Int) (k0 : List Bool → Option R) : Option R := F37_0_it n k0 n x633 x634 x635
noncomputable def F37_0z (n : Nat) : Sm G := inZ G 0 ⟨[0, 5, 6], [(6, (.mv 0))]⟩ F37_0s fun R x K => F37_0_it n (fun u0 => K (.exit 0) (SSh.enc G F37_0x0 (((), ()), (u0, ())))) n x.1.1 x.2.1 x.2.2.1
theorem F37_0_eq (n : Nat) (R : Type) (rec : SSh.den G F37_0s → Option R) (x : SSh.den G F37_0s) (K : AE → St G → Option R) :
  F37_0_step n (fun u0 => K (.exit 0) (SSh.enc G F37_0x0 (((), ()), (u0, ())))) (fun x633 x634 x635 => rec ((x633, ((), ((), ()))), (x634, (x635, ())))) x.1.1 x.2.1 x.2.2.1 = exec prog G (ro G (tabOf (E24 n)) (frOf []) R) 0 (codeAt F37c [1, 1, 1, 0, 0, 0]) .no (SSh.enc G F37_0s x) (kLoop G (ro G (tabOf (E24 n)) (frOf []) R) 0 ⟨[0, 5, 6], [(6, (.mv 0))]⟩ F37_0s ⟨⟨[5], []⟩, ⟨[4], []⟩, [(0, ⟨[5], []⟩)]⟩ rec K) := by kernel_rfl
theorem F37_0_ok (n : Nat) : FragOK prog G 0 (codeAt F37c [1, 1, 1, 0, 0]) (F37_0z n) :=
  frag_loop (Z := fun R k (x : SSh.den G F37_0s) K => F37_0_it n (fun u0 => K (.exit 0) (SSh.enc G F37_0x0 (((), ()), (u0, ())))) k x.1.1 x.2.1 x.2.2.1) laws fnok (E24_ok n).tab (AllF.of (l := []) (by kernel_rfl) AllF.nil) (fun _ _ _ => rfl) (fun R k y K => F37_0_eq n R (fun (x : SSh.den G F37_0s) => F37_0_it n (fun u0 => K (.exit 0) (SSh.enc G F37_0x0 (((), ()), (u0, ())))) k x.1.1 x.2.1 x.2.2.1) y K) n
noncomputable def F37 (n : Nat) (a628 : List (List Int)) (a629 : List Int) : Option (Unit × (List Bool × Unit)) :=
  let v630 := ((a628.length) : Int)
  (bif (decide ((0 : Int) ≤ v630)) then
  (bif (decide (v630 ≤ v630)) then
  (bif (decide (v630 ≤ ((68719476736 : Nat) : Int))) then
  (andThen (F35 n a629) fun r632 =>
  (F37_0 n a628 (List.replicate (v630.toNat) false) r632.2.1 (fun z654 =>
  some ((), (z654, ())))))
  else none)
  else none)
  else none)
noncomputable def F37e (n : Nat) : Ent G := ⟨37, (.cons (.imm 2) (.cons (.imm 0) .nil)), [], (.own 0), [(.arr 1 true)], fun x y => F37 n x.1 x.2.1⟩
theorem F37_eq (n : Nat) (x : ShL.den G (.cons (.imm 2) (.cons (.imm 0) .nil))) (y : denO G []) : (F37e n).F x y = runFn prog G (ro G (tabOf (E24 n)) (frOf [F37_0z n]) _) Go.Proofs.Try.f37 (.nd .no (.nd .no (.nd .no (.nd (.nd (.use 0) .no) .no)))) [(0, (.own 1))] (ShL.enc G (.cons (.imm 2) (.cons (.imm 0) .nil)) x) (encO G [] y) (decR (.own 0) [(.arr 1 true)]) := by kernel_rfl
theorem F37_ok (n : Nat) : EntOK prog G (F37e n) :=
  ent_ok (fr := frOf [F37_0z n]) (ann := (.nd .no (.nd .no (.nd .no (.nd (.nd (.use 0) .no) .no))))) (frm := [(0, (.own 1))]) laws fnok (E24_ok n).tab (e := F37e n) (fn := Go.Proofs.Try.f37) (by kernel_rfl) (AllF.ofB (cd := F37c) (l := [(0, codeAt F37c [1, 1, 1, 0, 0])]) (by kernel_rfl) (by kernel_rfl) (AllF.cons (F37_0_ok n) AllF.nil)) (F37_eq n)
noncomputable def E25 (n : Nat) : List (Ent G) := F37e n :: E24 n
theorem E25_ok (n : Nat) : AllE prog G (E25 n) := AllE.cons (F37_ok n) (E24_ok n)
-- 11 loop.example/slowworm/impl.FinalSweep
noncomputable def F11c : Code := bodyOf Go.Proofs.Try.f11
noncomputable def F11_0x0 : SSh := ⟨93, [(0, (.imm 2)), (6, (.ptr 0 0)), (7, (.ptr 1 0)), (8, (.own 2)), (32, (.int .i64)), (33, (.int .i64))], [(.box 29 (.cons (.own 3) (.cons (.own 4) (.cons (.own 5) (.cons (.own 6) .nil))))), (.box 29 (.cons (.own 7) (.cons (.own 8) (.cons .nil0 (.cons (.own 9) .nil))))), (.arr 1 true), (.arr 0 true), (.arr 0 true), (.arr 0 true), (.arr 3 true), (.arr 0 true), (.arr 0 true), (.arr 3 true)]⟩
noncomputable def F11_0s : SSh := ⟨93, [(0, (.imm 2)), (6, (.ptr 0 0)), (7, (.ptr 1 0)), (8, (.own 2)), (32, (.int .i64)), (33, (.int .i64))], [(.box 29 (.cons (.own 3) (.cons (.own 4) (.cons (.own 5) (.cons (.own 6) .nil))))), (.box 29 (.cons (.own 7) (.cons (.own 8) (.cons .nil0 (.cons (.own 9) .nil))))), (.arr 1 true), (.arr 0 true), (.arr 0 true), (.arr 0 true), (.arr 3 true), (.arr 0 true), (.arr 0 true), (.arr 3 true)]⟩
noncomputable def F11_0 {R : Type} (n : Nat) (x740 : List (List Int)) (x741 : Int) (x742 : Int) (x743 : List Bool) (x744 : List Int) (x745 : List Int) (x746 : List Int) (x747 : List Fnl) (x748 : List Int) (x749 : List Int) (x750 : List Fnl) (k0 : List (List Int) → Int → Int → List Bool → List Int → List Int → List Int → List Fnl → List Int → List Int → List Fnl → Option R) : Option R :=
  (bif (decide ((0 : Int) ≤ x742)) then
  (bif (decide (x742 < ((x750.length) : Int))) then
  let v751 := (x742.toNat)
  (bif (x750.getD v751 (Fnl.mk (0 : Int) (0 : Int) false)).done then
  (k0 x740 x741 x742 x743 x744 x745 x746 x747 x748 x749 x750)
  else let v753 := (x750.getD v751 (Fnl.mk (0 : Int) (0 : Int) false)).at_
  (bif (decide ((0 : Int) ≤ v753)) then
  (bif (decide (v753 < ((x743.length) : Int))) then
  (bif (x743.getD (v753.toNat) false) then
  (k0 x740 x741 x742 x743 x744 x745 x746 x747 x748 x749 x750)
  else let v756 := (x750.set v751 (Fnl.mk (x750.getD v751 (Fnl.mk (0 : Int) (0 : Int) false)).at_ (x750.getD v751 (Fnl.mk (0 : Int) (0 : Int) false)).saves true))
  let v758 := ((v756.getD v751 (Fnl.mk (0 : Int) (0 : Int) false)).at_ :: [])
  (bif (decide (((x748.length) + (v758.length)) ≤ (68719476736 : Nat))) then
  let v759 := (x748 ++ v758)
  (bif (decide ((v756.getD v751 (Fnl.mk (0 : Int) (0 : Int) false)).saves ≥ (0 : Int))) then
  (bif (decide (((x749.length) : Int) < (12 : Int))) then
  let v765 := ((v756.getD v751 (Fnl.mk (0 : Int) (0 : Int) false)).saves :: [])
  (bif (decide (((x749.length) + (v765.length)) ≤ (68719476736 : Nat))) then
  (k0 x740 x741 x742 x743 x744 x745 x746 x747 v759 (x749 ++ v765) v756)
  else none)
  else (k0 x740 x741 x742 x743 x744 x745 x746 x747 v759 x749 v756))
  else (k0 x740 x741 x742 x743 x744 x745 x746 x747 v759 x749 v756))
  else none))
  else none)
  else none))
  else none)
  else none)
noncomputable def F11_0z (n : Nat) : Sm G := inZ G 0 ⟨[0, 6, 7, 8, 32, 33], []⟩ F11_0s fun R x K => F11_0 n x.1.1 x.1.2.2.2.2.1 x.1.2.2.2.2.2.1 x.2.2.2.1 x.2.2.2.2.1 x.2.2.2.2.2.1 x.2.2.2.2.2.2.1 x.2.2.2.2.2.2.2.1 x.2.2.2.2.2.2.2.2.1 x.2.2.2.2.2.2.2.2.2.1 x.2.2.2.2.2.2.2.2.2.2.1 (fun u0 u1 u2 u3 u4 u5 u6 u7 u8 u9 u10 => K .normal (SSh.enc G F11_0x0 ((u0, ((), ((), ((), (u1, (u2, ())))))), (((), ((), ((), ((), ())))), (((), ((), ((), ((), ())))), (u3, (u4, (u5, (u6, (u7, (u8, (u9, (u10, ())))))))))))))
theorem F11_0_eq (n : Nat) (R : Type) (x : SSh.den G F11_0s) (K : AE → St G → Option R) :
  F11_0 n x.1.1 x.1.2.2.2.2.1 x.1.2.2.2.2.2.1 x.2.2.2.1 x.2.2.2.2.1 x.2.2.2.2.2.1 x.2.2.2.2.2.2.1 x.2.2.2.2.2.2.2.1 x.2.2.2.2.2.2.2.2.1 x.2.2.2.2.2.2.2.2.2.1 x.2.2.2.2.2.2.2.2.2.2.1 (fun u0 u1 u2 u3 u4 u5 u6 u7 u8 u9 u10 => K .normal (SSh.enc G F11_0x0 ((u0, ((), ((), ((), (u1, (u2, ())))))), (((), ((), ((), ((), ())))), (((), ((), ((), ((), ())))), (u3, (u4, (u5, (u6, (u7, (u8, (u9, (u10, ()))))))))))))) = exec prog G (ro G (tabOf (E25 n)) (frOf []) R) 0 (codeAt F11c [1, 1, 1, 1, 0, 1, 0, 0, 1, 1, 0]) .no (SSh.enc G F11_0s x) (kNrm G (ro G (tabOf (E25 n)) (frOf []) R) 0 ⟨⟨[0, 6, 7, 8, 32, 33], []⟩, ⟨[6], []⟩, [(0, ⟨[0, 6, 7], []⟩)]⟩ K) := by kernel_rfl
theorem F11_0_ok (n : Nat) : FragOK prog G 0 (codeAt F11c [1, 1, 1, 1, 0, 1, 0, 0, 1, 1, 0]) (F11_0z n) :=
  frag_plain laws fnok (E25_ok n).tab (AllF.of (l := []) (by kernel_rfl) AllF.nil) (F11_0_eq n)
noncomputable def F11_1x0 : SSh := ⟨93, [(0, (.imm 2)), (6, (.ptr 0 0)), (7, (.ptr 1 0))], [(.box 29 (.cons (.own 2) (.cons (.own 3) (.cons (.own 4) (.cons (.own 5) .nil))))), (.box 29 (.cons (.own 6) (.cons (.own 7) (.cons .nil0 (.cons (.own 8) .nil))))), (.arr 0 true), (.arr 0 true), (.arr 0 true), (.arr 3 true), (.arr 0 true), (.arr 0 true), (.arr 3 true)]⟩
noncomputable def F11_1s : SSh := ⟨93, [(0, (.imm 2)), (6, (.ptr 0 0)), (7, (.ptr 1 0)), (8, (.own 2)), (32, (.int .i64)), (33, (.int .i64))], [(.box 29 (.cons (.own 3) (.cons (.own 4) (.cons (.own 5) (.cons (.own 6) .nil))))), (.box 29 (.cons (.own 7) (.cons (.own 8) (.cons .nil0 (.cons (.own 9) .nil))))), (.arr 1 true), (.arr 0 true), (.arr 0 true), (.arr 0 true), (.arr 3 true), (.arr 0 true), (.arr 0 true), (.arr 3 true)]⟩
noncomputable def F11_1_step {R : Type} (n : Nat) (k0 : List (List Int) → List Int → List Int → List Int → List Fnl → List Int → List Int → List Fnl → Option R) (rec : List (List Int) → Int → Int → List Bool → List Int → List Int → List Int → List Fnl → List Int → List Int → List Fnl → Option R) (x728 : List (List Int)) (x729 : Int) (x730 : Int) (x731 : List Bool) (x732 : List Int) (x733 : List Int) (x734 : List Int) (x735 : List Fnl) (x736 : List Int) (x737 : List Int) (x738 : List Fnl) : Option R :=
  (bif (decide (x730 < x729)) then
  (F11_0 n x728 x729 x730 x731 x732 x733 x734 x735 x736 x737 x738 (fun z767 z768 z769 z770 z771 z772 z773 z774 z775 z776 z777 =>
  (rec z767 z768 (IntKind.wrap .i64 (z769 + (1 : Int))) z770 z771 z772 z773 z774 z775 z776 z777)))
  else (k0 x728 x732 x733 x734 x735 x736 x737 x738))
noncomputable def F11_1_it {R : Type} (n : Nat) (k0 : List (List Int) → List Int → List Int → List Int → List Fnl → List Int → List Int → List Fnl → Option R) : Nat → List (List Int) → Int → Int → List Bool → List Int → List Int → List Int → List Fnl → List Int → List Int → List Fnl → Option R
  | 0, _, _, _, _, _, _, _, _, _, _, _ => none
  | k + 1, x728, x729, x730, x731, x732, x733, x734, x735, x736, x737, x738 => F11_1_step n k0 (F11_1_it n k0 k) x728 x729 x730 x731 x732 x733 x734 x735 x736 x737 x738
noncomputable def F11_1 {R : Type} (n : Nat) (x728 : List (List Int)) (x729 : Int) (x730 : Int) (x731 : List Bool) (x732 : List Int) (x733 : List Int) (x734 : List Int) (x735 : List Fnl) (x736 : List Int) (x737 : List Int) (x738 : List Fnl) (k0 : List (List Int) → List Int → List Int → List Int → List Fnl → List Int → List Int → List Fnl → Option R) : Option R := F11_1_it n k0 n x728 x729 x730 x731 x732 x733 x734 x735 x736 x737 x738
noncomputable def F11_1z (n : Nat) : Sm G := inZ G 0 ⟨[0, 6, 7, 8, 32, 33], [(7, (.cell 0 (.own 0)))]⟩ F11_1s fun R x K => F11_1_it n (fun u0 u1 u2 u3 u4 u5 u6 u7 => K (.exit 0) (SSh.enc G F11_1x0 ((u0, ((), ((), ()))), (((), ((), ((), ((), ())))), (((), ((), ((), ((), ())))), (u1, (u2, (u3, (u4, (u5, (u6, (u7, ())))))))))))) n x.1.1 x.1.2.2.2.2.1 x.1.2.2.2.2.2.1 x.2.2.2.1 x.2.2.2.2.1 x.2.2.2.2.2.1 x.2.2.2.2.2.2.1 x.2.2.2.2.2.2.2.1 x.2.2.2.2.2.2.2.2.1 x.2.2.2.2.2.2.2.2.2.1 x.2.2.2.2.2.2.2.2.2.2.1
theorem F11_1_eq (n : Nat) (R : Type) (rec : SSh.den G F11_1s → Option R) (x : SSh.den G F11_1s) (K : AE → St G → Option R) :
  F11_1_step n (fun u0 u1 u2 u3 u4 u5 u6 u7 => K (.exit 0) (SSh.enc G F11_1x0 ((u0, ((), ((), ()))), (((), ((), ((), ((), ())))), (((), ((), ((), ((), ())))), (u1, (u2, (u3, (u4, (u5, (u6, (u7, ())))))))))))) (fun x728 x729 x730 x731 x732 x733 x734 x735 x736 x737 x738 => rec ((x728, ((), ((), ((), (x729, (x730, ())))))), (((), ((), ((), ((), ())))), (((), ((), ((), ((), ())))), (x731, (x732, (x733, (x734, (x735, (x736, (x737, (x738, ())))))))))))) x.1.1 x.1.2.2.2.2.1 x.1.2.2.2.2.2.1 x.2.2.2.1 x.2.2.2.2.1 x.2.2.2.2.2.1 x.2.2.2.2.2.2.1 x.2.2.2.2.2.2.2.1 x.2.2.2.2.2.2.2.2.1 x.2.2.2.2.2.2.2.2.2.1 x.2.2.2.2.2.2.2.2.2.2.1 = exec prog G (ro G (tabOf (E25 n)) (frOf [F11_0z n]) R) 0 (codeAt F11c [1, 1, 1, 1, 0, 1, 0, 0]) (.nd .no (.nd .no (.nd (.use 0) .no))) (SSh.enc G F11_1s x) (kLoop G (ro G (tabOf (E25 n)) (frOf [F11_0z n]) R) 0 ⟨[0, 6, 7, 8, 32, 33], [(7, (.cell 0 (.own 0)))]⟩ F11_1s ⟨⟨[0, 6, 7], []⟩, ⟨[6], []⟩, [(0, ⟨[0, 6, 7], []⟩)]⟩ rec K) := by kernel_rfl
theorem F11_1_ok (n : Nat) : FragOK prog G 0 (codeAt F11c [1, 1, 1, 1, 0, 1, 0]) (F11_1z n) :=
  frag_loop (Z := fun R k (x : SSh.den G F11_1s) K => F11_1_it n (fun u0 u1 u2 u3 u4 u5 u6 u7 => K (.exit 0) (SSh.enc G F11_1x0 ((u0, ((), ((), ()))), (((), ((), ((), ((), ())))), (((), ((), ((), ((), ())))), (u1, (u2, (u3, (u4, (u5, (u6, (u7, ())))))))))))) k x.1.1 x.1.2.2.2.2.1 x.1.2.2.2.2.2.1 x.2.2.2.1 x.2.2.2.2.1 x.2.2.2.2.2.1 x.2.2.2.2.2.2.1 x.2.2.2.2.2.2.2.1 x.2.2.2.2.2.2.2.2.1 x.2.2.2.2.2.2.2.2.2.1 x.2.2.2.2.2.2.2.2.2.2.1) laws fnok (E25_ok n).tab (AllF.of (l := [(0, codeAt F11c [1, 1, 1, 1, 0, 1, 0, 0, 1, 1, 0])]) (by kernel_rfl) (AllF.cons (F11_0_ok n) AllF.nil)) (fun _ _ _ => rfl) (fun R k y K => F11_1_eq n R (fun (x : SSh.den G F11_1s) => F11_1_it n (fun u0 u1 u2 u3 u4 u5 u6 u7 => K (.exit 0) (SSh.enc G F11_1x0 ((u0, ((), ((), ()))), (((), ((), ((), ((), ())))), (((), ((), ((), ((), ())))), (u1, (u2, (u3, (u4, (u5, (u6, (u7, ())))))))))))) k x.1.1 x.1.2.2.2.2.1 x.1.2.2.2.2.2.1 x.2.2.2.1 x.2.2.2.2.1 x.2.2.2.2.2.1 x.2.2.2.2.2.2.1 x.2.2.2.2.2.2.2.1 x.2.2.2.2.2.2.2.2.1 x.2.2.2.2.2.2.2.2.2.1 x.2.2.2.2.2.2.2.2.2.2.1) y K) n
-- 38 loop.example/slowworm/impl.marked
noncomputable def F38c : Code := bodyOf Go.Proofs.Try.f38
noncomputable def F38_0x0 : SSh := ⟨24, [(1, .bool), (5, (.own 0)), (8, (.imm 1)), (9, (.int .i64)), (10, (.int .i64))], [(.arr 0 true)]⟩
noncomputable def F38_0s : SSh := ⟨24, [(1, .bool), (5, (.own 0)), (8, (.imm 1)), (9, (.int .i64)), (10, (.int .i64))], [(.arr 0 true)]⟩
noncomputable def F38_0 {R : Type} (n : Nat) (x820 : Bool) (x821 : List Bool) (x822 : Int) (x823 : Int) (x824 : List Int) (k0 : Bool → List Bool → Int → Int → List Int → Option R) : Option R :=
  (bif (decide ((0 : Int) ≤ x823)) then
  (bif (decide (x823 < ((x821.length) : Int))) then
  (bif ((x821.getD (x823.toNat) false) == x820) then
  let v828 := (x823 :: [])
  (bif (decide (((x824.length) + (v828.length)) ≤ (68719476736 : Nat))) then
  (k0 x820 x821 x822 x823 (x824 ++ v828))
  else none)
  else (k0 x820 x821 x822 x823 x824))
  else none)
  else none)
noncomputable def F38_0z (n : Nat) : Sm G := inZ G 0 ⟨[1, 5, 8, 9, 10], []⟩ F38_0s fun R x K => F38_0 n x.1.1 x.1.2.2.1 x.1.2.2.2.1 x.1.2.2.2.2.1 x.2.1 (fun u0 u1 u2 u3 u4 => K .normal (SSh.enc G F38_0x0 ((u0, ((), (u1, (u2, (u3, ()))))), (u4, ()))))
theorem F38_0_eq (n : Nat) (R : Type) (x : SSh.den G F38_0s) (K : AE → St G → Option R) :
  F38_0 n x.1.1 x.1.2.2.1 x.1.2.2.2.1 x.1.2.2.2.2.1 x.2.1 (fun u0 u1 u2 u3 u4 => K .normal (SSh.enc G F38_0x0 ((u0, ((), (u1, (u2, (u3, ()))))), (u4, ())))) = exec prog G (ro G (tabOf (E25 n)) (frOf []) R) 0 (codeAt F38c [1, 1, 0, 1, 0, 0, 1, 1, 0]) .no (SSh.enc G F38_0s x) (kNrm G (ro G (tabOf (E25 n)) (frOf []) R) 0 ⟨⟨[1, 5, 8, 9, 10], []⟩, ⟨[4], []⟩, [(0, ⟨[5], []⟩)]⟩ K) := by kernel_rfl
theorem F38_0_ok (n : Nat) : FragOK prog G 0 (codeAt F38c [1, 1, 0, 1, 0, 0, 1, 1, 0]) (F38_0z n) :=
  frag_plain laws fnok (E25_ok n).tab (AllF.of (l := []) (by kernel_rfl) AllF.nil) (F38_0_eq n)
noncomputable def F38_1x0 : SSh := ⟨24, [(5, (.own 0))], [(.arr 0 true)]⟩
noncomputable def F38_1s : SSh := ⟨24, [(1, .bool), (5, (.own 0)), (8, (.imm 1)), (9, (.int .i64)), (10, (.int .i64))], [(.arr 0 true)]⟩
noncomputable def F38_1_step {R : Type} (n : Nat) (k0 : List Int → Option R) (rec : Bool → List Bool → Int → Int → List Int → Option R) (x814 : Bool) (x815 : List Bool) (x816 : Int) (x817 : Int) (x818 : List Int) : Option R :=
  (bif (decide (x817 < x816)) then
  (F38_0 n x814 x815 x816 x817 x818 (fun z830 z831 z832 z833 z834 =>
  (rec z830 z831 z832 (IntKind.wrap .i64 (z833 + (1 : Int))) z834)))
  else (k0 x818))
noncomputable def F38_1_it {R : Type} (n : Nat) (k0 : List Int → Option R) : Nat → Bool → List Bool → Int → Int → List Int → Option R
  | 0, _, _, _, _, _ => none
  | k + 1, x814, x815, x816, x817, x818 => F38_1_step n k0 (F38_1_it n k0 k) x814 x815 x816 x817 x818
noncomputable def F38_1 {R : Type} (n : Nat) (x814 : Bool) (x815 : List Bool) (x816 : Int) (x817 : Int) (x818 : List Int) (k0 : List Int → Option R) : Option R := F38_1_it n k0 n x814 x815 x816 x817 x818
noncomputable def F38_1z (n : Nat) : Sm G := inZ G 0 ⟨[1, 5, 8, 9, 10], [(5, (.own 0))]⟩ F38_1s fun R x K => F38_1_it n (fun u0 => K (.exit 0) (SSh.enc G F38_1x0 (((), ()), (u0, ())))) n x.1.1 x.1.2.2.1 x.1.2.2.2.1 x.1.2.2.2.2.1 x.2.1
theorem F38_1_eq (n : Nat) (R : Type) (rec : SSh.den G F38_1s → Option R) (x : SSh.den G F38_1s) (K : AE → St G → Option R) :
  F38_1_step n (fun u0 => K (.exit 0) (SSh.enc G F38_1x0 (((), ()), (u0, ())))) (fun x814 x815 x816 x817 x818 => rec ((x814, ((), (x815, (x816, (x817, ()))))), (x818, ()))) x.1.1 x.1.2.2.1 x.1.2.2.2.1 x.1.2.2.2.2.1 x.2.1 = exec prog G (ro G (tabOf (E25 n)) (frOf [F38_0z n]) R) 0 (codeAt F38c [1, 1, 0, 1, 0, 0]) (.nd .no (.nd .no (.nd (.use 0) .no))) (SSh.enc G F38_1s x) (kLoop G (ro G (tabOf (E25 n)) (frOf [F38_0z n]) R) 0 ⟨[1, 5, 8, 9, 10], [(5, (.own 0))]⟩ F38_1s ⟨⟨[5], []⟩, ⟨[4], []⟩, [(0, ⟨[5], []⟩)]⟩ rec K) := by kernel_rfl
theorem F38_1_ok (n : Nat) : FragOK prog G 0 (codeAt F38c [1, 1, 0, 1, 0]) (F38_1z n) :=
  frag_loop (Z := fun R k (x : SSh.den G F38_1s) K => F38_1_it n (fun u0 => K (.exit 0) (SSh.enc G F38_1x0 (((), ()), (u0, ())))) k x.1.1 x.1.2.2.1 x.1.2.2.2.1 x.1.2.2.2.2.1 x.2.1) laws fnok (E25_ok n).tab (AllF.of (l := [(0, codeAt F38c [1, 1, 0, 1, 0, 0, 1, 1, 0])]) (by kernel_rfl) (AllF.cons (F38_0_ok n) AllF.nil)) (fun _ _ _ => rfl) (fun R k y K => F38_1_eq n R (fun (x : SSh.den G F38_1s) => F38_1_it n (fun u0 => K (.exit 0) (SSh.enc G F38_1x0 (((), ()), (u0, ())))) k x.1.1 x.1.2.2.1 x.1.2.2.2.1 x.1.2.2.2.2.1 x.2.1) y K) n
noncomputable def F38 (n : Nat) (a811 : List Bool) (a812 : Bool) : Option (Unit × (List Int × Unit)) :=
  (F38_1 n a812 a811 ((a811.length) : Int) (0 : Int) [] (fun z836 =>
  some ((), (z836, ()))))
noncomputable def F38e (n : Nat) : Ent G := ⟨38, (.cons (.imm 1) (.cons .bool .nil)), [], (.own 0), [(.arr 0 true)], fun x y => F38 n x.1 x.2.1⟩
theorem F38_eq (n : Nat) (x : ShL.den G (.cons (.imm 1) (.cons .bool .nil))) (y : denO G []) : (F38e n).F x y = runFn prog G (ro G (tabOf (E25 n)) (frOf [F38_0z n, F38_1z n]) _) Go.Proofs.Try.f38 (.nd .no (.nd .no (.nd (.nd .no (.nd (.use 1) .no)) .no))) [(0, (.own 0))] (ShL.enc G (.cons (.imm 1) (.cons .bool .nil)) x) (encO G [] y) (decR (.own 0) [(.arr 0 true)]) := by kernel_rfl
theorem F38_ok (n : Nat) : EntOK prog G (F38e n) :=
  ent_ok (fr := frOf [F38_0z n, F38_1z n]) (ann := (.nd .no (.nd .no (.nd (.nd .no (.nd (.use 1) .no)) .no)))) (frm := [(0, (.own 0))]) laws fnok (E25_ok n).tab (e := F38e n) (fn := Go.Proofs.Try.f38) (by kernel_rfl) (AllF.ofB (cd := F38c) (l := [(1, codeAt F38c [1, 1, 0, 1, 0])]) (by kernel_rfl) (by kernel_rfl) (AllF.cons (F38_1_ok n) AllF.nil)) (F38_eq n)
noncomputable def E26 (n : Nat) : List (Ent G) := F38e n :: E25 n
theorem E26_ok (n : Nat) : AllE prog G (E26 n) := AllE.cons (F38_ok n) (E25_ok n)
noncomputable def F11 (n : Nat) (a717 : List (List Int)) (a718 : List Int) (a719 : List Fnl) : Option ((Unit × (Unit × (Unit × (Unit × Unit)))) × (List Int × (List Int × (List Int × (List Fnl × Unit))))) :=
  (andThen (F33 n a717 a718) fun r720 =>
  (bif (!r720.1) then
  some (((), ((), ((), ((), ())))), ([], ([], ([], ([], ())))))
  else (andThen (F34 n a717 a719) fun r722 =>
  (bif (!r722.1) then
  some (((), ((), ((), ((), ())))), ([], ([], ([], ([], ())))))
  else (andThen (F35 n a718) fun r724 =>
  (andThen (F36 n a719) fun r725 =>
  (andThen (F37 n a717 a718) fun r726 =>
  (F11_1 n a717 ((r725.2.1.length) : Int) (0 : Int) r726.2.1 [] [] [] [] [] r724.2.1 r725.2.1 (fun z779 z780 z781 z782 z783 z784 z785 z786 =>
  (andThen (F37 n z779 z785) fun r787 =>
  (andThen (F38 n r787.2.1 false) fun r837 =>
  some (((), ((), ((), ((), ())))), (z784, (z785, (r837.2.1, (z786, ()))))))))))))))))
noncomputable def F11e (n : Nat) : Ent G := ⟨11, (.cons (.imm 2) (.cons (.imm 0) (.cons (.imm 3) .nil))), [], (.agg (.cons (.own 0) (.cons (.own 1) (.cons (.own 2) (.cons (.own 3) .nil))))), [(.arr 0 true), (.arr 0 true), (.arr 0 true), (.arr 3 true)], fun x y => F11 n x.1 x.2.1 x.2.2.1⟩
theorem F11_eq (n : Nat) (x : ShL.den G (.cons (.imm 2) (.cons (.imm 0) (.cons (.imm 3) .nil)))) (y : denO G []) : (F11e n).F x y = runFn prog G (ro G (tabOf (E26 n)) (frOf [F11_0z n, F11_1z n]) _) Go.Proofs.Try.f11 (.nd .no (.nd .no (.nd .no (.nd .no (.nd (.nd .no (.nd (.use 1) .no)) .no))))) [(0, (.fld 0 (.mv 0))), (0, (.fld 1 (.mv 0))), (0, (.fld 2 (.mv 0))), (0, (.fld 3 (.mv 3)))] (ShL.enc G (.cons (.imm 2) (.cons (.imm 0) (.cons (.imm 3) .nil))) x) (encO G [] y) (decR (.agg (.cons (.own 0) (.cons (.own 1) (.cons (.own 2) (.cons (.own 3) .nil))))) [(.arr 0 true), (.arr 0 true), (.arr 0 true), (.arr 3 true)]) := by kernel_rfl
theorem F11_ok (n : Nat) : EntOK prog G (F11e n) :=
  ent_ok (fr := frOf [F11_0z n, F11_1z n]) (ann := (.nd .no (.nd .no (.nd .no (.nd .no (.nd (.nd .no (.nd (.use 1) .no)) .no)))))) (frm := [(0, (.fld 0 (.mv 0))), (0, (.fld 1 (.mv 0))), (0, (.fld 2 (.mv 0))), (0, (.fld 3 (.mv 3)))]) laws fnok (E26_ok n).tab (e := F11e n) (fn := Go.Proofs.Try.f11) (by kernel_rfl) (AllF.ofB (cd := F11c) (l := [(1, codeAt F11c [1, 1, 1, 1, 0, 1, 0])]) (by kernel_rfl) (by kernel_rfl) (AllF.cons (F11_1_ok n) AllF.nil)) (F11_eq n)
noncomputable def E27 (n : Nat) : List (Ent G) := F11e n :: E26 n
theorem E27_ok (n : Nat) : AllE prog G (E27 n) := AllE.cons (F11_ok n) (E26_ok n)
-- 12 loop.example/slowworm/laws.eqSweep
noncomputable def F12c : Code := bodyOf Go.Proofs.Try.f12
-- 14 loop.example/slowworm/laws.eqIntS
noncomputable def F14c : Code := bodyOf Go.Proofs.Try.f14
noncomputable def F14_0x0 : SSh := ⟨26, [(4, .bool)], []⟩
noncomputable def F14_0x1 : SSh := ⟨26, [], []⟩
noncomputable def F14_0s : SSh := ⟨26, [(0, (.imm 0)), (1, (.imm 0)), (5, (.int .i64))], []⟩
noncomputable def F14_0_step {R : Type} (n : Nat) (k0 : Bool → Option R) (k1 : Option R) (rec : List Int → List Int → Int → Option R) (x852 : List Int) (x853 : List Int) (x854 : Int) : Option R :=
  (bif (decide (x854 < ((x852.length) : Int))) then
  (bif (decide ((0 : Int) ≤ x854)) then
  (bif (decide (x854 < ((x852.length) : Int))) then
  (bif (decide ((0 : Int) ≤ x854)) then
  (bif (decide (x854 < ((x853.length) : Int))) then
  (bif ((x852.getD (x854.toNat) (0 : Int)) != (x853.getD (x854.toNat) (0 : Int))) then
  (k0 false)
  else (rec x852 x853 (IntKind.wrap .i64 (x854 + (1 : Int)))))
  else none)
  else none)
  else none)
  else none)
  else k1)
noncomputable def F14_0_it {R : Type} (n : Nat) (k0 : Bool → Option R) (k1 : Option R) : Nat → List Int → List Int → Int → Option R
  | 0, _, _, _ => none
  | k + 1, x852, x853, x854 => F14_0_step n k0 k1 (F14_0_it n k0 k1 k) x852 x853 x854
noncomputable def F14_0 {R : Type} (n : Nat) (x852 : List Int) (x853 : List Int) (x854 : Int) (k0 : Bool → Option R) (k1 : Option R) : Option R := F14_0_it n k0 k1 n x852 x853 x854
noncomputable def F14_0z (n : Nat) : Sm G := inZ G 0 ⟨[0, 1, 5], []⟩ F14_0s fun R x K => F14_0_it n (fun u0 => K .ret (SSh.enc G F14_0x0 ((u0, ()), ()))) (K (.exit 0) (SSh.enc G F14_0x1 ((), ()))) n x.1.1 x.1.2.1 x.1.2.2.1
theorem F14_0_eq (n : Nat) (R : Type) (rec : SSh.den G F14_0s → Option R) (x : SSh.den G F14_0s) (K : AE → St G → Option R) :
  F14_0_step n (fun u0 => K .ret (SSh.enc G F14_0x0 ((u0, ()), ()))) (K (.exit 0) (SSh.enc G F14_0x1 ((), ()))) (fun x852 x853 x854 => rec ((x852, (x853, (x854, ()))), ())) x.1.1 x.1.2.1 x.1.2.2.1 = exec prog G (ro G (tabOf (E27 n)) (frOf []) R) 0 (codeAt F14c [1, 1, 0, 1, 0, 0]) .no (SSh.enc G F14_0s x) (kLoop G (ro G (tabOf (E27 n)) (frOf []) R) 0 ⟨[0, 1, 5], []⟩ F14_0s ⟨⟨[], []⟩, ⟨[4], []⟩, [(0, ⟨[], []⟩)]⟩ rec K) := by kernel_rfl
theorem F14_0_ok (n : Nat) : FragOK prog G 0 (codeAt F14c [1, 1, 0, 1, 0]) (F14_0z n) :=
  frag_loop (Z := fun R k (x : SSh.den G F14_0s) K => F14_0_it n (fun u0 => K .ret (SSh.enc G F14_0x0 ((u0, ()), ()))) (K (.exit 0) (SSh.enc G F14_0x1 ((), ()))) k x.1.1 x.1.2.1 x.1.2.2.1) laws fnok (E27_ok n).tab (AllF.of (l := []) (by kernel_rfl) AllF.nil) (fun _ _ _ => rfl) (fun R k y K => F14_0_eq n R (fun (x : SSh.den G F14_0s) => F14_0_it n (fun u0 => K .ret (SSh.enc G F14_0x0 ((u0, ()), ()))) (K (.exit 0) (SSh.enc G F14_0x1 ((), ()))) k x.1.1 x.1.2.1 x.1.2.2.1) y K) n
noncomputable def F14 (n : Nat) (a847 : List Int) (a848 : List Int) : Option (Bool × Unit) :=
  (bif (((a847.length) : Int) != ((a848.length) : Int)) then
  some (false, ())
  else (F14_0 n a847 a848 (0 : Int) (fun z863 =>
  some (z863, ())) (
  some (true, ()))))
noncomputable def F14e (n : Nat) : Ent G := ⟨14, (.cons (.imm 0) (.cons (.imm 0) .nil)), [], .bool, [], fun x y => F14 n x.1 x.2.1⟩
theorem F14_eq (n : Nat) (x : ShL.den G (.cons (.imm 0) (.cons (.imm 0) .nil))) (y : denO G []) : (F14e n).F x y = runFn prog G (ro G (tabOf (E27 n)) (frOf [F14_0z n]) _) Go.Proofs.Try.f14 (.nd .no (.nd .no (.nd (.nd .no (.nd (.use 0) .no)) .no))) [(0, .fz)] (ShL.enc G (.cons (.imm 0) (.cons (.imm 0) .nil)) x) (encO G [] y) (decR .bool []) := by kernel_rfl
theorem F14_ok (n : Nat) : EntOK prog G (F14e n) :=
  ent_ok (fr := frOf [F14_0z n]) (ann := (.nd .no (.nd .no (.nd (.nd .no (.nd (.use 0) .no)) .no)))) (frm := [(0, .fz)]) laws fnok (E27_ok n).tab (e := F14e n) (fn := Go.Proofs.Try.f14) (by kernel_rfl) (AllF.ofB (cd := F14c) (l := [(0, codeAt F14c [1, 1, 0, 1, 0])]) (by kernel_rfl) (by kernel_rfl) (AllF.cons (F14_0_ok n) AllF.nil)) (F14_eq n)
noncomputable def E28 (n : Nat) : List (Ent G) := F14e n :: E27 n
theorem E28_ok (n : Nat) : AllE prog G (E28 n) := AllE.cons (F14_ok n) (E27_ok n)
-- 15 loop.example/slowworm/laws.eqFinalS
noncomputable def F15c : Code := bodyOf Go.Proofs.Try.f15
-- 39 loop.example/slowworm/laws.eqFinal
noncomputable def F39c : Code := bodyOf Go.Proofs.Try.f39
noncomputable def F39 (n : Nat) (a888 : Int) (a889 : Int) (a890 : Bool) (a891 : Int) (a892 : Int) (a893 : Bool) : Option (Bool × Unit) :=
  (bif (a888 != a891) then
  some (false, ())
  else (bif (a889 != a892) then
  some (false, ())
  else (bif (!(a890 == a893)) then
  some (false, ())
  else some (true, ()))))
noncomputable def F39e (n : Nat) : Ent G := ⟨39, (.cons (.agg (.cons (.int .i64) (.cons (.int .i64) (.cons .bool .nil)))) (.cons (.agg (.cons (.int .i64) (.cons (.int .i64) (.cons .bool .nil)))) .nil)), [], .bool, [], fun x y => F39 n x.1.1 x.1.2.1 x.1.2.2.1 x.2.1.1 x.2.1.2.1 x.2.1.2.2.1⟩
theorem F39_eq (n : Nat) (x : ShL.den G (.cons (.agg (.cons (.int .i64) (.cons (.int .i64) (.cons .bool .nil)))) (.cons (.agg (.cons (.int .i64) (.cons (.int .i64) (.cons .bool .nil)))) .nil))) (y : denO G []) : (F39e n).F x y = runFn prog G (ro G (tabOf (E28 n)) (frOf []) _) Go.Proofs.Try.f39 .no [(0, .fz)] (ShL.enc G (.cons (.agg (.cons (.int .i64) (.cons (.int .i64) (.cons .bool .nil)))) (.cons (.agg (.cons (.int .i64) (.cons (.int .i64) (.cons .bool .nil)))) .nil)) x) (encO G [] y) (decR .bool []) := by kernel_rfl
theorem F39_ok (n : Nat) : EntOK prog G (F39e n) :=
  ent_ok (fr := frOf []) (ann := .no) (frm := [(0, .fz)]) laws fnok (E28_ok n).tab (e := F39e n) (fn := Go.Proofs.Try.f39) (by kernel_rfl) (AllF.ofB (cd := F39c) (l := []) (by kernel_rfl) (by kernel_rfl) AllF.nil) (F39_eq n)
noncomputable def E29 (n : Nat) : List (Ent G) := F39e n :: E28 n
theorem E29_ok (n : Nat) : AllE prog G (E29 n) := AllE.cons (F39_ok n) (E28_ok n)
noncomputable def F15_0x0 : SSh := ⟨27, [(4, .bool)], []⟩
noncomputable def F15_0x1 : SSh := ⟨27, [], []⟩
noncomputable def F15_0s : SSh := ⟨27, [(0, (.imm 3)), (1, (.imm 3)), (5, (.int .i64))], []⟩
noncomputable def F15_0_step {R : Type} (n : Nat) (k0 : Bool → Option R) (k1 : Option R) (rec : List Fnl → List Fnl → Int → Option R) (x875 : List Fnl) (x876 : List Fnl) (x877 : Int) : Option R :=
  (bif (decide (x877 < ((x875.length) : Int))) then
  (bif (decide ((0 : Int) ≤ x877)) then
  (bif (decide (x877 < ((x875.length) : Int))) then
  let v880 := (x875.getD (x877.toNat) (Fnl.mk (0 : Int) (0 : Int) false))
  (bif (decide ((0 : Int) ≤ x877)) then
  (bif (decide (x877 < ((x876.length) : Int))) then
  let v884 := (x876.getD (x877.toNat) (Fnl.mk (0 : Int) (0 : Int) false))
  (andThen (F39 n v880.at_ v880.saves v880.done v884.at_ v884.saves v884.done) fun r897 =>
  (bif (!r897.1) then
  (k0 false)
  else (rec x875 x876 (IntKind.wrap .i64 (x877 + (1 : Int))))))
  else none)
  else none)
  else none)
  else none)
  else k1)
noncomputable def F15_0_it {R : Type} (n : Nat) (k0 : Bool → Option R) (k1 : Option R) : Nat → List Fnl → List Fnl → Int → Option R
  | 0, _, _, _ => none
  | k + 1, x875, x876, x877 => F15_0_step n k0 k1 (F15_0_it n k0 k1 k) x875 x876 x877
noncomputable def F15_0 {R : Type} (n : Nat) (x875 : List Fnl) (x876 : List Fnl) (x877 : Int) (k0 : Bool → Option R) (k1 : Option R) : Option R := F15_0_it n k0 k1 n x875 x876 x877
noncomputable def F15_0z (n : Nat) : Sm G := inZ G 0 ⟨[0, 1, 5], []⟩ F15_0s fun R x K => F15_0_it n (fun u0 => K .ret (SSh.enc G F15_0x0 ((u0, ()), ()))) (K (.exit 0) (SSh.enc G F15_0x1 ((), ()))) n x.1.1 x.1.2.1 x.1.2.2.1
theorem F15_0_eq (n : Nat) (R : Type) (rec : SSh.den G F15_0s → Option R) (x : SSh.den G F15_0s) (K : AE → St G → Option R) :
  F15_0_step n (fun u0 => K .ret (SSh.enc G F15_0x0 ((u0, ()), ()))) (K (.exit 0) (SSh.enc G F15_0x1 ((), ()))) (fun x875 x876 x877 => rec ((x875, (x876, (x877, ()))), ())) x.1.1 x.1.2.1 x.1.2.2.1 = exec prog G (ro G (tabOf (E29 n)) (frOf []) R) 0 (codeAt F15c [1, 1, 0, 1, 0, 0]) .no (SSh.enc G F15_0s x) (kLoop G (ro G (tabOf (E29 n)) (frOf []) R) 0 ⟨[0, 1, 5], []⟩ F15_0s ⟨⟨[], []⟩, ⟨[4], []⟩, [(0, ⟨[], []⟩)]⟩ rec K) := by kernel_rfl
theorem F15_0_ok (n : Nat) : FragOK prog G 0 (codeAt F15c [1, 1, 0, 1, 0]) (F15_0z n) :=
  frag_loop (Z := fun R k (x : SSh.den G F15_0s) K => F15_0_it n (fun u0 => K .ret (SSh.enc G F15_0x0 ((u0, ()), ()))) (K (.exit 0) (SSh.enc G F15_0x1 ((), ()))) k x.1.1 x.1.2.1 x.1.2.2.1) laws fnok (E29_ok n).tab (AllF.of (l := []) (by kernel_rfl) AllF.nil) (fun _ _ _ => rfl) (fun R k y K => F15_0_eq n R (fun (x : SSh.den G F15_0s) => F15_0_it n (fun u0 => K .ret (SSh.enc G F15_0x0 ((u0, ()), ()))) (K (.exit 0) (SSh.enc G F15_0x1 ((), ()))) k x.1.1 x.1.2.1 x.1.2.2.1) y K) n
noncomputable def F15 (n : Nat) (a870 : List Fnl) (a871 : List Fnl) : Option (Bool × Unit) :=
  (bif (((a870.length) : Int) != ((a871.length) : Int)) then
  some (false, ())
  else (F15_0 n a870 a871 (0 : Int) (fun z900 =>
  some (z900, ())) (
  some (true, ()))))
noncomputable def F15e (n : Nat) : Ent G := ⟨15, (.cons (.imm 3) (.cons (.imm 3) .nil)), [], .bool, [], fun x y => F15 n x.1 x.2.1⟩
theorem F15_eq (n : Nat) (x : ShL.den G (.cons (.imm 3) (.cons (.imm 3) .nil))) (y : denO G []) : (F15e n).F x y = runFn prog G (ro G (tabOf (E29 n)) (frOf [F15_0z n]) _) Go.Proofs.Try.f15 (.nd .no (.nd .no (.nd (.nd .no (.nd (.use 0) .no)) .no))) [(0, .fz)] (ShL.enc G (.cons (.imm 3) (.cons (.imm 3) .nil)) x) (encO G [] y) (decR .bool []) := by kernel_rfl
theorem F15_ok (n : Nat) : EntOK prog G (F15e n) :=
  ent_ok (fr := frOf [F15_0z n]) (ann := (.nd .no (.nd .no (.nd (.nd .no (.nd (.use 0) .no)) .no)))) (frm := [(0, .fz)]) laws fnok (E29_ok n).tab (e := F15e n) (fn := Go.Proofs.Try.f15) (by kernel_rfl) (AllF.ofB (cd := F15c) (l := [(0, codeAt F15c [1, 1, 0, 1, 0])]) (by kernel_rfl) (by kernel_rfl) (AllF.cons (F15_0_ok n) AllF.nil)) (F15_eq n)
noncomputable def E30 (n : Nat) : List (Ent G) := F15e n :: E29 n
theorem E30_ok (n : Nat) : AllE prog G (E30 n) := AllE.cons (F15_ok n) (E29_ok n)
noncomputable def F12 (n : Nat) (a839 : List Int) (a840 : List Int) (a841 : List Int) (a842 : List Fnl) (a843 : List Int) (a844 : List Int) (a845 : List Int) (a846 : List Fnl) : Option (Bool × Unit) :=
  (andThen (F14 n a839 a843) fun r864 =>
  (bif (!r864.1) then
  some (false, ())
  else (andThen (F14 n a840 a844) fun r866 =>
  (bif (!r866.1) then
  some (false, ())
  else (andThen (F14 n a841 a845) fun r868 =>
  (bif (!r868.1) then
  some (false, ())
  else (andThen (F15 n a842 a846) fun r901 =>
  (bif (!r901.1) then
  some (false, ())
  else some (true, ())))))))))
noncomputable def F12e (n : Nat) : Ent G := ⟨12, (.cons (.agg (.cons (.imm 0) (.cons (.imm 0) (.cons (.imm 0) (.cons (.imm 3) .nil))))) (.cons (.agg (.cons (.imm 0) (.cons (.imm 0) (.cons (.imm 0) (.cons (.imm 3) .nil))))) .nil)), [], .bool, [], fun x y => F12 n x.1.1 x.1.2.1 x.1.2.2.1 x.1.2.2.2.1 x.2.1.1 x.2.1.2.1 x.2.1.2.2.1 x.2.1.2.2.2.1⟩
theorem F12_eq (n : Nat) (x : ShL.den G (.cons (.agg (.cons (.imm 0) (.cons (.imm 0) (.cons (.imm 0) (.cons (.imm 3) .nil))))) (.cons (.agg (.cons (.imm 0) (.cons (.imm 0) (.cons (.imm 0) (.cons (.imm 3) .nil))))) .nil))) (y : denO G []) : (F12e n).F x y = runFn prog G (ro G (tabOf (E30 n)) (frOf []) _) Go.Proofs.Try.f12 .no [(0, .fz)] (ShL.enc G (.cons (.agg (.cons (.imm 0) (.cons (.imm 0) (.cons (.imm 0) (.cons (.imm 3) .nil))))) (.cons (.agg (.cons (.imm 0) (.cons (.imm 0) (.cons (.imm 0) (.cons (.imm 3) .nil))))) .nil)) x) (encO G [] y) (decR .bool []) := by kernel_rfl
theorem F12_ok (n : Nat) : EntOK prog G (F12e n) :=
  ent_ok (fr := frOf []) (ann := .no) (frm := [(0, .fz)]) laws fnok (E30_ok n).tab (e := F12e n) (fn := Go.Proofs.Try.f12) (by kernel_rfl) (AllF.ofB (cd := F12c) (l := []) (by kernel_rfl) (by kernel_rfl) AllF.nil) (F12_eq n)
noncomputable def E31 (n : Nat) : List (Ent G) := F12e n :: E30 n
theorem E31_ok (n : Nat) : AllE prog G (E31 n) := AllE.cons (F12_ok n) (E30_ok n)
-- 13 loop.example/slowworm/laws.eqIntSS
noncomputable def F13c : Code := bodyOf Go.Proofs.Try.f13
noncomputable def F13_0x0 : SSh := ⟨27, [(4, .bool)], []⟩
noncomputable def F13_0x1 : SSh := ⟨27, [], []⟩
noncomputable def F13_0s : SSh := ⟨27, [(0, (.imm 2)), (1, (.imm 2)), (5, (.int .i64))], []⟩
noncomputable def F13_0_step {R : Type} (n : Nat) (k0 : Bool → Option R) (k1 : Option R) (rec : List (List Int) → List (List Int) → Int → Option R) (x912 : List (List Int)) (x913 : List (List Int)) (x914 : Int) : Option R :=
  (bif (decide (x914 < ((x912.length) : Int))) then
  (bif (decide ((0 : Int) ≤ x914)) then
  (bif (decide (x914 < ((x912.length) : Int))) then
  (bif (decide ((0 : Int) ≤ x914)) then
  (bif (decide (x914 < ((x913.length) : Int))) then
  (andThen (F14 n (x912.getD (x914.toNat) []) (x913.getD (x914.toNat) [])) fun r921 =>
  (bif (!r921.1) then
  (k0 false)
  else (rec x912 x913 (IntKind.wrap .i64 (x914 + (1 : Int))))))
  else none)
  else none)
  else none)
  else none)
  else k1)
noncomputable def F13_0_it {R : Type} (n : Nat) (k0 : Bool → Option R) (k1 : Option R) : Nat → List (List Int) → List (List Int) → Int → Option R
  | 0, _, _, _ => none
  | k + 1, x912, x913, x914 => F13_0_step n k0 k1 (F13_0_it n k0 k1 k) x912 x913 x914
noncomputable def F13_0 {R : Type} (n : Nat) (x912 : List (List Int)) (x913 : List (List Int)) (x914 : Int) (k0 : Bool → Option R) (k1 : Option R) : Option R := F13_0_it n k0 k1 n x912 x913 x914
noncomputable def F13_0z (n : Nat) : Sm G := inZ G 0 ⟨[0, 1, 5], []⟩ F13_0s fun R x K => F13_0_it n (fun u0 => K .ret (SSh.enc G F13_0x0 ((u0, ()), ()))) (K (.exit 0) (SSh.enc G F13_0x1 ((), ()))) n x.1.1 x.1.2.1 x.1.2.2.1
theorem F13_0_eq (n : Nat) (R : Type) (rec : SSh.den G F13_0s → Option R) (x : SSh.den G F13_0s) (K : AE → St G → Option R) :
  F13_0_step n (fun u0 => K .ret (SSh.enc G F13_0x0 ((u0, ()), ()))) (K (.exit 0) (SSh.enc G F13_0x1 ((), ()))) (fun x912 x913 x914 => rec ((x912, (x913, (x914, ()))), ())) x.1.1 x.1.2.1 x.1.2.2.1 = exec prog G (ro G (tabOf (E31 n)) (frOf []) R) 0 (codeAt F13c [1, 1, 0, 1, 0, 0]) .no (SSh.enc G F13_0s x) (kLoop G (ro G (tabOf (E31 n)) (frOf []) R) 0 ⟨[0, 1, 5], []⟩ F13_0s ⟨⟨[], []⟩, ⟨[4], []⟩, [(0, ⟨[], []⟩)]⟩ rec K) := by kernel_rfl
theorem F13_0_ok (n : Nat) : FragOK prog G 0 (codeAt F13c [1, 1, 0, 1, 0]) (F13_0z n) :=
  frag_loop (Z := fun R k (x : SSh.den G F13_0s) K => F13_0_it n (fun u0 => K .ret (SSh.enc G F13_0x0 ((u0, ()), ()))) (K (.exit 0) (SSh.enc G F13_0x1 ((), ()))) k x.1.1 x.1.2.1 x.1.2.2.1) laws fnok (E31_ok n).tab (AllF.of (l := []) (by kernel_rfl) AllF.nil) (fun _ _ _ => rfl) (fun R k y K => F13_0_eq n R (fun (x : SSh.den G F13_0s) => F13_0_it n (fun u0 => K .ret (SSh.enc G F13_0x0 ((u0, ()), ()))) (K (.exit 0) (SSh.enc G F13_0x1 ((), ()))) k x.1.1 x.1.2.1 x.1.2.2.1) y K) n
noncomputable def F13 (n : Nat) (a907 : List (List Int)) (a908 : List (List Int)) : Option (Bool × Unit) :=
  (bif (((a907.length) : Int) != ((a908.length) : Int)) then
  some (false, ())
  else (F13_0 n a907 a908 (0 : Int) (fun z924 =>
  some (z924, ())) (
  some (true, ()))))
noncomputable def F13e (n : Nat) : Ent G := ⟨13, (.cons (.imm 2) (.cons (.imm 2) .nil)), [], .bool, [], fun x y => F13 n x.1 x.2.1⟩
theorem F13_eq (n : Nat) (x : ShL.den G (.cons (.imm 2) (.cons (.imm 2) .nil))) (y : denO G []) : (F13e n).F x y = runFn prog G (ro G (tabOf (E31 n)) (frOf [F13_0z n]) _) Go.Proofs.Try.f13 (.nd .no (.nd .no (.nd (.nd .no (.nd (.use 0) .no)) .no))) [(0, .fz)] (ShL.enc G (.cons (.imm 2) (.cons (.imm 2) .nil)) x) (encO G [] y) (decR .bool []) := by kernel_rfl
theorem F13_ok (n : Nat) : EntOK prog G (F13e n) :=
  ent_ok (fr := frOf [F13_0z n]) (ann := (.nd .no (.nd .no (.nd (.nd .no (.nd (.use 0) .no)) .no)))) (frm := [(0, .fz)]) laws fnok (E31_ok n).tab (e := F13e n) (fn := Go.Proofs.Try.f13) (by kernel_rfl) (AllF.ofB (cd := F13c) (l := [(0, codeAt F13c [1, 1, 0, 1, 0])]) (by kernel_rfl) (by kernel_rfl) (AllF.cons (F13_0_ok n) AllF.nil)) (F13_eq n)
noncomputable def E32 (n : Nat) : List (Ent G) := F13e n :: E31 n
theorem E32_ok (n : Nat) : AllE prog G (E32 n) := AllE.cons (F13_ok n) (E31_ok n)
-- 16 loop.example/slowworm/laws.markIntSS
noncomputable def F16c : Code := bodyOf Go.Proofs.Try.f16
-- 17 loop.example/slowworm/laws.markIntS
noncomputable def F17c : Code := bodyOf Go.Proofs.Try.f17
noncomputable def F17_0x0 : SSh := ⟨19, [(1, (.int .i64))], [(.usr 1)]⟩
noncomputable def F17_0s : SSh := ⟨19, [(0, (.jk 0 0)), (1, (.int .i64)), (5, (.int .i64))], [(.usr 1)]⟩
noncomputable def F17_0_step {R : Type} (n : Nat) (k0 : Int → Unit → Option R) (rec : List Int → Int → Int → Unit → Option R) (x947 : List Int) (x948 : Int) (x949 : Int) (x950 : Unit) : Option R :=
  (bif (decide (x949 < ((x947.length) : Int))) then
  (bif (decide ((0 : Int) ≤ x949)) then
  (bif (decide (x949 < ((x947.length) : Int))) then
  (rec x947 (IntKind.wrap .i64 (x948 + (1 : Int))) (IntKind.wrap .i64 (x949 + (1 : Int))) ())
  else none)
  else none)
  else (k0 x948 x950))
noncomputable def F17_0_it {R : Type} (n : Nat) (k0 : Int → Unit → Option R) : Nat → List Int → Int → Int → Unit → Option R
  | 0, _, _, _, _ => none
  | k + 1, x947, x948, x949, x950 => F17_0_step n k0 (F17_0_it n k0 k) x947 x948 x949 x950
noncomputable def F17_0 {R : Type} (n : Nat) (x947 : List Int) (x948 : Int) (x949 : Int) (x950 : Unit) (k0 : Int → Unit → Option R) : Option R := F17_0_it n k0 n x947 x948 x949 x950
noncomputable def F17_0z (n : Nat) : Sm G := inZ G 1 ⟨[0, 1, 5], []⟩ F17_0s fun R x K => F17_0_it n (fun u0 u1 => K (.exit 0) (SSh.enc G F17_0x0 ((u0, ()), (u1, ())))) n x.1.1 x.1.2.1 x.1.2.2.1 x.2.1
theorem F17_0_eq (n : Nat) (R : Type) (rec : SSh.den G F17_0s → Option R) (x : SSh.den G F17_0s) (K : AE → St G → Option R) :
  F17_0_step n (fun u0 u1 => K (.exit 0) (SSh.enc G F17_0x0 ((u0, ()), (u1, ())))) (fun x947 x948 x949 x950 => rec ((x947, (x948, (x949, ()))), (x950, ()))) x.1.1 x.1.2.1 x.1.2.2.1 x.2.1 = exec prog G (ro G (tabOf (E32 n)) (frOf []) R) 1 (codeAt F17c [1, 0, 1, 0, 0]) .no (SSh.enc G F17_0s x) (kLoop G (ro G (tabOf (E32 n)) (frOf []) R) 1 ⟨[0, 1, 5], []⟩ F17_0s ⟨⟨[1], []⟩, ⟨[4], []⟩, [(0, ⟨[1], []⟩)]⟩ rec K) := by kernel_rfl
theorem F17_0_ok (n : Nat) : FragOK prog G 1 (codeAt F17c [1, 0, 1, 0]) (F17_0z n) :=
  frag_loop (Z := fun R k (x : SSh.den G F17_0s) K => F17_0_it n (fun u0 u1 => K (.exit 0) (SSh.enc G F17_0x0 ((u0, ()), (u1, ())))) k x.1.1 x.1.2.1 x.1.2.2.1 x.2.1) laws fnok (E32_ok n).tab (AllF.of (l := []) (by kernel_rfl) AllF.nil) (fun _ _ _ => rfl) (fun R k y K => F17_0_eq n R (fun (x : SSh.den G F17_0s) => F17_0_it n (fun u0 u1 => K (.exit 0) (SSh.enc G F17_0x0 ((u0, ()), (u1, ())))) k x.1.1 x.1.2.1 x.1.2.2.1 x.2.1) y K) n
noncomputable def F17 (n : Nat) (a944 : List Int) (a945 : Int) (a946 : Unit) : Option (Int × (Unit × Unit)) :=
  (F17_0 n a944 a945 (0 : Int) a946 (fun z956 z957 =>
  some (z956, (z957, ()))))
noncomputable def F17e (n : Nat) : Ent G := ⟨17, (.cons (.jk 0 0) (.cons (.int .i64) .nil)), [(.usr 1)], (.int .i64), [(.usr 1)], fun x y => F17 n x.1 x.2.1 y.1⟩
theorem F17_eq (n : Nat) (x : ShL.den G (.cons (.jk 0 0) (.cons (.int .i64) .nil))) (y : denO G [(.usr 1)]) : (F17e n).F x y = runFn prog G (ro G (tabOf (E32 n)) (frOf [F17_0z n]) _) Go.Proofs.Try.f17 (.nd .no (.nd (.nd .no (.nd (.use 0) .no)) .no)) [(0, .fz)] (ShL.enc G (.cons (.jk 0 0) (.cons (.int .i64) .nil)) x) (encO G [(.usr 1)] y) (decR (.int .i64) [(.usr 1)]) := by kernel_rfl
theorem F17_ok (n : Nat) : EntOK prog G (F17e n) :=
  ent_ok (fr := frOf [F17_0z n]) (ann := (.nd .no (.nd (.nd .no (.nd (.use 0) .no)) .no))) (frm := [(0, .fz)]) laws fnok (E32_ok n).tab (e := F17e n) (fn := Go.Proofs.Try.f17) (by kernel_rfl) (AllF.ofB (cd := F17c) (l := [(0, codeAt F17c [1, 0, 1, 0])]) (by kernel_rfl) (by kernel_rfl) (AllF.cons (F17_0_ok n) AllF.nil)) (F17_eq n)
noncomputable def E33 (n : Nat) : List (Ent G) := F17e n :: E32 n
theorem E33_ok (n : Nat) : AllE prog G (E33 n) := AllE.cons (F17_ok n) (E32_ok n)
noncomputable def F16_0x0 : SSh := ⟨19, [(1, (.int .i64))], [(.usr 1)]⟩
noncomputable def F16_0s : SSh := ⟨19, [(0, (.jk 0 2)), (1, (.int .i64)), (5, (.int .i64))], [(.usr 1)]⟩
noncomputable def F16_0_step {R : Type} (n : Nat) (k0 : Int → Unit → Option R) (rec : List (List Int) → Int → Int → Unit → Option R) (x936 : List (List Int)) (x937 : Int) (x938 : Int) (x939 : Unit) : Option R :=
  (bif (decide (x938 < ((x936.length) : Int))) then
  (bif (decide ((0 : Int) ≤ x938)) then
  (bif (decide (x938 < ((x936.length) : Int))) then
  (andThen (F17 n (x936.getD (x938.toNat) []) x937 x939) fun r958 =>
  (rec x936 r958.1 (IntKind.wrap .i64 (x938 + (1 : Int))) r958.2.1))
  else none)
  else none)
  else (k0 x937 x939))
noncomputable def F16_0_it {R : Type} (n : Nat) (k0 : Int → Unit → Option R) : Nat → List (List Int) → Int → Int → Unit → Option R
  | 0, _, _, _, _ => none
  | k + 1, x936, x937, x938, x939 => F16_0_step n k0 (F16_0_it n k0 k) x936 x937 x938 x939
noncomputable def F16_0 {R : Type} (n : Nat) (x936 : List (List Int)) (x937 : Int) (x938 : Int) (x939 : Unit) (k0 : Int → Unit → Option R) : Option R := F16_0_it n k0 n x936 x937 x938 x939
noncomputable def F16_0z (n : Nat) : Sm G := inZ G 1 ⟨[0, 1, 5], []⟩ F16_0s fun R x K => F16_0_it n (fun u0 u1 => K (.exit 0) (SSh.enc G F16_0x0 ((u0, ()), (u1, ())))) n x.1.1 x.1.2.1 x.1.2.2.1 x.2.1
theorem F16_0_eq (n : Nat) (R : Type) (rec : SSh.den G F16_0s → Option R) (x : SSh.den G F16_0s) (K : AE → St G → Option R) :
  F16_0_step n (fun u0 u1 => K (.exit 0) (SSh.enc G F16_0x0 ((u0, ()), (u1, ())))) (fun x936 x937 x938 x939 => rec ((x936, (x937, (x938, ()))), (x939, ()))) x.1.1 x.1.2.1 x.1.2.2.1 x.2.1 = exec prog G (ro G (tabOf (E33 n)) (frOf []) R) 1 (codeAt F16c [1, 0, 1, 0, 0]) .no (SSh.enc G F16_0s x) (kLoop G (ro G (tabOf (E33 n)) (frOf []) R) 1 ⟨[0, 1, 5], []⟩ F16_0s ⟨⟨[1], []⟩, ⟨[4], []⟩, [(0, ⟨[1], []⟩)]⟩ rec K) := by kernel_rfl
theorem F16_0_ok (n : Nat) : FragOK prog G 1 (codeAt F16c [1, 0, 1, 0]) (F16_0z n) :=
  frag_loop (Z := fun R k (x : SSh.den G F16_0s) K => F16_0_it n (fun u0 u1 => K (.exit 0) (SSh.enc G F16_0x0 ((u0, ()), (u1, ())))) k x.1.1 x.1.2.1 x.1.2.2.1 x.2.1) laws fnok (E33_ok n).tab (AllF.of (l := []) (by kernel_rfl) AllF.nil) (fun _ _ _ => rfl) (fun R k y K => F16_0_eq n R (fun (x : SSh.den G F16_0s) => F16_0_it n (fun u0 u1 => K (.exit 0) (SSh.enc G F16_0x0 ((u0, ()), (u1, ())))) k x.1.1 x.1.2.1 x.1.2.2.1 x.2.1) y K) n
noncomputable def F16 (n : Nat) (a933 : List (List Int)) (a934 : Int) (a935 : Unit) : Option (Int × (Unit × Unit)) :=
  (F16_0 n a933 a934 (0 : Int) a935 (fun z960 z961 =>
  some (z960, (z961, ()))))
noncomputable def F16e (n : Nat) : Ent G := ⟨16, (.cons (.jk 0 2) (.cons (.int .i64) .nil)), [(.usr 1)], (.int .i64), [(.usr 1)], fun x y => F16 n x.1 x.2.1 y.1⟩
theorem F16_eq (n : Nat) (x : ShL.den G (.cons (.jk 0 2) (.cons (.int .i64) .nil))) (y : denO G [(.usr 1)]) : (F16e n).F x y = runFn prog G (ro G (tabOf (E33 n)) (frOf [F16_0z n]) _) Go.Proofs.Try.f16 (.nd .no (.nd (.nd .no (.nd (.use 0) .no)) .no)) [(0, .fz)] (ShL.enc G (.cons (.jk 0 2) (.cons (.int .i64) .nil)) x) (encO G [(.usr 1)] y) (decR (.int .i64) [(.usr 1)]) := by kernel_rfl
theorem F16_ok (n : Nat) : EntOK prog G (F16e n) :=
  ent_ok (fr := frOf [F16_0z n]) (ann := (.nd .no (.nd (.nd .no (.nd (.use 0) .no)) .no))) (frm := [(0, .fz)]) laws fnok (E33_ok n).tab (e := F16e n) (fn := Go.Proofs.Try.f16) (by kernel_rfl) (AllF.ofB (cd := F16c) (l := [(0, codeAt F16c [1, 0, 1, 0])]) (by kernel_rfl) (by kernel_rfl) (AllF.cons (F16_0_ok n) AllF.nil)) (F16_eq n)
noncomputable def E34 (n : Nat) : List (Ent G) := F16e n :: E33 n
theorem E34_ok (n : Nat) : AllE prog G (E34 n) := AllE.cons (F16_ok n) (E33_ok n)
-- 17 loop.example/slowworm/laws.markIntS
noncomputable def F17v1c : Code := bodyOf Go.Proofs.Try.f17
noncomputable def F17v1_0x0 : SSh := ⟨19, [(1, (.int .i64))], [(.arr 0 true)]⟩
noncomputable def F17v1_0s : SSh := ⟨19, [(0, (.own 0)), (1, (.int .i64)), (5, (.int .i64))], [(.arr 0 true)]⟩
noncomputable def F17v1_0_step {R : Type} (n : Nat) (k0 : Int → List Int → Option R) (rec : Int → Int → List Int → Option R) (x965 : Int) (x966 : Int) (x967 : List Int) : Option R :=
  (bif (decide (x966 < ((x967.length) : Int))) then
  (bif (decide ((0 : Int) ≤ x966)) then
  (bif (decide (x966 < ((x967.length) : Int))) then
  (rec (IntKind.wrap .i64 (x965 + (1 : Int))) (IntKind.wrap .i64 (x966 + (1 : Int))) (x967.set (x966.toNat) x965))
  else none)
  else none)
  else (k0 x965 x967))
noncomputable def F17v1_0_it {R : Type} (n : Nat) (k0 : Int → List Int → Option R) : Nat → Int → Int → List Int → Option R
  | 0, _, _, _ => none
  | k + 1, x965, x966, x967 => F17v1_0_step n k0 (F17v1_0_it n k0 k) x965 x966 x967
noncomputable def F17v1_0 {R : Type} (n : Nat) (x965 : Int) (x966 : Int) (x967 : List Int) (k0 : Int → List Int → Option R) : Option R := F17v1_0_it n k0 n x965 x966 x967
noncomputable def F17v1_0z (n : Nat) : Sm G := inZ G 1 ⟨[0, 1, 5], []⟩ F17v1_0s fun R x K => F17v1_0_it n (fun u0 u1 => K (.exit 0) (SSh.enc G F17v1_0x0 ((u0, ()), (u1, ())))) n x.1.2.1 x.1.2.2.1 x.2.1
theorem F17v1_0_eq (n : Nat) (R : Type) (rec : SSh.den G F17v1_0s → Option R) (x : SSh.den G F17v1_0s) (K : AE → St G → Option R) :
  F17v1_0_step n (fun u0 u1 => K (.exit 0) (SSh.enc G F17v1_0x0 ((u0, ()), (u1, ())))) (fun x965 x966 x967 => rec (((), (x965, (x966, ()))), (x967, ()))) x.1.2.1 x.1.2.2.1 x.2.1 = exec prog G (ro G (tabOf (E34 n)) (frOf []) R) 1 (codeAt F17v1c [1, 0, 1, 0, 0]) .no (SSh.enc G F17v1_0s x) (kLoop G (ro G (tabOf (E34 n)) (frOf []) R) 1 ⟨[0, 1, 5], []⟩ F17v1_0s ⟨⟨[1], []⟩, ⟨[4], []⟩, [(0, ⟨[1], []⟩)]⟩ rec K) := by kernel_rfl
theorem F17v1_0_ok (n : Nat) : FragOK prog G 1 (codeAt F17v1c [1, 0, 1, 0]) (F17v1_0z n) :=
  frag_loop (Z := fun R k (x : SSh.den G F17v1_0s) K => F17v1_0_it n (fun u0 u1 => K (.exit 0) (SSh.enc G F17v1_0x0 ((u0, ()), (u1, ())))) k x.1.2.1 x.1.2.2.1 x.2.1) laws fnok (E34_ok n).tab (AllF.of (l := []) (by kernel_rfl) AllF.nil) (fun _ _ _ => rfl) (fun R k y K => F17v1_0_eq n R (fun (x : SSh.den G F17v1_0s) => F17v1_0_it n (fun u0 u1 => K (.exit 0) (SSh.enc G F17v1_0x0 ((u0, ()), (u1, ())))) k x.1.2.1 x.1.2.2.1 x.2.1) y K) n
noncomputable def F17v1 (n : Nat) (a963 : Int) (a964 : List Int) : Option (Int × (List Int × Unit)) :=
  (F17v1_0 n a963 (0 : Int) a964 (fun z974 z975 =>
  some (z974, (z975, ()))))
noncomputable def F17v1e (n : Nat) : Ent G := ⟨17, (.cons (.own 0) (.cons (.int .i64) .nil)), [(.arr 0 true)], (.int .i64), [(.arr 0 true)], fun x y => F17v1 n x.2.1 y.1⟩
theorem F17v1_eq (n : Nat) (x : ShL.den G (.cons (.own 0) (.cons (.int .i64) .nil))) (y : denO G [(.arr 0 true)]) : (F17v1e n).F x y = runFn prog G (ro G (tabOf (E34 n)) (frOf [F17v1_0z n]) _) Go.Proofs.Try.f17 (.nd .no (.nd (.nd .no (.nd (.use 0) .no)) .no)) [(0, .fz)] (ShL.enc G (.cons (.own 0) (.cons (.int .i64) .nil)) x) (encO G [(.arr 0 true)] y) (decR (.int .i64) [(.arr 0 true)]) := by kernel_rfl
theorem F17v1_ok (n : Nat) : EntOK prog G (F17v1e n) :=
  ent_ok (fr := frOf [F17v1_0z n]) (ann := (.nd .no (.nd (.nd .no (.nd (.use 0) .no)) .no))) (frm := [(0, .fz)]) laws fnok (E34_ok n).tab (e := F17v1e n) (fn := Go.Proofs.Try.f17) (by kernel_rfl) (AllF.ofB (cd := F17v1c) (l := [(0, codeAt F17v1c [1, 0, 1, 0])]) (by kernel_rfl) (by kernel_rfl) (AllF.cons (F17v1_0_ok n) AllF.nil)) (F17v1_eq n)
noncomputable def E35 (n : Nat) : List (Ent G) := F17v1e n :: E34 n
theorem E35_ok (n : Nat) : AllE prog G (E35 n) := AllE.cons (F17v1_ok n) (E34_ok n)
-- 18 loop.example/slowworm/laws.markFinalS
noncomputable def F18c : Code := bodyOf Go.Proofs.Try.f18
noncomputable def F18_0x0 : SSh := ⟨36, [(1, (.int .i64))], [(.arr 3 true)]⟩
noncomputable def F18_0s : SSh := ⟨36, [(0, (.own 0)), (1, (.int .i64)), (5, (.int .i64))], [(.arr 3 true)]⟩
noncomputable def F18_0_step {R : Type} (n : Nat) (k0 : Int → List Fnl → Option R) (rec : Int → Int → List Fnl → Option R) (x979 : Int) (x980 : Int) (x981 : List Fnl) : Option R :=
  (bif (decide (x980 < ((x981.length) : Int))) then
  (bif (decide ((0 : Int) ≤ x980)) then
  (bif (decide (x980 < ((x981.length) : Int))) then
  let v984 := (x980.toNat)
  let v985 := (x981.set v984 (Fnl.mk x979 (x981.getD v984 (Fnl.mk (0 : Int) (0 : Int) false)).saves (x981.getD v984 (Fnl.mk (0 : Int) (0 : Int) false)).done))
  let v986 := (IntKind.wrap .i64 (x979 + (1 : Int)))
  (bif (decide ((0 : Int) ≤ x980)) then
  (bif (decide (x980 < ((v985.length) : Int))) then
  let v987 := (x980.toNat)
  let v988 := (v985.set v987 (Fnl.mk (v985.getD v987 (Fnl.mk (0 : Int) (0 : Int) false)).at_ v986 (v985.getD v987 (Fnl.mk (0 : Int) (0 : Int) false)).done))
  let v989 := (IntKind.wrap .i64 (v986 + (1 : Int)))
  (bif (decide ((0 : Int) ≤ x980)) then
  (bif (decide (x980 < ((v988.length) : Int))) then
  let v992 := (x980.toNat)
  (rec (IntKind.wrap .i64 (v989 + (1 : Int))) (IntKind.wrap .i64 (x980 + (1 : Int))) (v988.set v992 (Fnl.mk (v988.getD v992 (Fnl.mk (0 : Int) (0 : Int) false)).at_ (v988.getD v992 (Fnl.mk (0 : Int) (0 : Int) false)).saves ((v989.tmod (3 : Int)) == (0 : Int)))))
  else none)
  else none)
  else none)
  else none)
  else none)
  else none)
  else (k0 x979 x981))
noncomputable def F18_0_it {R : Type} (n : Nat) (k0 : Int → List Fnl → Option R) : Nat → Int → Int → List Fnl → Option R
  | 0, _, _, _ => none
  | k + 1, x979, x980, x981 => F18_0_step n k0 (F18_0_it n k0 k) x979 x980 x981
noncomputable def F18_0 {R : Type} (n : Nat) (x979 : Int) (x980 : Int) (x981 : List Fnl) (k0 : Int → List Fnl → Option R) : Option R := F18_0_it n k0 n x979 x980 x981
noncomputable def F18_0z (n : Nat) : Sm G := inZ G 1 ⟨[0, 1, 5], []⟩ F18_0s fun R x K => F18_0_it n (fun u0 u1 => K (.exit 0) (SSh.enc G F18_0x0 ((u0, ()), (u1, ())))) n x.1.2.1 x.1.2.2.1 x.2.1
theorem F18_0_eq (n : Nat) (R : Type) (rec : SSh.den G F18_0s → Option R) (x : SSh.den G F18_0s) (K : AE → St G → Option R) :
  F18_0_step n (fun u0 u1 => K (.exit 0) (SSh.enc G F18_0x0 ((u0, ()), (u1, ())))) (fun x979 x980 x981 => rec (((), (x979, (x980, ()))), (x981, ()))) x.1.2.1 x.1.2.2.1 x.2.1 = exec prog G (ro G (tabOf (E35 n)) (frOf []) R) 1 (codeAt F18c [1, 0, 1, 0, 0]) .no (SSh.enc G F18_0s x) (kLoop G (ro G (tabOf (E35 n)) (frOf []) R) 1 ⟨[0, 1, 5], []⟩ F18_0s ⟨⟨[1], []⟩, ⟨[4], []⟩, [(0, ⟨[1], []⟩)]⟩ rec K) := by kernel_rfl
theorem F18_0_ok (n : Nat) : FragOK prog G 1 (codeAt F18c [1, 0, 1, 0]) (F18_0z n) :=
  frag_loop (Z := fun R k (x : SSh.den G F18_0s) K => F18_0_it n (fun u0 u1 => K (.exit 0) (SSh.enc G F18_0x0 ((u0, ()), (u1, ())))) k x.1.2.1 x.1.2.2.1 x.2.1) laws fnok (E35_ok n).tab (AllF.of (l := []) (by kernel_rfl) AllF.nil) (fun _ _ _ => rfl) (fun R k y K => F18_0_eq n R (fun (x : SSh.den G F18_0s) => F18_0_it n (fun u0 u1 => K (.exit 0) (SSh.enc G F18_0x0 ((u0, ()), (u1, ())))) k x.1.2.1 x.1.2.2.1 x.2.1) y K) n
noncomputable def F18 (n : Nat) (a977 : Int) (a978 : List Fnl) : Option (Int × (List Fnl × Unit)) :=
  (F18_0 n a977 (0 : Int) a978 (fun z996 z997 =>
  some (z996, (z997, ()))))
noncomputable def F18e (n : Nat) : Ent G := ⟨18, (.cons (.own 0) (.cons (.int .i64) .nil)), [(.arr 3 true)], (.int .i64), [(.arr 3 true)], fun x y => F18 n x.2.1 y.1⟩
theorem F18_eq (n : Nat) (x : ShL.den G (.cons (.own 0) (.cons (.int .i64) .nil))) (y : denO G [(.arr 3 true)]) : (F18e n).F x y = runFn prog G (ro G (tabOf (E35 n)) (frOf [F18_0z n]) _) Go.Proofs.Try.f18 (.nd .no (.nd (.nd .no (.nd (.use 0) .no)) .no)) [(0, .fz)] (ShL.enc G (.cons (.own 0) (.cons (.int .i64) .nil)) x) (encO G [(.arr 3 true)] y) (decR (.int .i64) [(.arr 3 true)]) := by kernel_rfl
theorem F18_ok (n : Nat) : EntOK prog G (F18e n) :=
  ent_ok (fr := frOf [F18_0z n]) (ann := (.nd .no (.nd (.nd .no (.nd (.use 0) .no)) .no))) (frm := [(0, .fz)]) laws fnok (E35_ok n).tab (e := F18e n) (fn := Go.Proofs.Try.f18) (by kernel_rfl) (AllF.ofB (cd := F18c) (l := [(0, codeAt F18c [1, 0, 1, 0])]) (by kernel_rfl) (by kernel_rfl) (AllF.cons (F18_0_ok n) AllF.nil)) (F18_eq n)
noncomputable def E36 (n : Nat) : List (Ent G) := F18e n :: E35 n
theorem E36_ok (n : Nat) : AllE prog G (E36 n) := AllE.cons (F18_ok n) (E35_ok n)
-- 19 loop.example/slowworm/laws.markSweep
noncomputable def F19c : Code := bodyOf Go.Proofs.Try.f19
noncomputable def F19 (n : Nat) (a1002 : Int) (a1003 : List Int) (a1004 : List Int) (a1005 : List Int) (a1006 : List Fnl) : Option (Int × (List Int × (List Int × (List Int × (List Fnl × Unit))))) :=
  (andThen (F17v1 n a1002 a1003) fun r1007 =>
  (andThen (F17v1 n r1007.1 a1004) fun r1008 =>
  (andThen (F17v1 n r1008.1 a1005) fun r1009 =>
  (andThen (F18 n r1009.1 a1006) fun r1010 =>
  some (r1010.1, (r1007.2.1, (r1008.2.1, (r1009.2.1, (r1010.2.1, ())))))))))
noncomputable def F19e (n : Nat) : Ent G := ⟨19, (.cons (.agg (.cons (.own 0) (.cons (.own 1) (.cons (.own 2) (.cons (.own 3) .nil))))) (.cons (.int .i64) .nil)), [(.arr 0 true), (.arr 0 true), (.arr 0 true), (.arr 3 true)], (.int .i64), [(.arr 0 true), (.arr 0 true), (.arr 0 true), (.arr 3 true)], fun x y => F19 n x.2.1 y.1 y.2.1 y.2.2.1 y.2.2.2.1⟩
theorem F19_eq (n : Nat) (x : ShL.den G (.cons (.agg (.cons (.own 0) (.cons (.own 1) (.cons (.own 2) (.cons (.own 3) .nil))))) (.cons (.int .i64) .nil))) (y : denO G [(.arr 0 true), (.arr 0 true), (.arr 0 true), (.arr 3 true)]) : (F19e n).F x y = runFn prog G (ro G (tabOf (E36 n)) (frOf []) _) Go.Proofs.Try.f19 .no [(0, .fz)] (ShL.enc G (.cons (.agg (.cons (.own 0) (.cons (.own 1) (.cons (.own 2) (.cons (.own 3) .nil))))) (.cons (.int .i64) .nil)) x) (encO G [(.arr 0 true), (.arr 0 true), (.arr 0 true), (.arr 3 true)] y) (decR (.int .i64) [(.arr 0 true), (.arr 0 true), (.arr 0 true), (.arr 3 true)]) := by kernel_rfl
theorem F19_ok (n : Nat) : EntOK prog G (F19e n) :=
  ent_ok (fr := frOf []) (ann := .no) (frm := [(0, .fz)]) laws fnok (E36_ok n).tab (e := F19e n) (fn := Go.Proofs.Try.f19) (by kernel_rfl) (AllF.ofB (cd := F19c) (l := []) (by kernel_rfl) (by kernel_rfl) AllF.nil) (F19_eq n)
noncomputable def E37 (n : Nat) : List (Ent G) := F19e n :: E36 n
theorem E37_ok (n : Nat) : AllE prog G (E37 n) := AllE.cons (F19_ok n) (E36_ok n)
-- 20 loop.example/slowworm/laws.heldSweep
noncomputable def F20c : Code := bodyOf Go.Proofs.Try.f20
-- 40 loop.example/slowworm/laws.heldIntS
noncomputable def F40c : Code := bodyOf Go.Proofs.Try.f40
noncomputable def F40_0x0 : SSh := ⟨21, [(4, (.int .i64))], []⟩
noncomputable def F40_0x1 : SSh := ⟨21, [(1, (.int .i64))], []⟩
noncomputable def F40_0s : SSh := ⟨21, [(0, (.imm 0)), (1, (.int .i64)), (5, (.int .i64))], []⟩
noncomputable def F40_0_step {R : Type} (n : Nat) (k0 : Int → Option R) (k1 : Int → Option R) (rec : List Int → Int → Int → Option R) (x1019 : List Int) (x1020 : Int) (x1021 : Int) : Option R :=
  (bif (decide (x1021 < ((x1019.length) : Int))) then
  (bif (decide ((0 : Int) ≤ x1021)) then
  (bif (decide (x1021 < ((x1019.length) : Int))) then
  (bif ((x1019.getD (x1021.toNat) (0 : Int)) != x1020) then
  (k0 (-1 : Int))
  else (rec x1019 (IntKind.wrap .i64 (x1020 + (1 : Int))) (IntKind.wrap .i64 (x1021 + (1 : Int)))))
  else none)
  else none)
  else (k1 x1020))
noncomputable def F40_0_it {R : Type} (n : Nat) (k0 : Int → Option R) (k1 : Int → Option R) : Nat → List Int → Int → Int → Option R
  | 0, _, _, _ => none
  | k + 1, x1019, x1020, x1021 => F40_0_step n k0 k1 (F40_0_it n k0 k1 k) x1019 x1020 x1021
noncomputable def F40_0 {R : Type} (n : Nat) (x1019 : List Int) (x1020 : Int) (x1021 : Int) (k0 : Int → Option R) (k1 : Int → Option R) : Option R := F40_0_it n k0 k1 n x1019 x1020 x1021
noncomputable def F40_0z (n : Nat) : Sm G := inZ G 0 ⟨[0, 1, 5], []⟩ F40_0s fun R x K => F40_0_it n (fun u0 => K .ret (SSh.enc G F40_0x0 ((u0, ()), ()))) (fun u0 => K (.exit 0) (SSh.enc G F40_0x1 ((u0, ()), ()))) n x.1.1 x.1.2.1 x.1.2.2.1
theorem F40_0_eq (n : Nat) (R : Type) (rec : SSh.den G F40_0s → Option R) (x : SSh.den G F40_0s) (K : AE → St G → Option R) :
  F40_0_step n (fun u0 => K .ret (SSh.enc G F40_0x0 ((u0, ()), ()))) (fun u0 => K (.exit 0) (SSh.enc G F40_0x1 ((u0, ()), ()))) (fun x1019 x1020 x1021 => rec ((x1019, (x1020, (x1021, ()))), ())) x.1.1 x.1.2.1 x.1.2.2.1 = exec prog G (ro G (tabOf (E37 n)) (frOf []) R) 0 (codeAt F40c [1, 0, 1, 0, 0]) .no (SSh.enc G F40_0s x) (kLoop G (ro G (tabOf (E37 n)) (frOf []) R) 0 ⟨[0, 1, 5], []⟩ F40_0s ⟨⟨[1], []⟩, ⟨[4], []⟩, [(0, ⟨[1], []⟩)]⟩ rec K) := by kernel_rfl
theorem F40_0_ok (n : Nat) : FragOK prog G 0 (codeAt F40c [1, 0, 1, 0]) (F40_0z n) :=
  frag_loop (Z := fun R k (x : SSh.den G F40_0s) K => F40_0_it n (fun u0 => K .ret (SSh.enc G F40_0x0 ((u0, ()), ()))) (fun u0 => K (.exit 0) (SSh.enc G F40_0x1 ((u0, ()), ()))) k x.1.1 x.1.2.1 x.1.2.2.1) laws fnok (E37_ok n).tab (AllF.of (l := []) (by kernel_rfl) AllF.nil) (fun _ _ _ => rfl) (fun R k y K => F40_0_eq n R (fun (x : SSh.den G F40_0s) => F40_0_it n (fun u0 => K .ret (SSh.enc G F40_0x0 ((u0, ()), ()))) (fun u0 => K (.exit 0) (SSh.enc G F40_0x1 ((u0, ()), ()))) k x.1.1 x.1.2.1 x.1.2.2.1) y K) n
noncomputable def F40 (n : Nat) (a1017 : List Int) (a1018 : Int) : Option (Int × Unit) :=
  (F40_0 n a1017 a1018 (0 : Int) (fun z1029 =>
  some (z1029, ())) (fun z1030 =>
  some (z1030, ())))
noncomputable def F40e (n : Nat) : Ent G := ⟨40, (.cons (.imm 0) (.cons (.int .i64) .nil)), [], (.int .i64), [], fun x y => F40 n x.1 x.2.1⟩
theorem F40_eq (n : Nat) (x : ShL.den G (.cons (.imm 0) (.cons (.int .i64) .nil))) (y : denO G []) : (F40e n).F x y = runFn prog G (ro G (tabOf (E37 n)) (frOf [F40_0z n]) _) Go.Proofs.Try.f40 (.nd .no (.nd (.nd .no (.nd (.use 0) .no)) .no)) [(0, .fz)] (ShL.enc G (.cons (.imm 0) (.cons (.int .i64) .nil)) x) (encO G [] y) (decR (.int .i64) []) := by kernel_rfl
theorem F40_ok (n : Nat) : EntOK prog G (F40e n) :=
  ent_ok (fr := frOf [F40_0z n]) (ann := (.nd .no (.nd (.nd .no (.nd (.use 0) .no)) .no))) (frm := [(0, .fz)]) laws fnok (E37_ok n).tab (e := F40e n) (fn := Go.Proofs.Try.f40) (by kernel_rfl) (AllF.ofB (cd := F40c) (l := [(0, codeAt F40c [1, 0, 1, 0])]) (by kernel_rfl) (by kernel_rfl) (AllF.cons (F40_0_ok n) AllF.nil)) (F40_eq n)
noncomputable def E38 (n : Nat) : List (Ent G) := F40e n :: E37 n
theorem E38_ok (n : Nat) : AllE prog G (E38 n) := AllE.cons (F40_ok n) (E37_ok n)
-- 41 loop.example/slowworm/laws.heldFinalS
noncomputable def F41c : Code := bodyOf Go.Proofs.Try.f41
noncomputable def F41_0x0 : SSh := ⟨42, [(4, (.int .i64))], []⟩
noncomputable def F41_0x1 : SSh := ⟨42, [(1, (.int .i64))], []⟩
noncomputable def F41_0s : SSh := ⟨42, [(0, (.imm 3)), (1, (.int .i64)), (5, (.int .i64))], []⟩
noncomputable def F41_0_step {R : Type} (n : Nat) (k0 : Int → Option R) (k1 : Int → Option R) (rec : List Fnl → Int → Int → Option R) (x1039 : List Fnl) (x1040 : Int) (x1041 : Int) : Option R :=
  (bif (decide (x1041 < ((x1039.length) : Int))) then
  (bif (decide ((0 : Int) ≤ x1041)) then
  (bif (decide (x1041 < ((x1039.length) : Int))) then
  (bif ((x1039.getD (x1041.toNat) (Fnl.mk (0 : Int) (0 : Int) false)).at_ != x1040) then
  (k0 (-1 : Int))
  else let v1047 := (IntKind.wrap .i64 (x1040 + (1 : Int)))
  (bif (decide ((0 : Int) ≤ x1041)) then
  (bif (decide (x1041 < ((x1039.length) : Int))) then
  (bif ((x1039.getD (x1041.toNat) (Fnl.mk (0 : Int) (0 : Int) false)).saves != v1047) then
  (k0 (-1 : Int))
  else let v1051 := (IntKind.wrap .i64 (v1047 + (1 : Int)))
  (bif (decide ((0 : Int) ≤ x1041)) then
  (bif (decide (x1041 < ((x1039.length) : Int))) then
  (bif (!((x1039.getD (x1041.toNat) (Fnl.mk (0 : Int) (0 : Int) false)).done == ((v1051.tmod (3 : Int)) == (0 : Int)))) then
  (k0 (-1 : Int))
  else (rec x1039 (IntKind.wrap .i64 (v1051 + (1 : Int))) (IntKind.wrap .i64 (x1041 + (1 : Int)))))
  else none)
  else none))
  else none)
  else none))
  else none)
  else none)
  else (k1 x1040))
noncomputable def F41_0_it {R : Type} (n : Nat) (k0 : Int → Option R) (k1 : Int → Option R) : Nat → List Fnl → Int → Int → Option R
  | 0, _, _, _ => none
  | k + 1, x1039, x1040, x1041 => F41_0_step n k0 k1 (F41_0_it n k0 k1 k) x1039 x1040 x1041
noncomputable def F41_0 {R : Type} (n : Nat) (x1039 : List Fnl) (x1040 : Int) (x1041 : Int) (k0 : Int → Option R) (k1 : Int → Option R) : Option R := F41_0_it n k0 k1 n x1039 x1040 x1041
noncomputable def F41_0z (n : Nat) : Sm G := inZ G 0 ⟨[0, 1, 5], []⟩ F41_0s fun R x K => F41_0_it n (fun u0 => K .ret (SSh.enc G F41_0x0 ((u0, ()), ()))) (fun u0 => K (.exit 0) (SSh.enc G F41_0x1 ((u0, ()), ()))) n x.1.1 x.1.2.1 x.1.2.2.1
theorem F41_0_eq (n : Nat) (R : Type) (rec : SSh.den G F41_0s → Option R) (x : SSh.den G F41_0s) (K : AE → St G → Option R) :
  F41_0_step n (fun u0 => K .ret (SSh.enc G F41_0x0 ((u0, ()), ()))) (fun u0 => K (.exit 0) (SSh.enc G F41_0x1 ((u0, ()), ()))) (fun x1039 x1040 x1041 => rec ((x1039, (x1040, (x1041, ()))), ())) x.1.1 x.1.2.1 x.1.2.2.1 = exec prog G (ro G (tabOf (E38 n)) (frOf []) R) 0 (codeAt F41c [1, 0, 1, 0, 0]) .no (SSh.enc G F41_0s x) (kLoop G (ro G (tabOf (E38 n)) (frOf []) R) 0 ⟨[0, 1, 5], []⟩ F41_0s ⟨⟨[1], []⟩, ⟨[4], []⟩, [(0, ⟨[1], []⟩)]⟩ rec K) := by kernel_rfl
theorem F41_0_ok (n : Nat) : FragOK prog G 0 (codeAt F41c [1, 0, 1, 0]) (F41_0z n) :=
  frag_loop (Z := fun R k (x : SSh.den G F41_0s) K => F41_0_it n (fun u0 => K .ret (SSh.enc G F41_0x0 ((u0, ()), ()))) (fun u0 => K (.exit 0) (SSh.enc G F41_0x1 ((u0, ()), ()))) k x.1.1 x.1.2.1 x.1.2.2.1) laws fnok (E38_ok n).tab (AllF.of (l := []) (by kernel_rfl) AllF.nil) (fun _ _ _ => rfl) (fun R k y K => F41_0_eq n R (fun (x : SSh.den G F41_0s) => F41_0_it n (fun u0 => K .ret (SSh.enc G F41_0x0 ((u0, ()), ()))) (fun u0 => K (.exit 0) (SSh.enc G F41_0x1 ((u0, ()), ()))) k x.1.1 x.1.2.1 x.1.2.2.1) y K) n
noncomputable def F41 (n : Nat) (a1037 : List Fnl) (a1038 : Int) : Option (Int × Unit) :=
  (F41_0 n a1037 a1038 (0 : Int) (fun z1059 =>
  some (z1059, ())) (fun z1060 =>
  some (z1060, ())))
noncomputable def F41e (n : Nat) : Ent G := ⟨41, (.cons (.imm 3) (.cons (.int .i64) .nil)), [], (.int .i64), [], fun x y => F41 n x.1 x.2.1⟩
theorem F41_eq (n : Nat) (x : ShL.den G (.cons (.imm 3) (.cons (.int .i64) .nil))) (y : denO G []) : (F41e n).F x y = runFn prog G (ro G (tabOf (E38 n)) (frOf [F41_0z n]) _) Go.Proofs.Try.f41 (.nd .no (.nd (.nd .no (.nd (.use 0) .no)) .no)) [(0, .fz)] (ShL.enc G (.cons (.imm 3) (.cons (.int .i64) .nil)) x) (encO G [] y) (decR (.int .i64) []) := by kernel_rfl
theorem F41_ok (n : Nat) : EntOK prog G (F41e n) :=
  ent_ok (fr := frOf [F41_0z n]) (ann := (.nd .no (.nd (.nd .no (.nd (.use 0) .no)) .no))) (frm := [(0, .fz)]) laws fnok (E38_ok n).tab (e := F41e n) (fn := Go.Proofs.Try.f41) (by kernel_rfl) (AllF.ofB (cd := F41c) (l := [(0, codeAt F41c [1, 0, 1, 0])]) (by kernel_rfl) (by kernel_rfl) (AllF.cons (F41_0_ok n) AllF.nil)) (F41_eq n)
noncomputable def E39 (n : Nat) : List (Ent G) := F41e n :: E38 n
theorem E39_ok (n : Nat) : AllE prog G (E39 n) := AllE.cons (F41_ok n) (E38_ok n)
noncomputable def F20 (n : Nat) (a1012 : List Int) (a1013 : List Int) (a1014 : List Int) (a1015 : List Fnl) (a1016 : Int) : Option (Int × Unit) :=
  (andThen (F40 n a1012 a1016) fun r1031 =>
  (bif (decide (r1031.1 < (0 : Int))) then
  some ((-1 : Int), ())
  else (andThen (F40 n a1013 r1031.1) fun r1033 =>
  (bif (decide (r1033.1 < (0 : Int))) then
  some ((-1 : Int), ())
  else (andThen (F40 n a1014 r1033.1) fun r1035 =>
  (bif (decide (r1035.1 < (0 : Int))) then
  some ((-1 : Int), ())
  else (andThen (F41 n a1015 r1035.1) fun r1061 =>
  (bif (decide (r1061.1 < (0 : Int))) then
  some ((-1 : Int), ())
  else some (r1061.1, ())))))))))
noncomputable def F20e (n : Nat) : Ent G := ⟨20, (.cons (.agg (.cons (.imm 0) (.cons (.imm 0) (.cons (.imm 0) (.cons (.imm 3) .nil))))) (.cons (.int .i64) .nil)), [], (.int .i64), [], fun x y => F20 n x.1.1 x.1.2.1 x.1.2.2.1 x.1.2.2.2.1 x.2.1⟩
theorem F20_eq (n : Nat) (x : ShL.den G (.cons (.agg (.cons (.imm 0) (.cons (.imm 0) (.cons (.imm 0) (.cons (.imm 3) .nil))))) (.cons (.int .i64) .nil))) (y : denO G []) : (F20e n).F x y = runFn prog G (ro G (tabOf (E39 n)) (frOf []) _) Go.Proofs.Try.f20 .no [(0, .fz)] (ShL.enc G (.cons (.agg (.cons (.imm 0) (.cons (.imm 0) (.cons (.imm 0) (.cons (.imm 3) .nil))))) (.cons (.int .i64) .nil)) x) (encO G [] y) (decR (.int .i64) []) := by kernel_rfl
theorem F20_ok (n : Nat) : EntOK prog G (F20e n) :=
  ent_ok (fr := frOf []) (ann := .no) (frm := [(0, .fz)]) laws fnok (E39_ok n).tab (e := F20e n) (fn := Go.Proofs.Try.f20) (by kernel_rfl) (AllF.ofB (cd := F20c) (l := []) (by kernel_rfl) (by kernel_rfl) AllF.nil) (F20_eq n)
noncomputable def E40 (n : Nat) : List (Ent G) := F20e n :: E39 n
theorem E40_ok (n : Nat) : AllE prog G (E40 n) := AllE.cons (F20_ok n) (E39_ok n)
noncomputable def F3 (n : Nat) (a0 : List (List Int)) (a1 : List Int) (a2 : List Fnl) : Option (Bool × Unit) :=
  (bif (decide (((a1.length) : Int) > (1048576 : Int))) then
  some (true, ())
  else (andThen (F5 n a0 (1048576 : Int)) fun r27 =>
  (bif (decide (r27.1 < (0 : Int))) then
  some (true, ())
  else (andThen (F6 n a2 r27.1) fun r34 =>
  (bif (decide (r34.1 < (0 : Int))) then
  some (true, ())
  else (andThen (F8 n a0) fun r65 =>
  (andThen (F9v1 n a1) fun r81 =>
  (andThen (F10 n a2) fun r102 =>
  (andThen (F7 n (r65.1, ()).1 r81.2.1 r102.2.1) fun r476 =>
  (andThen (F8 n a0) fun r477 =>
  let v478 := (r477.1, ())
  (andThen (F9v1 n a1) fun r479 =>
  (andThen (F10 n a2) fun r480 =>
  (andThen (F11 n v478.1 r479.2.1 r480.2.1) fun r838 =>
  (andThen (F12 n r838.2.1 r838.2.2.1 r838.2.2.2.1 r838.2.2.2.2.1 r476.1.1 r476.1.2.1 r476.1.2.2.1 r476.1.2.2.2.1) fun r903 =>
  (bif (!r903.1) then
  some (false, ())
  else (andThen (F8 n a0) fun r905 =>
  (andThen (F13 n v478.1 (r905.1, ()).1) fun r925 =>
  (bif (!r925.1) then
  some (false, ())
  else (andThen (F9v1 n a1) fun r927 =>
  (andThen (F14 n r479.2.1 r927.2.1) fun r928 =>
  (bif (!r928.1) then
  some (false, ())
  else (andThen (F10 n a2) fun r930 =>
  (andThen (F15 n r480.2.1 r930.2.1) fun r931 =>
  (bif (!r931.1) then
  some (false, ())
  else (andThen (F16 n v478.1 (1 : Int) ()) fun r962 =>
  (andThen (F17v1 n r962.1 r479.2.1) fun r976 =>
  (andThen (F18 n r976.1 r480.2.1) fun r998 =>
  (bif (decide (r998.1 < (0 : Int))) then
  some (false, ())
  else (andThen (F12 n r838.2.1 r838.2.2.1 r838.2.2.2.1 r838.2.2.2.2.1 r476.1.1 r476.1.2.1 r476.1.2.2.1 r476.1.2.2.2.1) fun r1000 =>
  (bif (!r1000.1) then
  some (false, ())
  else (andThen (F19 n (1 : Int) r838.2.1 r838.2.2.1 r838.2.2.2.1 r838.2.2.2.2.1) fun r1011 =>
  (andThen (F20 n r1011.2.1 r1011.2.2.1 r1011.2.2.2.1 r1011.2.2.2.2.1 (1 : Int)) fun r1063 =>
  (bif (decide (r1063.1 < (0 : Int))) then
  some (false, ())
  else (bif (r1063.1 != r1011.1) then
  some (false, ())
  else (andThen (F8 n a0) fun r1066 =>
  (andThen (F9v1 n a1) fun r1068 =>
  (andThen (F10 n a2) fun r1069 =>
  (andThen (F11 n (r1066.1, ()).1 r1068.2.1 r1069.2.1) fun r1070 =>
  (andThen (F12 n r1070.2.1 r1070.2.2.1 r1070.2.2.2.1 r1070.2.2.2.2.1 r476.1.1 r476.1.2.1 r476.1.2.2.1 r476.1.2.2.2.1) fun r1071 =>
  (bif (!r1071.1) then
  some (false, ())
  else (andThen (F20 n r1011.2.1 r1011.2.2.1 r1011.2.2.2.1 r1011.2.2.2.2.1 (1 : Int)) fun r1073 =>
  (bif (decide (r1073.1 < (0 : Int))) then
  some (false, ())
  else (bif (r1073.1 != r1011.1) then
  some (false, ())
  else some (true, ()))))))))))))))))))))))))))))))))))))))))))))
noncomputable def F3e (n : Nat) : Ent G := ⟨3, (.cons (.imm 2) (.cons (.imm 0) (.cons (.imm 4) .nil))), [], .bool, [], fun x y => F3 n x.1 x.2.1 x.2.2.1⟩
theorem F3_eq (n : Nat) (x : ShL.den G (.cons (.imm 2) (.cons (.imm 0) (.cons (.imm 4) .nil)))) (y : denO G []) : (F3e n).F x y = runFn prog G (ro G (tabOf (E40 n)) (frOf []) _) Go.Proofs.Try.f3 .no [(0, .fz)] (ShL.enc G (.cons (.imm 2) (.cons (.imm 0) (.cons (.imm 4) .nil))) x) (encO G [] y) (decR .bool []) := by kernel_rfl
theorem F3_ok (n : Nat) : EntOK prog G (F3e n) :=
  ent_ok (fr := frOf []) (ann := .no) (frm := [(0, .fz)]) laws fnok (E40_ok n).tab (e := F3e n) (fn := Go.Proofs.Try.f3) (by kernel_rfl) (AllF.ofB (cd := F3c) (l := []) (by kernel_rfl) (by kernel_rfl) AllF.nil) (F3_eq n)
noncomputable def E41 (n : Nat) : List (Ent G) := F3e n :: E40 n
theorem E41_ok (n : Nat) : AllE prog G (E41 n) := AllE.cons (F3_ok n) (E40_ok n)
end Go.Proofs.Ytfelakjmajooaaa.Am
