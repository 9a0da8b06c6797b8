/- The functions of the seat of sorting, printed. -/
import Derived.Test.YtjanepkjjmcchaaAmDelF
namespace Go.Proofs.Ytjanepkjjmcchaa.Am
open Go Go.Proofs.Try
set_option autoImplicit false
set_option linter.unusedVariables false
set_option maxRecDepth 100000
noncomputable def E0 (n : Nat) : List (Ent G) := [L31e, L39e, L22e]
theorem E0_ok (n : Nat) : AllE prog G (E0 n) := AllE.cons L31_ok (AllE.cons L39_ok (AllE.cons L22_ok AllE.nil))
-- 5 loop.example/slowworm/laws.FnExactSortItems
noncomputable def F5c : Code := bodyOf Go.Proofs.Try.f5
-- 12 loop.example/slowworm/laws.szItemS
noncomputable def F12c : Code := bodyOf Go.Proofs.Try.f12
noncomputable def F12 (n : Nat) (a1 : List Itm) (a2 : Int) : Option (Int × Unit) :=
  let v4 := (IntKind.wrap .i64 (a2 - ((a1.length) : Int)))
  (bif (decide (v4 < (0 : Int))) then
  some ((-1 : Int), ())
  else some (v4, ()))
noncomputable def F12e (n : Nat) : Ent G := ⟨12, (.cons (.imm 4) (.cons (.int .i64) .nil)), [], (.int .i64), [], fun x y => F12 n x.1 x.2.1⟩
theorem F12_eq (n : Nat) (x : ShL.den G (.cons (.imm 4) (.cons (.int .i64) .nil))) (y : denO G []) : (F12e n).F x y = runFn prog G (ro G (tabOf (E0 n)) (frOf []) _) Go.Proofs.Try.f12 .no [(0, .fz)] (ShL.enc G (.cons (.imm 4) (.cons (.int .i64) .nil)) x) (encO G [] y) (decR (.int .i64) []) := by kernel_rfl
theorem F12_ok (n : Nat) : EntOK prog G (F12e n) :=
  ent_ok (fr := frOf []) (ann := .no) (frm := [(0, .fz)]) laws fnok (E0_ok n).tab (e := F12e n) (fn := Go.Proofs.Try.f12) (by kernel_rfl) (AllF.ofB (cd := F12c) (l := []) (by kernel_rfl) (by kernel_rfl) AllF.nil) (F12_eq n)
noncomputable def E1 (n : Nat) : List (Ent G) := F12e n :: E0 n
theorem E1_ok (n : Nat) : AllE prog G (E1 n) := AllE.cons (F12_ok n) (E0_ok n)
-- 13 loop.example/slowworm/laws.toItemS
noncomputable def F13c : Code := bodyOf Go.Proofs.Try.f13
-- 32 loop.example/slowworm/laws.toItem
noncomputable def F32c : Code := bodyOf Go.Proofs.Try.f32
noncomputable def F32 (n : Nat) (a19 : Int) (a20 : Int) : Option ((Int × (Int × Unit)) × Unit) :=
  some ((a19, (a20, ())), ())
noncomputable def F32e (n : Nat) : Ent G := ⟨32, (.cons (.agg (.cons (.int .i64) (.cons (.int .i64) .nil))) .nil), [], (.agg (.cons (.int .i64) (.cons (.int .i64) .nil))), [], fun x y => F32 n x.1.1 x.1.2.1⟩
theorem F32_eq (n : Nat) (x : ShL.den G (.cons (.agg (.cons (.int .i64) (.cons (.int .i64) .nil))) .nil)) (y : denO G []) : (F32e n).F x y = runFn prog G (ro G (tabOf (E1 n)) (frOf []) _) Go.Proofs.Try.f32 .no [(0, .fz)] (ShL.enc G (.cons (.agg (.cons (.int .i64) (.cons (.int .i64) .nil))) .nil) x) (encO G [] y) (decR (.agg (.cons (.int .i64) (.cons (.int .i64) .nil))) []) := by kernel_rfl
theorem F32_ok (n : Nat) : EntOK prog G (F32e n) :=
  ent_ok (fr := frOf []) (ann := .no) (frm := [(0, .fz)]) laws fnok (E1_ok n).tab (e := F32e n) (fn := Go.Proofs.Try.f32) (by kernel_rfl) (AllF.ofB (cd := F32c) (l := []) (by kernel_rfl) (by kernel_rfl) AllF.nil) (F32_eq n)
noncomputable def E2 (n : Nat) : List (Ent G) := F32e n :: E1 n
theorem E2_ok (n : Nat) : AllE prog G (E2 n) := AllE.cons (F32_ok n) (E1_ok n)
noncomputable def F13_0x0 : SSh := ⟨23, [(3, (.own 0))], [(.arr 3 true)]⟩
noncomputable def F13_0s : SSh := ⟨23, [(0, (.imm 4)), (3, (.own 0)), (4, (.int .i64))], [(.arr 3 true)]⟩
noncomputable def F13_0_step {R : Type} (n : Nat) (k0 : List Itm → Option R) (rec : List Itm → Int → List Itm → Option R) (x11 : List Itm) (x12 : Int) (x13 : List Itm) : Option R :=
  (bif (decide (x12 < ((x11.length) : Int))) then
  (bif (decide ((0 : Int) ≤ x12)) then
  (bif (decide (x12 < ((x11.length) : Int))) then
  let v16 := (x11.getD (x12.toNat) (Itm.mk (0 : Int) (0 : Int)))
  (andThen (F32 n v16.key v16.tag) fun r21 =>
  (bif (decide ((0 : Int) ≤ x12)) then
  (bif (decide (x12 < ((x13.length) : Int))) then
  (rec x11 (IntKind.wrap .i64 (x12 + (1 : Int))) (x13.set (x12.toNat) (Itm.mk r21.1.1 r21.1.2.1)))
  else none)
  else none))
  else none)
  else none)
  else (k0 x13))
noncomputable def F13_0_it {R : Type} (n : Nat) (k0 : List Itm → Option R) : Nat → List Itm → Int → List Itm → Option R
  | 0, _, _, _ => none
  | k + 1, x11, x12, x13 => F13_0_step n k0 (F13_0_it n k0 k) x11 x12 x13
noncomputable def F13_0 {R : Type} (n : Nat) (x11 : List Itm) (x12 : Int) (x13 : List Itm) (k0 : List Itm → Option R) : Option R := F13_0_it n k0 n x11 x12 x13
noncomputable def F13_0z (n : Nat) : Sm G := inZ G 0 ⟨[0, 3, 4], []⟩ F13_0s fun R x K => F13_0_it n (fun u0 => K (.exit 0) (SSh.enc G F13_0x0 (((), ()), (u0, ())))) n x.1.1 x.1.2.2.1 x.2.1
theorem F13_0_eq (n : Nat) (R : Type) (rec : SSh.den G F13_0s → Option R) (x : SSh.den G F13_0s) (K : AE → St G → Option R) :
  F13_0_step n (fun u0 => K (.exit 0) (SSh.enc G F13_0x0 (((), ()), (u0, ())))) (fun x11 x12 x13 => rec ((x11, ((), (x12, ()))), (x13, ()))) x.1.1 x.1.2.2.1 x.2.1 = exec prog G (ro G (tabOf (E2 n)) (frOf []) R) 0 (codeAt F13c [1, 1, 0, 1, 0, 0]) .no (SSh.enc G F13_0s x) (kLoop G (ro G (tabOf (E2 n)) (frOf []) R) 0 ⟨[0, 3, 4], []⟩ F13_0s ⟨⟨[3], []⟩, ⟨[2], []⟩, [(0, ⟨[3], []⟩)]⟩ rec K) := by kernel_rfl
theorem F13_0_ok (n : Nat) : FragOK prog G 0 (codeAt F13c [1, 1, 0, 1, 0]) (F13_0z n) :=
  frag_loop (Z := fun R k (x : SSh.den G F13_0s) K => F13_0_it n (fun u0 => K (.exit 0) (SSh.enc G F13_0x0 (((), ()), (u0, ())))) k x.1.1 x.1.2.2.1 x.2.1) laws fnok (E2_ok n).tab (AllF.of (l := []) (by kernel_rfl) AllF.nil) (fun _ _ _ => rfl) (fun R k y K => F13_0_eq n R (fun (x : SSh.den G F13_0s) => F13_0_it n (fun u0 => K (.exit 0) (SSh.enc G F13_0x0 (((), ()), (u0, ())))) k x.1.1 x.1.2.2.1 x.2.1) y K) n
noncomputable def F13 (n : Nat) (a8 : List Itm) : Option (Unit × (List Itm × Unit)) :=
  let v9 := ((a8.length) : Int)
  (bif (decide ((0 : Int) ≤ v9)) then
  (bif (decide (v9 ≤ v9)) then
  (bif (decide (v9 ≤ ((68719476736 : Nat) : Int))) then
  (F13_0 n a8 (0 : Int) (List.replicate (v9.toNat) (Itm.mk (0 : Int) (0 : Int))) (fun z25 =>
  some ((), (z25, ()))))
  else none)
  else none)
  else none)
noncomputable def F13e (n : Nat) : Ent G := ⟨13, (.cons (.imm 4) .nil), [], (.own 0), [(.arr 3 true)], fun x y => F13 n x.1⟩
theorem F13_eq (n : Nat) (x : ShL.den G (.cons (.imm 4) .nil)) (y : denO G []) : (F13e n).F x y = runFn prog G (ro G (tabOf (E2 n)) (frOf [F13_0z n]) _) Go.Proofs.Try.f13 (.nd .no (.nd .no (.nd (.nd .no (.nd (.use 0) .no)) .no))) [(0, (.own 3))] (ShL.enc G (.cons (.imm 4) .nil) x) (encO G [] y) (decR (.own 0) [(.arr 3 true)]) := by kernel_rfl
theorem F13_ok (n : Nat) : EntOK prog G (F13e n) :=
  ent_ok (fr := frOf [F13_0z n]) (ann := (.nd .no (.nd .no (.nd (.nd .no (.nd (.use 0) .no)) .no)))) (frm := [(0, (.own 3))]) laws fnok (E2_ok n).tab (e := F13e n) (fn := Go.Proofs.Try.f13) (by kernel_rfl) (AllF.ofB (cd := F13c) (l := [(0, codeAt F13c [1, 1, 0, 1, 0])]) (by kernel_rfl) (by kernel_rfl) (AllF.cons (F13_0_ok n) AllF.nil)) (F13_eq n)
noncomputable def E3 (n : Nat) : List (Ent G) := F13e n :: E2 n
theorem E3_ok (n : Nat) : AllE prog G (E3 n) := AllE.cons (F13_ok n) (E2_ok n)
-- 24 loop.example/slowworm/spec.validItems
noncomputable def F24c : Code := bodyOf Go.Proofs.Try.f24
noncomputable def F24 (n : Nat) (a28 : List Itm) : Option (Bool × Unit) :=
  some ((decide (((a28.length) : Int) ≤ (60 : Int))), ())
noncomputable def F24e (n : Nat) : Ent G := ⟨24, (.cons (.imm 3) .nil), [], .bool, [], fun x y => F24 n x.1⟩
theorem F24_eq (n : Nat) (x : ShL.den G (.cons (.imm 3) .nil)) (y : denO G []) : (F24e n).F x y = runFn prog G (ro G (tabOf (E3 n)) (frOf []) _) Go.Proofs.Try.f24 .no [(0, .fz)] (ShL.enc G (.cons (.imm 3) .nil) x) (encO G [] y) (decR .bool []) := by kernel_rfl
theorem F24_ok (n : Nat) : EntOK prog G (F24e n) :=
  ent_ok (fr := frOf []) (ann := .no) (frm := [(0, .fz)]) laws fnok (E3_ok n).tab (e := F24e n) (fn := Go.Proofs.Try.f24) (by kernel_rfl) (AllF.ofB (cd := F24c) (l := []) (by kernel_rfl) (by kernel_rfl) AllF.nil) (F24_eq n)
noncomputable def E4 (n : Nat) : List (Ent G) := F24e n :: E3 n
theorem E4_ok (n : Nat) : AllE prog G (E4 n) := AllE.cons (F24_ok n) (E3_ok n)
-- 41 loop.example/slowworm/spec.leastRun
noncomputable def F41c : Code := bodyOf Go.Proofs.Try.f41
noncomputable def F41_0x0 : SSh := ⟨15, [(0, (.int .i64)), (3, (.int .i64))], []⟩
noncomputable def F41_0s : SSh := ⟨15, [(0, (.int .i64)), (3, (.int .i64))], []⟩
noncomputable def F41_0_step {R : Type} (n : Nat) (k0 : Int → Int → Option R) (rec : Int → Int → Option R) (x37 : Int) (x38 : Int) : Option R :=
  (bif (decide (x37 ≥ (8 : Int))) then
  (rec (IntKind.wrap .i64 (x37.tdiv (2 : Int))) (IntKind.wrap .i64 ((((BitVec.ofInt (64 : Nat) x38) ||| (BitVec.ofInt (64 : Nat) (x37.tmod (2 : Int)))).toNat) : Int)))
  else (k0 x37 x38))
noncomputable def F41_0_it {R : Type} (n : Nat) (k0 : Int → Int → Option R) : Nat → Int → Int → Option R
  | 0, _, _ => none
  | k + 1, x37, x38 => F41_0_step n k0 (F41_0_it n k0 k) x37 x38
noncomputable def F41_0 {R : Type} (n : Nat) (x37 : Int) (x38 : Int) (k0 : Int → Int → Option R) : Option R := F41_0_it n k0 n x37 x38
noncomputable def F41_0z (n : Nat) : Sm G := inZ G 0 ⟨[0, 3], []⟩ F41_0s fun R x K => F41_0_it n (fun u0 u1 => K (.exit 0) (SSh.enc G F41_0x0 ((u0, (u1, ())), ()))) n x.1.1 x.1.2.1
theorem F41_0_eq (n : Nat) (R : Type) (rec : SSh.den G F41_0s → Option R) (x : SSh.den G F41_0s) (K : AE → St G → Option R) :
  F41_0_step n (fun u0 u1 => K (.exit 0) (SSh.enc G F41_0x0 ((u0, (u1, ())), ()))) (fun x37 x38 => rec ((x37, (x38, ())), ())) x.1.1 x.1.2.1 = exec prog G (ro G (tabOf (E4 n)) (frOf []) R) 0 (codeAt F41c [1, 1, 0, 0, 0]) .no (SSh.enc G F41_0s x) (kLoop G (ro G (tabOf (E4 n)) (frOf []) R) 0 ⟨[0, 3], []⟩ F41_0s ⟨⟨[0, 3], []⟩, ⟨[2], []⟩, [(0, ⟨[0, 3], []⟩)]⟩ rec K) := by kernel_rfl
theorem F41_0_ok (n : Nat) : FragOK prog G 0 (codeAt F41c [1, 1, 0, 0]) (F41_0z n) :=
  frag_loop (Z := fun R k (x : SSh.den G F41_0s) K => F41_0_it n (fun u0 u1 => K (.exit 0) (SSh.enc G F41_0x0 ((u0, (u1, ())), ()))) k x.1.1 x.1.2.1) laws fnok (E4_ok n).tab (AllF.of (l := []) (by kernel_rfl) AllF.nil) (fun _ _ _ => rfl) (fun R k y K => F41_0_eq n R (fun (x : SSh.den G F41_0s) => F41_0_it n (fun u0 u1 => K (.exit 0) (SSh.enc G F41_0x0 ((u0, (u1, ())), ()))) k x.1.1 x.1.2.1) y K) n
noncomputable def F41 (n : Nat) (a36 : Int) : Option (Int × Unit) :=
  (F41_0 n a36 (0 : Int) (fun z43 z44 =>
  some ((IntKind.wrap .i64 (z43 + z44)), ())))
noncomputable def F41e (n : Nat) : Ent G := ⟨41, (.cons (.int .i64) .nil), [], (.int .i64), [], fun x y => F41 n x.1⟩
theorem F41_eq (n : Nat) (x : ShL.den G (.cons (.int .i64) .nil)) (y : denO G []) : (F41e n).F x y = runFn prog G (ro G (tabOf (E4 n)) (frOf [F41_0z n]) _) Go.Proofs.Try.f41 (.nd .no (.nd .no (.nd (.nd (.use 0) .no) .no))) [(0, .fz)] (ShL.enc G (.cons (.int .i64) .nil) x) (encO G [] y) (decR (.int .i64) []) := by kernel_rfl
theorem F41_ok (n : Nat) : EntOK prog G (F41e n) :=
  ent_ok (fr := frOf [F41_0z n]) (ann := (.nd .no (.nd .no (.nd (.nd (.use 0) .no) .no)))) (frm := [(0, .fz)]) laws fnok (E4_ok n).tab (e := F41e n) (fn := Go.Proofs.Try.f41) (by kernel_rfl) (AllF.ofB (cd := F41c) (l := [(0, codeAt F41c [1, 1, 0, 0])]) (by kernel_rfl) (by kernel_rfl) (AllF.cons (F41_0_ok n) AllF.nil)) (F41_eq n)
noncomputable def E5 (n : Nat) : List (Ent G) := F41e n :: E4 n
theorem E5_ok (n : Nat) : AllE prog G (E5 n) := AllE.cons (F41_ok n) (E4_ok n)
-- 42 loop.example/slowworm/spec.naturalRun
noncomputable def F42c : Code := bodyOf Go.Proofs.Try.f42
noncomputable def F42_0x0 : SSh := ⟨56, [(6, (.int .i64)), (7, .bool)], []⟩
noncomputable def F42_0s : SSh := ⟨56, [(0, (.imm 3)), (1, (.int .i64)), (6, (.int .i64)), (7, .bool)], []⟩
noncomputable def F42_0_step {R : Type} (n : Nat) (k0 : Int → Bool → Option R) (rec : List Itm → Int → Int → Bool → Option R) (x64 : List Itm) (x65 : Int) (x66 : Int) (x67 : Bool) : Option R :=
  (bif (decide ((IntKind.wrap .i64 (x65 + x66)) < ((x64.length) : Int))) then
  let v71 := (IntKind.wrap .i64 (x65 + x66))
  (bif (decide ((0 : Int) ≤ v71)) then
  (bif (decide (v71 < ((x64.length) : Int))) then
  let v75 := (IntKind.wrap .i64 ((IntKind.wrap .i64 (x65 + x66)) - (1 : Int)))
  (bif (decide ((0 : Int) ≤ v75)) then
  (bif (decide (v75 < ((x64.length) : Int))) then
  (bif ((decide ((x64.getD (v71.toNat) (Itm.mk (0 : Int) (0 : Int))).key < (x64.getD (v75.toNat) (Itm.mk (0 : Int) (0 : Int))).key)) == x67) then
  (rec x64 x65 (IntKind.wrap .i64 (x66 + (1 : Int))) x67)
  else (k0 x66 x67))
  else none)
  else none)
  else none)
  else none)
  else (k0 x66 x67))
noncomputable def F42_0_it {R : Type} (n : Nat) (k0 : Int → Bool → Option R) : Nat → List Itm → Int → Int → Bool → Option R
  | 0, _, _, _, _ => none
  | k + 1, x64, x65, x66, x67 => F42_0_step n k0 (F42_0_it n k0 k) x64 x65 x66 x67
noncomputable def F42_0 {R : Type} (n : Nat) (x64 : List Itm) (x65 : Int) (x66 : Int) (x67 : Bool) (k0 : Int → Bool → Option R) : Option R := F42_0_it n k0 n x64 x65 x66 x67
noncomputable def F42_0z (n : Nat) : Sm G := inZ G 0 ⟨[0, 1, 6, 7], []⟩ F42_0s fun R x K => F42_0_it n (fun u0 u1 => K (.exit 0) (SSh.enc G F42_0x0 ((u0, (u1, ())), ()))) n x.1.1 x.1.2.1 x.1.2.2.1 x.1.2.2.2.1
theorem F42_0_eq (n : Nat) (R : Type) (rec : SSh.den G F42_0s → Option R) (x : SSh.den G F42_0s) (K : AE → St G → Option R) :
  F42_0_step n (fun u0 u1 => K (.exit 0) (SSh.enc G F42_0x0 ((u0, (u1, ())), ()))) (fun x64 x65 x66 x67 => rec ((x64, (x65, (x66, (x67, ())))), ())) x.1.1 x.1.2.1 x.1.2.2.1 x.1.2.2.2.1 = exec prog G (ro G (tabOf (E5 n)) (frOf []) R) 0 (codeAt F42c [1, 1, 1, 1, 0, 0, 0]) .no (SSh.enc G F42_0s x) (kLoop G (ro G (tabOf (E5 n)) (frOf []) R) 0 ⟨[0, 1, 6, 7], []⟩ F42_0s ⟨⟨[6, 7], []⟩, ⟨[4, 5], []⟩, [(0, ⟨[6, 7], []⟩)]⟩ rec K) := by kernel_rfl
theorem F42_0_ok (n : Nat) : FragOK prog G 0 (codeAt F42c [1, 1, 1, 1, 0, 0]) (F42_0z n) :=
  frag_loop (Z := fun R k (x : SSh.den G F42_0s) K => F42_0_it n (fun u0 u1 => K (.exit 0) (SSh.enc G F42_0x0 ((u0, (u1, ())), ()))) k x.1.1 x.1.2.1 x.1.2.2.1 x.1.2.2.2.1) laws fnok (E5_ok n).tab (AllF.of (l := []) (by kernel_rfl) AllF.nil) (fun _ _ _ => rfl) (fun R k y K => F42_0_eq n R (fun (x : SSh.den G F42_0s) => F42_0_it n (fun u0 u1 => K (.exit 0) (SSh.enc G F42_0x0 ((u0, (u1, ())), ()))) k x.1.1 x.1.2.1 x.1.2.2.1 x.1.2.2.2.1) y K) n
noncomputable def F42 (n : Nat) (a53 : List Itm) (a54 : Int) : Option ((Int × (Bool × Unit)) × Unit) :=
  (bif (decide ((IntKind.wrap .i64 (a54 + (1 : Int))) ≥ ((a53.length) : Int))) then
  some (((1 : Int), (false, ())), ())
  else let v58 := (IntKind.wrap .i64 (a54 + (1 : Int)))
  (bif (decide ((0 : Int) ≤ v58)) then
  (bif (decide (v58 < ((a53.length) : Int))) then
  (bif (decide ((0 : Int) ≤ a54)) then
  (bif (decide (a54 < ((a53.length) : Int))) then
  (F42_0 n a53 a54 (1 : Int) (decide ((a53.getD (v58.toNat) (Itm.mk (0 : Int) (0 : Int))).key < (a53.getD (a54.toNat) (Itm.mk (0 : Int) (0 : Int))).key)) (fun z81 z82 =>
  some ((z81, (z82, ())), ())))
  else none)
  else none)
  else none)
  else none))
noncomputable def F42e (n : Nat) : Ent G := ⟨42, (.cons (.imm 3) (.cons (.int .i64) .nil)), [], (.tup (.cons (.int .i64) (.cons .bool .nil))), [], fun x y => F42 n x.1 x.2.1⟩
theorem F42_eq (n : Nat) (x : ShL.den G (.cons (.imm 3) (.cons (.int .i64) .nil))) (y : denO G []) : (F42e n).F x y = runFn prog G (ro G (tabOf (E5 n)) (frOf [F42_0z n]) _) Go.Proofs.Try.f42 (.nd .no (.nd .no (.nd .no (.nd .no (.nd (.nd (.use 0) .no) .no))))) [(0, .fz), (1, .fz)] (ShL.enc G (.cons (.imm 3) (.cons (.int .i64) .nil)) x) (encO G [] y) (decR (.tup (.cons (.int .i64) (.cons .bool .nil))) []) := by kernel_rfl
theorem F42_ok (n : Nat) : EntOK prog G (F42e n) :=
  ent_ok (fr := frOf [F42_0z n]) (ann := (.nd .no (.nd .no (.nd .no (.nd .no (.nd (.nd (.use 0) .no) .no)))))) (frm := [(0, .fz), (1, .fz)]) laws fnok (E5_ok n).tab (e := F42e n) (fn := Go.Proofs.Try.f42) (by kernel_rfl) (AllF.ofB (cd := F42c) (l := [(0, codeAt F42c [1, 1, 1, 1, 0, 0])]) (by kernel_rfl) (by kernel_rfl) (AllF.cons (F42_0_ok n) AllF.nil)) (F42_eq n)
noncomputable def E6 (n : Nat) : List (Ent G) := F42e n :: E5 n
theorem E6_ok (n : Nat) : AllE prog G (E6 n) := AllE.cons (F42_ok n) (E5_ok n)
-- 43 loop.example/slowworm/spec.insertItem
noncomputable def F43c : Code := bodyOf Go.Proofs.Try.f43
noncomputable def F43_0x0 : SSh := ⟨38, [(0, (.imm 3)), (3, (.ptr 0 0)), (5, (.int .i64))], [(.box 46 (.cons (.int .i64) (.cons (.int .i64) .nil)))]⟩
noncomputable def F43_0s : SSh := ⟨38, [(0, (.imm 3)), (3, (.ptr 0 0)), (5, (.int .i64))], [(.box 46 (.cons (.int .i64) (.cons (.int .i64) .nil)))]⟩
noncomputable def F43_0_step {R : Type} (n : Nat) (k0 : List Itm → Int → Int → Int → Option R) (rec : List Itm → Int → Int → Int → Option R) (x161 : List Itm) (x162 : Int) (x163 : Int) (x164 : Int) : Option R :=
  (bif (decide (x162 > (0 : Int))) then
  let v166 := (IntKind.wrap .i64 (x162 - (1 : Int)))
  (bif (decide ((0 : Int) ≤ v166)) then
  (bif (decide (v166 < ((x161.length) : Int))) then
  (bif (decide ((x161.getD (v166.toNat) (Itm.mk (0 : Int) (0 : Int))).key > x163)) then
  (rec x161 (IntKind.wrap .i64 (x162 - (1 : Int))) x163 x164)
  else (k0 x161 x162 x163 x164))
  else none)
  else none)
  else (k0 x161 x162 x163 x164))
noncomputable def F43_0_it {R : Type} (n : Nat) (k0 : List Itm → Int → Int → Int → Option R) : Nat → List Itm → Int → Int → Int → Option R
  | 0, _, _, _, _ => none
  | k + 1, x161, x162, x163, x164 => F43_0_step n k0 (F43_0_it n k0 k) x161 x162 x163 x164
noncomputable def F43_0 {R : Type} (n : Nat) (x161 : List Itm) (x162 : Int) (x163 : Int) (x164 : Int) (k0 : List Itm → Int → Int → Int → Option R) : Option R := F43_0_it n k0 n x161 x162 x163 x164
noncomputable def F43_0z (n : Nat) : Sm G := inZ G 0 ⟨[0, 3, 5], []⟩ F43_0s fun R x K => F43_0_it n (fun u0 u1 u2 u3 => K (.exit 0) (SSh.enc G F43_0x0 ((u0, ((), (u1, ()))), ((u2, (u3, ())), ())))) n x.1.1 x.1.2.2.1 x.2.1.1 x.2.1.2.1
theorem F43_0_eq (n : Nat) (R : Type) (rec : SSh.den G F43_0s → Option R) (x : SSh.den G F43_0s) (K : AE → St G → Option R) :
  F43_0_step n (fun u0 u1 u2 u3 => K (.exit 0) (SSh.enc G F43_0x0 ((u0, ((), (u1, ()))), ((u2, (u3, ())), ())))) (fun x161 x162 x163 x164 => rec ((x161, ((), (x162, ()))), ((x163, (x164, ())), ()))) x.1.1 x.1.2.2.1 x.2.1.1 x.2.1.2.1 = exec prog G (ro G (tabOf (E6 n)) (frOf []) R) 0 (codeAt F43c [1, 1, 0, 0, 0]) .no (SSh.enc G F43_0s x) (kLoop G (ro G (tabOf (E6 n)) (frOf []) R) 0 ⟨[0, 3, 5], []⟩ F43_0s ⟨⟨[0, 3, 5], []⟩, ⟨[4], []⟩, [(0, ⟨[0, 3, 5], []⟩)]⟩ rec K) := by kernel_rfl
theorem F43_0_ok (n : Nat) : FragOK prog G 0 (codeAt F43c [1, 1, 0, 0]) (F43_0z n) :=
  frag_loop (Z := fun R k (x : SSh.den G F43_0s) K => F43_0_it n (fun u0 u1 u2 u3 => K (.exit 0) (SSh.enc G F43_0x0 ((u0, ((), (u1, ()))), ((u2, (u3, ())), ())))) k x.1.1 x.1.2.2.1 x.2.1.1 x.2.1.2.1) laws fnok (E6_ok n).tab (AllF.of (l := []) (by kernel_rfl) AllF.nil) (fun _ _ _ => rfl) (fun R k y K => F43_0_eq n R (fun (x : SSh.den G F43_0s) => F43_0_it n (fun u0 u1 u2 u3 => K (.exit 0) (SSh.enc G F43_0x0 ((u0, ((), (u1, ()))), ((u2, (u3, ())), ())))) k x.1.1 x.1.2.2.1 x.2.1.1 x.2.1.2.1) y K) n
noncomputable def F43 (n : Nat) (a157 : List Itm) (a158 : Int) (a159 : Int) : Option (List Itm × Unit) :=
  (F43_0 n a157 ((a157.length) : Int) a158 a159 (fun z171 z172 z173 z174 =>
  let v175 := []
  (bif (decide ((0 : Int) ≤ z172)) then
  (bif (decide (z172 ≤ ((z171.length) : Int))) then
  let v176 := ((z171.take (z172.toNat)).drop (0 : Nat))
  (bif (decide (((v175.length) + (v176.length)) ≤ (68719476736 : Nat))) then
  let v177 := (v175 ++ v176)
  let v178 := ((Itm.mk z173 z174) :: [])
  (bif (decide (((v177.length) + (v178.length)) ≤ (68719476736 : Nat))) then
  let v179 := (v177 ++ v178)
  (bif (decide ((0 : Int) ≤ z172)) then
  (bif (decide (z172 ≤ ((z171.length) : Int))) then
  (bif (decide (((z171.length) : Int) ≤ ((z171.length) : Int))) then
  let v180 := ((z171.take (((z171.length) : Int).toNat)).drop (z172.toNat))
  (bif (decide (((v179.length) + (v180.length)) ≤ (68719476736 : Nat))) then
  some ((v179 ++ v180), ())
  else none)
  else none)
  else none)
  else none)
  else none)
  else none)
  else none)
  else none)))
noncomputable def F43e (n : Nat) : Ent G := ⟨43, (.cons (.imm 3) (.cons (.agg (.cons (.int .i64) (.cons (.int .i64) .nil))) .nil)), [], (.imm 3), [], fun x y => F43 n x.1 x.2.1.1 x.2.1.2.1⟩
theorem F43_eq (n : Nat) (x : ShL.den G (.cons (.imm 3) (.cons (.agg (.cons (.int .i64) (.cons (.int .i64) .nil))) .nil))) (y : denO G []) : (F43e n).F x y = runFn prog G (ro G (tabOf (E6 n)) (frOf [F43_0z n]) _) Go.Proofs.Try.f43 (.nd .no (.nd .no (.nd (.nd (.use 0) .no) .no))) [(0, .fz)] (ShL.enc G (.cons (.imm 3) (.cons (.agg (.cons (.int .i64) (.cons (.int .i64) .nil))) .nil)) x) (encO G [] y) (decR (.imm 3) []) := by kernel_rfl
theorem F43_ok (n : Nat) : EntOK prog G (F43e n) :=
  ent_ok (fr := frOf [F43_0z n]) (ann := (.nd .no (.nd .no (.nd (.nd (.use 0) .no) .no)))) (frm := [(0, .fz)]) laws fnok (E6_ok n).tab (e := F43e n) (fn := Go.Proofs.Try.f43) (by kernel_rfl) (AllF.ofB (cd := F43c) (l := [(0, codeAt F43c [1, 1, 0, 0])]) (by kernel_rfl) (by kernel_rfl) (AllF.cons (F43_0_ok n) AllF.nil)) (F43_eq n)
noncomputable def E7 (n : Nat) : List (Ent G) := F43e n :: E6 n
theorem E7_ok (n : Nat) : AllE prog G (E7 n) := AllE.cons (F43_ok n) (E6_ok n)
-- 25 loop.example/slowworm/spec.runsOf
noncomputable def F25c : Code := bodyOf Go.Proofs.Try.f25
noncomputable def F25_0x0 : SSh := ⟨74, [(0, (.imm 3)), (3, (.own 0)), (4, (.int .i64)), (5, (.int .i64)), (6, (.int .i64)), (7, .bool), (8, (.own 1)), (9, (.int .i64)), (10, (.int .i64))], [(.arr 6 true), (.arr 3 true)]⟩
noncomputable def F25_0s : SSh := ⟨74, [(0, (.imm 3)), (3, (.own 0)), (4, (.int .i64)), (5, (.int .i64)), (6, (.int .i64)), (7, .bool), (8, (.own 1)), (9, (.int .i64)), (10, (.int .i64))], [(.arr 6 true), (.arr 3 true)]⟩
noncomputable def F25_0 {R : Type} (n : Nat) (x214 : List Itm) (x215 : Int) (x216 : Int) (x217 : Int) (x218 : Bool) (x219 : Int) (x220 : Int) (x221 : List (List Itm)) (x222 : List Itm) (k0 : List Itm → Int → Int → Int → Bool → Int → Int → List (List Itm) → List Itm → Option R) : Option R :=
  (bif x218 then
  (k0 x214 x215 x216 x217 x218 x219 (IntKind.wrap .i64 ((IntKind.wrap .i64 ((IntKind.wrap .i64 (x216 + x217)) - (1 : Int))) - x219)) x221 x222)
  else (k0 x214 x215 x216 x217 x218 x219 x220 x221 x222))
noncomputable def F25_0z (n : Nat) : Sm G := inZ G 0 ⟨[0, 3, 4, 5, 6, 7, 8, 9, 10], []⟩ F25_0s fun R x K => F25_0 n x.1.1 x.1.2.2.1 x.1.2.2.2.1 x.1.2.2.2.2.1 x.1.2.2.2.2.2.1 x.1.2.2.2.2.2.2.2.1 x.1.2.2.2.2.2.2.2.2.1 x.2.1 x.2.2.1 (fun u0 u1 u2 u3 u4 u5 u6 u7 u8 => K .normal (SSh.enc G F25_0x0 ((u0, ((), (u1, (u2, (u3, (u4, ((), (u5, (u6, ()))))))))), (u7, (u8, ())))))
theorem F25_0_eq (n : Nat) (R : Type) (x : SSh.den G F25_0s) (K : AE → St G → Option R) :
  F25_0 n x.1.1 x.1.2.2.1 x.1.2.2.2.1 x.1.2.2.2.2.1 x.1.2.2.2.2.2.1 x.1.2.2.2.2.2.2.2.1 x.1.2.2.2.2.2.2.2.2.1 x.2.1 x.2.2.1 (fun u0 u1 u2 u3 u4 u5 u6 u7 u8 => K .normal (SSh.enc G F25_0x0 ((u0, ((), (u1, (u2, (u3, (u4, ((), (u5, (u6, ()))))))))), (u7, (u8, ()))))) = exec prog G (ro G (tabOf (E7 n)) (frOf []) R) 0 (codeAt F25c [1, 1, 1, 0, 1, 0, 0, 1, 0, 1, 1, 0, 1, 0, 0, 1, 0, 0, 1, 0]) .no (SSh.enc G F25_0s x) (kNrm G (ro G (tabOf (E7 n)) (frOf []) R) 0 ⟨⟨[0, 3, 4, 5, 6, 7, 8, 9, 10], []⟩, ⟨[2], []⟩, [(3, ⟨[0, 3, 4, 5, 6, 7, 8, 9], []⟩), (2, ⟨[0, 3, 4, 5, 6, 8], []⟩), (1, ⟨[0, 3, 4, 5], []⟩), (0, ⟨[3], []⟩)]⟩ K) := by kernel_rfl
theorem F25_0_ok (n : Nat) : FragOK prog G 0 (codeAt F25c [1, 1, 1, 0, 1, 0, 0, 1, 0, 1, 1, 0, 1, 0, 0, 1, 0, 0, 1, 0]) (F25_0z n) :=
  frag_plain laws fnok (E7_ok n).tab (AllF.of (l := []) (by kernel_rfl) AllF.nil) (F25_0_eq n)
noncomputable def F25_1x0 : SSh := ⟨74, [(0, (.imm 3)), (3, (.own 0)), (4, (.int .i64)), (5, (.int .i64)), (6, (.int .i64)), (7, .bool), (8, (.own 1)), (9, (.int .i64))], [(.arr 6 true), (.arr 3 true)]⟩
noncomputable def F25_1s : SSh := ⟨74, [(0, (.imm 3)), (3, (.own 0)), (4, (.int .i64)), (5, (.int .i64)), (6, (.int .i64)), (7, .bool), (8, (.own 1)), (9, (.int .i64))], [(.arr 6 true), (.arr 3 true)]⟩
noncomputable def F25_1 {R : Type} (n : Nat) (x205 : List Itm) (x206 : Int) (x207 : Int) (x208 : Int) (x209 : Bool) (x210 : Int) (x211 : List (List Itm)) (x212 : List Itm) (k0 : List Itm → Int → Int → Int → Bool → Int → List (List Itm) → List Itm → Option R) : Option R :=
  (F25_0 n x205 x206 x207 x208 x209 x210 (IntKind.wrap .i64 (x207 + x210)) x211 x212 (fun z226 z227 z228 z229 z230 z231 z232 z233 z234 =>
  (bif (decide ((0 : Int) ≤ z232)) then
  (bif (decide (z232 < ((z226.length) : Int))) then
  let v235 := (z226.getD (z232.toNat) (Itm.mk (0 : Int) (0 : Int)))
  let v238 := ((Itm.mk v235.key v235.tag) :: [])
  (bif (decide (((z234.length) + (v238.length)) ≤ (68719476736 : Nat))) then
  (k0 z226 z227 z228 z229 z230 z231 z233 (z234 ++ v238))
  else none)
  else none)
  else none)))
noncomputable def F25_1z (n : Nat) : Sm G := inZ G 0 ⟨[0, 3, 4, 5, 6, 7, 8, 9], []⟩ F25_1s fun R x K => F25_1 n x.1.1 x.1.2.2.1 x.1.2.2.2.1 x.1.2.2.2.2.1 x.1.2.2.2.2.2.1 x.1.2.2.2.2.2.2.2.1 x.2.1 x.2.2.1 (fun u0 u1 u2 u3 u4 u5 u6 u7 => K .normal (SSh.enc G F25_1x0 ((u0, ((), (u1, (u2, (u3, (u4, ((), (u5, ())))))))), (u6, (u7, ())))))
theorem F25_1_eq (n : Nat) (R : Type) (x : SSh.den G F25_1s) (K : AE → St G → Option R) :
  F25_1 n x.1.1 x.1.2.2.1 x.1.2.2.2.1 x.1.2.2.2.2.1 x.1.2.2.2.2.2.1 x.1.2.2.2.2.2.2.2.1 x.2.1 x.2.2.1 (fun u0 u1 u2 u3 u4 u5 u6 u7 => K .normal (SSh.enc G F25_1x0 ((u0, ((), (u1, (u2, (u3, (u4, ((), (u5, ())))))))), (u6, (u7, ()))))) = exec prog G (ro G (tabOf (E7 n)) (frOf [F25_0z n]) R) 0 (codeAt F25c [1, 1, 1, 0, 1, 0, 0, 1, 0, 1, 1, 0, 1, 0, 0, 1, 0]) (.nd (.nd .no (.nd (.use 0) .no)) .no) (SSh.enc G F25_1s x) (kNrm G (ro G (tabOf (E7 n)) (frOf [F25_0z n]) R) 0 ⟨⟨[0, 3, 4, 5, 6, 7, 8, 9], []⟩, ⟨[2], []⟩, [(2, ⟨[0, 3, 4, 5, 6, 8], []⟩), (1, ⟨[0, 3, 4, 5], []⟩), (0, ⟨[3], []⟩)]⟩ K) := by kernel_rfl
theorem F25_1_ok (n : Nat) : FragOK prog G 0 (codeAt F25c [1, 1, 1, 0, 1, 0, 0, 1, 0, 1, 1, 0, 1, 0, 0, 1, 0]) (F25_1z n) :=
  frag_plain laws fnok (E7_ok n).tab (AllF.of (l := [(0, codeAt F25c [1, 1, 1, 0, 1, 0, 0, 1, 0, 1, 1, 0, 1, 0, 0, 1, 0, 0, 1, 0])]) (by kernel_rfl) (AllF.cons (F25_0_ok n) AllF.nil)) (F25_1_eq n)
noncomputable def F25_2x0 : SSh := ⟨74, [(0, (.imm 3)), (3, (.own 0)), (4, (.int .i64)), (5, (.int .i64)), (6, (.int .i64)), (8, (.own 1))], [(.arr 6 true), (.arr 3 true)]⟩
noncomputable def F25_2s : SSh := ⟨74, [(0, (.imm 3)), (3, (.own 0)), (4, (.int .i64)), (5, (.int .i64)), (6, (.int .i64)), (7, .bool), (8, (.own 1)), (9, (.int .i64))], [(.arr 6 true), (.arr 3 true)]⟩
noncomputable def F25_2_step {R : Type} (n : Nat) (k0 : List Itm → Int → Int → Int → List (List Itm) → List Itm → Option R) (rec : List Itm → Int → Int → Int → Bool → Int → List (List Itm) → List Itm → Option R) (x196 : List Itm) (x197 : Int) (x198 : Int) (x199 : Int) (x200 : Bool) (x201 : Int) (x202 : List (List Itm)) (x203 : List Itm) : Option R :=
  (bif (decide (x201 < x199)) then
  (F25_1 n x196 x197 x198 x199 x200 x201 x202 x203 (fun z240 z241 z242 z243 z244 z245 z246 z247 =>
  (rec z240 z241 z242 z243 z244 (IntKind.wrap .i64 (z245 + (1 : Int))) z246 z247)))
  else (k0 x196 x197 x198 x199 x202 x203))
noncomputable def F25_2_it {R : Type} (n : Nat) (k0 : List Itm → Int → Int → Int → List (List Itm) → List Itm → Option R) : Nat → List Itm → Int → Int → Int → Bool → Int → List (List Itm) → List Itm → Option R
  | 0, _, _, _, _, _, _, _, _ => none
  | k + 1, x196, x197, x198, x199, x200, x201, x202, x203 => F25_2_step n k0 (F25_2_it n k0 k) x196 x197 x198 x199 x200 x201 x202 x203
noncomputable def F25_2 {R : Type} (n : Nat) (x196 : List Itm) (x197 : Int) (x198 : Int) (x199 : Int) (x200 : Bool) (x201 : Int) (x202 : List (List Itm)) (x203 : List Itm) (k0 : List Itm → Int → Int → Int → List (List Itm) → List Itm → Option R) : Option R := F25_2_it n k0 n x196 x197 x198 x199 x200 x201 x202 x203
noncomputable def F25_2z (n : Nat) : Sm G := inZ G 0 ⟨[0, 3, 4, 5, 6, 7, 8, 9], []⟩ F25_2s fun R x K => F25_2_it n (fun u0 u1 u2 u3 u4 u5 => K (.exit 2) (SSh.enc G F25_2x0 ((u0, ((), (u1, (u2, (u3, ((), ())))))), (u4, (u5, ()))))) n x.1.1 x.1.2.2.1 x.1.2.2.2.1 x.1.2.2.2.2.1 x.1.2.2.2.2.2.1 x.1.2.2.2.2.2.2.2.1 x.2.1 x.2.2.1
theorem F25_2_eq (n : Nat) (R : Type) (rec : SSh.den G F25_2s → Option R) (x : SSh.den G F25_2s) (K : AE → St G → Option R) :
  F25_2_step n (fun u0 u1 u2 u3 u4 u5 => K (.exit 2) (SSh.enc G F25_2x0 ((u0, ((), (u1, (u2, (u3, ((), ())))))), (u4, (u5, ()))))) (fun x196 x197 x198 x199 x200 x201 x202 x203 => rec ((x196, ((), (x197, (x198, (x199, (x200, ((), (x201, ())))))))), (x202, (x203, ())))) x.1.1 x.1.2.2.1 x.1.2.2.2.1 x.1.2.2.2.2.1 x.1.2.2.2.2.2.1 x.1.2.2.2.2.2.2.2.1 x.2.1 x.2.2.1 = exec prog G (ro G (tabOf (E7 n)) (frOf [F25_0z n, F25_1z n]) R) 0 (codeAt F25c [1, 1, 1, 0, 1, 0, 0, 1, 0, 1, 1, 0, 1, 0, 0]) (.nd .no (.nd (.use 1) .no)) (SSh.enc G F25_2s x) (kLoop G (ro G (tabOf (E7 n)) (frOf [F25_0z n, F25_1z n]) R) 0 ⟨[0, 3, 4, 5, 6, 7, 8, 9], []⟩ F25_2s ⟨⟨[0, 3, 4, 5, 6, 8], []⟩, ⟨[2], []⟩, [(2, ⟨[0, 3, 4, 5, 6, 8], []⟩), (1, ⟨[0, 3, 4, 5], []⟩), (0, ⟨[3], []⟩)]⟩ rec K) := by kernel_rfl
theorem F25_2_ok (n : Nat) : FragOK prog G 0 (codeAt F25c [1, 1, 1, 0, 1, 0, 0, 1, 0, 1, 1, 0, 1, 0]) (F25_2z n) :=
  frag_loop (Z := fun R k (x : SSh.den G F25_2s) K => F25_2_it n (fun u0 u1 u2 u3 u4 u5 => K (.exit 2) (SSh.enc G F25_2x0 ((u0, ((), (u1, (u2, (u3, ((), ())))))), (u4, (u5, ()))))) k x.1.1 x.1.2.2.1 x.1.2.2.2.1 x.1.2.2.2.2.1 x.1.2.2.2.2.2.1 x.1.2.2.2.2.2.2.2.1 x.2.1 x.2.2.1) laws fnok (E7_ok n).tab (AllF.of (l := [(1, codeAt F25c [1, 1, 1, 0, 1, 0, 0, 1, 0, 1, 1, 0, 1, 0, 0, 1, 0])]) (by kernel_rfl) (AllF.cons (F25_1_ok n) AllF.nil)) (fun _ _ _ => rfl) (fun R k y K => F25_2_eq n R (fun (x : SSh.den G F25_2s) => F25_2_it n (fun u0 u1 u2 u3 u4 u5 => K (.exit 2) (SSh.enc G F25_2x0 ((u0, ((), (u1, (u2, (u3, ((), ())))))), (u4, (u5, ()))))) k x.1.1 x.1.2.2.1 x.1.2.2.2.1 x.1.2.2.2.2.1 x.1.2.2.2.2.2.1 x.1.2.2.2.2.2.2.2.1 x.2.1 x.2.2.1) y K) n
noncomputable def F25_3x0 : SSh := ⟨74, [(0, (.imm 3)), (3, (.own 0)), (4, (.int .i64)), (5, (.int .i64)), (8, (.imm 3))], [(.arr 6 true)]⟩
noncomputable def F25_3s : SSh := ⟨74, [(0, (.imm 3)), (3, (.own 0)), (4, (.int .i64)), (5, (.int .i64)), (8, (.imm 3))], [(.arr 6 true)]⟩
noncomputable def F25_3_step {R : Type} (n : Nat) (k0 : List Itm → Int → Int → List Itm → List (List Itm) → Option R) (rec : List Itm → Int → Int → List Itm → List (List Itm) → Option R) (x256 : List Itm) (x257 : Int) (x258 : Int) (x259 : List Itm) (x260 : List (List Itm)) : Option R :=
  (bif (decide (((x259.length) : Int) < x257)) then
  (bif (decide (x258 < ((x256.length) : Int))) then
  (bif (decide ((0 : Int) ≤ x258)) then
  (bif (decide (x258 < ((x256.length) : Int))) then
  let v265 := (x256.getD (x258.toNat) (Itm.mk (0 : Int) (0 : Int)))
  (andThen (F43 n x259 v265.key v265.tag) fun r268 =>
  (rec x256 x257 (IntKind.wrap .i64 (x258 + (1 : Int))) r268.1 x260))
  else none)
  else none)
  else (k0 x256 x257 x258 x259 x260))
  else (k0 x256 x257 x258 x259 x260))
noncomputable def F25_3_it {R : Type} (n : Nat) (k0 : List Itm → Int → Int → List Itm → List (List Itm) → Option R) : Nat → List Itm → Int → Int → List Itm → List (List Itm) → Option R
  | 0, _, _, _, _, _ => none
  | k + 1, x256, x257, x258, x259, x260 => F25_3_step n k0 (F25_3_it n k0 k) x256 x257 x258 x259 x260
noncomputable def F25_3 {R : Type} (n : Nat) (x256 : List Itm) (x257 : Int) (x258 : Int) (x259 : List Itm) (x260 : List (List Itm)) (k0 : List Itm → Int → Int → List Itm → List (List Itm) → Option R) : Option R := F25_3_it n k0 n x256 x257 x258 x259 x260
noncomputable def F25_3z (n : Nat) : Sm G := inZ G 0 ⟨[0, 3, 4, 5, 8], [(8, .fz)]⟩ F25_3s fun R x K => F25_3_it n (fun u0 u1 u2 u3 u4 => K (.exit 4) (SSh.enc G F25_3x0 ((u0, ((), (u1, (u2, (u3, ()))))), (u4, ())))) n x.1.1 x.1.2.2.1 x.1.2.2.2.1 x.1.2.2.2.2.1 x.2.1
theorem F25_3_eq (n : Nat) (R : Type) (rec : SSh.den G F25_3s → Option R) (x : SSh.den G F25_3s) (K : AE → St G → Option R) :
  F25_3_step n (fun u0 u1 u2 u3 u4 => K (.exit 4) (SSh.enc G F25_3x0 ((u0, ((), (u1, (u2, (u3, ()))))), (u4, ())))) (fun x256 x257 x258 x259 x260 => rec ((x256, ((), (x257, (x258, (x259, ()))))), (x260, ()))) x.1.1 x.1.2.2.1 x.1.2.2.2.1 x.1.2.2.2.2.1 x.2.1 = exec prog G (ro G (tabOf (E7 n)) (frOf [F25_0z n, F25_1z n, F25_2z n]) R) 0 (codeAt F25c [1, 1, 1, 0, 1, 0, 0, 1, 0, 1, 1, 1, 1, 0, 0, 0]) .no (SSh.enc G F25_3s x) (kLoop G (ro G (tabOf (E7 n)) (frOf [F25_0z n, F25_1z n, F25_2z n]) R) 0 ⟨[0, 3, 4, 5, 8], [(8, .fz)]⟩ F25_3s ⟨⟨[0, 3, 4, 5, 8], []⟩, ⟨[2], []⟩, [(4, ⟨[0, 3, 4, 5, 8], []⟩), (1, ⟨[0, 3, 4, 5], []⟩), (0, ⟨[3], []⟩)]⟩ rec K) := by kernel_rfl
theorem F25_3_ok (n : Nat) : FragOK prog G 0 (codeAt F25c [1, 1, 1, 0, 1, 0, 0, 1, 0, 1, 1, 1, 1, 0, 0]) (F25_3z n) :=
  frag_loop (Z := fun R k (x : SSh.den G F25_3s) K => F25_3_it n (fun u0 u1 u2 u3 u4 => K (.exit 4) (SSh.enc G F25_3x0 ((u0, ((), (u1, (u2, (u3, ()))))), (u4, ())))) k x.1.1 x.1.2.2.1 x.1.2.2.2.1 x.1.2.2.2.2.1 x.2.1) laws fnok (E7_ok n).tab (AllF.of (l := []) (by kernel_rfl) AllF.nil) (fun _ _ _ => rfl) (fun R k y K => F25_3_eq n R (fun (x : SSh.den G F25_3s) => F25_3_it n (fun u0 u1 u2 u3 u4 => K (.exit 4) (SSh.enc G F25_3x0 ((u0, ((), (u1, (u2, (u3, ()))))), (u4, ())))) k x.1.1 x.1.2.2.1 x.1.2.2.2.1 x.1.2.2.2.2.1 x.2.1) y K) n
noncomputable def F25_4x0 : SSh := ⟨74, [(3, (.own 0))], [(.arr 6 true)]⟩
noncomputable def F25_4s : SSh := ⟨74, [(0, (.imm 3)), (3, (.own 0)), (4, (.int .i64)), (5, (.int .i64))], [(.arr 6 true)]⟩
noncomputable def F25_4_step {R : Type} (n : Nat) (k0 : List (List Itm) → Option R) (rec : List Itm → Int → Int → List (List Itm) → Option R) (x188 : List Itm) (x189 : Int) (x190 : Int) (x191 : List (List Itm)) : Option R :=
  (bif (decide (x190 < ((x188.length) : Int))) then
  (andThen (F42 n x188 x190) fun r194 =>
  (F25_2 n x188 x189 x190 r194.1.1 r194.1.2.1 (0 : Int) x191 [] (fun z249 z250 z251 z252 z253 z254 =>
  (F25_3 n z249 z250 (IntKind.wrap .i64 (z251 + z252)) z254 z253 (fun z270 z271 z272 z273 z274 =>
  let v275 := (z273 :: [])
  (bif (decide (((z274.length) + (v275.length)) ≤ (68719476736 : Nat))) then
  (rec z270 z271 z272 (z274 ++ v275))
  else none))))))
  else (k0 x191))
noncomputable def F25_4_it {R : Type} (n : Nat) (k0 : List (List Itm) → Option R) : Nat → List Itm → Int → Int → List (List Itm) → Option R
  | 0, _, _, _, _ => none
  | k + 1, x188, x189, x190, x191 => F25_4_step n k0 (F25_4_it n k0 k) x188 x189 x190 x191
noncomputable def F25_4 {R : Type} (n : Nat) (x188 : List Itm) (x189 : Int) (x190 : Int) (x191 : List (List Itm)) (k0 : List (List Itm) → Option R) : Option R := F25_4_it n k0 n x188 x189 x190 x191
noncomputable def F25_4z (n : Nat) : Sm G := inZ G 0 ⟨[0, 3, 4, 5], []⟩ F25_4s fun R x K => F25_4_it n (fun u0 => K (.exit 0) (SSh.enc G F25_4x0 (((), ()), (u0, ())))) n x.1.1 x.1.2.2.1 x.1.2.2.2.1 x.2.1
theorem F25_4_eq (n : Nat) (R : Type) (rec : SSh.den G F25_4s → Option R) (x : SSh.den G F25_4s) (K : AE → St G → Option R) :
  F25_4_step n (fun u0 => K (.exit 0) (SSh.enc G F25_4x0 (((), ()), (u0, ())))) (fun x188 x189 x190 x191 => rec ((x188, ((), (x189, (x190, ())))), (x191, ()))) x.1.1 x.1.2.2.1 x.1.2.2.2.1 x.2.1 = exec prog G (ro G (tabOf (E7 n)) (frOf [F25_0z n, F25_1z n, F25_2z n, F25_3z n]) R) 0 (codeAt F25c [1, 1, 1, 0, 1, 0, 0]) (.nd .no (.nd (.nd .no (.nd .no (.nd (.nd .no (.nd (.use 2) .no)) (.nd .no (.nd (.nd (.use 3) .no) .no))))) .no)) (SSh.enc G F25_4s x) (kLoop G (ro G (tabOf (E7 n)) (frOf [F25_0z n, F25_1z n, F25_2z n, F25_3z n]) R) 0 ⟨[0, 3, 4, 5], []⟩ F25_4s ⟨⟨[3], []⟩, ⟨[2], []⟩, [(0, ⟨[3], []⟩)]⟩ rec K) := by kernel_rfl
theorem F25_4_ok (n : Nat) : FragOK prog G 0 (codeAt F25c [1, 1, 1, 0, 1, 0]) (F25_4z n) :=
  frag_loop (Z := fun R k (x : SSh.den G F25_4s) K => F25_4_it n (fun u0 => K (.exit 0) (SSh.enc G F25_4x0 (((), ()), (u0, ())))) k x.1.1 x.1.2.2.1 x.1.2.2.2.1 x.2.1) laws fnok (E7_ok n).tab (AllF.of (l := [(2, codeAt F25c [1, 1, 1, 0, 1, 0, 0, 1, 0, 1, 1, 0, 1, 0]), (3, codeAt F25c [1, 1, 1, 0, 1, 0, 0, 1, 0, 1, 1, 1, 1, 0, 0])]) (by kernel_rfl) (AllF.cons (F25_2_ok n) (AllF.cons (F25_3_ok n) AllF.nil))) (fun _ _ _ => rfl) (fun R k y K => F25_4_eq n R (fun (x : SSh.den G F25_4s) => F25_4_it n (fun u0 => K (.exit 0) (SSh.enc G F25_4x0 (((), ()), (u0, ())))) k x.1.1 x.1.2.2.1 x.1.2.2.2.1 x.2.1) y K) n
noncomputable def F25 (n : Nat) (a184 : List Itm) : Option (List (List Itm) × Unit) :=
  (andThen (F41 n ((a184.length) : Int)) fun r187 =>
  (F25_4 n a184 r187.1 (0 : Int) [] (fun z277 =>
  some (z277, ()))))
noncomputable def F25e (n : Nat) : Ent G := ⟨25, (.cons (.imm 3) .nil), [], (.imm 6), [], fun x y => F25 n x.1⟩
theorem F25_eq (n : Nat) (x : ShL.den G (.cons (.imm 3) .nil)) (y : denO G []) : (F25e n).F x y = runFn prog G (ro G (tabOf (E7 n)) (frOf [F25_0z n, F25_1z n, F25_2z n, F25_3z n, F25_4z n]) _) Go.Proofs.Try.f25 (.nd .no (.nd .no (.nd .no (.nd (.nd .no (.nd (.use 4) .no)) .no)))) [(0, .fz)] (ShL.enc G (.cons (.imm 3) .nil) x) (encO G [] y) (decR (.imm 6) []) := by kernel_rfl
theorem F25_ok (n : Nat) : EntOK prog G (F25e n) :=
  ent_ok (fr := frOf [F25_0z n, F25_1z n, F25_2z n, F25_3z n, F25_4z n]) (ann := (.nd .no (.nd .no (.nd .no (.nd (.nd .no (.nd (.use 4) .no)) .no))))) (frm := [(0, .fz)]) laws fnok (E7_ok n).tab (e := F25e n) (fn := Go.Proofs.Try.f25) (by kernel_rfl) (AllF.ofB (cd := F25c) (l := [(4, codeAt F25c [1, 1, 1, 0, 1, 0])]) (by kernel_rfl) (by kernel_rfl) (AllF.cons (F25_4_ok n) AllF.nil)) (F25_eq n)
noncomputable def E8 (n : Nat) : List (Ent G) := F25e n :: E7 n
theorem E8_ok (n : Nat) : AllE prog G (E8 n) := AllE.cons (F25_ok n) (E7_ok n)
-- 44 loop.example/slowworm/spec.mergeAt
noncomputable def F44c : Code := bodyOf Go.Proofs.Try.f44
noncomputable def F44 (n : Nat) (a324 : List Int) (a325 : Bool) : Option (Int × Unit) :=
  let v327 := (IntKind.wrap .i64 (((a324.length) : Int) - (2 : Int)))
  (bif (decide (v327 < (0 : Int))) then
  some ((-1 : Int), ())
  else (bif (decide (v327 > (0 : Int))) then
  let v330 := (IntKind.wrap .i64 (v327 - (1 : Int)))
  (bif (decide ((0 : Int) ≤ v330)) then
  (bif (decide (v330 < ((a324.length) : Int))) then
  (bif (decide ((0 : Int) ≤ v327)) then
  (bif (decide (v327 < ((a324.length) : Int))) then
  let v335 := (IntKind.wrap .i64 (v327 + (1 : Int)))
  (bif (decide ((0 : Int) ≤ v335)) then
  (bif (decide (v335 < ((a324.length) : Int))) then
  (bif (decide ((a324.getD (v330.toNat) (0 : Int)) ≤ (IntKind.wrap .i64 ((a324.getD (v327.toNat) (0 : Int)) + (a324.getD (v335.toNat) (0 : Int)))))) then
  let v340 := (IntKind.wrap .i64 (v327 - (1 : Int)))
  (bif (decide ((0 : Int) ≤ v340)) then
  (bif (decide (v340 < ((a324.length) : Int))) then
  let v343 := (IntKind.wrap .i64 (v327 + (1 : Int)))
  (bif (decide ((0 : Int) ≤ v343)) then
  (bif (decide (v343 < ((a324.length) : Int))) then
  (bif (decide ((a324.getD (v340.toNat) (0 : Int)) < (a324.getD (v343.toNat) (0 : Int)))) then
  some ((IntKind.wrap .i64 (v327 - (1 : Int))), ())
  else some (v327, ()))
  else none)
  else none)
  else none)
  else none)
  else (bif (decide (v327 > (1 : Int))) then
  let v349 := (IntKind.wrap .i64 (v327 - (2 : Int)))
  (bif (decide ((0 : Int) ≤ v349)) then
  (bif (decide (v349 < ((a324.length) : Int))) then
  let v352 := (IntKind.wrap .i64 (v327 - (1 : Int)))
  (bif (decide ((0 : Int) ≤ v352)) then
  (bif (decide (v352 < ((a324.length) : Int))) then
  (bif (decide ((0 : Int) ≤ v327)) then
  (bif (decide (v327 < ((a324.length) : Int))) then
  let v358 := (decide ((a324.getD (v349.toNat) (0 : Int)) ≤ (IntKind.wrap .i64 ((a324.getD (v352.toNat) (0 : Int)) + (a324.getD (v327.toNat) (0 : Int))))))
  (bif v358 then
  let v359 := (IntKind.wrap .i64 (v327 - (1 : Int)))
  (bif (decide ((0 : Int) ≤ v359)) then
  (bif (decide (v359 < ((a324.length) : Int))) then
  let v362 := (IntKind.wrap .i64 (v327 + (1 : Int)))
  (bif (decide ((0 : Int) ≤ v362)) then
  (bif (decide (v362 < ((a324.length) : Int))) then
  (bif (decide ((a324.getD (v359.toNat) (0 : Int)) < (a324.getD (v362.toNat) (0 : Int)))) then
  some ((IntKind.wrap .i64 (v327 - (1 : Int))), ())
  else (bif v358 then
  some (v327, ())
  else (bif a325 then
  some (v327, ())
  else (bif (decide ((0 : Int) ≤ v327)) then
  (bif (decide (v327 < ((a324.length) : Int))) then
  let v369 := (IntKind.wrap .i64 (v327 + (1 : Int)))
  (bif (decide ((0 : Int) ≤ v369)) then
  (bif (decide (v369 < ((a324.length) : Int))) then
  (bif (decide ((a324.getD (v327.toNat) (0 : Int)) ≤ (a324.getD (v369.toNat) (0 : Int)))) then
  some (v327, ())
  else some ((-1 : Int), ()))
  else none)
  else none)
  else none)
  else none))))
  else none)
  else none)
  else none)
  else none)
  else (bif a325 then
  (bif (decide (v327 > (0 : Int))) then
  let v374 := (IntKind.wrap .i64 (v327 - (1 : Int)))
  (bif (decide ((0 : Int) ≤ v374)) then
  (bif (decide (v374 < ((a324.length) : Int))) then
  let v377 := (IntKind.wrap .i64 (v327 + (1 : Int)))
  (bif (decide ((0 : Int) ≤ v377)) then
  (bif (decide (v377 < ((a324.length) : Int))) then
  (bif (decide ((a324.getD (v374.toNat) (0 : Int)) < (a324.getD (v377.toNat) (0 : Int)))) then
  some ((IntKind.wrap .i64 (v327 - (1 : Int))), ())
  else (bif v358 then
  some (v327, ())
  else (bif a325 then
  some (v327, ())
  else (bif (decide ((0 : Int) ≤ v327)) then
  (bif (decide (v327 < ((a324.length) : Int))) then
  let v384 := (IntKind.wrap .i64 (v327 + (1 : Int)))
  (bif (decide ((0 : Int) ≤ v384)) then
  (bif (decide (v384 < ((a324.length) : Int))) then
  (bif (decide ((a324.getD (v327.toNat) (0 : Int)) ≤ (a324.getD (v384.toNat) (0 : Int)))) then
  some (v327, ())
  else some ((-1 : Int), ()))
  else none)
  else none)
  else none)
  else none))))
  else none)
  else none)
  else none)
  else none)
  else (bif v358 then
  some (v327, ())
  else (bif a325 then
  some (v327, ())
  else (bif (decide ((0 : Int) ≤ v327)) then
  (bif (decide (v327 < ((a324.length) : Int))) then
  let v390 := (IntKind.wrap .i64 (v327 + (1 : Int)))
  (bif (decide ((0 : Int) ≤ v390)) then
  (bif (decide (v390 < ((a324.length) : Int))) then
  (bif (decide ((a324.getD (v327.toNat) (0 : Int)) ≤ (a324.getD (v390.toNat) (0 : Int)))) then
  some (v327, ())
  else some ((-1 : Int), ()))
  else none)
  else none)
  else none)
  else none))))
  else (bif v358 then
  some (v327, ())
  else (bif a325 then
  some (v327, ())
  else (bif (decide ((0 : Int) ≤ v327)) then
  (bif (decide (v327 < ((a324.length) : Int))) then
  let v396 := (IntKind.wrap .i64 (v327 + (1 : Int)))
  (bif (decide ((0 : Int) ≤ v396)) then
  (bif (decide (v396 < ((a324.length) : Int))) then
  (bif (decide ((a324.getD (v327.toNat) (0 : Int)) ≤ (a324.getD (v396.toNat) (0 : Int)))) then
  some (v327, ())
  else some ((-1 : Int), ()))
  else none)
  else none)
  else none)
  else none)))))
  else none)
  else none)
  else none)
  else none)
  else none)
  else none)
  else (bif a325 then
  (bif (decide (v327 > (0 : Int))) then
  let v401 := (IntKind.wrap .i64 (v327 - (1 : Int)))
  (bif (decide ((0 : Int) ≤ v401)) then
  (bif (decide (v401 < ((a324.length) : Int))) then
  let v404 := (IntKind.wrap .i64 (v327 + (1 : Int)))
  (bif (decide ((0 : Int) ≤ v404)) then
  (bif (decide (v404 < ((a324.length) : Int))) then
  (bif (decide ((a324.getD (v401.toNat) (0 : Int)) < (a324.getD (v404.toNat) (0 : Int)))) then
  some ((IntKind.wrap .i64 (v327 - (1 : Int))), ())
  else (bif a325 then
  some (v327, ())
  else (bif (decide ((0 : Int) ≤ v327)) then
  (bif (decide (v327 < ((a324.length) : Int))) then
  let v411 := (IntKind.wrap .i64 (v327 + (1 : Int)))
  (bif (decide ((0 : Int) ≤ v411)) then
  (bif (decide (v411 < ((a324.length) : Int))) then
  (bif (decide ((a324.getD (v327.toNat) (0 : Int)) ≤ (a324.getD (v411.toNat) (0 : Int)))) then
  some (v327, ())
  else some ((-1 : Int), ()))
  else none)
  else none)
  else none)
  else none)))
  else none)
  else none)
  else none)
  else none)
  else (bif a325 then
  some (v327, ())
  else (bif (decide ((0 : Int) ≤ v327)) then
  (bif (decide (v327 < ((a324.length) : Int))) then
  let v417 := (IntKind.wrap .i64 (v327 + (1 : Int)))
  (bif (decide ((0 : Int) ≤ v417)) then
  (bif (decide (v417 < ((a324.length) : Int))) then
  (bif (decide ((a324.getD (v327.toNat) (0 : Int)) ≤ (a324.getD (v417.toNat) (0 : Int)))) then
  some (v327, ())
  else some ((-1 : Int), ()))
  else none)
  else none)
  else none)
  else none)))
  else (bif a325 then
  some (v327, ())
  else (bif (decide ((0 : Int) ≤ v327)) then
  (bif (decide (v327 < ((a324.length) : Int))) then
  let v423 := (IntKind.wrap .i64 (v327 + (1 : Int)))
  (bif (decide ((0 : Int) ≤ v423)) then
  (bif (decide (v423 < ((a324.length) : Int))) then
  (bif (decide ((a324.getD (v327.toNat) (0 : Int)) ≤ (a324.getD (v423.toNat) (0 : Int)))) then
  some (v327, ())
  else some ((-1 : Int), ()))
  else none)
  else none)
  else none)
  else none)))))
  else none)
  else none)
  else none)
  else none)
  else none)
  else none)
  else (bif (decide (v327 > (1 : Int))) then
  let v428 := (IntKind.wrap .i64 (v327 - (2 : Int)))
  (bif (decide ((0 : Int) ≤ v428)) then
  (bif (decide (v428 < ((a324.length) : Int))) then
  let v431 := (IntKind.wrap .i64 (v327 - (1 : Int)))
  (bif (decide ((0 : Int) ≤ v431)) then
  (bif (decide (v431 < ((a324.length) : Int))) then
  (bif (decide ((0 : Int) ≤ v327)) then
  (bif (decide (v327 < ((a324.length) : Int))) then
  let v437 := (decide ((a324.getD (v428.toNat) (0 : Int)) ≤ (IntKind.wrap .i64 ((a324.getD (v431.toNat) (0 : Int)) + (a324.getD (v327.toNat) (0 : Int))))))
  (bif v437 then
  let v438 := (IntKind.wrap .i64 (v327 - (1 : Int)))
  (bif (decide ((0 : Int) ≤ v438)) then
  (bif (decide (v438 < ((a324.length) : Int))) then
  let v441 := (IntKind.wrap .i64 (v327 + (1 : Int)))
  (bif (decide ((0 : Int) ≤ v441)) then
  (bif (decide (v441 < ((a324.length) : Int))) then
  (bif (decide ((a324.getD (v438.toNat) (0 : Int)) < (a324.getD (v441.toNat) (0 : Int)))) then
  some ((IntKind.wrap .i64 (v327 - (1 : Int))), ())
  else (bif v437 then
  some (v327, ())
  else (bif a325 then
  some (v327, ())
  else (bif (decide ((0 : Int) ≤ v327)) then
  (bif (decide (v327 < ((a324.length) : Int))) then
  let v448 := (IntKind.wrap .i64 (v327 + (1 : Int)))
  (bif (decide ((0 : Int) ≤ v448)) then
  (bif (decide (v448 < ((a324.length) : Int))) then
  (bif (decide ((a324.getD (v327.toNat) (0 : Int)) ≤ (a324.getD (v448.toNat) (0 : Int)))) then
  some (v327, ())
  else some ((-1 : Int), ()))
  else none)
  else none)
  else none)
  else none))))
  else none)
  else none)
  else none)
  else none)
  else (bif a325 then
  (bif (decide (v327 > (0 : Int))) then
  let v453 := (IntKind.wrap .i64 (v327 - (1 : Int)))
  (bif (decide ((0 : Int) ≤ v453)) then
  (bif (decide (v453 < ((a324.length) : Int))) then
  let v456 := (IntKind.wrap .i64 (v327 + (1 : Int)))
  (bif (decide ((0 : Int) ≤ v456)) then
  (bif (decide (v456 < ((a324.length) : Int))) then
  (bif (decide ((a324.getD (v453.toNat) (0 : Int)) < (a324.getD (v456.toNat) (0 : Int)))) then
  some ((IntKind.wrap .i64 (v327 - (1 : Int))), ())
  else (bif v437 then
  some (v327, ())
  else (bif a325 then
  some (v327, ())
  else (bif (decide ((0 : Int) ≤ v327)) then
  (bif (decide (v327 < ((a324.length) : Int))) then
  let v463 := (IntKind.wrap .i64 (v327 + (1 : Int)))
  (bif (decide ((0 : Int) ≤ v463)) then
  (bif (decide (v463 < ((a324.length) : Int))) then
  (bif (decide ((a324.getD (v327.toNat) (0 : Int)) ≤ (a324.getD (v463.toNat) (0 : Int)))) then
  some (v327, ())
  else some ((-1 : Int), ()))
  else none)
  else none)
  else none)
  else none))))
  else none)
  else none)
  else none)
  else none)
  else (bif v437 then
  some (v327, ())
  else (bif a325 then
  some (v327, ())
  else (bif (decide ((0 : Int) ≤ v327)) then
  (bif (decide (v327 < ((a324.length) : Int))) then
  let v469 := (IntKind.wrap .i64 (v327 + (1 : Int)))
  (bif (decide ((0 : Int) ≤ v469)) then
  (bif (decide (v469 < ((a324.length) : Int))) then
  (bif (decide ((a324.getD (v327.toNat) (0 : Int)) ≤ (a324.getD (v469.toNat) (0 : Int)))) then
  some (v327, ())
  else some ((-1 : Int), ()))
  else none)
  else none)
  else none)
  else none))))
  else (bif v437 then
  some (v327, ())
  else (bif a325 then
  some (v327, ())
  else (bif (decide ((0 : Int) ≤ v327)) then
  (bif (decide (v327 < ((a324.length) : Int))) then
  let v475 := (IntKind.wrap .i64 (v327 + (1 : Int)))
  (bif (decide ((0 : Int) ≤ v475)) then
  (bif (decide (v475 < ((a324.length) : Int))) then
  (bif (decide ((a324.getD (v327.toNat) (0 : Int)) ≤ (a324.getD (v475.toNat) (0 : Int)))) then
  some (v327, ())
  else some ((-1 : Int), ()))
  else none)
  else none)
  else none)
  else none)))))
  else none)
  else none)
  else none)
  else none)
  else none)
  else none)
  else (bif a325 then
  (bif (decide (v327 > (0 : Int))) then
  let v480 := (IntKind.wrap .i64 (v327 - (1 : Int)))
  (bif (decide ((0 : Int) ≤ v480)) then
  (bif (decide (v480 < ((a324.length) : Int))) then
  let v483 := (IntKind.wrap .i64 (v327 + (1 : Int)))
  (bif (decide ((0 : Int) ≤ v483)) then
  (bif (decide (v483 < ((a324.length) : Int))) then
  (bif (decide ((a324.getD (v480.toNat) (0 : Int)) < (a324.getD (v483.toNat) (0 : Int)))) then
  some ((IntKind.wrap .i64 (v327 - (1 : Int))), ())
  else (bif a325 then
  some (v327, ())
  else (bif (decide ((0 : Int) ≤ v327)) then
  (bif (decide (v327 < ((a324.length) : Int))) then
  let v490 := (IntKind.wrap .i64 (v327 + (1 : Int)))
  (bif (decide ((0 : Int) ≤ v490)) then
  (bif (decide (v490 < ((a324.length) : Int))) then
  (bif (decide ((a324.getD (v327.toNat) (0 : Int)) ≤ (a324.getD (v490.toNat) (0 : Int)))) then
  some (v327, ())
  else some ((-1 : Int), ()))
  else none)
  else none)
  else none)
  else none)))
  else none)
  else none)
  else none)
  else none)
  else (bif a325 then
  some (v327, ())
  else (bif (decide ((0 : Int) ≤ v327)) then
  (bif (decide (v327 < ((a324.length) : Int))) then
  let v496 := (IntKind.wrap .i64 (v327 + (1 : Int)))
  (bif (decide ((0 : Int) ≤ v496)) then
  (bif (decide (v496 < ((a324.length) : Int))) then
  (bif (decide ((a324.getD (v327.toNat) (0 : Int)) ≤ (a324.getD (v496.toNat) (0 : Int)))) then
  some (v327, ())
  else some ((-1 : Int), ()))
  else none)
  else none)
  else none)
  else none)))
  else (bif a325 then
  some (v327, ())
  else (bif (decide ((0 : Int) ≤ v327)) then
  (bif (decide (v327 < ((a324.length) : Int))) then
  let v502 := (IntKind.wrap .i64 (v327 + (1 : Int)))
  (bif (decide ((0 : Int) ≤ v502)) then
  (bif (decide (v502 < ((a324.length) : Int))) then
  (bif (decide ((a324.getD (v327.toNat) (0 : Int)) ≤ (a324.getD (v502.toNat) (0 : Int)))) then
  some (v327, ())
  else some ((-1 : Int), ()))
  else none)
  else none)
  else none)
  else none))))))
noncomputable def F44e (n : Nat) : Ent G := ⟨44, (.cons (.imm 0) (.cons .bool .nil)), [], (.int .i64), [], fun x y => F44 n x.1 x.2.1⟩
theorem F44_eq (n : Nat) (x : ShL.den G (.cons (.imm 0) (.cons .bool .nil))) (y : denO G []) : (F44e n).F x y = runFn prog G (ro G (tabOf (E8 n)) (frOf []) _) Go.Proofs.Try.f44 .no [(0, .fz)] (ShL.enc G (.cons (.imm 0) (.cons .bool .nil)) x) (encO G [] y) (decR (.int .i64) []) := by kernel_rfl
theorem F44_ok (n : Nat) : EntOK prog G (F44e n) :=
  ent_ok (fr := frOf []) (ann := .no) (frm := [(0, .fz)]) laws fnok (E8_ok n).tab (e := F44e n) (fn := Go.Proofs.Try.f44) (by kernel_rfl) (AllF.ofB (cd := F44c) (l := []) (by kernel_rfl) (by kernel_rfl) AllF.nil) (F44_eq n)
noncomputable def E9 (n : Nat) : List (Ent G) := F44e n :: E8 n
theorem E9_ok (n : Nat) : AllE prog G (E9 n) := AllE.cons (F44_ok n) (E8_ok n)
-- 45 loop.example/slowworm/spec.mergeStep
noncomputable def F45c : Code := bodyOf Go.Proofs.Try.f45
noncomputable def F45 (n : Nat) (a521 : List Int) (a522 : Int) : Option (List Int × Unit) :=
  let v523 := []
  (bif (decide ((0 : Int) ≤ a522)) then
  (bif (decide (a522 ≤ ((a521.length) : Int))) then
  let v524 := ((a521.take (a522.toNat)).drop (0 : Nat))
  (bif (decide (((v523.length) + (v524.length)) ≤ (68719476736 : Nat))) then
  let v525 := (v523 ++ v524)
  (bif (decide ((0 : Int) ≤ a522)) then
  (bif (decide (a522 < ((a521.length) : Int))) then
  let v528 := (IntKind.wrap .i64 (a522 + (1 : Int)))
  (bif (decide ((0 : Int) ≤ v528)) then
  (bif (decide (v528 < ((a521.length) : Int))) then
  let v532 := ((IntKind.wrap .i64 ((a521.getD (a522.toNat) (0 : Int)) + (a521.getD (v528.toNat) (0 : Int)))) :: [])
  (bif (decide (((v525.length) + (v532.length)) ≤ (68719476736 : Nat))) then
  let v533 := (v525 ++ v532)
  let v534 := (IntKind.wrap .i64 (a522 + (2 : Int)))
  (bif (decide ((0 : Int) ≤ v534)) then
  (bif (decide (v534 ≤ ((a521.length) : Int))) then
  (bif (decide (((a521.length) : Int) ≤ ((a521.length) : Int))) then
  let v535 := ((a521.take (((a521.length) : Int).toNat)).drop (v534.toNat))
  (bif (decide (((v533.length) + (v535.length)) ≤ (68719476736 : Nat))) then
  some ((v533 ++ v535), ())
  else none)
  else none)
  else none)
  else none)
  else none)
  else none)
  else none)
  else none)
  else none)
  else none)
  else none)
  else none)
noncomputable def F45e (n : Nat) : Ent G := ⟨45, (.cons (.imm 0) (.cons (.int .i64) .nil)), [], (.imm 0), [], fun x y => F45 n x.1 x.2.1⟩
theorem F45_eq (n : Nat) (x : ShL.den G (.cons (.imm 0) (.cons (.int .i64) .nil))) (y : denO G []) : (F45e n).F x y = runFn prog G (ro G (tabOf (E9 n)) (frOf []) _) Go.Proofs.Try.f45 .no [(0, .fz)] (ShL.enc G (.cons (.imm 0) (.cons (.int .i64) .nil)) x) (encO G [] y) (decR (.imm 0) []) := by kernel_rfl
theorem F45_ok (n : Nat) : EntOK prog G (F45e n) :=
  ent_ok (fr := frOf []) (ann := .no) (frm := [(0, .fz)]) laws fnok (E9_ok n).tab (e := F45e n) (fn := Go.Proofs.Try.f45) (by kernel_rfl) (AllF.ofB (cd := F45c) (l := []) (by kernel_rfl) (by kernel_rfl) AllF.nil) (F45_eq n)
noncomputable def E10 (n : Nat) : List (Ent G) := F45e n :: E9 n
theorem E10_ok (n : Nat) : AllE prog G (E10 n) := AllE.cons (F45_ok n) (E9_ok n)
-- 26 loop.example/slowworm/spec.mergePlan
noncomputable def F26c : Code := bodyOf Go.Proofs.Try.f26
noncomputable def F26_0x0 : SSh := ⟨60, [(0, (.imm 0)), (3, (.own 0)), (4, (.own 1)), (5, (.int .i64))], [(.arr 5 true), (.arr 0 true)]⟩
noncomputable def F26_0x1 : SSh := ⟨60, [(0, (.imm 0)), (3, (.own 0)), (4, (.imm 0)), (5, (.int .i64))], [(.arr 5 true)]⟩
noncomputable def F26_0s : SSh := ⟨60, [(0, (.imm 0)), (3, (.own 0)), (4, (.imm 0)), (5, (.int .i64))], [(.arr 5 true)]⟩
noncomputable def F26_0 {R : Type} (n : Nat) (x613 : List Int) (x614 : List Int) (x615 : Int) (x616 : List (List Int)) (k0 : List Int → Int → List (List Int) → List Int → Option R) (k1 : List Int → List Int → Int → List (List Int) → Option R) : Option R :=
  (bif (decide (x615 < ((x613.length) : Int))) then
  let v619 := []
  (bif (decide (((v619.length) + (x614.length)) ≤ (68719476736 : Nat))) then
  let v620 := (v619 ++ x614)
  (bif (decide ((0 : Int) ≤ x615)) then
  (bif (decide (x615 < ((x613.length) : Int))) then
  let v623 := ((x613.getD (x615.toNat) (0 : Int)) :: [])
  (bif (decide (((v620.length) + (v623.length)) ≤ (68719476736 : Nat))) then
  (k0 x613 x615 x616 (v620 ++ v623))
  else none)
  else none)
  else none)
  else none)
  else (k1 x613 x614 x615 x616))
noncomputable def F26_0z (n : Nat) : Sm G := inZ G 0 ⟨[0, 3, 4, 5], []⟩ F26_0s fun R x K => F26_0 n x.1.1 x.1.2.2.1 x.1.2.2.2.1 x.2.1 (fun u0 u1 u2 u3 => K .normal (SSh.enc G F26_0x0 ((u0, ((), ((), (u1, ())))), (u2, (u3, ()))))) (fun u0 u1 u2 u3 => K .normal (SSh.enc G F26_0x1 ((u0, ((), (u1, (u2, ())))), (u3, ()))))
theorem F26_0_eq (n : Nat) (R : Type) (x : SSh.den G F26_0s) (K : AE → St G → Option R) :
  F26_0 n x.1.1 x.1.2.2.1 x.1.2.2.2.1 x.2.1 (fun u0 u1 u2 u3 => K .normal (SSh.enc G F26_0x0 ((u0, ((), ((), (u1, ())))), (u2, (u3, ()))))) (fun u0 u1 u2 u3 => K .normal (SSh.enc G F26_0x1 ((u0, ((), (u1, (u2, ())))), (u3, ())))) = exec prog G (ro G (tabOf (E10 n)) (frOf []) R) 0 (codeAt F26c [1, 1, 1, 0, 1, 0, 0, 1, 0, 0, 0]) .no (SSh.enc G F26_0s x) (kNrm G (ro G (tabOf (E10 n)) (frOf []) R) 0 ⟨⟨[0, 3, 4, 5], []⟩, ⟨[2], []⟩, [(1, ⟨[0, 3, 4, 5], []⟩), (0, ⟨[3], []⟩)]⟩ K) := by kernel_rfl
theorem F26_0_ok (n : Nat) : FragOK prog G 0 (codeAt F26c [1, 1, 1, 0, 1, 0, 0, 1, 0, 0, 0]) (F26_0z n) :=
  frag_plain laws fnok (E10_ok n).tab (AllF.of (l := []) (by kernel_rfl) AllF.nil) (F26_0_eq n)
noncomputable def F26_1x0 : SSh := ⟨60, [(0, (.imm 0)), (3, (.own 0)), (4, (.imm 0)), (5, (.int .i64))], [(.arr 5 true)]⟩
noncomputable def F26_1s : SSh := ⟨60, [(0, (.imm 0)), (3, (.own 0)), (4, (.imm 0)), (5, (.int .i64)), (6, (.int .i64))], [(.arr 5 true)]⟩
noncomputable def F26_1_step {R : Type} (n : Nat) (k0 : List Int → List Int → Int → List (List Int) → Option R) (rec : List Int → List Int → Int → Int → List (List Int) → Option R) (x632 : List Int) (x633 : List Int) (x634 : Int) (x635 : Int) (x636 : List (List Int)) : Option R :=
  (bif (decide (x635 ≥ (0 : Int))) then
  (bif (decide ((0 : Int) ≤ x635)) then
  (bif (decide (x635 < ((x633.length) : Int))) then
  let v640 := (IntKind.wrap .i64 (x635 + (1 : Int)))
  (bif (decide ((0 : Int) ≤ v640)) then
  (bif (decide (v640 < ((x633.length) : Int))) then
  let v644 := ((x635 :: ((x633.getD (x635.toNat) (0 : Int)) :: ((x633.getD (v640.toNat) (0 : Int)) :: []))) :: [])
  (bif (decide (((x636.length) + (v644.length)) ≤ (68719476736 : Nat))) then
  (andThen (F45 n x633 x635) fun r646 =>
  (andThen (F44 n r646.1 (x634 == ((x632.length) : Int))) fun r649 =>
  (rec x632 r646.1 x634 r649.1 (x636 ++ v644))))
  else none)
  else none)
  else none)
  else none)
  else none)
  else (k0 x632 x633 x634 x636))
noncomputable def F26_1_it {R : Type} (n : Nat) (k0 : List Int → List Int → Int → List (List Int) → Option R) : Nat → List Int → List Int → Int → Int → List (List Int) → Option R
  | 0, _, _, _, _, _ => none
  | k + 1, x632, x633, x634, x635, x636 => F26_1_step n k0 (F26_1_it n k0 k) x632 x633 x634 x635 x636
noncomputable def F26_1 {R : Type} (n : Nat) (x632 : List Int) (x633 : List Int) (x634 : Int) (x635 : Int) (x636 : List (List Int)) (k0 : List Int → List Int → Int → List (List Int) → Option R) : Option R := F26_1_it n k0 n x632 x633 x634 x635 x636
noncomputable def F26_1z (n : Nat) : Sm G := inZ G 0 ⟨[0, 3, 4, 5, 6], [(4, .fz)]⟩ F26_1s fun R x K => F26_1_it n (fun u0 u1 u2 u3 => K (.exit 2) (SSh.enc G F26_1x0 ((u0, ((), (u1, (u2, ())))), (u3, ())))) n x.1.1 x.1.2.2.1 x.1.2.2.2.1 x.1.2.2.2.2.1 x.2.1
theorem F26_1_eq (n : Nat) (R : Type) (rec : SSh.den G F26_1s → Option R) (x : SSh.den G F26_1s) (K : AE → St G → Option R) :
  F26_1_step n (fun u0 u1 u2 u3 => K (.exit 2) (SSh.enc G F26_1x0 ((u0, ((), (u1, (u2, ())))), (u3, ())))) (fun x632 x633 x634 x635 x636 => rec ((x632, ((), (x633, (x634, (x635, ()))))), (x636, ()))) x.1.1 x.1.2.2.1 x.1.2.2.2.1 x.1.2.2.2.2.1 x.2.1 = exec prog G (ro G (tabOf (E10 n)) (frOf [F26_0z n]) R) 0 (codeAt F26c [1, 1, 1, 0, 1, 0, 0, 1, 0, 0, 1, 1, 0, 0]) .no (SSh.enc G F26_1s x) (kLoop G (ro G (tabOf (E10 n)) (frOf [F26_0z n]) R) 0 ⟨[0, 3, 4, 5, 6], [(4, .fz)]⟩ F26_1s ⟨⟨[0, 3, 4, 5], []⟩, ⟨[2], []⟩, [(2, ⟨[0, 3, 4, 5], []⟩), (1, ⟨[0, 3, 4, 5], []⟩), (0, ⟨[3], []⟩)]⟩ rec K) := by kernel_rfl
theorem F26_1_ok (n : Nat) : FragOK prog G 0 (codeAt F26c [1, 1, 1, 0, 1, 0, 0, 1, 0, 0, 1, 1, 0]) (F26_1z n) :=
  frag_loop (Z := fun R k (x : SSh.den G F26_1s) K => F26_1_it n (fun u0 u1 u2 u3 => K (.exit 2) (SSh.enc G F26_1x0 ((u0, ((), (u1, (u2, ())))), (u3, ())))) k x.1.1 x.1.2.2.1 x.1.2.2.2.1 x.1.2.2.2.2.1 x.2.1) laws fnok (E10_ok n).tab (AllF.of (l := []) (by kernel_rfl) AllF.nil) (fun _ _ _ => rfl) (fun R k y K => F26_1_eq n R (fun (x : SSh.den G F26_1s) => F26_1_it n (fun u0 u1 u2 u3 => K (.exit 2) (SSh.enc G F26_1x0 ((u0, ((), (u1, (u2, ())))), (u3, ())))) k x.1.1 x.1.2.2.1 x.1.2.2.2.1 x.1.2.2.2.2.1 x.2.1) y K) n
noncomputable def F26_2x0 : SSh := ⟨60, [(0, (.imm 0)), (3, (.own 0)), (4, (.imm 0)), (5, (.int .i64))], [(.arr 5 true)]⟩
noncomputable def F26_2s : SSh := ⟨60, [(0, (.imm 0)), (3, (.own 0)), (4, (.imm 0)), (5, (.int .i64))], [(.arr 5 true)]⟩
noncomputable def F26_2 {R : Type} (n : Nat) (x609 : List Int) (x610 : List Int) (x611 : Int) (x612 : List (List Int)) (k0 : List Int → List Int → Int → List (List Int) → Option R) : Option R :=
  (F26_0 n x609 x610 x611 x612 (fun z625 z626 z627 z628 =>
  (andThen (F44 n z628 (z626 == ((z625.length) : Int))) fun r631 =>
  (F26_1 n z625 z628 z626 r631.1 z627 (fun z650 z651 z652 z653 =>
  (k0 z650 z651 z652 z653))))) (fun z654 z655 z656 z657 =>
  (andThen (F44 n z655 (z656 == ((z654.length) : Int))) fun r660 =>
  (F26_1 n z654 z655 z656 r660.1 z657 (fun z661 z662 z663 z664 =>
  (k0 z661 z662 z663 z664))))))
noncomputable def F26_2z (n : Nat) : Sm G := inZ G 0 ⟨[0, 3, 4, 5], []⟩ F26_2s fun R x K => F26_2 n x.1.1 x.1.2.2.1 x.1.2.2.2.1 x.2.1 (fun u0 u1 u2 u3 => K .normal (SSh.enc G F26_2x0 ((u0, ((), (u1, (u2, ())))), (u3, ()))))
theorem F26_2_eq (n : Nat) (R : Type) (x : SSh.den G F26_2s) (K : AE → St G → Option R) :
  F26_2 n x.1.1 x.1.2.2.1 x.1.2.2.2.1 x.2.1 (fun u0 u1 u2 u3 => K .normal (SSh.enc G F26_2x0 ((u0, ((), (u1, (u2, ())))), (u3, ())))) = exec prog G (ro G (tabOf (E10 n)) (frOf [F26_0z n, F26_1z n]) R) 0 (codeAt F26c [1, 1, 1, 0, 1, 0, 0, 1, 0]) (.nd (.nd (.use 0) (.nd .no (.nd (.use 1) .no))) .no) (SSh.enc G F26_2s x) (kNrm G (ro G (tabOf (E10 n)) (frOf [F26_0z n, F26_1z n]) R) 0 ⟨⟨[0, 3, 4, 5], []⟩, ⟨[2], []⟩, [(0, ⟨[3], []⟩)]⟩ K) := by kernel_rfl
theorem F26_2_ok (n : Nat) : FragOK prog G 0 (codeAt F26c [1, 1, 1, 0, 1, 0, 0, 1, 0]) (F26_2z n) :=
  frag_plain laws fnok (E10_ok n).tab (AllF.of (l := [(0, codeAt F26c [1, 1, 1, 0, 1, 0, 0, 1, 0, 0, 0]), (1, codeAt F26c [1, 1, 1, 0, 1, 0, 0, 1, 0, 0, 1, 1, 0])]) (by kernel_rfl) (AllF.cons (F26_0_ok n) (AllF.cons (F26_1_ok n) AllF.nil))) (F26_2_eq n)
noncomputable def F26_3x0 : SSh := ⟨60, [(3, (.own 0))], [(.arr 5 true)]⟩
noncomputable def F26_3s : SSh := ⟨60, [(0, (.imm 0)), (3, (.own 0)), (4, (.imm 0)), (5, (.int .i64))], [(.arr 5 true)]⟩
noncomputable def F26_3_step {R : Type} (n : Nat) (k0 : List (List Int) → Option R) (rec : List Int → List Int → Int → List (List Int) → Option R) (x603 : List Int) (x604 : List Int) (x605 : Int) (x606 : List (List Int)) : Option R :=
  (bif (decide (x605 ≤ ((x603.length) : Int))) then
  (F26_2 n x603 x604 x605 x606 (fun z665 z666 z667 z668 =>
  (rec z665 z666 (IntKind.wrap .i64 (z667 + (1 : Int))) z668)))
  else (k0 x606))
noncomputable def F26_3_it {R : Type} (n : Nat) (k0 : List (List Int) → Option R) : Nat → List Int → List Int → Int → List (List Int) → Option R
  | 0, _, _, _, _ => none
  | k + 1, x603, x604, x605, x606 => F26_3_step n k0 (F26_3_it n k0 k) x603 x604 x605 x606
noncomputable def F26_3 {R : Type} (n : Nat) (x603 : List Int) (x604 : List Int) (x605 : Int) (x606 : List (List Int)) (k0 : List (List Int) → Option R) : Option R := F26_3_it n k0 n x603 x604 x605 x606
noncomputable def F26_3z (n : Nat) : Sm G := inZ G 0 ⟨[0, 3, 4, 5], [(4, .fz)]⟩ F26_3s fun R x K => F26_3_it n (fun u0 => K (.exit 0) (SSh.enc G F26_3x0 (((), ()), (u0, ())))) n x.1.1 x.1.2.2.1 x.1.2.2.2.1 x.2.1
theorem F26_3_eq (n : Nat) (R : Type) (rec : SSh.den G F26_3s → Option R) (x : SSh.den G F26_3s) (K : AE → St G → Option R) :
  F26_3_step n (fun u0 => K (.exit 0) (SSh.enc G F26_3x0 (((), ()), (u0, ())))) (fun x603 x604 x605 x606 => rec ((x603, ((), (x604, (x605, ())))), (x606, ()))) x.1.1 x.1.2.2.1 x.1.2.2.2.1 x.2.1 = exec prog G (ro G (tabOf (E10 n)) (frOf [F26_0z n, F26_1z n, F26_2z n]) R) 0 (codeAt F26c [1, 1, 1, 0, 1, 0, 0]) (.nd .no (.nd (.use 2) .no)) (SSh.enc G F26_3s x) (kLoop G (ro G (tabOf (E10 n)) (frOf [F26_0z n, F26_1z n, F26_2z n]) R) 0 ⟨[0, 3, 4, 5], [(4, .fz)]⟩ F26_3s ⟨⟨[3], []⟩, ⟨[2], []⟩, [(0, ⟨[3], []⟩)]⟩ rec K) := by kernel_rfl
theorem F26_3_ok (n : Nat) : FragOK prog G 0 (codeAt F26c [1, 1, 1, 0, 1, 0]) (F26_3z n) :=
  frag_loop (Z := fun R k (x : SSh.den G F26_3s) K => F26_3_it n (fun u0 => K (.exit 0) (SSh.enc G F26_3x0 (((), ()), (u0, ())))) k x.1.1 x.1.2.2.1 x.1.2.2.2.1 x.2.1) laws fnok (E10_ok n).tab (AllF.of (l := [(2, codeAt F26c [1, 1, 1, 0, 1, 0, 0, 1, 0])]) (by kernel_rfl) (AllF.cons (F26_2_ok n) AllF.nil)) (fun _ _ _ => rfl) (fun R k y K => F26_3_eq n R (fun (x : SSh.den G F26_3s) => F26_3_it n (fun u0 => K (.exit 0) (SSh.enc G F26_3x0 (((), ()), (u0, ())))) k x.1.1 x.1.2.2.1 x.1.2.2.2.1 x.2.1) y K) n
noncomputable def F26 (n : Nat) (a600 : List Int) : Option (List (List Int) × Unit) :=
  (F26_3 n a600 [] (0 : Int) [] (fun z670 =>
  some (z670, ())))
noncomputable def F26e (n : Nat) : Ent G := ⟨26, (.cons (.imm 0) .nil), [], (.imm 5), [], fun x y => F26 n x.1⟩
theorem F26_eq (n : Nat) (x : ShL.den G (.cons (.imm 0) .nil)) (y : denO G []) : (F26e n).F x y = runFn prog G (ro G (tabOf (E10 n)) (frOf [F26_0z n, F26_1z n, F26_2z n, F26_3z n]) _) Go.Proofs.Try.f26 (.nd .no (.nd .no (.nd .no (.nd (.nd .no (.nd (.use 3) .no)) .no)))) [(0, .fz)] (ShL.enc G (.cons (.imm 0) .nil) x) (encO G [] y) (decR (.imm 5) []) := by kernel_rfl
theorem F26_ok (n : Nat) : EntOK prog G (F26e n) :=
  ent_ok (fr := frOf [F26_0z n, F26_1z n, F26_2z n, F26_3z n]) (ann := (.nd .no (.nd .no (.nd .no (.nd (.nd .no (.nd (.use 3) .no)) .no))))) (frm := [(0, .fz)]) laws fnok (E10_ok n).tab (e := F26e n) (fn := Go.Proofs.Try.f26) (by kernel_rfl) (AllF.ofB (cd := F26c) (l := [(3, codeAt F26c [1, 1, 1, 0, 1, 0])]) (by kernel_rfl) (by kernel_rfl) (AllF.cons (F26_3_ok n) AllF.nil)) (F26_eq n)
noncomputable def E11 (n : Nat) : List (Ent G) := F26e n :: E10 n
theorem E11_ok (n : Nat) : AllE prog G (E11 n) := AllE.cons (F26_ok n) (E10_ok n)
-- 27 loop.example/slowworm/spec.mergeItems
noncomputable def F27c : Code := bodyOf Go.Proofs.Try.f27
noncomputable def F27_0x0 : SSh := ⟨53, [(0, (.imm 3)), (1, (.imm 3)), (5, (.own 0)), (6, (.int .i64)), (7, (.int .i64))], [(.arr 3 true)]⟩
noncomputable def F27_0s : SSh := ⟨53, [(0, (.imm 3)), (1, (.imm 3)), (5, (.own 0)), (6, (.int .i64)), (7, (.int .i64))], [(.arr 3 true)]⟩
noncomputable def F27_0_step {R : Type} (n : Nat) (k0 : List Itm → List Itm → Int → Int → List Itm → Option R) (rec : List Itm → List Itm → Int → Int → List Itm → Option R) (x756 : List Itm) (x757 : List Itm) (x758 : Int) (x759 : Int) (x760 : List Itm) : Option R :=
  (bif (decide (x758 < ((x756.length) : Int))) then
  (bif (decide ((0 : Int) ≤ x758)) then
  (bif (decide (x758 < ((x756.length) : Int))) then
  (bif (decide ((0 : Int) ≤ x759)) then
  (bif (decide (x759 < ((x757.length) : Int))) then
  (bif (decide ((x756.getD (x758.toNat) (Itm.mk (0 : Int) (0 : Int))).key ≤ (x757.getD (x759.toNat) (Itm.mk (0 : Int) (0 : Int))).key)) then
  (bif (decide ((0 : Int) ≤ x758)) then
  (bif (decide (x758 < ((x756.length) : Int))) then
  let v768 := (x756.getD (x758.toNat) (Itm.mk (0 : Int) (0 : Int)))
  let v771 := ((Itm.mk v768.key v768.tag) :: [])
  (bif (decide (((x760.length) + (v771.length)) ≤ (68719476736 : Nat))) then
  (rec x756 x757 (IntKind.wrap .i64 (x758 + (1 : Int))) x759 (x760 ++ v771))
  else none)
  else none)
  else none)
  else (k0 x756 x757 x758 x759 x760))
  else none)
  else none)
  else none)
  else none)
  else (k0 x756 x757 x758 x759 x760))
noncomputable def F27_0_it {R : Type} (n : Nat) (k0 : List Itm → List Itm → Int → Int → List Itm → Option R) : Nat → List Itm → List Itm → Int → Int → List Itm → Option R
  | 0, _, _, _, _, _ => none
  | k + 1, x756, x757, x758, x759, x760 => F27_0_step n k0 (F27_0_it n k0 k) x756 x757 x758 x759 x760
noncomputable def F27_0 {R : Type} (n : Nat) (x756 : List Itm) (x757 : List Itm) (x758 : Int) (x759 : Int) (x760 : List Itm) (k0 : List Itm → List Itm → Int → Int → List Itm → Option R) : Option R := F27_0_it n k0 n x756 x757 x758 x759 x760
noncomputable def F27_0z (n : Nat) : Sm G := inZ G 0 ⟨[0, 1, 5, 6, 7], []⟩ F27_0s fun R x K => F27_0_it n (fun u0 u1 u2 u3 u4 => K (.exit 2) (SSh.enc G F27_0x0 ((u0, (u1, ((), (u2, (u3, ()))))), (u4, ())))) n x.1.1 x.1.2.1 x.1.2.2.2.1 x.1.2.2.2.2.1 x.2.1
theorem F27_0_eq (n : Nat) (R : Type) (rec : SSh.den G F27_0s → Option R) (x : SSh.den G F27_0s) (K : AE → St G → Option R) :
  F27_0_step n (fun u0 u1 u2 u3 u4 => K (.exit 2) (SSh.enc G F27_0x0 ((u0, (u1, ((), (u2, (u3, ()))))), (u4, ())))) (fun x756 x757 x758 x759 x760 => rec ((x756, (x757, ((), (x758, (x759, ()))))), (x760, ()))) x.1.1 x.1.2.1 x.1.2.2.2.1 x.1.2.2.2.2.1 x.2.1 = exec prog G (ro G (tabOf (E11 n)) (frOf []) R) 0 (codeAt F27c [1, 1, 1, 0, 1, 0, 0, 1, 0, 0, 0, 0, 0]) .no (SSh.enc G F27_0s x) (kLoop G (ro G (tabOf (E11 n)) (frOf []) R) 0 ⟨[0, 1, 5, 6, 7], []⟩ F27_0s ⟨⟨[0, 1, 5, 6, 7], []⟩, ⟨[4], []⟩, [(2, ⟨[0, 1, 5, 6, 7], []⟩), (1, ⟨[0, 1, 5, 6, 7], []⟩), (0, ⟨[0, 5, 6], []⟩)]⟩ rec K) := by kernel_rfl
theorem F27_0_ok (n : Nat) : FragOK prog G 0 (codeAt F27c [1, 1, 1, 0, 1, 0, 0, 1, 0, 0, 0, 0]) (F27_0z n) :=
  frag_loop (Z := fun R k (x : SSh.den G F27_0s) K => F27_0_it n (fun u0 u1 u2 u3 u4 => K (.exit 2) (SSh.enc G F27_0x0 ((u0, (u1, ((), (u2, (u3, ()))))), (u4, ())))) k x.1.1 x.1.2.1 x.1.2.2.2.1 x.1.2.2.2.2.1 x.2.1) laws fnok (E11_ok n).tab (AllF.of (l := []) (by kernel_rfl) AllF.nil) (fun _ _ _ => rfl) (fun R k y K => F27_0_eq n R (fun (x : SSh.den G F27_0s) => F27_0_it n (fun u0 u1 u2 u3 u4 => K (.exit 2) (SSh.enc G F27_0x0 ((u0, (u1, ((), (u2, (u3, ()))))), (u4, ())))) k x.1.1 x.1.2.1 x.1.2.2.2.1 x.1.2.2.2.2.1 x.2.1) y K) n
noncomputable def F27_1x0 : SSh := ⟨53, [(0, (.imm 3)), (5, (.own 0)), (6, (.int .i64))], [(.arr 3 true)]⟩
noncomputable def F27_1s : SSh := ⟨53, [(0, (.imm 3)), (1, (.imm 3)), (5, (.own 0)), (6, (.int .i64)), (7, (.int .i64))], [(.arr 3 true)]⟩
noncomputable def F27_1_step {R : Type} (n : Nat) (k0 : List Itm → Int → List Itm → Option R) (rec : List Itm → List Itm → Int → Int → List Itm → Option R) (x749 : List Itm) (x750 : List Itm) (x751 : Int) (x752 : Int) (x753 : List Itm) : Option R :=
  (bif (decide (x752 < ((x750.length) : Int))) then
  (F27_0 n x749 x750 x751 x752 x753 (fun z774 z775 z776 z777 z778 =>
  (bif (decide ((0 : Int) ≤ z777)) then
  (bif (decide (z777 < ((z775.length) : Int))) then
  let v779 := (z775.getD (z777.toNat) (Itm.mk (0 : Int) (0 : Int)))
  let v782 := ((Itm.mk v779.key v779.tag) :: [])
  (bif (decide (((z778.length) + (v782.length)) ≤ (68719476736 : Nat))) then
  (rec z774 z775 z776 (IntKind.wrap .i64 (z777 + (1 : Int))) (z778 ++ v782))
  else none)
  else none)
  else none)))
  else (k0 x749 x751 x753))
noncomputable def F27_1_it {R : Type} (n : Nat) (k0 : List Itm → Int → List Itm → Option R) : Nat → List Itm → List Itm → Int → Int → List Itm → Option R
  | 0, _, _, _, _, _ => none
  | k + 1, x749, x750, x751, x752, x753 => F27_1_step n k0 (F27_1_it n k0 k) x749 x750 x751 x752 x753
noncomputable def F27_1 {R : Type} (n : Nat) (x749 : List Itm) (x750 : List Itm) (x751 : Int) (x752 : Int) (x753 : List Itm) (k0 : List Itm → Int → List Itm → Option R) : Option R := F27_1_it n k0 n x749 x750 x751 x752 x753
noncomputable def F27_1z (n : Nat) : Sm G := inZ G 0 ⟨[0, 1, 5, 6, 7], []⟩ F27_1s fun R x K => F27_1_it n (fun u0 u1 u2 => K (.exit 0) (SSh.enc G F27_1x0 ((u0, ((), (u1, ()))), (u2, ())))) n x.1.1 x.1.2.1 x.1.2.2.2.1 x.1.2.2.2.2.1 x.2.1
theorem F27_1_eq (n : Nat) (R : Type) (rec : SSh.den G F27_1s → Option R) (x : SSh.den G F27_1s) (K : AE → St G → Option R) :
  F27_1_step n (fun u0 u1 u2 => K (.exit 0) (SSh.enc G F27_1x0 ((u0, ((), (u1, ()))), (u2, ())))) (fun x749 x750 x751 x752 x753 => rec ((x749, (x750, ((), (x751, (x752, ()))))), (x753, ()))) x.1.1 x.1.2.1 x.1.2.2.2.1 x.1.2.2.2.2.1 x.2.1 = exec prog G (ro G (tabOf (E11 n)) (frOf [F27_0z n]) R) 0 (codeAt F27c [1, 1, 1, 0, 1, 0, 0]) (.nd .no (.nd (.nd (.nd (.nd (.use 0) .no) .no) .no) .no)) (SSh.enc G F27_1s x) (kLoop G (ro G (tabOf (E11 n)) (frOf [F27_0z n]) R) 0 ⟨[0, 1, 5, 6, 7], []⟩ F27_1s ⟨⟨[0, 5, 6], []⟩, ⟨[4], []⟩, [(0, ⟨[0, 5, 6], []⟩)]⟩ rec K) := by kernel_rfl
theorem F27_1_ok (n : Nat) : FragOK prog G 0 (codeAt F27c [1, 1, 1, 0, 1, 0]) (F27_1z n) :=
  frag_loop (Z := fun R k (x : SSh.den G F27_1s) K => F27_1_it n (fun u0 u1 u2 => K (.exit 0) (SSh.enc G F27_1x0 ((u0, ((), (u1, ()))), (u2, ())))) k x.1.1 x.1.2.1 x.1.2.2.2.1 x.1.2.2.2.2.1 x.2.1) laws fnok (E11_ok n).tab (AllF.of (l := [(0, codeAt F27c [1, 1, 1, 0, 1, 0, 0, 1, 0, 0, 0, 0])]) (by kernel_rfl) (AllF.cons (F27_0_ok n) AllF.nil)) (fun _ _ _ => rfl) (fun R k y K => F27_1_eq n R (fun (x : SSh.den G F27_1s) => F27_1_it n (fun u0 u1 u2 => K (.exit 0) (SSh.enc G F27_1x0 ((u0, ((), (u1, ()))), (u2, ())))) k x.1.1 x.1.2.1 x.1.2.2.2.1 x.1.2.2.2.2.1 x.2.1) y K) n
noncomputable def F27 (n : Nat) (a746 : List Itm) (a747 : List Itm) : Option (List Itm × Unit) :=
  (F27_1 n a746 a747 (0 : Int) (0 : Int) [] (fun z785 z786 z787 =>
  (bif (decide ((0 : Int) ≤ z786)) then
  (bif (decide (z786 ≤ ((z785.length) : Int))) then
  (bif (decide (((z785.length) : Int) ≤ ((z785.length) : Int))) then
  let v788 := ((z785.take (((z785.length) : Int).toNat)).drop (z786.toNat))
  (bif (decide (((z787.length) + (v788.length)) ≤ (68719476736 : Nat))) then
  some ((z787 ++ v788), ())
  else none)
  else none)
  else none)
  else none)))
noncomputable def F27e (n : Nat) : Ent G := ⟨27, (.cons (.imm 3) (.cons (.imm 3) .nil)), [], (.imm 3), [], fun x y => F27 n x.1 x.2.1⟩
theorem F27_eq (n : Nat) (x : ShL.den G (.cons (.imm 3) (.cons (.imm 3) .nil))) (y : denO G []) : (F27e n).F x y = runFn prog G (ro G (tabOf (E11 n)) (frOf [F27_0z n, F27_1z n]) _) Go.Proofs.Try.f27 (.nd .no (.nd .no (.nd .no (.nd (.nd .no (.nd (.use 1) .no)) .no)))) [(0, .fz)] (ShL.enc G (.cons (.imm 3) (.cons (.imm 3) .nil)) x) (encO G [] y) (decR (.imm 3) []) := by kernel_rfl
theorem F27_ok (n : Nat) : EntOK prog G (F27e n) :=
  ent_ok (fr := frOf [F27_0z n, F27_1z n]) (ann := (.nd .no (.nd .no (.nd .no (.nd (.nd .no (.nd (.use 1) .no)) .no))))) (frm := [(0, .fz)]) laws fnok (E11_ok n).tab (e := F27e n) (fn := Go.Proofs.Try.f27) (by kernel_rfl) (AllF.ofB (cd := F27c) (l := [(1, codeAt F27c [1, 1, 1, 0, 1, 0])]) (by kernel_rfl) (by kernel_rfl) (AllF.cons (F27_1_ok n) AllF.nil)) (F27_eq n)
noncomputable def E12 (n : Nat) : List (Ent G) := F27e n :: E11 n
theorem E12_ok (n : Nat) : AllE prog G (E12 n) := AllE.cons (F27_ok n) (E11_ok n)
-- 10 loop.example/slowworm/spec.SortItems
noncomputable def F10c : Code := bodyOf Go.Proofs.Try.f10
noncomputable def F10_0x0 : SSh := ⟨144, [(3, (.imm 6)), (4, (.own 0))], [(.arr 0 true)]⟩
noncomputable def F10_0s : SSh := ⟨144, [(3, (.imm 6)), (4, (.own 0)), (5, (.int .i64))], [(.arr 0 true)]⟩
noncomputable def F10_0_step {R : Type} (n : Nat) (k0 : List (List Itm) → List Int → Option R) (rec : List (List Itm) → Int → List Int → Option R) (x822 : List (List Itm)) (x823 : Int) (x824 : List Int) : Option R :=
  (bif (decide (x823 < ((x822.length) : Int))) then
  (bif (decide ((0 : Int) ≤ x823)) then
  (bif (decide (x823 < ((x822.length) : Int))) then
  let v830 := ((((x822.getD (x823.toNat) []).length) : Int) :: [])
  (bif (decide (((x824.length) + (v830.length)) ≤ (68719476736 : Nat))) then
  (rec x822 (IntKind.wrap .i64 (x823 + (1 : Int))) (x824 ++ v830))
  else none)
  else none)
  else none)
  else (k0 x822 x824))
noncomputable def F10_0_it {R : Type} (n : Nat) (k0 : List (List Itm) → List Int → Option R) : Nat → List (List Itm) → Int → List Int → Option R
  | 0, _, _, _ => none
  | k + 1, x822, x823, x824 => F10_0_step n k0 (F10_0_it n k0 k) x822 x823 x824
noncomputable def F10_0 {R : Type} (n : Nat) (x822 : List (List Itm)) (x823 : Int) (x824 : List Int) (k0 : List (List Itm) → List Int → Option R) : Option R := F10_0_it n k0 n x822 x823 x824
noncomputable def F10_0z (n : Nat) : Sm G := inZ G 0 ⟨[3, 4, 5], []⟩ F10_0s fun R x K => F10_0_it n (fun u0 u1 => K (.exit 0) (SSh.enc G F10_0x0 ((u0, ((), ())), (u1, ())))) n x.1.1 x.1.2.2.1 x.2.1
theorem F10_0_eq (n : Nat) (R : Type) (rec : SSh.den G F10_0s → Option R) (x : SSh.den G F10_0s) (K : AE → St G → Option R) :
  F10_0_step n (fun u0 u1 => K (.exit 0) (SSh.enc G F10_0x0 ((u0, ((), ())), (u1, ())))) (fun x822 x823 x824 => rec ((x822, ((), (x823, ()))), (x824, ()))) x.1.1 x.1.2.2.1 x.2.1 = exec prog G (ro G (tabOf (E12 n)) (frOf []) R) 0 (codeAt F10c [1, 1, 1, 1, 0, 1, 0, 0]) .no (SSh.enc G F10_0s x) (kLoop G (ro G (tabOf (E12 n)) (frOf []) R) 0 ⟨[3, 4, 5], []⟩ F10_0s ⟨⟨[3, 4], []⟩, ⟨[2], []⟩, [(0, ⟨[3, 4], []⟩)]⟩ rec K) := by kernel_rfl
theorem F10_0_ok (n : Nat) : FragOK prog G 0 (codeAt F10c [1, 1, 1, 1, 0, 1, 0]) (F10_0z n) :=
  frag_loop (Z := fun R k (x : SSh.den G F10_0s) K => F10_0_it n (fun u0 u1 => K (.exit 0) (SSh.enc G F10_0x0 ((u0, ((), ())), (u1, ())))) k x.1.1 x.1.2.2.1 x.2.1) laws fnok (E12_ok n).tab (AllF.of (l := []) (by kernel_rfl) AllF.nil) (fun _ _ _ => rfl) (fun R k y K => F10_0_eq n R (fun (x : SSh.den G F10_0s) => F10_0_it n (fun u0 u1 => K (.exit 0) (SSh.enc G F10_0x0 ((u0, ((), ())), (u1, ())))) k x.1.1 x.1.2.2.1 x.2.1) y K) n
noncomputable def F10_1x0 : SSh := ⟨144, [(3, (.imm 6)), (6, (.imm 5)), (7, (.own 0)), (8, (.int .i64)), (9, (.int .i64))], [(.arr 6 true)]⟩
noncomputable def F10_1s : SSh := ⟨144, [(3, (.imm 6)), (6, (.imm 5)), (7, (.own 0)), (8, (.int .i64)), (9, (.int .i64))], [(.arr 6 true)]⟩
noncomputable def F10_1_step {R : Type} (n : Nat) (k0 : List (List Itm) → List (List Int) → Int → Int → List (List Itm) → Option R) (rec : List (List Itm) → List (List Int) → Int → Int → List (List Itm) → Option R) (x844 : List (List Itm)) (x845 : List (List Int)) (x846 : Int) (x847 : Int) (x848 : List (List Itm)) : Option R :=
  (bif (decide ((0 : Int) ≤ x847)) then
  (bif (decide (x847 < ((x845.length) : Int))) then
  let v851 := (x845.getD (x847.toNat) [])
  (bif (decide ((0 : Int) < ((v851.length) : Int))) then
  (bif (decide (((x848.length) : Int) < (IntKind.wrap .i64 ((v851.getD (0 : Nat) (0 : Int)) + (2 : Int))))) then
  (bif (decide ((0 : Int) ≤ x846)) then
  (bif (decide (x846 < ((x844.length) : Int))) then
  let v858 := ((x844.getD (x846.toNat) []) :: [])
  (bif (decide (((x848.length) + (v858.length)) ≤ (68719476736 : Nat))) then
  (rec x844 x845 (IntKind.wrap .i64 (x846 + (1 : Int))) x847 (x848 ++ v858))
  else none)
  else none)
  else none)
  else (bif (decide ((0 : Int) ≤ x847)) then
  (bif (decide (x847 < ((x845.length) : Int))) then
  let v862 := (x845.getD (x847.toNat) [])
  (bif (decide ((0 : Int) < ((v862.length) : Int))) then
  let v865 := (IntKind.wrap .i64 ((v862.getD (0 : Nat) (0 : Int)) + (1 : Int)))
  (bif (decide ((0 : Int) ≤ v865)) then
  (bif (decide (v865 < ((x848.length) : Int))) then
  (bif (decide ((0 : Int) ≤ x847)) then
  (bif (decide (x847 < ((x845.length) : Int))) then
  let v870 := (x845.getD (x847.toNat) [])
  (bif (decide ((2 : Int) < ((v870.length) : Int))) then
  (bif ((((x848.getD (v865.toNat) []).length) : Int) != (v870.getD (2 : Nat) (0 : Int))) then
  (bif (decide ((0 : Int) ≤ x846)) then
  (bif (decide (x846 < ((x844.length) : Int))) then
  let v876 := ((x844.getD (x846.toNat) []) :: [])
  (bif (decide (((x848.length) + (v876.length)) ≤ (68719476736 : Nat))) then
  (rec x844 x845 (IntKind.wrap .i64 (x846 + (1 : Int))) x847 (x848 ++ v876))
  else none)
  else none)
  else none)
  else (bif (decide ((0 : Int) ≤ x847)) then
  (bif (decide (x847 < ((x845.length) : Int))) then
  let v880 := (x845.getD (x847.toNat) [])
  (bif (decide ((0 : Int) < ((v880.length) : Int))) then
  let v882 := (v880.getD (0 : Nat) (0 : Int))
  (bif (decide ((0 : Int) ≤ v882)) then
  (bif (decide (v882 < ((x848.length) : Int))) then
  (bif (decide ((0 : Int) ≤ x847)) then
  (bif (decide (x847 < ((x845.length) : Int))) then
  let v887 := (x845.getD (x847.toNat) [])
  (bif (decide ((1 : Int) < ((v887.length) : Int))) then
  (bif ((((x848.getD (v882.toNat) []).length) : Int) != (v887.getD (1 : Nat) (0 : Int))) then
  (bif (decide ((0 : Int) ≤ x846)) then
  (bif (decide (x846 < ((x844.length) : Int))) then
  let v893 := ((x844.getD (x846.toNat) []) :: [])
  (bif (decide (((x848.length) + (v893.length)) ≤ (68719476736 : Nat))) then
  (rec x844 x845 (IntKind.wrap .i64 (x846 + (1 : Int))) x847 (x848 ++ v893))
  else none)
  else none)
  else none)
  else (k0 x844 x845 x846 x847 x848))
  else none)
  else none)
  else none)
  else none)
  else none)
  else none)
  else none)
  else none))
  else none)
  else none)
  else none)
  else none)
  else none)
  else none)
  else none)
  else none))
  else none)
  else none)
  else none)
noncomputable def F10_1_it {R : Type} (n : Nat) (k0 : List (List Itm) → List (List Int) → Int → Int → List (List Itm) → Option R) : Nat → List (List Itm) → List (List Int) → Int → Int → List (List Itm) → Option R
  | 0, _, _, _, _, _ => none
  | k + 1, x844, x845, x846, x847, x848 => F10_1_step n k0 (F10_1_it n k0 k) x844 x845 x846 x847 x848
noncomputable def F10_1 {R : Type} (n : Nat) (x844 : List (List Itm)) (x845 : List (List Int)) (x846 : Int) (x847 : Int) (x848 : List (List Itm)) (k0 : List (List Itm) → List (List Int) → Int → Int → List (List Itm) → Option R) : Option R := F10_1_it n k0 n x844 x845 x846 x847 x848
noncomputable def F10_1z (n : Nat) : Sm G := inZ G 0 ⟨[3, 6, 7, 8, 9], []⟩ F10_1s fun R x K => F10_1_it n (fun u0 u1 u2 u3 u4 => K (.exit 4) (SSh.enc G F10_1x0 ((u0, (u1, ((), (u2, (u3, ()))))), (u4, ())))) n x.1.1 x.1.2.1 x.1.2.2.2.1 x.1.2.2.2.2.1 x.2.1
theorem F10_1_eq (n : Nat) (R : Type) (rec : SSh.den G F10_1s → Option R) (x : SSh.den G F10_1s) (K : AE → St G → Option R) :
  F10_1_step n (fun u0 u1 u2 u3 u4 => K (.exit 4) (SSh.enc G F10_1x0 ((u0, (u1, ((), (u2, (u3, ()))))), (u4, ())))) (fun x844 x845 x846 x847 x848 => rec ((x844, (x845, ((), (x846, (x847, ()))))), (x848, ()))) x.1.1 x.1.2.1 x.1.2.2.2.1 x.1.2.2.2.2.1 x.2.1 = exec prog G (ro G (tabOf (E12 n)) (frOf [F10_0z n]) R) 0 (codeAt F10c [1, 1, 1, 1, 1, 1, 1, 1, 0, 1, 0, 0, 1, 0, 0, 0, 0, 0]) .no (SSh.enc G F10_1s x) (kLoop G (ro G (tabOf (E12 n)) (frOf [F10_0z n]) R) 0 ⟨[3, 6, 7, 8, 9], []⟩ F10_1s ⟨⟨[3, 6, 7, 8, 9], []⟩, ⟨[2], []⟩, [(4, ⟨[3, 6, 7, 8, 9], []⟩), (3, ⟨[3, 6, 7, 8, 9], []⟩), (2, ⟨[3, 6, 7], []⟩)]⟩ rec K) := by kernel_rfl
theorem F10_1_ok (n : Nat) : FragOK prog G 0 (codeAt F10c [1, 1, 1, 1, 1, 1, 1, 1, 0, 1, 0, 0, 1, 0, 0, 0, 0]) (F10_1z n) :=
  frag_loop (Z := fun R k (x : SSh.den G F10_1s) K => F10_1_it n (fun u0 u1 u2 u3 u4 => K (.exit 4) (SSh.enc G F10_1x0 ((u0, (u1, ((), (u2, (u3, ()))))), (u4, ())))) k x.1.1 x.1.2.1 x.1.2.2.2.1 x.1.2.2.2.2.1 x.2.1) laws fnok (E12_ok n).tab (AllF.of (l := []) (by kernel_rfl) AllF.nil) (fun _ _ _ => rfl) (fun R k y K => F10_1_eq n R (fun (x : SSh.den G F10_1s) => F10_1_it n (fun u0 u1 u2 u3 u4 => K (.exit 4) (SSh.enc G F10_1x0 ((u0, (u1, ((), (u2, (u3, ()))))), (u4, ())))) k x.1.1 x.1.2.1 x.1.2.2.2.1 x.1.2.2.2.2.1 x.2.1) y K) n
noncomputable def F10_2x0 : SSh := ⟨144, [(3, (.imm 6)), (6, (.imm 5)), (7, (.own 0))], [(.arr 6 true)]⟩
noncomputable def F10_2s : SSh := ⟨144, [(3, (.imm 6)), (6, (.imm 5)), (7, (.own 0)), (8, (.int .i64)), (9, (.int .i64))], [(.arr 6 true)]⟩
noncomputable def F10_2_step {R : Type} (n : Nat) (k0 : List (List Itm) → List (List Int) → List (List Itm) → Option R) (rec : List (List Itm) → List (List Int) → Int → Int → List (List Itm) → Option R) (x837 : List (List Itm)) (x838 : List (List Int)) (x839 : Int) (x840 : Int) (x841 : List (List Itm)) : Option R :=
  (bif (decide (x840 < ((x838.length) : Int))) then
  (F10_1 n x837 x838 x839 x840 x841 (fun z896 z897 z898 z899 z900 =>
  (bif (decide ((0 : Int) ≤ z899)) then
  (bif (decide (z899 < ((z897.length) : Int))) then
  let v902 := (z897.getD (z899.toNat) [])
  (bif (decide ((0 : Int) < ((v902.length) : Int))) then
  let v904 := (v902.getD (0 : Nat) (0 : Int))
  (bif (decide ((0 : Int) ≤ v904)) then
  (bif (decide (v904 < ((z900.length) : Int))) then
  let v907 := (IntKind.wrap .i64 (v904 + (1 : Int)))
  (bif (decide ((0 : Int) ≤ v907)) then
  (bif (decide (v907 < ((z900.length) : Int))) then
  (andThen (F27 n (z900.getD (v904.toNat) []) (z900.getD (v907.toNat) [])) fun r910 =>
  let v911 := []
  let v912 := (IntKind.wrap .i64 (v904 + (2 : Int)))
  (bif (decide ((0 : Int) ≤ v912)) then
  (bif (decide (v912 ≤ ((z900.length) : Int))) then
  (bif (decide (((z900.length) : Int) ≤ ((z900.length) : Int))) then
  let v913 := ((z900.take (((z900.length) : Int).toNat)).drop (v912.toNat))
  (bif (decide (((v911.length) + (v913.length)) ≤ (68719476736 : Nat))) then
  let v914 := (v911 ++ v913)
  let v915 := []
  (bif (decide ((0 : Int) ≤ v904)) then
  (bif (decide (v904 ≤ ((z900.length) : Int))) then
  let v916 := (v904.toNat)
  (bif (decide (((v915.length) + ((z900.take v916).length)) ≤ (68719476736 : Nat))) then
  let v917 := (v915 ++ (z900.take v916))
  let v918 := (r910.1 :: [])
  (bif (decide (((v917.length) + (v918.length)) ≤ (68719476736 : Nat))) then
  let v919 := (v917 ++ v918)
  (bif (decide (((v919.length) + (v914.length)) ≤ (68719476736 : Nat))) then
  (rec z896 z897 z898 (IntKind.wrap .i64 (z899 + (1 : Int))) (v919 ++ v914))
  else none)
  else none)
  else none)
  else none)
  else none)
  else none)
  else none)
  else none)
  else none))
  else none)
  else none)
  else none)
  else none)
  else none)
  else none)
  else none)))
  else (k0 x837 x838 x841))
noncomputable def F10_2_it {R : Type} (n : Nat) (k0 : List (List Itm) → List (List Int) → List (List Itm) → Option R) : Nat → List (List Itm) → List (List Int) → Int → Int → List (List Itm) → Option R
  | 0, _, _, _, _, _ => none
  | k + 1, x837, x838, x839, x840, x841 => F10_2_step n k0 (F10_2_it n k0 k) x837 x838 x839 x840 x841
noncomputable def F10_2 {R : Type} (n : Nat) (x837 : List (List Itm)) (x838 : List (List Int)) (x839 : Int) (x840 : Int) (x841 : List (List Itm)) (k0 : List (List Itm) → List (List Int) → List (List Itm) → Option R) : Option R := F10_2_it n k0 n x837 x838 x839 x840 x841
noncomputable def F10_2z (n : Nat) : Sm G := inZ G 0 ⟨[3, 6, 7, 8, 9], []⟩ F10_2s fun R x K => F10_2_it n (fun u0 u1 u2 => K (.exit 2) (SSh.enc G F10_2x0 ((u0, (u1, ((), ()))), (u2, ())))) n x.1.1 x.1.2.1 x.1.2.2.2.1 x.1.2.2.2.2.1 x.2.1
theorem F10_2_eq (n : Nat) (R : Type) (rec : SSh.den G F10_2s → Option R) (x : SSh.den G F10_2s) (K : AE → St G → Option R) :
  F10_2_step n (fun u0 u1 u2 => K (.exit 2) (SSh.enc G F10_2x0 ((u0, (u1, ((), ()))), (u2, ())))) (fun x837 x838 x839 x840 x841 => rec ((x837, (x838, ((), (x839, (x840, ()))))), (x841, ()))) x.1.1 x.1.2.1 x.1.2.2.2.1 x.1.2.2.2.2.1 x.2.1 = exec prog G (ro G (tabOf (E12 n)) (frOf [F10_0z n, F10_1z n]) R) 0 (codeAt F10c [1, 1, 1, 1, 1, 1, 1, 1, 0, 1, 0, 0]) (.nd .no (.nd (.nd (.nd (.nd (.use 1) .no) .no) .no) .no)) (SSh.enc G F10_2s x) (kLoop G (ro G (tabOf (E12 n)) (frOf [F10_0z n, F10_1z n]) R) 0 ⟨[3, 6, 7, 8, 9], []⟩ F10_2s ⟨⟨[3, 6, 7], []⟩, ⟨[2], []⟩, [(2, ⟨[3, 6, 7], []⟩)]⟩ rec K) := by kernel_rfl
theorem F10_2_ok (n : Nat) : FragOK prog G 0 (codeAt F10c [1, 1, 1, 1, 1, 1, 1, 1, 0, 1, 0]) (F10_2z n) :=
  frag_loop (Z := fun R k (x : SSh.den G F10_2s) K => F10_2_it n (fun u0 u1 u2 => K (.exit 2) (SSh.enc G F10_2x0 ((u0, (u1, ((), ()))), (u2, ())))) k x.1.1 x.1.2.1 x.1.2.2.2.1 x.1.2.2.2.2.1 x.2.1) laws fnok (E12_ok n).tab (AllF.of (l := [(1, codeAt F10c [1, 1, 1, 1, 1, 1, 1, 1, 0, 1, 0, 0, 1, 0, 0, 0, 0])]) (by kernel_rfl) (AllF.cons (F10_1_ok n) AllF.nil)) (fun _ _ _ => rfl) (fun R k y K => F10_2_eq n R (fun (x : SSh.den G F10_2s) => F10_2_it n (fun u0 u1 u2 => K (.exit 2) (SSh.enc G F10_2x0 ((u0, (u1, ((), ()))), (u2, ())))) k x.1.1 x.1.2.1 x.1.2.2.2.1 x.1.2.2.2.2.1 x.2.1) y K) n
noncomputable def F10_3x0 : SSh := ⟨144, [(7, (.imm 6))], []⟩
noncomputable def F10_3x1 : SSh := ⟨144, [(7, (.own 0))], [(.arr 6 true)]⟩
noncomputable def F10_3s : SSh := ⟨144, [(3, (.imm 6)), (6, (.imm 5)), (7, (.own 0))], [(.arr 6 true)]⟩
noncomputable def F10_3 {R : Type} (n : Nat) (x925 : List (List Itm)) (x926 : List (List Int)) (x927 : List (List Itm)) (k0 : List (List Itm) → Option R) (k1 : List (List Itm) → Option R) : Option R :=
  (bif (((x926.length) : Int) == (0 : Int)) then
  (k0 x925)
  else (k1 x927))
noncomputable def F10_3z (n : Nat) : Sm G := inZ G 0 ⟨[3, 6, 7], []⟩ F10_3s fun R x K => F10_3 n x.1.1 x.1.2.1 x.2.1 (fun u0 => K .normal (SSh.enc G F10_3x0 ((u0, ()), ()))) (fun u0 => K .normal (SSh.enc G F10_3x1 (((), ()), (u0, ()))))
theorem F10_3_eq (n : Nat) (R : Type) (x : SSh.den G F10_3s) (K : AE → St G → Option R) :
  F10_3 n x.1.1 x.1.2.1 x.2.1 (fun u0 => K .normal (SSh.enc G F10_3x0 ((u0, ()), ()))) (fun u0 => K .normal (SSh.enc G F10_3x1 (((), ()), (u0, ())))) = exec prog G (ro G (tabOf (E12 n)) (frOf [F10_0z n, F10_1z n, F10_2z n]) R) 0 (codeAt F10c [1, 1, 1, 1, 1, 1, 1, 1, 1, 0]) .no (SSh.enc G F10_3s x) (kNrm G (ro G (tabOf (E12 n)) (frOf [F10_0z n, F10_1z n, F10_2z n]) R) 0 ⟨⟨[7], []⟩, ⟨[2], []⟩, []⟩ K) := by kernel_rfl
theorem F10_3_ok (n : Nat) : FragOK prog G 0 (codeAt F10c [1, 1, 1, 1, 1, 1, 1, 1, 1, 0]) (F10_3z n) :=
  frag_plain laws fnok (E12_ok n).tab (AllF.of (l := []) (by kernel_rfl) AllF.nil) (F10_3_eq n)
noncomputable def F10 (n : Nat) (a817 : List Itm) : Option (List Itm × Unit) :=
  (andThen (F24 n a817) fun r818 =>
  (bif (!r818.1) then
  some ([], ())
  else (andThen (F25 n a817) fun r820 =>
  (F10_0 n r820.1 (0 : Int) [] (fun z833 z834 =>
  (andThen (F26 n z834) fun r835 =>
  (F10_2 n z833 r835.1 (0 : Int) (0 : Int) [] (fun z922 z923 z924 =>
  (F10_3 n z922 z923 z924 (fun z930 =>
  (bif (((z930.length) : Int) == (0 : Int)) then
  some ([], ())
  else let v933 := []
  (bif (decide ((0 : Int) < ((z930.length) : Int))) then
  let v935 := (z930.getD (0 : Nat) [])
  (bif (decide (((v933.length) + (v935.length)) ≤ (68719476736 : Nat))) then
  some ((v933 ++ v935), ())
  else none)
  else none))) (fun z937 =>
  (bif (((z937.length) : Int) == (0 : Int)) then
  some ([], ())
  else let v940 := []
  (bif (decide ((0 : Int) < ((z937.length) : Int))) then
  let v941 := (z937.getD (0 : Nat) [])
  (bif (decide (((v940.length) + (v941.length)) ≤ (68719476736 : Nat))) then
  some ((v940 ++ v941), ())
  else none)
  else none))))))))))))
noncomputable def F10e (n : Nat) : Ent G := ⟨10, (.cons (.imm 3) .nil), [], (.imm 3), [], fun x y => F10 n x.1⟩
theorem F10_eq (n : Nat) (x : ShL.den G (.cons (.imm 3) .nil)) (y : denO G []) : (F10e n).F x y = runFn prog G (ro G (tabOf (E12 n)) (frOf [F10_0z n, F10_1z n, F10_2z n, F10_3z n]) _) Go.Proofs.Try.f10 (.nd .no (.nd .no (.nd .no (.nd .no (.nd (.nd .no (.nd (.use 0) .no)) (.nd .no (.nd .no (.nd .no (.nd (.nd .no (.nd (.use 2) .no)) (.nd (.use 3) .no)))))))))) [(0, .fz)] (ShL.enc G (.cons (.imm 3) .nil) x) (encO G [] y) (decR (.imm 3) []) := by kernel_rfl
theorem F10_ok (n : Nat) : EntOK prog G (F10e n) :=
  ent_ok (fr := frOf [F10_0z n, F10_1z n, F10_2z n, F10_3z n]) (ann := (.nd .no (.nd .no (.nd .no (.nd .no (.nd (.nd .no (.nd (.use 0) .no)) (.nd .no (.nd .no (.nd .no (.nd (.nd .no (.nd (.use 2) .no)) (.nd (.use 3) .no))))))))))) (frm := [(0, .fz)]) laws fnok (E12_ok n).tab (e := F10e n) (fn := Go.Proofs.Try.f10) (by kernel_rfl) (AllF.ofB (cd := F10c) (l := [(0, codeAt F10c [1, 1, 1, 1, 0, 1, 0]), (2, codeAt F10c [1, 1, 1, 1, 1, 1, 1, 1, 0, 1, 0]), (3, codeAt F10c [1, 1, 1, 1, 1, 1, 1, 1, 1, 0])]) (by kernel_rfl) (by kernel_rfl) (AllF.cons (F10_0_ok n) (AllF.cons (F10_2_ok n) (AllF.cons (F10_3_ok n) AllF.nil)))) (F10_eq n)
noncomputable def E13 (n : Nat) : List (Ent G) := F10e n :: E12 n
theorem E13_ok (n : Nat) : AllE prog G (E13 n) := AllE.cons (F10_ok n) (E12_ok n)
-- 28 loop.example/slowworm/impl.RunLeast
noncomputable def F28c : Code := bodyOf Go.Proofs.Try.f28
-- 37 loop.example/slowworm/impl.within
noncomputable def F37c : Code := bodyOf Go.Proofs.Try.f37
noncomputable def F37 (n : Nat) (a951 : Int) (a952 : Int) (a953 : Int) : Option (Bool × Unit) :=
  (bif (decide (a951 ≥ a952)) then
  some ((decide (a951 ≤ a953)), ())
  else some (false, ()))
noncomputable def F37e (n : Nat) : Ent G := ⟨37, (.cons (.int .i64) (.cons (.int .i64) (.cons (.int .i64) .nil))), [], .bool, [], fun x y => F37 n x.1 x.2.1 x.2.2.1⟩
theorem F37_eq (n : Nat) (x : ShL.den G (.cons (.int .i64) (.cons (.int .i64) (.cons (.int .i64) .nil)))) (y : denO G []) : (F37e n).F x y = runFn prog G (ro G (tabOf (E13 n)) (frOf []) _) Go.Proofs.Try.f37 .no [(0, .fz)] (ShL.enc G (.cons (.int .i64) (.cons (.int .i64) (.cons (.int .i64) .nil))) x) (encO G [] y) (decR .bool []) := by kernel_rfl
theorem F37_ok (n : Nat) : EntOK prog G (F37e n) :=
  ent_ok (fr := frOf []) (ann := .no) (frm := [(0, .fz)]) laws fnok (E13_ok n).tab (e := F37e n) (fn := Go.Proofs.Try.f37) (by kernel_rfl) (AllF.ofB (cd := F37c) (l := []) (by kernel_rfl) (by kernel_rfl) AllF.nil) (F37_eq n)
noncomputable def E14 (n : Nat) : List (Ent G) := F37e n :: E13 n
theorem E14_ok (n : Nat) : AllE prog G (E14 n) := AllE.cons (F37_ok n) (E13_ok n)
noncomputable def F28_0x0 : SSh := ⟨18, [(0, (.int .i64)), (3, (.int .i64))], []⟩
noncomputable def F28_0s : SSh := ⟨18, [(0, (.int .i64)), (3, (.int .i64))], []⟩
noncomputable def F28_0_step {R : Type} (n : Nat) (k0 : Int → Int → Option R) (rec : Int → Int → Option R) (x958 : Int) (x959 : Int) : Option R :=
  (bif (decide (x958 ≥ (8 : Int))) then
  (rec (IntKind.wrap .i64 (x958.tdiv (2 : Int))) (IntKind.wrap .i64 ((((BitVec.ofInt (64 : Nat) x959) ||| (BitVec.ofInt (64 : Nat) (IntKind.wrap .i64 ((((BitVec.ofInt (64 : Nat) x958) &&& (BitVec.ofInt (64 : Nat) (1 : Int))).toNat) : Int)))).toNat) : Int)))
  else (k0 x958 x959))
noncomputable def F28_0_it {R : Type} (n : Nat) (k0 : Int → Int → Option R) : Nat → Int → Int → Option R
  | 0, _, _ => none
  | k + 1, x958, x959 => F28_0_step n k0 (F28_0_it n k0 k) x958 x959
noncomputable def F28_0 {R : Type} (n : Nat) (x958 : Int) (x959 : Int) (k0 : Int → Int → Option R) : Option R := F28_0_it n k0 n x958 x959
noncomputable def F28_0z (n : Nat) : Sm G := inZ G 0 ⟨[0, 3], []⟩ F28_0s fun R x K => F28_0_it n (fun u0 u1 => K (.exit 0) (SSh.enc G F28_0x0 ((u0, (u1, ())), ()))) n x.1.1 x.1.2.1
theorem F28_0_eq (n : Nat) (R : Type) (rec : SSh.den G F28_0s → Option R) (x : SSh.den G F28_0s) (K : AE → St G → Option R) :
  F28_0_step n (fun u0 u1 => K (.exit 0) (SSh.enc G F28_0x0 ((u0, (u1, ())), ()))) (fun x958 x959 => rec ((x958, (x959, ())), ())) x.1.1 x.1.2.1 = exec prog G (ro G (tabOf (E14 n)) (frOf []) R) 0 (codeAt F28c [1, 1, 1, 0, 0, 0]) .no (SSh.enc G F28_0s x) (kLoop G (ro G (tabOf (E14 n)) (frOf []) R) 0 ⟨[0, 3], []⟩ F28_0s ⟨⟨[0, 3], []⟩, ⟨[2], []⟩, [(0, ⟨[0, 3], []⟩)]⟩ rec K) := by kernel_rfl
theorem F28_0_ok (n : Nat) : FragOK prog G 0 (codeAt F28c [1, 1, 1, 0, 0]) (F28_0z n) :=
  frag_loop (Z := fun R k (x : SSh.den G F28_0s) K => F28_0_it n (fun u0 u1 => K (.exit 0) (SSh.enc G F28_0x0 ((u0, (u1, ())), ()))) k x.1.1 x.1.2.1) laws fnok (E14_ok n).tab (AllF.of (l := []) (by kernel_rfl) AllF.nil) (fun _ _ _ => rfl) (fun R k y K => F28_0_eq n R (fun (x : SSh.den G F28_0s) => F28_0_it n (fun u0 u1 => K (.exit 0) (SSh.enc G F28_0x0 ((u0, (u1, ())), ()))) k x.1.1 x.1.2.1) y K) n
noncomputable def F28 (n : Nat) (a950 : Int) : Option (Int × Unit) :=
  (andThen (F37 n a950 (0 : Int) (1000000 : Int)) fun r956 =>
  (bif (!r956.1) then
  some ((-1 : Int), ())
  else (F28_0 n a950 (0 : Int) (fun z964 z965 =>
  some ((IntKind.wrap .i64 (z964 + z965)), ())))))
noncomputable def F28e (n : Nat) : Ent G := ⟨28, (.cons (.int .i64) .nil), [], (.int .i64), [], fun x y => F28 n x.1⟩
theorem F28_eq (n : Nat) (x : ShL.den G (.cons (.int .i64) .nil)) (y : denO G []) : (F28e n).F x y = runFn prog G (ro G (tabOf (E14 n)) (frOf [F28_0z n]) _) Go.Proofs.Try.f28 (.nd .no (.nd .no (.nd .no (.nd (.nd (.use 0) .no) .no)))) [(0, .fz)] (ShL.enc G (.cons (.int .i64) .nil) x) (encO G [] y) (decR (.int .i64) []) := by kernel_rfl
theorem F28_ok (n : Nat) : EntOK prog G (F28e n) :=
  ent_ok (fr := frOf [F28_0z n]) (ann := (.nd .no (.nd .no (.nd .no (.nd (.nd (.use 0) .no) .no))))) (frm := [(0, .fz)]) laws fnok (E14_ok n).tab (e := F28e n) (fn := Go.Proofs.Try.f28) (by kernel_rfl) (AllF.ofB (cd := F28c) (l := [(0, codeAt F28c [1, 1, 1, 0, 0])]) (by kernel_rfl) (by kernel_rfl) (AllF.cons (F28_0_ok n) AllF.nil)) (F28_eq n)
noncomputable def E15 (n : Nat) : List (Ent G) := F28e n :: E14 n
theorem E15_ok (n : Nat) : AllE prog G (E15 n) := AllE.cons (F28_ok n) (E14_ok n)
-- 29 slices.Clone[[]loop.example/slowworm/impl.Item,loop.example/slowworm/impl.Item]
noncomputable def F29c : Code := bodyOf Go.Proofs.Try.f29
noncomputable def F29 (n : Nat) (a1028 : List Itm) : Option (Unit × (List Itm × Unit)) :=
  (bif (decide ((a1028.length) ≤ (0 : Nat))) then
  (both
  (some ((), ([], ())))
  (let v1030 := []
  (bif (decide (((v1030.length) + (a1028.length)) ≤ (68719476736 : Nat))) then
  some ((), ((v1030 ++ a1028), ()))
  else none)))
  else let v1032 := []
  (bif (decide (((v1032.length) + (a1028.length)) ≤ (68719476736 : Nat))) then
  some ((), ((v1032 ++ a1028), ()))
  else none))
noncomputable def F29e (n : Nat) : Ent G := ⟨29, (.cons (.old 3) .nil), [], (.own 0), [(.arr 3 true)], fun x y => F29 n x.1⟩
theorem F29_eq (n : Nat) (x : ShL.den G (.cons (.old 3) .nil)) (y : denO G []) : (F29e n).F x y = runFn prog G (ro G (tabOf (E15 n)) (frOf []) _) Go.Proofs.Try.f29 .no [(0, (.own 3))] (ShL.enc G (.cons (.old 3) .nil) x) (encO G [] y) (decR (.own 0) [(.arr 3 true)]) := by kernel_rfl
theorem F29_ok (n : Nat) : EntOK prog G (F29e n) :=
  ent_ok (fr := frOf []) (ann := .no) (frm := [(0, (.own 3))]) laws fnok (E15_ok n).tab (e := F29e n) (fn := Go.Proofs.Try.f29) (by kernel_rfl) (AllF.ofB (cd := F29c) (l := []) (by kernel_rfl) (by kernel_rfl) AllF.nil) (F29_eq n)
noncomputable def E16 (n : Nat) : List (Ent G) := F29e n :: E15 n
theorem E16_ok (n : Nat) : AllE prog G (E16 n) := AllE.cons (F29_ok n) (E15_ok n)
-- 30 slices.Reverse[[]loop.example/slowworm/impl.Item,loop.example/slowworm/impl.Item]
noncomputable def F30c : Code := bodyOf Go.Proofs.Try.f30
noncomputable def F30_0x0 : SSh := ⟨28, [], [(.arr 3 true)]⟩
noncomputable def F30_0s : SSh := ⟨28, [(0, (.own 0)), (2, (.int .i64)), (3, (.int .i64))], [(.arr 3 true)]⟩
noncomputable def F30_0_step {R : Type} (n : Nat) (k0 : List Itm → Option R) (rec : Int → Int → List Itm → Option R) (x1047 : Int) (x1048 : Int) (x1049 : List Itm) : Option R :=
  (bif (decide (x1047 < x1048)) then
  (bif (decide ((0 : Int) ≤ x1048)) then
  (bif (decide (x1048 < ((x1049.length) : Int))) then
  let v1051 := (x1048.toNat)
  (bif (decide ((0 : Int) ≤ x1047)) then
  (bif (decide (x1047 < ((x1049.length) : Int))) then
  let v1054 := (x1047.toNat)
  (bif (decide ((0 : Int) ≤ x1047)) then
  (bif (decide (x1047 < ((x1049.length) : Int))) then
  let v1058 := (x1049.set (x1047.toNat) (Itm.mk (x1049.getD v1051 (Itm.mk (0 : Int) (0 : Int))).key (x1049.getD v1051 (Itm.mk (0 : Int) (0 : Int))).tag))
  (bif (decide ((0 : Int) ≤ x1048)) then
  (bif (decide (x1048 < ((v1058.length) : Int))) then
  (rec (IntKind.wrap .i64 (x1047 + (1 : Int))) (IntKind.wrap .i64 (x1048 - (1 : Int))) (v1058.set (x1048.toNat) (Itm.mk (x1049.getD v1054 (Itm.mk (0 : Int) (0 : Int))).key (x1049.getD v1054 (Itm.mk (0 : Int) (0 : Int))).tag)))
  else none)
  else none)
  else none)
  else none)
  else none)
  else none)
  else none)
  else none)
  else (k0 x1049))
noncomputable def F30_0_it {R : Type} (n : Nat) (k0 : List Itm → Option R) : Nat → Int → Int → List Itm → Option R
  | 0, _, _, _ => none
  | k + 1, x1047, x1048, x1049 => F30_0_step n k0 (F30_0_it n k0 k) x1047 x1048 x1049
noncomputable def F30_0 {R : Type} (n : Nat) (x1047 : Int) (x1048 : Int) (x1049 : List Itm) (k0 : List Itm → Option R) : Option R := F30_0_it n k0 n x1047 x1048 x1049
noncomputable def F30_0z (n : Nat) : Sm G := inZ G 1 ⟨[0, 2, 3], []⟩ F30_0s fun R x K => F30_0_it n (fun u0 => K (.exit 0) (SSh.enc G F30_0x0 ((), (u0, ())))) n x.1.2.1 x.1.2.2.1 x.2.1
theorem F30_0_eq (n : Nat) (R : Type) (rec : SSh.den G F30_0s → Option R) (x : SSh.den G F30_0s) (K : AE → St G → Option R) :
  F30_0_step n (fun u0 => K (.exit 0) (SSh.enc G F30_0x0 ((), (u0, ())))) (fun x1047 x1048 x1049 => rec (((), (x1047, (x1048, ()))), (x1049, ()))) x.1.2.1 x.1.2.2.1 x.2.1 = exec prog G (ro G (tabOf (E16 n)) (frOf []) R) 1 (codeAt F30c [1, 0, 0]) .no (SSh.enc G F30_0s x) (kLoop G (ro G (tabOf (E16 n)) (frOf []) R) 1 ⟨[0, 2, 3], []⟩ F30_0s ⟨⟨[], []⟩, ⟨[], []⟩, [(0, ⟨[], []⟩)]⟩ rec K) := by kernel_rfl
theorem F30_0_ok (n : Nat) : FragOK prog G 1 (codeAt F30c [1, 0]) (F30_0z n) :=
  frag_loop (Z := fun R k (x : SSh.den G F30_0s) K => F30_0_it n (fun u0 => K (.exit 0) (SSh.enc G F30_0x0 ((), (u0, ())))) k x.1.2.1 x.1.2.2.1 x.2.1) laws fnok (E16_ok n).tab (AllF.of (l := []) (by kernel_rfl) AllF.nil) (fun _ _ _ => rfl) (fun R k y K => F30_0_eq n R (fun (x : SSh.den G F30_0s) => F30_0_it n (fun u0 => K (.exit 0) (SSh.enc G F30_0x0 ((), (u0, ())))) k x.1.2.1 x.1.2.2.1 x.2.1) y K) n
noncomputable def F30 (n : Nat) (a1044 : List Itm) : Option (Unit × (List Itm × Unit)) :=
  (F30_0 n (0 : Int) (IntKind.wrap .i64 (((a1044.length) : Int) - (1 : Int))) a1044 (fun z1063 =>
  some ((), (z1063, ()))))
noncomputable def F30e (n : Nat) : Ent G := ⟨30, (.cons (.own 0) .nil), [(.arr 3 true)], (.tup .nil), [(.arr 3 true)], fun x y => F30 n y.1⟩
theorem F30_eq (n : Nat) (x : ShL.den G (.cons (.own 0) .nil)) (y : denO G [(.arr 3 true)]) : (F30e n).F x y = runFn prog G (ro G (tabOf (E16 n)) (frOf [F30_0z n]) _) Go.Proofs.Try.f30 (.nd .no (.nd (.use 0) .no)) [] (ShL.enc G (.cons (.own 0) .nil) x) (encO G [(.arr 3 true)] y) (decR (.tup .nil) [(.arr 3 true)]) := by kernel_rfl
theorem F30_ok (n : Nat) : EntOK prog G (F30e n) :=
  ent_ok (fr := frOf [F30_0z n]) (ann := (.nd .no (.nd (.use 0) .no))) (frm := []) laws fnok (E16_ok n).tab (e := F30e n) (fn := Go.Proofs.Try.f30) (by kernel_rfl) (AllF.ofB (cd := F30c) (l := [(0, codeAt F30c [1, 0])]) (by kernel_rfl) (by kernel_rfl) (AllF.cons (F30_0_ok n) AllF.nil)) (F30_eq n)
noncomputable def E17 (n : Nat) : List (Ent G) := F30e n :: E16 n
theorem E17_ok (n : Nat) : AllE prog G (E17 n) := AllE.cons (F30_ok n) (E16_ok n)
-- 11 loop.example/slowworm/impl.RunsOf
noncomputable def F11c : Code := bodyOf Go.Proofs.Try.f11
noncomputable def F11_0x0 : SSh := ⟨144, [(0, (.old 3)), (3, (.int .i64)), (4, (.own 0)), (5, (.int .i64)), (6, (.int .i64))], [(.arr 6 true)]⟩
noncomputable def F11_0s : SSh := ⟨144, [(0, (.old 3)), (3, (.int .i64)), (4, (.own 0)), (5, (.int .i64)), (6, (.int .i64))], [(.arr 6 true)]⟩
noncomputable def F11_0_step {R : Type} (n : Nat) (k0 : List Itm → Int → Int → Int → List (List Itm) → Option R) (rec : List Itm → Int → Int → Int → List (List Itm) → Option R) (x1134 : List Itm) (x1135 : Int) (x1136 : Int) (x1137 : Int) (x1138 : List (List Itm)) : Option R :=
  (bif (decide (x1137 < ((x1134.length) : Int))) then
  (bif (decide ((0 : Int) ≤ x1137)) then
  (bif (decide (x1137 < ((x1134.length) : Int))) then
  let v1143 := (IntKind.wrap .i64 (x1137 - (1 : Int)))
  (bif (decide ((0 : Int) ≤ v1143)) then
  (bif (decide (v1143 < ((x1134.length) : Int))) then
  (bif (decide ((x1134.getD (x1137.toNat) (Itm.mk (0 : Int) (0 : Int))).key < (x1134.getD (v1143.toNat) (Itm.mk (0 : Int) (0 : Int))).key)) then
  (rec x1134 x1135 x1136 (IntKind.wrap .i64 (x1137 + (1 : Int))) x1138)
  else (k0 x1134 x1135 x1136 x1137 x1138))
  else none)
  else none)
  else none)
  else none)
  else (k0 x1134 x1135 x1136 x1137 x1138))
noncomputable def F11_0_it {R : Type} (n : Nat) (k0 : List Itm → Int → Int → Int → List (List Itm) → Option R) : Nat → List Itm → Int → Int → Int → List (List Itm) → Option R
  | 0, _, _, _, _, _ => none
  | k + 1, x1134, x1135, x1136, x1137, x1138 => F11_0_step n k0 (F11_0_it n k0 k) x1134 x1135 x1136 x1137 x1138
noncomputable def F11_0 {R : Type} (n : Nat) (x1134 : List Itm) (x1135 : Int) (x1136 : Int) (x1137 : Int) (x1138 : List (List Itm)) (k0 : List Itm → Int → Int → Int → List (List Itm) → Option R) : Option R := F11_0_it n k0 n x1134 x1135 x1136 x1137 x1138
noncomputable def F11_0z (n : Nat) : Sm G := inZ G 0 ⟨[0, 3, 4, 5, 6], []⟩ F11_0s fun R x K => F11_0_it n (fun u0 u1 u2 u3 u4 => K (.exit 2) (SSh.enc G F11_0x0 ((u0, (u1, ((), (u2, (u3, ()))))), (u4, ())))) n x.1.1 x.1.2.1 x.1.2.2.2.1 x.1.2.2.2.2.1 x.2.1
theorem F11_0_eq (n : Nat) (R : Type) (rec : SSh.den G F11_0s → Option R) (x : SSh.den G F11_0s) (K : AE → St G → Option R) :
  F11_0_step n (fun u0 u1 u2 u3 u4 => K (.exit 2) (SSh.enc G F11_0x0 ((u0, (u1, ((), (u2, (u3, ()))))), (u4, ())))) (fun x1134 x1135 x1136 x1137 x1138 => rec ((x1134, (x1135, ((), (x1136, (x1137, ()))))), (x1138, ()))) x.1.1 x.1.2.1 x.1.2.2.2.1 x.1.2.2.2.2.1 x.2.1 = exec prog G (ro G (tabOf (E17 n)) (frOf []) R) 0 (codeAt F11c [1, 1, 1, 1, 0, 1, 0, 0, 1, 0, 1, 0, 1, 0, 0, 0]) .no (SSh.enc G F11_0s x) (kLoop G (ro G (tabOf (E17 n)) (frOf []) R) 0 ⟨[0, 3, 4, 5, 6], []⟩ F11_0s ⟨⟨[0, 3, 4, 5, 6], []⟩, ⟨[2], []⟩, [(2, ⟨[0, 3, 4, 5, 6], []⟩), (1, ⟨[0, 3, 4, 5], []⟩), (0, ⟨[4], []⟩)]⟩ rec K) := by kernel_rfl
theorem F11_0_ok (n : Nat) : FragOK prog G 0 (codeAt F11c [1, 1, 1, 1, 0, 1, 0, 0, 1, 0, 1, 0, 1, 0, 0]) (F11_0z n) :=
  frag_loop (Z := fun R k (x : SSh.den G F11_0s) K => F11_0_it n (fun u0 u1 u2 u3 u4 => K (.exit 2) (SSh.enc G F11_0x0 ((u0, (u1, ((), (u2, (u3, ()))))), (u4, ())))) k x.1.1 x.1.2.1 x.1.2.2.2.1 x.1.2.2.2.2.1 x.2.1) laws fnok (E17_ok n).tab (AllF.of (l := []) (by kernel_rfl) AllF.nil) (fun _ _ _ => rfl) (fun R k y K => F11_0_eq n R (fun (x : SSh.den G F11_0s) => F11_0_it n (fun u0 u1 u2 u3 u4 => K (.exit 2) (SSh.enc G F11_0x0 ((u0, (u1, ((), (u2, (u3, ()))))), (u4, ())))) k x.1.1 x.1.2.1 x.1.2.2.2.1 x.1.2.2.2.2.1 x.2.1) y K) n
noncomputable def F11_1x0 : SSh := ⟨144, [(0, (.old 3)), (3, (.int .i64)), (4, (.own 0)), (5, (.int .i64)), (6, (.int .i64))], [(.arr 6 true)]⟩
noncomputable def F11_1s : SSh := ⟨144, [(0, (.old 3)), (3, (.int .i64)), (4, (.own 0)), (5, (.int .i64)), (6, (.int .i64))], [(.arr 6 true)]⟩
noncomputable def F11_1_step {R : Type} (n : Nat) (k0 : List Itm → Int → Int → Int → List (List Itm) → Option R) (rec : List Itm → Int → Int → Int → List (List Itm) → Option R) (x1153 : List Itm) (x1154 : Int) (x1155 : Int) (x1156 : Int) (x1157 : List (List Itm)) : Option R :=
  (bif (decide (x1156 < ((x1153.length) : Int))) then
  (bif (decide ((0 : Int) ≤ x1156)) then
  (bif (decide (x1156 < ((x1153.length) : Int))) then
  let v1162 := (IntKind.wrap .i64 (x1156 - (1 : Int)))
  (bif (decide ((0 : Int) ≤ v1162)) then
  (bif (decide (v1162 < ((x1153.length) : Int))) then
  (bif (decide ((x1153.getD (x1156.toNat) (Itm.mk (0 : Int) (0 : Int))).key ≥ (x1153.getD (v1162.toNat) (Itm.mk (0 : Int) (0 : Int))).key)) then
  (rec x1153 x1154 x1155 (IntKind.wrap .i64 (x1156 + (1 : Int))) x1157)
  else (k0 x1153 x1154 x1155 x1156 x1157))
  else none)
  else none)
  else none)
  else none)
  else (k0 x1153 x1154 x1155 x1156 x1157))
noncomputable def F11_1_it {R : Type} (n : Nat) (k0 : List Itm → Int → Int → Int → List (List Itm) → Option R) : Nat → List Itm → Int → Int → Int → List (List Itm) → Option R
  | 0, _, _, _, _, _ => none
  | k + 1, x1153, x1154, x1155, x1156, x1157 => F11_1_step n k0 (F11_1_it n k0 k) x1153 x1154 x1155 x1156 x1157
noncomputable def F11_1 {R : Type} (n : Nat) (x1153 : List Itm) (x1154 : Int) (x1155 : Int) (x1156 : Int) (x1157 : List (List Itm)) (k0 : List Itm → Int → Int → Int → List (List Itm) → Option R) : Option R := F11_1_it n k0 n x1153 x1154 x1155 x1156 x1157
noncomputable def F11_1z (n : Nat) : Sm G := inZ G 0 ⟨[0, 3, 4, 5, 6], []⟩ F11_1s fun R x K => F11_1_it n (fun u0 u1 u2 u3 u4 => K (.exit 4) (SSh.enc G F11_1x0 ((u0, (u1, ((), (u2, (u3, ()))))), (u4, ())))) n x.1.1 x.1.2.1 x.1.2.2.2.1 x.1.2.2.2.2.1 x.2.1
theorem F11_1_eq (n : Nat) (R : Type) (rec : SSh.den G F11_1s → Option R) (x : SSh.den G F11_1s) (K : AE → St G → Option R) :
  F11_1_step n (fun u0 u1 u2 u3 u4 => K (.exit 4) (SSh.enc G F11_1x0 ((u0, (u1, ((), (u2, (u3, ()))))), (u4, ())))) (fun x1153 x1154 x1155 x1156 x1157 => rec ((x1153, (x1154, ((), (x1155, (x1156, ()))))), (x1157, ()))) x.1.1 x.1.2.1 x.1.2.2.2.1 x.1.2.2.2.2.1 x.2.1 = exec prog G (ro G (tabOf (E17 n)) (frOf [F11_0z n]) R) 0 (codeAt F11c [1, 1, 1, 1, 0, 1, 0, 0, 1, 0, 1, 0, 1, 1, 0, 0]) .no (SSh.enc G F11_1s x) (kLoop G (ro G (tabOf (E17 n)) (frOf [F11_0z n]) R) 0 ⟨[0, 3, 4, 5, 6], []⟩ F11_1s ⟨⟨[0, 3, 4, 5, 6], []⟩, ⟨[2], []⟩, [(4, ⟨[0, 3, 4, 5, 6], []⟩), (1, ⟨[0, 3, 4, 5], []⟩), (0, ⟨[4], []⟩)]⟩ rec K) := by kernel_rfl
theorem F11_1_ok (n : Nat) : FragOK prog G 0 (codeAt F11c [1, 1, 1, 1, 0, 1, 0, 0, 1, 0, 1, 0, 1, 1, 0]) (F11_1z n) :=
  frag_loop (Z := fun R k (x : SSh.den G F11_1s) K => F11_1_it n (fun u0 u1 u2 u3 u4 => K (.exit 4) (SSh.enc G F11_1x0 ((u0, (u1, ((), (u2, (u3, ()))))), (u4, ())))) k x.1.1 x.1.2.1 x.1.2.2.2.1 x.1.2.2.2.2.1 x.2.1) laws fnok (E17_ok n).tab (AllF.of (l := []) (by kernel_rfl) AllF.nil) (fun _ _ _ => rfl) (fun R k y K => F11_1_eq n R (fun (x : SSh.den G F11_1s) => F11_1_it n (fun u0 u1 u2 u3 u4 => K (.exit 4) (SSh.enc G F11_1x0 ((u0, (u1, ((), (u2, (u3, ()))))), (u4, ())))) k x.1.1 x.1.2.1 x.1.2.2.2.1 x.1.2.2.2.2.1 x.2.1) y K) n
noncomputable def F11_2x0 : SSh := ⟨144, [(0, (.old 3)), (3, (.int .i64)), (4, (.own 0)), (5, (.int .i64)), (6, (.int .i64))], [(.arr 6 true)]⟩
noncomputable def F11_2s : SSh := ⟨144, [(0, (.old 3)), (3, (.int .i64)), (4, (.own 0)), (5, (.int .i64)), (6, (.int .i64))], [(.arr 6 true)]⟩
noncomputable def F11_2 {R : Type} (n : Nat) (x1122 : List Itm) (x1123 : Int) (x1124 : Int) (x1125 : Int) (x1126 : List (List Itm)) (k0 : List Itm → Int → Int → Int → List (List Itm) → Option R) : Option R :=
  (bif (decide (x1125 < ((x1122.length) : Int))) then
  (bif (decide ((0 : Int) ≤ x1125)) then
  (bif (decide (x1125 < ((x1122.length) : Int))) then
  (bif (decide ((0 : Int) ≤ x1124)) then
  (bif (decide (x1124 < ((x1122.length) : Int))) then
  (bif (decide ((x1122.getD (x1125.toNat) (Itm.mk (0 : Int) (0 : Int))).key < (x1122.getD (x1124.toNat) (Itm.mk (0 : Int) (0 : Int))).key)) then
  (F11_0 n x1122 x1123 x1124 x1125 x1126 (fun z1148 z1149 z1150 z1151 z1152 =>
  (k0 z1148 z1149 z1150 z1151 z1152)))
  else (F11_1 n x1122 x1123 x1124 x1125 x1126 (fun z1167 z1168 z1169 z1170 z1171 =>
  (k0 z1167 z1168 z1169 z1170 z1171))))
  else none)
  else none)
  else none)
  else none)
  else (F11_1 n x1122 x1123 x1124 x1125 x1126 (fun z1172 z1173 z1174 z1175 z1176 =>
  (k0 z1172 z1173 z1174 z1175 z1176))))
noncomputable def F11_2z (n : Nat) : Sm G := inZ G 0 ⟨[0, 3, 4, 5, 6], []⟩ F11_2s fun R x K => F11_2 n x.1.1 x.1.2.1 x.1.2.2.2.1 x.1.2.2.2.2.1 x.2.1 (fun u0 u1 u2 u3 u4 => K .normal (SSh.enc G F11_2x0 ((u0, (u1, ((), (u2, (u3, ()))))), (u4, ()))))
theorem F11_2_eq (n : Nat) (R : Type) (x : SSh.den G F11_2s) (K : AE → St G → Option R) :
  F11_2 n x.1.1 x.1.2.1 x.1.2.2.2.1 x.1.2.2.2.2.1 x.2.1 (fun u0 u1 u2 u3 u4 => K .normal (SSh.enc G F11_2x0 ((u0, (u1, ((), (u2, (u3, ()))))), (u4, ())))) = exec prog G (ro G (tabOf (E17 n)) (frOf [F11_0z n, F11_1z n]) R) 0 (codeAt F11c [1, 1, 1, 1, 0, 1, 0, 0, 1, 0, 1, 0]) (.nd .no (.nd (.nd (.use 0) .no) (.nd (.use 1) .no))) (SSh.enc G F11_2s x) (kNrm G (ro G (tabOf (E17 n)) (frOf [F11_0z n, F11_1z n]) R) 0 ⟨⟨[0, 3, 4, 5, 6], []⟩, ⟨[2], []⟩, [(1, ⟨[0, 3, 4, 5], []⟩), (0, ⟨[4], []⟩)]⟩ K) := by kernel_rfl
theorem F11_2_ok (n : Nat) : FragOK prog G 0 (codeAt F11c [1, 1, 1, 1, 0, 1, 0, 0, 1, 0, 1, 0]) (F11_2z n) :=
  frag_plain laws fnok (E17_ok n).tab (AllF.of (l := [(0, codeAt F11c [1, 1, 1, 1, 0, 1, 0, 0, 1, 0, 1, 0, 1, 0, 0]), (1, codeAt F11c [1, 1, 1, 1, 0, 1, 0, 0, 1, 0, 1, 0, 1, 1, 0])]) (by kernel_rfl) (AllF.cons (F11_0_ok n) (AllF.cons (F11_1_ok n) AllF.nil))) (F11_2_eq n)
noncomputable def F11_3x0 : SSh := ⟨144, [(0, (.old 3)), (3, (.int .i64)), (4, (.own 0)), (6, (.int .i64)), (7, (.own 1))], [(.arr 6 true), (.arr 3 true)]⟩
noncomputable def F11_3s : SSh := ⟨144, [(0, (.old 3)), (3, (.int .i64)), (4, (.own 0)), (6, (.int .i64)), (7, (.own 1))], [(.arr 6 true), (.arr 3 true)]⟩
noncomputable def F11_3 {R : Type} (n : Nat) (x1184 : List Itm) (x1185 : Int) (x1186 : Int) (x1187 : List (List Itm)) (x1188 : List Itm) (k0 : List Itm → Int → Int → List (List Itm) → List Itm → Option R) : Option R :=
  (bif (decide (((x1188.length) : Int) > (1 : Int))) then
  (bif (decide ((1 : Int) < ((x1188.length) : Int))) then
  (bif (decide ((0 : Int) < ((x1188.length) : Int))) then
  (bif (decide ((x1188.getD (1 : Nat) (Itm.mk (0 : Int) (0 : Int))).key < (x1188.getD (0 : Nat) (Itm.mk (0 : Int) (0 : Int))).key)) then
  (andThen (F30 n x1188) fun r1194 =>
  (k0 x1184 x1185 x1186 x1187 r1194.2.1))
  else (k0 x1184 x1185 x1186 x1187 x1188))
  else none)
  else none)
  else (k0 x1184 x1185 x1186 x1187 x1188))
noncomputable def F11_3z (n : Nat) : Sm G := inZ G 0 ⟨[0, 3, 4, 6, 7], []⟩ F11_3s fun R x K => F11_3 n x.1.1 x.1.2.1 x.1.2.2.2.1 x.2.1 x.2.2.1 (fun u0 u1 u2 u3 u4 => K .normal (SSh.enc G F11_3x0 ((u0, (u1, ((), (u2, ((), ()))))), (u3, (u4, ())))))
theorem F11_3_eq (n : Nat) (R : Type) (x : SSh.den G F11_3s) (K : AE → St G → Option R) :
  F11_3 n x.1.1 x.1.2.1 x.1.2.2.2.1 x.2.1 x.2.2.1 (fun u0 u1 u2 u3 u4 => K .normal (SSh.enc G F11_3x0 ((u0, (u1, ((), (u2, ((), ()))))), (u3, (u4, ()))))) = exec prog G (ro G (tabOf (E17 n)) (frOf [F11_0z n, F11_1z n, F11_2z n]) R) 0 (codeAt F11c [1, 1, 1, 1, 0, 1, 0, 0, 1, 0, 1, 1, 1, 0]) .no (SSh.enc G F11_3s x) (kNrm G (ro G (tabOf (E17 n)) (frOf [F11_0z n, F11_1z n, F11_2z n]) R) 0 ⟨⟨[0, 3, 4, 6, 7], []⟩, ⟨[2], []⟩, [(1, ⟨[0, 3, 4, 5], []⟩), (0, ⟨[4], []⟩)]⟩ K) := by kernel_rfl
theorem F11_3_ok (n : Nat) : FragOK prog G 0 (codeAt F11c [1, 1, 1, 1, 0, 1, 0, 0, 1, 0, 1, 1, 1, 0]) (F11_3z n) :=
  frag_plain laws fnok (E17_ok n).tab (AllF.of (l := []) (by kernel_rfl) AllF.nil) (F11_3_eq n)
noncomputable def F11_4x0 : SSh := ⟨144, [(0, (.old 3)), (3, (.int .i64)), (4, (.own 0)), (6, (.int .i64)), (7, (.own 1)), (8, (.ptr 2 0)), (9, (.int .i64))], [(.arr 6 true), (.arr 3 true), (.box 46 (.cons (.int .i64) (.cons (.int .i64) .nil)))]⟩
noncomputable def F11_4s : SSh := ⟨144, [(0, (.old 3)), (3, (.int .i64)), (4, (.own 0)), (6, (.int .i64)), (7, (.own 1)), (8, (.ptr 2 0)), (9, (.int .i64))], [(.arr 6 true), (.arr 3 true), (.box 46 (.cons (.int .i64) (.cons (.int .i64) .nil)))]⟩
noncomputable def F11_4_step {R : Type} (n : Nat) (k0 : List Itm → Int → Int → Int → List (List Itm) → List Itm → Int → Int → Option R) (rec : List Itm → Int → Int → Int → List (List Itm) → List Itm → Int → Int → Option R) (x1213 : List Itm) (x1214 : Int) (x1215 : Int) (x1216 : Int) (x1217 : List (List Itm)) (x1218 : List Itm) (x1219 : Int) (x1220 : Int) : Option R :=
  (bif (decide (x1216 > (0 : Int))) then
  let v1222 := (IntKind.wrap .i64 (x1216 - (1 : Int)))
  (bif (decide ((0 : Int) ≤ v1222)) then
  (bif (decide (v1222 < ((x1218.length) : Int))) then
  (bif (decide ((x1218.getD (v1222.toNat) (Itm.mk (0 : Int) (0 : Int))).key > x1219)) then
  (rec x1213 x1214 x1215 (IntKind.wrap .i64 (x1216 - (1 : Int))) x1217 x1218 x1219 x1220)
  else (k0 x1213 x1214 x1215 x1216 x1217 x1218 x1219 x1220))
  else none)
  else none)
  else (k0 x1213 x1214 x1215 x1216 x1217 x1218 x1219 x1220))
noncomputable def F11_4_it {R : Type} (n : Nat) (k0 : List Itm → Int → Int → Int → List (List Itm) → List Itm → Int → Int → Option R) : Nat → List Itm → Int → Int → Int → List (List Itm) → List Itm → Int → Int → Option R
  | 0, _, _, _, _, _, _, _, _ => none
  | k + 1, x1213, x1214, x1215, x1216, x1217, x1218, x1219, x1220 => F11_4_step n k0 (F11_4_it n k0 k) x1213 x1214 x1215 x1216 x1217 x1218 x1219 x1220
noncomputable def F11_4 {R : Type} (n : Nat) (x1213 : List Itm) (x1214 : Int) (x1215 : Int) (x1216 : Int) (x1217 : List (List Itm)) (x1218 : List Itm) (x1219 : Int) (x1220 : Int) (k0 : List Itm → Int → Int → Int → List (List Itm) → List Itm → Int → Int → Option R) : Option R := F11_4_it n k0 n x1213 x1214 x1215 x1216 x1217 x1218 x1219 x1220
noncomputable def F11_4z (n : Nat) : Sm G := inZ G 0 ⟨[0, 3, 4, 6, 7, 8, 9], []⟩ F11_4s fun R x K => F11_4_it n (fun u0 u1 u2 u3 u4 u5 u6 u7 => K (.exit 8) (SSh.enc G F11_4x0 ((u0, (u1, ((), (u2, ((), ((), (u3, ()))))))), (u4, (u5, ((u6, (u7, ())), ())))))) n x.1.1 x.1.2.1 x.1.2.2.2.1 x.1.2.2.2.2.2.2.1 x.2.1 x.2.2.1 x.2.2.2.1.1 x.2.2.2.1.2.1
theorem F11_4_eq (n : Nat) (R : Type) (rec : SSh.den G F11_4s → Option R) (x : SSh.den G F11_4s) (K : AE → St G → Option R) :
  F11_4_step n (fun u0 u1 u2 u3 u4 u5 u6 u7 => K (.exit 8) (SSh.enc G F11_4x0 ((u0, (u1, ((), (u2, ((), ((), (u3, ()))))))), (u4, (u5, ((u6, (u7, ())), ())))))) (fun x1213 x1214 x1215 x1216 x1217 x1218 x1219 x1220 => rec ((x1213, (x1214, ((), (x1215, ((), ((), (x1216, ()))))))), (x1217, (x1218, ((x1219, (x1220, ())), ()))))) x.1.1 x.1.2.1 x.1.2.2.2.1 x.1.2.2.2.2.2.2.1 x.2.1 x.2.2.1 x.2.2.2.1.1 x.2.2.2.1.2.1 = exec prog G (ro G (tabOf (E17 n)) (frOf [F11_0z n, F11_1z n, F11_2z n, F11_3z n]) R) 0 (codeAt F11c [1, 1, 1, 1, 0, 1, 0, 0, 1, 0, 1, 1, 1, 1, 0, 0, 0, 1, 0, 1, 1, 0, 0, 0]) .no (SSh.enc G F11_4s x) (kLoop G (ro G (tabOf (E17 n)) (frOf [F11_0z n, F11_1z n, F11_2z n, F11_3z n]) R) 0 ⟨[0, 3, 4, 6, 7, 8, 9], []⟩ F11_4s ⟨⟨[0, 3, 4, 6, 7, 8, 9], []⟩, ⟨[2], []⟩, [(8, ⟨[0, 3, 4, 6, 7, 8, 9], []⟩), (7, ⟨[0, 3, 4, 6, 7], []⟩), (6, ⟨[0, 3, 4, 6, 7], []⟩), (1, ⟨[0, 3, 4, 5], []⟩), (0, ⟨[4], []⟩)]⟩ rec K) := by kernel_rfl
theorem F11_4_ok (n : Nat) : FragOK prog G 0 (codeAt F11c [1, 1, 1, 1, 0, 1, 0, 0, 1, 0, 1, 1, 1, 1, 0, 0, 0, 1, 0, 1, 1, 0, 0]) (F11_4z n) :=
  frag_loop (Z := fun R k (x : SSh.den G F11_4s) K => F11_4_it n (fun u0 u1 u2 u3 u4 u5 u6 u7 => K (.exit 8) (SSh.enc G F11_4x0 ((u0, (u1, ((), (u2, ((), ((), (u3, ()))))))), (u4, (u5, ((u6, (u7, ())), ())))))) k x.1.1 x.1.2.1 x.1.2.2.2.1 x.1.2.2.2.2.2.2.1 x.2.1 x.2.2.1 x.2.2.2.1.1 x.2.2.2.1.2.1) laws fnok (E17_ok n).tab (AllF.of (l := []) (by kernel_rfl) AllF.nil) (fun _ _ _ => rfl) (fun R k y K => F11_4_eq n R (fun (x : SSh.den G F11_4s) => F11_4_it n (fun u0 u1 u2 u3 u4 u5 u6 u7 => K (.exit 8) (SSh.enc G F11_4x0 ((u0, (u1, ((), (u2, ((), ((), (u3, ()))))))), (u4, (u5, ((u6, (u7, ())), ())))))) k x.1.1 x.1.2.1 x.1.2.2.2.1 x.1.2.2.2.2.2.2.1 x.2.1 x.2.2.1 x.2.2.2.1.1 x.2.2.2.1.2.1) y K) n
noncomputable def F11_5x0 : SSh := ⟨144, [(0, (.old 3)), (3, (.int .i64)), (4, (.own 0)), (6, (.int .i64)), (7, (.own 1))], [(.arr 6 true), (.arr 3 true)]⟩
noncomputable def F11_5s : SSh := ⟨144, [(0, (.old 3)), (3, (.int .i64)), (4, (.own 0)), (6, (.int .i64)), (7, (.own 1))], [(.arr 6 true), (.arr 3 true)]⟩
noncomputable def F11_5_step {R : Type} (n : Nat) (k0 : List Itm → Int → Int → List (List Itm) → List Itm → Option R) (rec : List Itm → Int → Int → List (List Itm) → List Itm → Option R) (x1200 : List Itm) (x1201 : Int) (x1202 : Int) (x1203 : List (List Itm)) (x1204 : List Itm) : Option R :=
  (bif (decide (((x1204.length) : Int) < x1201)) then
  (bif (decide (x1202 < ((x1200.length) : Int))) then
  (bif (decide ((0 : Int) ≤ x1202)) then
  (bif (decide (x1202 < ((x1200.length) : Int))) then
  let v1209 := (x1200.getD (x1202.toNat) (Itm.mk (0 : Int) (0 : Int)))
  (F11_4 n x1200 x1201 x1202 ((x1204.length) : Int) x1203 x1204 v1209.key v1209.tag (fun z1227 z1228 z1229 z1230 z1231 z1232 z1233 z1234 =>
  (andThen (L31 z1230 z1232 ((Itm.mk z1233 z1234) :: [])) fun r1236 =>
  (rec z1227 z1228 (IntKind.wrap .i64 (z1229 + (1 : Int))) z1231 r1236.2.2.2.1))))
  else none)
  else none)
  else (k0 x1200 x1201 x1202 x1203 x1204))
  else (k0 x1200 x1201 x1202 x1203 x1204))
noncomputable def F11_5_it {R : Type} (n : Nat) (k0 : List Itm → Int → Int → List (List Itm) → List Itm → Option R) : Nat → List Itm → Int → Int → List (List Itm) → List Itm → Option R
  | 0, _, _, _, _, _ => none
  | k + 1, x1200, x1201, x1202, x1203, x1204 => F11_5_step n k0 (F11_5_it n k0 k) x1200 x1201 x1202 x1203 x1204
noncomputable def F11_5 {R : Type} (n : Nat) (x1200 : List Itm) (x1201 : Int) (x1202 : Int) (x1203 : List (List Itm)) (x1204 : List Itm) (k0 : List Itm → Int → Int → List (List Itm) → List Itm → Option R) : Option R := F11_5_it n k0 n x1200 x1201 x1202 x1203 x1204
noncomputable def F11_5z (n : Nat) : Sm G := inZ G 0 ⟨[0, 3, 4, 6, 7], []⟩ F11_5s fun R x K => F11_5_it n (fun u0 u1 u2 u3 u4 => K (.exit 6) (SSh.enc G F11_5x0 ((u0, (u1, ((), (u2, ((), ()))))), (u3, (u4, ()))))) n x.1.1 x.1.2.1 x.1.2.2.2.1 x.2.1 x.2.2.1
theorem F11_5_eq (n : Nat) (R : Type) (rec : SSh.den G F11_5s → Option R) (x : SSh.den G F11_5s) (K : AE → St G → Option R) :
  F11_5_step n (fun u0 u1 u2 u3 u4 => K (.exit 6) (SSh.enc G F11_5x0 ((u0, (u1, ((), (u2, ((), ()))))), (u3, (u4, ()))))) (fun x1200 x1201 x1202 x1203 x1204 => rec ((x1200, (x1201, ((), (x1202, ((), ()))))), (x1203, (x1204, ())))) x.1.1 x.1.2.1 x.1.2.2.2.1 x.2.1 x.2.2.1 = exec prog G (ro G (tabOf (E17 n)) (frOf [F11_0z n, F11_1z n, F11_2z n, F11_3z n, F11_4z n]) R) 0 (codeAt F11c [1, 1, 1, 1, 0, 1, 0, 0, 1, 0, 1, 1, 1, 1, 0, 0, 0]) (.nd .no (.nd (.nd .no (.nd .no (.nd (.nd (.use 4) .no) .no))) .no)) (SSh.enc G F11_5s x) (kLoop G (ro G (tabOf (E17 n)) (frOf [F11_0z n, F11_1z n, F11_2z n, F11_3z n, F11_4z n]) R) 0 ⟨[0, 3, 4, 6, 7], []⟩ F11_5s ⟨⟨[0, 3, 4, 6, 7], []⟩, ⟨[2], []⟩, [(6, ⟨[0, 3, 4, 6, 7], []⟩), (1, ⟨[0, 3, 4, 5], []⟩), (0, ⟨[4], []⟩)]⟩ rec K) := by kernel_rfl
theorem F11_5_ok (n : Nat) : FragOK prog G 0 (codeAt F11c [1, 1, 1, 1, 0, 1, 0, 0, 1, 0, 1, 1, 1, 1, 0, 0]) (F11_5z n) :=
  frag_loop (Z := fun R k (x : SSh.den G F11_5s) K => F11_5_it n (fun u0 u1 u2 u3 u4 => K (.exit 6) (SSh.enc G F11_5x0 ((u0, (u1, ((), (u2, ((), ()))))), (u3, (u4, ()))))) k x.1.1 x.1.2.1 x.1.2.2.2.1 x.2.1 x.2.2.1) laws fnok (E17_ok n).tab (AllF.of (l := [(4, codeAt F11c [1, 1, 1, 1, 0, 1, 0, 0, 1, 0, 1, 1, 1, 1, 0, 0, 0, 1, 0, 1, 1, 0, 0])]) (by kernel_rfl) (AllF.cons (F11_4_ok n) AllF.nil)) (fun _ _ _ => rfl) (fun R k y K => F11_5_eq n R (fun (x : SSh.den G F11_5s) => F11_5_it n (fun u0 u1 u2 u3 u4 => K (.exit 6) (SSh.enc G F11_5x0 ((u0, (u1, ((), (u2, ((), ()))))), (u3, (u4, ()))))) k x.1.1 x.1.2.1 x.1.2.2.2.1 x.2.1 x.2.2.1) y K) n
noncomputable def F11_6x0 : SSh := ⟨144, [(4, (.own 0))], [(.arr 6 true)]⟩
noncomputable def F11_6s : SSh := ⟨144, [(0, (.old 3)), (3, (.int .i64)), (4, (.own 0)), (5, (.int .i64))], [(.arr 6 true)]⟩
noncomputable def F11_6_step {R : Type} (n : Nat) (k0 : List (List Itm) → Option R) (rec : List Itm → Int → Int → List (List Itm) → Option R) (x1115 : List Itm) (x1116 : Int) (x1117 : Int) (x1118 : List (List Itm)) : Option R :=
  (bif (decide (x1117 < ((x1115.length) : Int))) then
  (F11_2 n x1115 x1116 x1117 (IntKind.wrap .i64 (x1117 + (1 : Int))) x1118 (fun z1177 z1178 z1179 z1180 z1181 =>
  (bif (decide ((0 : Int) ≤ z1179)) then
  (bif (decide (z1179 ≤ z1180)) then
  (bif (decide (z1180 ≤ ((z1177.length) : Int))) then
  (andThen (F29 n ((z1177.take (z1180.toNat)).drop (z1179.toNat))) fun r1183 =>
  (F11_3 n z1177 z1178 z1180 z1181 r1183.2.1 (fun z1195 z1196 z1197 z1198 z1199 =>
  (F11_5 n z1195 z1196 z1197 z1198 z1199 (fun z1238 z1239 z1240 z1241 z1242 =>
  let v1243 := (z1242 :: [])
  (bif (decide (((z1241.length) + (v1243.length)) ≤ (68719476736 : Nat))) then
  (rec z1238 z1239 z1240 (z1241 ++ v1243))
  else none))))))
  else none)
  else none)
  else none)))
  else (k0 x1118))
noncomputable def F11_6_it {R : Type} (n : Nat) (k0 : List (List Itm) → Option R) : Nat → List Itm → Int → Int → List (List Itm) → Option R
  | 0, _, _, _, _ => none
  | k + 1, x1115, x1116, x1117, x1118 => F11_6_step n k0 (F11_6_it n k0 k) x1115 x1116 x1117 x1118
noncomputable def F11_6 {R : Type} (n : Nat) (x1115 : List Itm) (x1116 : Int) (x1117 : Int) (x1118 : List (List Itm)) (k0 : List (List Itm) → Option R) : Option R := F11_6_it n k0 n x1115 x1116 x1117 x1118
noncomputable def F11_6z (n : Nat) : Sm G := inZ G 0 ⟨[0, 3, 4, 5], [(4, (.own 6))]⟩ F11_6s fun R x K => F11_6_it n (fun u0 => K (.exit 0) (SSh.enc G F11_6x0 (((), ()), (u0, ())))) n x.1.1 x.1.2.1 x.1.2.2.2.1 x.2.1
theorem F11_6_eq (n : Nat) (R : Type) (rec : SSh.den G F11_6s → Option R) (x : SSh.den G F11_6s) (K : AE → St G → Option R) :
  F11_6_step n (fun u0 => K (.exit 0) (SSh.enc G F11_6x0 (((), ()), (u0, ())))) (fun x1115 x1116 x1117 x1118 => rec ((x1115, (x1116, ((), (x1117, ())))), (x1118, ()))) x.1.1 x.1.2.1 x.1.2.2.2.1 x.2.1 = exec prog G (ro G (tabOf (E17 n)) (frOf [F11_0z n, F11_1z n, F11_2z n, F11_3z n, F11_4z n, F11_5z n]) R) 0 (codeAt F11c [1, 1, 1, 1, 0, 1, 0, 0]) (.nd .no (.nd (.nd .no (.nd (.use 2) (.nd .no (.nd (.use 3) (.nd (.nd (.use 5) .no) .no))))) .no)) (SSh.enc G F11_6s x) (kLoop G (ro G (tabOf (E17 n)) (frOf [F11_0z n, F11_1z n, F11_2z n, F11_3z n, F11_4z n, F11_5z n]) R) 0 ⟨[0, 3, 4, 5], [(4, (.own 6))]⟩ F11_6s ⟨⟨[4], []⟩, ⟨[2], []⟩, [(0, ⟨[4], []⟩)]⟩ rec K) := by kernel_rfl
theorem F11_6_ok (n : Nat) : FragOK prog G 0 (codeAt F11c [1, 1, 1, 1, 0, 1, 0]) (F11_6z n) :=
  frag_loop (Z := fun R k (x : SSh.den G F11_6s) K => F11_6_it n (fun u0 => K (.exit 0) (SSh.enc G F11_6x0 (((), ()), (u0, ())))) k x.1.1 x.1.2.1 x.1.2.2.2.1 x.2.1) laws fnok (E17_ok n).tab (AllF.of (l := [(2, codeAt F11c [1, 1, 1, 1, 0, 1, 0, 0, 1, 0, 1, 0]), (3, codeAt F11c [1, 1, 1, 1, 0, 1, 0, 0, 1, 0, 1, 1, 1, 0]), (5, codeAt F11c [1, 1, 1, 1, 0, 1, 0, 0, 1, 0, 1, 1, 1, 1, 0, 0])]) (by kernel_rfl) (AllF.cons (F11_2_ok n) (AllF.cons (F11_3_ok n) (AllF.cons (F11_5_ok n) AllF.nil)))) (fun _ _ _ => rfl) (fun R k y K => F11_6_eq n R (fun (x : SSh.den G F11_6s) => F11_6_it n (fun u0 => K (.exit 0) (SSh.enc G F11_6x0 (((), ()), (u0, ())))) k x.1.1 x.1.2.1 x.1.2.2.2.1 x.2.1) y K) n
noncomputable def F11 (n : Nat) (a1110 : List Itm) : Option (Unit × (List (List Itm) × Unit)) :=
  (bif (decide (((a1110.length) : Int) > (60 : Int))) then
  some ((), ([], ()))
  else (andThen (F28 n ((a1110.length) : Int)) fun r1114 =>
  (F11_6 n a1110 r1114.1 (0 : Int) [] (fun z1245 =>
  some ((), (z1245, ()))))))
noncomputable def F11e (n : Nat) : Ent G := ⟨11, (.cons (.old 3) .nil), [], (.own 0), [(.arr 6 true)], fun x y => F11 n x.1⟩
theorem F11_eq (n : Nat) (x : ShL.den G (.cons (.old 3) .nil)) (y : denO G []) : (F11e n).F x y = runFn prog G (ro G (tabOf (E17 n)) (frOf [F11_0z n, F11_1z n, F11_2z n, F11_3z n, F11_4z n, F11_5z n, F11_6z n]) _) Go.Proofs.Try.f11 (.nd .no (.nd .no (.nd .no (.nd .no (.nd (.nd .no (.nd (.use 6) .no)) .no))))) [(0, (.own 6))] (ShL.enc G (.cons (.old 3) .nil) x) (encO G [] y) (decR (.own 0) [(.arr 6 true)]) := by kernel_rfl
theorem F11_ok (n : Nat) : EntOK prog G (F11e n) :=
  ent_ok (fr := frOf [F11_0z n, F11_1z n, F11_2z n, F11_3z n, F11_4z n, F11_5z n, F11_6z n]) (ann := (.nd .no (.nd .no (.nd .no (.nd .no (.nd (.nd .no (.nd (.use 6) .no)) .no)))))) (frm := [(0, (.own 6))]) laws fnok (E17_ok n).tab (e := F11e n) (fn := Go.Proofs.Try.f11) (by kernel_rfl) (AllF.ofB (cd := F11c) (l := [(6, codeAt F11c [1, 1, 1, 1, 0, 1, 0])]) (by kernel_rfl) (by kernel_rfl) (AllF.cons (F11_6_ok n) AllF.nil)) (F11_eq n)
noncomputable def E18 (n : Nat) : List (Ent G) := F11e n :: E17 n
theorem E18_ok (n : Nat) : AllE prog G (E18 n) := AllE.cons (F11_ok n) (E17_ok n)
-- 38 loop.example/slowworm/impl.MergePlan$1
noncomputable def F38c : Code := bodyOf Go.Proofs.Try.f38
noncomputable def F38 (n : Nat) (a1324 : Int) (a1325 : List (List Int)) (a1326 : List Int) : Option (Unit × ((Unit × Unit) × ((Unit × Unit) × (Unit × (Unit × (List (List Int) × (List Int × Unit))))))) :=
  (bif (decide ((0 : Int) ≤ a1324)) then
  (bif (decide (a1324 < ((a1326.length) : Int))) then
  let v1329 := (IntKind.wrap .i64 (a1324 + (1 : Int)))
  (bif (decide ((0 : Int) ≤ v1329)) then
  (bif (decide (v1329 < ((a1326.length) : Int))) then
  let v1333 := ((a1324 :: ((a1326.getD (a1324.toNat) (0 : Int)) :: ((a1326.getD (v1329.toNat) (0 : Int)) :: []))) :: [])
  (bif (decide (((a1325.length) + (v1333.length)) ≤ (68719476736 : Nat))) then
  (bif (decide ((0 : Int) ≤ a1324)) then
  (bif (decide (a1324 < ((a1326.length) : Int))) then
  let v1337 := (IntKind.wrap .i64 (a1324 + (1 : Int)))
  (bif (decide ((0 : Int) ≤ v1337)) then
  (bif (decide (v1337 < ((a1326.length) : Int))) then
  (bif (decide ((0 : Int) ≤ a1324)) then
  (bif (decide (a1324 < ((a1326.length) : Int))) then
  (andThen (L39 (IntKind.wrap .i64 (a1324 + (1 : Int))) (IntKind.wrap .i64 (a1324 + (2 : Int))) (a1326.set (a1324.toNat) (IntKind.wrap .i64 ((a1326.getD (a1324.toNat) (0 : Int)) + (a1326.getD (v1337.toNat) (0 : Int)))))) fun r1345 =>
  some ((), (((), ()), (((), ()), ((), ((), ((a1325 ++ v1333), (r1345.2.2.1, ()))))))))
  else none)
  else none)
  else none)
  else none)
  else none)
  else none)
  else none)
  else none)
  else none)
  else none)
  else none)
noncomputable def F38e (n : Nat) : Ent G := ⟨38, (.cons (.int .i64) (.cons (.ptr 0 0) (.cons (.ptr 1 0) .nil))), [(.box 39 (.cons (.own 2) .nil)), (.box 38 (.cons (.own 3) .nil)), (.arr 5 true), (.arr 0 true)], (.tup .nil), [(.box 39 (.cons (.own 4) .nil)), (.box 38 (.cons (.own 5) .nil)), .dead, .dead, (.arr 5 true), (.arr 0 true)], fun x y => F38 n x.1 y.2.2.1 y.2.2.2.1⟩
theorem F38_eq (n : Nat) (x : ShL.den G (.cons (.int .i64) (.cons (.ptr 0 0) (.cons (.ptr 1 0) .nil)))) (y : denO G [(.box 39 (.cons (.own 2) .nil)), (.box 38 (.cons (.own 3) .nil)), (.arr 5 true), (.arr 0 true)]) : (F38e n).F x y = runFn prog G (ro G (tabOf (E18 n)) (frOf []) _) Go.Proofs.Try.f38 .no [] (ShL.enc G (.cons (.int .i64) (.cons (.ptr 0 0) (.cons (.ptr 1 0) .nil))) x) (encO G [(.box 39 (.cons (.own 2) .nil)), (.box 38 (.cons (.own 3) .nil)), (.arr 5 true), (.arr 0 true)] y) (decR (.tup .nil) [(.box 39 (.cons (.own 4) .nil)), (.box 38 (.cons (.own 5) .nil)), .dead, .dead, (.arr 5 true), (.arr 0 true)]) := by kernel_rfl
theorem F38_ok (n : Nat) : EntOK prog G (F38e n) :=
  ent_ok (fr := frOf []) (ann := .no) (frm := []) laws fnok (E18_ok n).tab (e := F38e n) (fn := Go.Proofs.Try.f38) (by kernel_rfl) (AllF.ofB (cd := F38c) (l := []) (by kernel_rfl) (by kernel_rfl) AllF.nil) (F38_eq n)
noncomputable def E19 (n : Nat) : List (Ent G) := F38e n :: E18 n
theorem E19_ok (n : Nat) : AllE prog G (E19 n) := AllE.cons (F38_ok n) (E18_ok n)
-- 20 loop.example/slowworm/impl.MergePlan
noncomputable def F20c : Code := bodyOf Go.Proofs.Try.f20
noncomputable def F20_0x0 : SSh := ⟨135, [(2, .nil0)], []⟩
noncomputable def F20_0x1 : SSh := ⟨135, [(0, (.imm 0))], []⟩
noncomputable def F20_0s : SSh := ⟨135, [(0, (.imm 0)), (16, (.imm 0)), (17, (.int .i64)), (18, (.int .i64))], []⟩
noncomputable def F20_0_step {R : Type} (n : Nat) (k0 : Option R) (k1 : List Int → Option R) (rec : List Int → List Int → Int → Int → Option R) (x1436 : List Int) (x1437 : List Int) (x1438 : Int) (x1439 : Int) : Option R :=
  (bif (decide (x1439 < x1438)) then
  (bif (decide ((0 : Int) ≤ x1439)) then
  (bif (decide (x1439 < ((x1437.length) : Int))) then
  (andThen (F37 n (x1437.getD (x1439.toNat) (0 : Int)) (1 : Int) (1000000 : Int)) fun r1443 =>
  (bif (!r1443.1) then
  k0
  else (rec x1436 x1437 x1438 (IntKind.wrap .i64 (x1439 + (1 : Int))))))
  else none)
  else none)
  else (k1 x1436))
noncomputable def F20_0_it {R : Type} (n : Nat) (k0 : Option R) (k1 : List Int → Option R) : Nat → List Int → List Int → Int → Int → Option R
  | 0, _, _, _, _ => none
  | k + 1, x1436, x1437, x1438, x1439 => F20_0_step n k0 k1 (F20_0_it n k0 k1 k) x1436 x1437 x1438 x1439
noncomputable def F20_0 {R : Type} (n : Nat) (x1436 : List Int) (x1437 : List Int) (x1438 : Int) (x1439 : Int) (k0 : Option R) (k1 : List Int → Option R) : Option R := F20_0_it n k0 k1 n x1436 x1437 x1438 x1439
noncomputable def F20_0z (n : Nat) : Sm G := inZ G 0 ⟨[0, 16, 17, 18], []⟩ F20_0s fun R x K => F20_0_it n (K .ret (SSh.enc G F20_0x0 (((), ()), ()))) (fun u0 => K (.exit 0) (SSh.enc G F20_0x1 ((u0, ()), ()))) n x.1.1 x.1.2.1 x.1.2.2.1 x.1.2.2.2.1
theorem F20_0_eq (n : Nat) (R : Type) (rec : SSh.den G F20_0s → Option R) (x : SSh.den G F20_0s) (K : AE → St G → Option R) :
  F20_0_step n (K .ret (SSh.enc G F20_0x0 (((), ()), ()))) (fun u0 => K (.exit 0) (SSh.enc G F20_0x1 ((u0, ()), ()))) (fun x1436 x1437 x1438 x1439 => rec ((x1436, (x1437, (x1438, (x1439, ())))), ())) x.1.1 x.1.2.1 x.1.2.2.1 x.1.2.2.2.1 = exec prog G (ro G (tabOf (E19 n)) (frOf []) R) 0 (codeAt F20c [1, 1, 0, 1, 0, 0]) .no (SSh.enc G F20_0s x) (kLoop G (ro G (tabOf (E19 n)) (frOf []) R) 0 ⟨[0, 16, 17, 18], []⟩ F20_0s ⟨⟨[0], []⟩, ⟨[2], []⟩, [(0, ⟨[0], []⟩)]⟩ rec K) := by kernel_rfl
theorem F20_0_ok (n : Nat) : FragOK prog G 0 (codeAt F20c [1, 1, 0, 1, 0]) (F20_0z n) :=
  frag_loop (Z := fun R k (x : SSh.den G F20_0s) K => F20_0_it n (K .ret (SSh.enc G F20_0x0 (((), ()), ()))) (fun u0 => K (.exit 0) (SSh.enc G F20_0x1 ((u0, ()), ()))) k x.1.1 x.1.2.1 x.1.2.2.1 x.1.2.2.2.1) laws fnok (E19_ok n).tab (AllF.of (l := []) (by kernel_rfl) AllF.nil) (fun _ _ _ => rfl) (fun R k y K => F20_0_eq n R (fun (x : SSh.den G F20_0s) => F20_0_it n (K .ret (SSh.enc G F20_0x0 (((), ()), ()))) (fun u0 => K (.exit 0) (SSh.enc G F20_0x1 ((u0, ()), ()))) k x.1.1 x.1.2.1 x.1.2.2.1 x.1.2.2.2.1) y K) n
noncomputable def F20_1x0 : SSh := ⟨135, [(0, (.imm 0)), (5, (.ptr 0 0)), (6, (.ptr 1 0)), (7, (.clo 38 (.cons (.ptr 0 0) (.cons (.ptr 1 0) .nil)))), (8, (.int .i64))], [(.box 39 (.cons (.own 2) .nil)), (.box 38 (.cons (.own 3) .nil)), (.arr 5 true), (.arr 0 true)]⟩
noncomputable def F20_1s : SSh := ⟨135, [(0, (.imm 0)), (5, (.ptr 0 0)), (6, (.ptr 1 0)), (7, (.clo 38 (.cons (.ptr 0 0) (.cons (.ptr 1 0) .nil)))), (8, (.int .i64)), (9, (.int .i64)), (10, (.int .i64)), (12, .bool)], [(.box 39 (.cons (.own 2) .nil)), (.box 38 (.cons (.own 3) .nil)), (.arr 5 true), (.arr 0 true)]⟩
noncomputable def F20_1 {R : Type} (n : Nat) (x1470 : List Int) (x1471 : Int) (x1472 : Int) (x1473 : Int) (x1474 : Bool) (x1475 : List (List Int)) (x1476 : List Int) (k0 : List Int → Int → List (List Int) → List Int → Option R) : Option R :=
  (bif x1474 then
  let v1477 := (IntKind.wrap .i64 (x1472 - (2 : Int)))
  (bif (decide ((0 : Int) ≤ v1477)) then
  (bif (decide (v1477 < ((x1476.length) : Int))) then
  (bif (decide ((x1476.getD (v1477.toNat) (0 : Int)) < x1473)) then
  (andThen (F38 n (IntKind.wrap .i64 (x1472 - (2 : Int))) x1475 x1476) fun r1482 =>
  (k0 x1470 x1471 r1482.2.2.2.2.2.1 r1482.2.2.2.2.2.2.1))
  else (andThen (F38 n (IntKind.wrap .i64 (x1472 - (1 : Int))) x1475 x1476) fun r1484 =>
  (k0 x1470 x1471 r1484.2.2.2.2.2.1 r1484.2.2.2.2.2.2.1)))
  else none)
  else none)
  else (andThen (F38 n (IntKind.wrap .i64 (x1472 - (1 : Int))) x1475 x1476) fun r1486 =>
  (k0 x1470 x1471 r1486.2.2.2.2.2.1 r1486.2.2.2.2.2.2.1)))
noncomputable def F20_1z (n : Nat) : Sm G := inZ G 0 ⟨[0, 5, 6, 7, 8, 9, 10, 12], []⟩ F20_1s fun R x K => F20_1 n x.1.1 x.1.2.2.2.2.1 x.1.2.2.2.2.2.1 x.1.2.2.2.2.2.2.1 x.1.2.2.2.2.2.2.2.1 x.2.2.2.1 x.2.2.2.2.1 (fun u0 u1 u2 u3 => K .normal (SSh.enc G F20_1x0 ((u0, ((), ((), (((), ((), ())), (u1, ()))))), (((), ()), (((), ()), (u2, (u3, ())))))))
theorem F20_1_eq (n : Nat) (R : Type) (x : SSh.den G F20_1s) (K : AE → St G → Option R) :
  F20_1 n x.1.1 x.1.2.2.2.2.1 x.1.2.2.2.2.2.1 x.1.2.2.2.2.2.2.1 x.1.2.2.2.2.2.2.2.1 x.2.2.2.1 x.2.2.2.2.1 (fun u0 u1 u2 u3 => K .normal (SSh.enc G F20_1x0 ((u0, ((), ((), (((), ((), ())), (u1, ()))))), (((), ()), (((), ()), (u2, (u3, ()))))))) = exec prog G (ro G (tabOf (E19 n)) (frOf [F20_0z n]) R) 0 (codeAt F20c [1, 1, 1, 1, 1, 1, 1, 0, 0, 0, 1, 0, 1, 0, 1, 1, 1, 0, 0]) .no (SSh.enc G F20_1s x) (kNrm G (ro G (tabOf (E19 n)) (frOf [F20_0z n]) R) 0 ⟨⟨[0, 5, 6, 7, 8], []⟩, ⟨[2], []⟩, [(3, ⟨[0, 5, 6, 7, 8], []⟩), (2, ⟨[2], []⟩)]⟩ K) := by kernel_rfl
theorem F20_1_ok (n : Nat) : FragOK prog G 0 (codeAt F20c [1, 1, 1, 1, 1, 1, 1, 0, 0, 0, 1, 0, 1, 0, 1, 1, 1, 0, 0]) (F20_1z n) :=
  frag_plain laws fnok (E19_ok n).tab (AllF.of (l := []) (by kernel_rfl) AllF.nil) (F20_1_eq n)
noncomputable def F20_2x0 : SSh := ⟨135, [(0, (.imm 0)), (5, (.ptr 0 0)), (6, (.ptr 1 0)), (7, (.clo 38 (.cons (.ptr 0 0) (.cons (.ptr 1 0) .nil)))), (8, (.int .i64))], [(.box 39 (.cons (.own 2) .nil)), (.box 38 (.cons (.own 3) .nil)), (.arr 5 true), (.arr 0 true)]⟩
noncomputable def F20_2x1 : SSh := ⟨135, [(0, (.imm 0)), (5, (.ptr 0 0)), (6, (.ptr 1 0)), (7, (.clo 38 (.cons (.ptr 0 0) (.cons (.ptr 1 0) .nil)))), (8, (.int .i64)), (9, (.int .i64))], [(.box 39 (.cons (.own 2) .nil)), (.box 38 (.cons (.own 3) .nil)), (.arr 5 true), (.arr 0 true)]⟩
noncomputable def F20_2s : SSh := ⟨135, [(0, (.imm 0)), (5, (.ptr 0 0)), (6, (.ptr 1 0)), (7, (.clo 38 (.cons (.ptr 0 0) (.cons (.ptr 1 0) .nil)))), (8, (.int .i64)), (9, (.int .i64))], [(.box 39 (.cons (.own 2) .nil)), (.box 38 (.cons (.own 3) .nil)), (.arr 5 true), (.arr 0 true)]⟩
noncomputable def F20_2 {R : Type} (n : Nat) (x1453 : List Int) (x1454 : Int) (x1455 : Int) (x1456 : List (List Int)) (x1457 : List Int) (k0 : List Int → Int → List (List Int) → List Int → Option R) (k1 : List Int → Int → Int → List (List Int) → List Int → Option R) : Option R :=
  (bif (decide (x1455 ≥ (1 : Int))) then
  (bif (decide ((0 : Int) ≤ x1455)) then
  (bif (decide (x1455 < ((x1457.length) : Int))) then
  let v1460 := (x1457.getD (x1455.toNat) (0 : Int))
  let v1461 := (IntKind.wrap .i64 (x1455 - (1 : Int)))
  (bif (decide ((0 : Int) ≤ v1461)) then
  (bif (decide (v1461 < ((x1457.length) : Int))) then
  let v1463 := (x1457.getD (v1461.toNat) (0 : Int))
  (bif (decide (x1455 ≥ (2 : Int))) then
  let v1465 := (IntKind.wrap .i64 (x1455 - (2 : Int)))
  (bif (decide ((0 : Int) ≤ v1465)) then
  (bif (decide (v1465 < ((x1457.length) : Int))) then
  (bif (decide ((x1457.getD (v1465.toNat) (0 : Int)) ≤ (IntKind.wrap .i64 (v1463 + v1460)))) then
  (F20_1 n x1453 x1454 x1455 v1460 true x1456 x1457 (fun z1487 z1488 z1489 z1490 =>
  (k0 z1487 z1488 z1489 z1490)))
  else (bif (decide (x1455 ≥ (3 : Int))) then
  let v1492 := (IntKind.wrap .i64 (x1455 - (3 : Int)))
  (bif (decide ((0 : Int) ≤ v1492)) then
  (bif (decide (v1492 < ((x1457.length) : Int))) then
  let v1495 := (IntKind.wrap .i64 (x1455 - (2 : Int)))
  (bif (decide ((0 : Int) ≤ v1495)) then
  (bif (decide (v1495 < ((x1457.length) : Int))) then
  let v1499 := (decide ((x1457.getD (v1492.toNat) (0 : Int)) ≤ (IntKind.wrap .i64 ((x1457.getD (v1495.toNat) (0 : Int)) + v1463))))
  (bif v1499 then
  (F20_1 n x1453 x1454 x1455 v1460 v1499 x1456 x1457 (fun z1500 z1501 z1502 z1503 =>
  (k0 z1500 z1501 z1502 z1503)))
  else (bif (decide (v1463 ≤ v1460)) then
  (F20_1 n x1453 x1454 x1455 v1460 v1499 x1456 x1457 (fun z1505 z1506 z1507 z1508 =>
  (k0 z1505 z1506 z1507 z1508)))
  else (k1 x1453 x1454 x1455 x1456 x1457)))
  else none)
  else none)
  else none)
  else none)
  else (bif (decide (v1463 ≤ v1460)) then
  (F20_1 n x1453 x1454 x1455 v1460 false x1456 x1457 (fun z1510 z1511 z1512 z1513 =>
  (k0 z1510 z1511 z1512 z1513)))
  else (k1 x1453 x1454 x1455 x1456 x1457))))
  else none)
  else none)
  else (bif (decide (x1455 ≥ (3 : Int))) then
  let v1515 := (IntKind.wrap .i64 (x1455 - (3 : Int)))
  (bif (decide ((0 : Int) ≤ v1515)) then
  (bif (decide (v1515 < ((x1457.length) : Int))) then
  let v1518 := (IntKind.wrap .i64 (x1455 - (2 : Int)))
  (bif (decide ((0 : Int) ≤ v1518)) then
  (bif (decide (v1518 < ((x1457.length) : Int))) then
  let v1522 := (decide ((x1457.getD (v1515.toNat) (0 : Int)) ≤ (IntKind.wrap .i64 ((x1457.getD (v1518.toNat) (0 : Int)) + v1463))))
  (bif v1522 then
  (F20_1 n x1453 x1454 x1455 v1460 v1522 x1456 x1457 (fun z1523 z1524 z1525 z1526 =>
  (k0 z1523 z1524 z1525 z1526)))
  else (bif (decide (v1463 ≤ v1460)) then
  (F20_1 n x1453 x1454 x1455 v1460 v1522 x1456 x1457 (fun z1528 z1529 z1530 z1531 =>
  (k0 z1528 z1529 z1530 z1531)))
  else (k1 x1453 x1454 x1455 x1456 x1457)))
  else none)
  else none)
  else none)
  else none)
  else (bif (decide (v1463 ≤ v1460)) then
  (F20_1 n x1453 x1454 x1455 v1460 false x1456 x1457 (fun z1533 z1534 z1535 z1536 =>
  (k0 z1533 z1534 z1535 z1536)))
  else (k1 x1453 x1454 x1455 x1456 x1457))))
  else none)
  else none)
  else none)
  else none)
  else (k1 x1453 x1454 x1455 x1456 x1457))
noncomputable def F20_2z (n : Nat) : Sm G := inZ G 0 ⟨[0, 5, 6, 7, 8, 9], []⟩ F20_2s fun R x K => F20_2 n x.1.1 x.1.2.2.2.2.1 x.1.2.2.2.2.2.1 x.2.2.2.1 x.2.2.2.2.1 (fun u0 u1 u2 u3 => K (.exit 3) (SSh.enc G F20_2x0 ((u0, ((), ((), (((), ((), ())), (u1, ()))))), (((), ()), (((), ()), (u2, (u3, ()))))))) (fun u0 u1 u2 u3 u4 => K .normal (SSh.enc G F20_2x1 ((u0, ((), ((), (((), ((), ())), (u1, (u2, ())))))), (((), ()), (((), ()), (u3, (u4, ())))))))
theorem F20_2_eq (n : Nat) (R : Type) (x : SSh.den G F20_2s) (K : AE → St G → Option R) :
  F20_2 n x.1.1 x.1.2.2.2.2.1 x.1.2.2.2.2.2.1 x.2.2.2.1 x.2.2.2.2.1 (fun u0 u1 u2 u3 => K (.exit 3) (SSh.enc G F20_2x0 ((u0, ((), ((), (((), ((), ())), (u1, ()))))), (((), ()), (((), ()), (u2, (u3, ()))))))) (fun u0 u1 u2 u3 u4 => K .normal (SSh.enc G F20_2x1 ((u0, ((), ((), (((), ((), ())), (u1, (u2, ())))))), (((), ()), (((), ()), (u3, (u4, ()))))))) = exec prog G (ro G (tabOf (E19 n)) (frOf [F20_0z n, F20_1z n]) R) 0 (codeAt F20c [1, 1, 1, 1, 1, 1, 1, 0, 0, 0, 1, 0]) (.nd .no (.nd (.nd .no (.nd .no (.nd .no (.nd (.nd (.use 1) .no) .no)))) .no)) (SSh.enc G F20_2s x) (kNrm G (ro G (tabOf (E19 n)) (frOf [F20_0z n, F20_1z n]) R) 0 ⟨⟨[0, 5, 6, 7, 8, 9], []⟩, ⟨[2], []⟩, [(3, ⟨[0, 5, 6, 7, 8], []⟩), (2, ⟨[2], []⟩)]⟩ K) := by kernel_rfl
theorem F20_2_ok (n : Nat) : FragOK prog G 0 (codeAt F20c [1, 1, 1, 1, 1, 1, 1, 0, 0, 0, 1, 0]) (F20_2z n) :=
  frag_plain laws fnok (E19_ok n).tab (AllF.of (l := [(1, codeAt F20c [1, 1, 1, 1, 1, 1, 1, 0, 0, 0, 1, 0, 1, 0, 1, 1, 1, 0, 0])]) (by kernel_rfl) (AllF.cons (F20_1_ok n) AllF.nil)) (F20_2_eq n)
noncomputable def F20_3x0 : SSh := ⟨135, [(2, (.own 0))], [(.arr 5 true)]⟩
noncomputable def F20_3s : SSh := ⟨135, [(0, (.imm 0)), (5, (.ptr 0 0)), (6, (.ptr 1 0)), (7, (.clo 38 (.cons (.ptr 0 0) (.cons (.ptr 1 0) .nil)))), (8, (.int .i64))], [(.box 39 (.cons (.own 2) .nil)), (.box 38 (.cons (.own 3) .nil)), (.arr 5 true), (.arr 0 true)]⟩
noncomputable def F20_3_step {R : Type} (n : Nat) (k0 : List (List Int) → Option R) (rec : List Int → Int → List (List Int) → List Int → Option R) (x1447 : List Int) (x1448 : Int) (x1449 : List (List Int)) (x1450 : List Int) : Option R :=
  (F20_2 n x1447 x1448 (IntKind.wrap .i64 (((x1450.length) : Int) - (1 : Int))) x1449 x1450 (fun z1537 z1538 z1539 z1540 =>
  (rec z1537 z1538 z1539 z1540)) (fun z1541 z1542 z1543 z1544 z1545 =>
  (bif (decide (z1542 < ((z1541.length) : Int))) then
  (bif (decide ((0 : Int) ≤ z1542)) then
  (bif (decide (z1542 < ((z1541.length) : Int))) then
  let v1550 := ((z1541.getD (z1542.toNat) (0 : Int)) :: [])
  (bif (decide (((z1545.length) + (v1550.length)) ≤ (68719476736 : Nat))) then
  (rec z1541 (IntKind.wrap .i64 (z1542 + (1 : Int))) z1544 (z1545 ++ v1550))
  else none)
  else none)
  else none)
  else (bif (decide (z1543 < (1 : Int))) then
  (k0 z1544)
  else (bif (decide (z1543 ≥ (2 : Int))) then
  let v1555 := (IntKind.wrap .i64 (z1543 - (2 : Int)))
  (bif (decide ((0 : Int) ≤ v1555)) then
  (bif (decide (v1555 < ((z1545.length) : Int))) then
  (bif (decide ((0 : Int) ≤ z1543)) then
  (bif (decide (z1543 < ((z1545.length) : Int))) then
  (bif (decide ((z1545.getD (v1555.toNat) (0 : Int)) < (z1545.getD (z1543.toNat) (0 : Int)))) then
  (andThen (F38 n (IntKind.wrap .i64 (z1543 - (2 : Int))) z1544 z1545) fun r1562 =>
  (rec z1541 z1542 r1562.2.2.2.2.2.1 r1562.2.2.2.2.2.2.1))
  else (andThen (F38 n (IntKind.wrap .i64 (z1543 - (1 : Int))) z1544 z1545) fun r1564 =>
  (rec z1541 z1542 r1564.2.2.2.2.2.1 r1564.2.2.2.2.2.2.1)))
  else none)
  else none)
  else none)
  else none)
  else (andThen (F38 n (IntKind.wrap .i64 (z1543 - (1 : Int))) z1544 z1545) fun r1566 =>
  (rec z1541 z1542 r1566.2.2.2.2.2.1 r1566.2.2.2.2.2.2.1)))))))
noncomputable def F20_3_it {R : Type} (n : Nat) (k0 : List (List Int) → Option R) : Nat → List Int → Int → List (List Int) → List Int → Option R
  | 0, _, _, _, _ => none
  | k + 1, x1447, x1448, x1449, x1450 => F20_3_step n k0 (F20_3_it n k0 k) x1447 x1448 x1449 x1450
noncomputable def F20_3 {R : Type} (n : Nat) (x1447 : List Int) (x1448 : Int) (x1449 : List (List Int)) (x1450 : List Int) (k0 : List (List Int) → Option R) : Option R := F20_3_it n k0 n x1447 x1448 x1449 x1450
noncomputable def F20_3z (n : Nat) : Sm G := inZ G 0 ⟨[0, 5, 6, 7, 8], []⟩ F20_3s fun R x K => F20_3_it n (fun u0 => K .ret (SSh.enc G F20_3x0 (((), ()), (u0, ())))) n x.1.1 x.1.2.2.2.2.1 x.2.2.2.1 x.2.2.2.2.1
theorem F20_3_eq (n : Nat) (R : Type) (rec : SSh.den G F20_3s → Option R) (x : SSh.den G F20_3s) (K : AE → St G → Option R) :
  F20_3_step n (fun u0 => K .ret (SSh.enc G F20_3x0 (((), ()), (u0, ())))) (fun x1447 x1448 x1449 x1450 => rec ((x1447, ((), ((), (((), ((), ())), (x1448, ()))))), (((), ()), (((), ()), (x1449, (x1450, ())))))) x.1.1 x.1.2.2.2.2.1 x.2.2.2.1 x.2.2.2.2.1 = exec prog G (ro G (tabOf (E19 n)) (frOf [F20_0z n, F20_1z n, F20_2z n]) R) 0 (codeAt F20c [1, 1, 1, 1, 1, 1, 1, 0, 0]) (.nd (.nd .no (.nd (.use 2) .no)) .no) (SSh.enc G F20_3s x) (kLoop G (ro G (tabOf (E19 n)) (frOf [F20_0z n, F20_1z n, F20_2z n]) R) 0 ⟨[0, 5, 6, 7, 8], []⟩ F20_3s ⟨⟨[2], []⟩, ⟨[2], []⟩, [(2, ⟨[2], []⟩)]⟩ rec K) := by kernel_rfl
theorem F20_3_ok (n : Nat) : FragOK prog G 0 (codeAt F20c [1, 1, 1, 1, 1, 1, 1, 0]) (F20_3z n) :=
  frag_loop (Z := fun R k (x : SSh.den G F20_3s) K => F20_3_it n (fun u0 => K .ret (SSh.enc G F20_3x0 (((), ()), (u0, ())))) k x.1.1 x.1.2.2.2.2.1 x.2.2.2.1 x.2.2.2.2.1) laws fnok (E19_ok n).tab (AllF.of (l := [(2, codeAt F20c [1, 1, 1, 1, 1, 1, 1, 0, 0, 0, 1, 0])]) (by kernel_rfl) (AllF.cons (F20_2_ok n) AllF.nil)) (fun _ _ _ => rfl) (fun R k y K => F20_3_eq n R (fun (x : SSh.den G F20_3s) => F20_3_it n (fun u0 => K .ret (SSh.enc G F20_3x0 (((), ()), (u0, ())))) k x.1.1 x.1.2.2.2.2.1 x.2.2.2.1 x.2.2.2.2.1) y K) n
noncomputable def F20 (n : Nat) (a1432 : List Int) : Option (List (List Int) × Unit) :=
  (bif (decide (((a1432.length) : Int) > (60 : Int))) then
  some ([], ())
  else (F20_0 n a1432 a1432 ((a1432.length) : Int) (0 : Int) (
  some ([], ())) (fun z1446 =>
  (F20_3 n z1446 (0 : Int) [] [] (fun z1567 =>
  some (z1567, ()))))))
noncomputable def F20e (n : Nat) : Ent G := ⟨20, (.cons (.imm 0) .nil), [], (.imm 5), [], fun x y => F20 n x.1⟩
theorem F20_eq (n : Nat) (x : ShL.den G (.cons (.imm 0) .nil)) (y : denO G []) : (F20e n).F x y = runFn prog G (ro G (tabOf (E19 n)) (frOf [F20_0z n, F20_1z n, F20_2z n, F20_3z n]) _) Go.Proofs.Try.f20 (.nd .no (.nd .no (.nd (.nd .no (.nd (.use 0) .no)) (.nd .no (.nd .no (.nd .no (.nd .no (.nd (.use 3) .no)))))))) [(0, .fz)] (ShL.enc G (.cons (.imm 0) .nil) x) (encO G [] y) (decR (.imm 5) []) := by kernel_rfl
theorem F20_ok (n : Nat) : EntOK prog G (F20e n) :=
  ent_ok (fr := frOf [F20_0z n, F20_1z n, F20_2z n, F20_3z n]) (ann := (.nd .no (.nd .no (.nd (.nd .no (.nd (.use 0) .no)) (.nd .no (.nd .no (.nd .no (.nd .no (.nd (.use 3) .no))))))))) (frm := [(0, .fz)]) laws fnok (E19_ok n).tab (e := F20e n) (fn := Go.Proofs.Try.f20) (by kernel_rfl) (AllF.ofB (cd := F20c) (l := [(0, codeAt F20c [1, 1, 0, 1, 0]), (3, codeAt F20c [1, 1, 1, 1, 1, 1, 1, 0])]) (by kernel_rfl) (by kernel_rfl) (AllF.cons (F20_0_ok n) (AllF.cons (F20_3_ok n) AllF.nil))) (F20_eq n)
noncomputable def E20 (n : Nat) : List (Ent G) := F20e n :: E19 n
theorem E20_ok (n : Nat) : AllE prog G (E20 n) := AllE.cons (F20_ok n) (E19_ok n)
-- 21 loop.example/slowworm/impl.mergeItems
noncomputable def F21c : Code := bodyOf Go.Proofs.Try.f21
noncomputable def F21_0x0 : SSh := ⟨44, [(0, (.imm 3)), (1, (.imm 3)), (5, (.own 0))], [(.arr 3 true)]⟩
noncomputable def F21_0s : SSh := ⟨44, [(0, (.imm 3)), (1, (.imm 3)), (5, (.own 0))], [(.arr 3 true)]⟩
noncomputable def F21_0_step {R : Type} (n : Nat) (k0 : List Itm → List Itm → List Itm → Option R) (rec : List Itm → List Itm → List Itm → Option R) (x1605 : List Itm) (x1606 : List Itm) (x1607 : List Itm) : Option R :=
  (bif (decide (((x1605.length) : Int) > (0 : Int))) then
  (bif (decide (((x1606.length) : Int) > (0 : Int))) then
  (bif (decide ((0 : Int) < ((x1606.length) : Int))) then
  (bif (decide ((0 : Int) < ((x1605.length) : Int))) then
  (bif (decide ((x1606.getD (0 : Nat) (Itm.mk (0 : Int) (0 : Int))).key < (x1605.getD (0 : Nat) (Itm.mk (0 : Int) (0 : Int))).key)) then
  (bif (decide ((0 : Int) < ((x1606.length) : Int))) then
  let v1617 := (x1606.getD (0 : Nat) (Itm.mk (0 : Int) (0 : Int)))
  let v1620 := ((Itm.mk v1617.key v1617.tag) :: [])
  (bif (decide (((x1607.length) + (v1620.length)) ≤ (68719476736 : Nat))) then
  (bif (decide ((1 : Int) ≤ ((x1606.length) : Int))) then
  (bif (decide (((x1606.length) : Int) ≤ ((x1606.length) : Int))) then
  (rec x1605 ((x1606.take (((x1606.length) : Int).toNat)).drop (1 : Nat)) (x1607 ++ v1620))
  else none)
  else none)
  else none)
  else none)
  else (bif (decide ((0 : Int) < ((x1605.length) : Int))) then
  let v1623 := (x1605.getD (0 : Nat) (Itm.mk (0 : Int) (0 : Int)))
  let v1626 := ((Itm.mk v1623.key v1623.tag) :: [])
  (bif (decide (((x1607.length) + (v1626.length)) ≤ (68719476736 : Nat))) then
  (bif (decide ((1 : Int) ≤ ((x1605.length) : Int))) then
  (bif (decide (((x1605.length) : Int) ≤ ((x1605.length) : Int))) then
  (rec ((x1605.take (((x1605.length) : Int).toNat)).drop (1 : Nat)) x1606 (x1607 ++ v1626))
  else none)
  else none)
  else none)
  else none))
  else none)
  else none)
  else (k0 x1605 x1606 x1607))
  else (k0 x1605 x1606 x1607))
noncomputable def F21_0_it {R : Type} (n : Nat) (k0 : List Itm → List Itm → List Itm → Option R) : Nat → List Itm → List Itm → List Itm → Option R
  | 0, _, _, _ => none
  | k + 1, x1605, x1606, x1607 => F21_0_step n k0 (F21_0_it n k0 k) x1605 x1606 x1607
noncomputable def F21_0 {R : Type} (n : Nat) (x1605 : List Itm) (x1606 : List Itm) (x1607 : List Itm) (k0 : List Itm → List Itm → List Itm → Option R) : Option R := F21_0_it n k0 n x1605 x1606 x1607
noncomputable def F21_0z (n : Nat) : Sm G := inZ G 0 ⟨[0, 1, 5], [(5, (.own 3))]⟩ F21_0s fun R x K => F21_0_it n (fun u0 u1 u2 => K (.exit 0) (SSh.enc G F21_0x0 ((u0, (u1, ((), ()))), (u2, ())))) n x.1.1 x.1.2.1 x.2.1
theorem F21_0_eq (n : Nat) (R : Type) (rec : SSh.den G F21_0s → Option R) (x : SSh.den G F21_0s) (K : AE → St G → Option R) :
  F21_0_step n (fun u0 u1 u2 => K (.exit 0) (SSh.enc G F21_0x0 ((u0, (u1, ((), ()))), (u2, ())))) (fun x1605 x1606 x1607 => rec ((x1605, (x1606, ((), ()))), (x1607, ()))) x.1.1 x.1.2.1 x.2.1 = exec prog G (ro G (tabOf (E20 n)) (frOf []) R) 0 (codeAt F21c [1, 1, 0, 0, 0]) .no (SSh.enc G F21_0s x) (kLoop G (ro G (tabOf (E20 n)) (frOf []) R) 0 ⟨[0, 1, 5], [(5, (.own 3))]⟩ F21_0s ⟨⟨[0, 1, 5], []⟩, ⟨[4], []⟩, [(0, ⟨[0, 1, 5], []⟩)]⟩ rec K) := by kernel_rfl
theorem F21_0_ok (n : Nat) : FragOK prog G 0 (codeAt F21c [1, 1, 0, 0]) (F21_0z n) :=
  frag_loop (Z := fun R k (x : SSh.den G F21_0s) K => F21_0_it n (fun u0 u1 u2 => K (.exit 0) (SSh.enc G F21_0x0 ((u0, (u1, ((), ()))), (u2, ())))) k x.1.1 x.1.2.1 x.2.1) laws fnok (E20_ok n).tab (AllF.of (l := []) (by kernel_rfl) AllF.nil) (fun _ _ _ => rfl) (fun R k y K => F21_0_eq n R (fun (x : SSh.den G F21_0s) => F21_0_it n (fun u0 u1 u2 => K (.exit 0) (SSh.enc G F21_0x0 ((u0, (u1, ((), ()))), (u2, ())))) k x.1.1 x.1.2.1 x.2.1) y K) n
-- 40 slices.Concat[[]loop.example/slowworm/impl.Item,loop.example/slowworm/impl.Item]
noncomputable def F40c : Code := bodyOf Go.Proofs.Try.f40
noncomputable def F40_0x0 : SSh := ⟨36, [(0, (.imm 6)), (3, (.int .i64)), (9, (.imm 6)), (10, (.int .i64)), (11, (.int .i64))], []⟩
noncomputable def F40_0s : SSh := ⟨36, [(0, (.imm 6)), (3, (.int .i64)), (9, (.imm 6)), (10, (.int .i64)), (11, (.int .i64))], []⟩
noncomputable def F40_0 {R : Type} (n : Nat) (x1641 : List (List Itm)) (x1642 : Int) (x1643 : List (List Itm)) (x1644 : Int) (x1645 : Int) (k0 : List (List Itm) → Int → List (List Itm) → Int → Int → Option R) : Option R :=
  (bif (decide ((0 : Int) ≤ x1645)) then
  (bif (decide (x1645 < ((x1643.length) : Int))) then
  let v1649 := (IntKind.wrap .i64 (x1642 + (((x1643.getD (x1645.toNat) []).length) : Int)))
  (bif (decide (v1649 < (0 : Int))) then
  none
  else (k0 x1641 v1649 x1643 x1644 x1645))
  else none)
  else none)
noncomputable def F40_0z (n : Nat) : Sm G := inZ G 0 ⟨[0, 3, 9, 10, 11], []⟩ F40_0s fun R x K => F40_0 n x.1.1 x.1.2.1 x.1.2.2.1 x.1.2.2.2.1 x.1.2.2.2.2.1 (fun u0 u1 u2 u3 u4 => K .normal (SSh.enc G F40_0x0 ((u0, (u1, (u2, (u3, (u4, ()))))), ())))
theorem F40_0_eq (n : Nat) (R : Type) (x : SSh.den G F40_0s) (K : AE → St G → Option R) :
  F40_0 n x.1.1 x.1.2.1 x.1.2.2.1 x.1.2.2.2.1 x.1.2.2.2.2.1 (fun u0 u1 u2 u3 u4 => K .normal (SSh.enc G F40_0x0 ((u0, (u1, (u2, (u3, (u4, ()))))), ()))) = exec prog G (ro G (tabOf (E20 n)) (frOf []) R) 0 (codeAt F40c [1, 1, 0, 1, 0, 0, 1, 1, 0]) .no (SSh.enc G F40_0s x) (kNrm G (ro G (tabOf (E20 n)) (frOf []) R) 0 ⟨⟨[0, 3, 9, 10, 11], []⟩, ⟨[2], []⟩, [(0, ⟨[0, 3], []⟩)]⟩ K) := by kernel_rfl
theorem F40_0_ok (n : Nat) : FragOK prog G 0 (codeAt F40c [1, 1, 0, 1, 0, 0, 1, 1, 0]) (F40_0z n) :=
  frag_plain laws fnok (E20_ok n).tab (AllF.of (l := []) (by kernel_rfl) AllF.nil) (F40_0_eq n)
noncomputable def F40_1x0 : SSh := ⟨36, [(0, (.imm 6)), (3, (.int .i64))], []⟩
noncomputable def F40_1s : SSh := ⟨36, [(0, (.imm 6)), (3, (.int .i64)), (9, (.imm 6)), (10, (.int .i64)), (11, (.int .i64))], []⟩
noncomputable def F40_1_step {R : Type} (n : Nat) (k0 : List (List Itm) → Int → Option R) (rec : List (List Itm) → Int → List (List Itm) → Int → Int → Option R) (x1635 : List (List Itm)) (x1636 : Int) (x1637 : List (List Itm)) (x1638 : Int) (x1639 : Int) : Option R :=
  (bif (decide (x1639 < x1638)) then
  (F40_0 n x1635 x1636 x1637 x1638 x1639 (fun z1651 z1652 z1653 z1654 z1655 =>
  (rec z1651 z1652 z1653 z1654 (IntKind.wrap .i64 (z1655 + (1 : Int))))))
  else (k0 x1635 x1636))
noncomputable def F40_1_it {R : Type} (n : Nat) (k0 : List (List Itm) → Int → Option R) : Nat → List (List Itm) → Int → List (List Itm) → Int → Int → Option R
  | 0, _, _, _, _, _ => none
  | k + 1, x1635, x1636, x1637, x1638, x1639 => F40_1_step n k0 (F40_1_it n k0 k) x1635 x1636 x1637 x1638 x1639
noncomputable def F40_1 {R : Type} (n : Nat) (x1635 : List (List Itm)) (x1636 : Int) (x1637 : List (List Itm)) (x1638 : Int) (x1639 : Int) (k0 : List (List Itm) → Int → Option R) : Option R := F40_1_it n k0 n x1635 x1636 x1637 x1638 x1639
noncomputable def F40_1z (n : Nat) : Sm G := inZ G 0 ⟨[0, 3, 9, 10, 11], []⟩ F40_1s fun R x K => F40_1_it n (fun u0 u1 => K (.exit 0) (SSh.enc G F40_1x0 ((u0, (u1, ())), ()))) n x.1.1 x.1.2.1 x.1.2.2.1 x.1.2.2.2.1 x.1.2.2.2.2.1
theorem F40_1_eq (n : Nat) (R : Type) (rec : SSh.den G F40_1s → Option R) (x : SSh.den G F40_1s) (K : AE → St G → Option R) :
  F40_1_step n (fun u0 u1 => K (.exit 0) (SSh.enc G F40_1x0 ((u0, (u1, ())), ()))) (fun x1635 x1636 x1637 x1638 x1639 => rec ((x1635, (x1636, (x1637, (x1638, (x1639, ()))))), ())) x.1.1 x.1.2.1 x.1.2.2.1 x.1.2.2.2.1 x.1.2.2.2.2.1 = exec prog G (ro G (tabOf (E20 n)) (frOf [F40_0z n]) R) 0 (codeAt F40c [1, 1, 0, 1, 0, 0]) (.nd .no (.nd .no (.nd (.use 0) .no))) (SSh.enc G F40_1s x) (kLoop G (ro G (tabOf (E20 n)) (frOf [F40_0z n]) R) 0 ⟨[0, 3, 9, 10, 11], []⟩ F40_1s ⟨⟨[0, 3], []⟩, ⟨[2], []⟩, [(0, ⟨[0, 3], []⟩)]⟩ rec K) := by kernel_rfl
theorem F40_1_ok (n : Nat) : FragOK prog G 0 (codeAt F40c [1, 1, 0, 1, 0]) (F40_1z n) :=
  frag_loop (Z := fun R k (x : SSh.den G F40_1s) K => F40_1_it n (fun u0 u1 => K (.exit 0) (SSh.enc G F40_1x0 ((u0, (u1, ())), ()))) k x.1.1 x.1.2.1 x.1.2.2.1 x.1.2.2.2.1 x.1.2.2.2.2.1) laws fnok (E20_ok n).tab (AllF.of (l := [(0, codeAt F40c [1, 1, 0, 1, 0, 0, 1, 1, 0])]) (by kernel_rfl) (AllF.cons (F40_0_ok n) AllF.nil)) (fun _ _ _ => rfl) (fun R k y K => F40_1_eq n R (fun (x : SSh.den G F40_1s) => F40_1_it n (fun u0 u1 => K (.exit 0) (SSh.enc G F40_1x0 ((u0, (u1, ())), ()))) k x.1.1 x.1.2.1 x.1.2.2.1 x.1.2.2.2.1 x.1.2.2.2.2.1) y K) n
-- 48 slices.Grow[[]loop.example/slowworm/impl.Item,loop.example/slowworm/impl.Item]
noncomputable def F48c : Code := bodyOf Go.Proofs.Try.f48
noncomputable def F48_0x0 : SSh := ⟨27, [(0, .nil0), (1, (.int .i64))], []⟩
noncomputable def F48_0s : SSh := ⟨27, [(0, .nil0), (1, (.int .i64))], []⟩
noncomputable def F48_0 {R : Type} (n : Nat) (x1660 : Int) (k0 : Int → Option R) : Option R :=
  (bif (decide (x1660 < (0 : Int))) then
  none
  else (k0 x1660))
noncomputable def F48_0z (n : Nat) : Sm G := inZ G 0 ⟨[0, 1], []⟩ F48_0s fun R x K => F48_0 n x.1.2.1 (fun u0 => K .normal (SSh.enc G F48_0x0 (((), (u0, ())), ())))
theorem F48_0_eq (n : Nat) (R : Type) (x : SSh.den G F48_0s) (K : AE → St G → Option R) :
  F48_0 n x.1.2.1 (fun u0 => K .normal (SSh.enc G F48_0x0 (((), (u0, ())), ()))) = exec prog G (ro G (tabOf (E20 n)) (frOf []) R) 0 (codeAt F48c [1, 0]) .no (SSh.enc G F48_0s x) (kNrm G (ro G (tabOf (E20 n)) (frOf []) R) 0 ⟨⟨[0, 1], []⟩, ⟨[4], []⟩, []⟩ K) := by kernel_rfl
theorem F48_0_ok (n : Nat) : FragOK prog G 0 (codeAt F48c [1, 0]) (F48_0z n) :=
  frag_plain laws fnok (E20_ok n).tab (AllF.of (l := []) (by kernel_rfl) AllF.nil) (F48_0_eq n)
noncomputable def F48_1x0 : SSh := ⟨27, [(0, (.pre 0))], [(.arr 3 true)]⟩
noncomputable def F48_1x1 : SSh := ⟨27, [(0, .nil0)], []⟩
noncomputable def F48_1s : SSh := ⟨27, [(0, .nil0), (1, (.int .i64))], []⟩
noncomputable def F48_1 {R : Type} (n : Nat) (x1663 : Int) (k0 : Nat → List Itm → Option R) (k1 : Option R) : Option R :=
  let v1664 := (IntKind.wrap .i64 (x1663 - (Int.ofNat (0 : Nat))))
  (bif (decide (v1664 > (0 : Int))) then
  (bif (decide ((0 : Int) < v1664)) then
  (bif (decide (v1664 ≤ ((68719476736 : Nat) : Int))) then
  let v1666 := (List.replicate (v1664.toNat) (Itm.mk (0 : Int) (0 : Int)))
  (bif (decide ((Int.ofNat (0 : Nat)) ≤ ((v1666.length) : Int))) then
  (k0 (0 : Nat) v1666)
  else none)
  else none)
  else none)
  else k1)
noncomputable def F48_1z (n : Nat) : Sm G := inZ G 0 ⟨[0, 1], []⟩ F48_1s fun R x K => F48_1 n x.1.2.1 (fun u0 u1 => K .normal (SSh.enc G F48_1x0 ((u0, ()), (u1, ())))) (K .normal (SSh.enc G F48_1x1 (((), ()), ())))
theorem F48_1_eq (n : Nat) (R : Type) (x : SSh.den G F48_1s) (K : AE → St G → Option R) :
  F48_1 n x.1.2.1 (fun u0 u1 => K .normal (SSh.enc G F48_1x0 ((u0, ()), (u1, ())))) (K .normal (SSh.enc G F48_1x1 (((), ()), ()))) = exec prog G (ro G (tabOf (E20 n)) (frOf [F48_0z n]) R) 0 (codeAt F48c [1, 1, 0]) .no (SSh.enc G F48_1s x) (kNrm G (ro G (tabOf (E20 n)) (frOf [F48_0z n]) R) 0 ⟨⟨[0], []⟩, ⟨[4], []⟩, []⟩ K) := by kernel_rfl
theorem F48_1_ok (n : Nat) : FragOK prog G 0 (codeAt F48c [1, 1, 0]) (F48_1z n) :=
  frag_plain laws fnok (E20_ok n).tab (AllF.of (l := []) (by kernel_rfl) AllF.nil) (F48_1_eq n)
noncomputable def F48 (n : Nat) (a1659 : Int) : Option (Unit × (List Itm × Unit)) :=
  (F48_0 n a1659 (fun z1662 =>
  (F48_1 n z1662 (fun z1667 z1668 =>
  some ((), ((z1668.take z1667), ()))) (
  some ((), ([], ()))))))
noncomputable def F48e (n : Nat) : Ent G := ⟨48, (.cons .nil0 (.cons (.int .i64) .nil)), [], (.own 0), [(.arr 3 true)], fun x y => F48 n x.2.1⟩
theorem F48_eq (n : Nat) (x : ShL.den G (.cons .nil0 (.cons (.int .i64) .nil))) (y : denO G []) : (F48e n).F x y = runFn prog G (ro G (tabOf (E20 n)) (frOf [F48_0z n, F48_1z n]) _) Go.Proofs.Try.f48 (.nd .no (.nd (.use 0) (.nd (.use 1) .no))) [(0, (.mv 3))] (ShL.enc G (.cons .nil0 (.cons (.int .i64) .nil)) x) (encO G [] y) (decR (.own 0) [(.arr 3 true)]) := by kernel_rfl
theorem F48_ok (n : Nat) : EntOK prog G (F48e n) :=
  ent_ok (fr := frOf [F48_0z n, F48_1z n]) (ann := (.nd .no (.nd (.use 0) (.nd (.use 1) .no)))) (frm := [(0, (.mv 3))]) laws fnok (E20_ok n).tab (e := F48e n) (fn := Go.Proofs.Try.f48) (by kernel_rfl) (AllF.ofB (cd := F48c) (l := [(0, codeAt F48c [1, 0]), (1, codeAt F48c [1, 1, 0])]) (by kernel_rfl) (by kernel_rfl) (AllF.cons (F48_0_ok n) (AllF.cons (F48_1_ok n) AllF.nil))) (F48_eq n)
noncomputable def E21 (n : Nat) : List (Ent G) := F48e n :: E20 n
theorem E21_ok (n : Nat) : AllE prog G (E21 n) := AllE.cons (F48_ok n) (E20_ok n)
noncomputable def F40_2x0 : SSh := ⟨36, [(6, (.own 0))], [(.arr 3 true)]⟩
noncomputable def F40_2s : SSh := ⟨36, [(6, (.own 0)), (25, (.imm 6)), (26, (.int .i64)), (27, (.int .i64))], [(.arr 3 true)]⟩
noncomputable def F40_2_step {R : Type} (n : Nat) (k0 : List Itm → Option R) (rec : List (List Itm) → Int → Int → List Itm → Option R) (x1672 : List (List Itm)) (x1673 : Int) (x1674 : Int) (x1675 : List Itm) : Option R :=
  (bif (decide (x1674 < x1673)) then
  (bif (decide ((0 : Int) ≤ x1674)) then
  (bif (decide (x1674 < ((x1672.length) : Int))) then
  let v1678 := (x1672.getD (x1674.toNat) [])
  (bif (decide (((x1675.length) + (v1678.length)) ≤ (68719476736 : Nat))) then
  (rec x1672 x1673 (IntKind.wrap .i64 (x1674 + (1 : Int))) (x1675 ++ v1678))
  else none)
  else none)
  else none)
  else (k0 x1675))
noncomputable def F40_2_it {R : Type} (n : Nat) (k0 : List Itm → Option R) : Nat → List (List Itm) → Int → Int → List Itm → Option R
  | 0, _, _, _, _ => none
  | k + 1, x1672, x1673, x1674, x1675 => F40_2_step n k0 (F40_2_it n k0 k) x1672 x1673 x1674 x1675
noncomputable def F40_2 {R : Type} (n : Nat) (x1672 : List (List Itm)) (x1673 : Int) (x1674 : Int) (x1675 : List Itm) (k0 : List Itm → Option R) : Option R := F40_2_it n k0 n x1672 x1673 x1674 x1675
noncomputable def F40_2z (n : Nat) : Sm G := inZ G 0 ⟨[6, 25, 26, 27], []⟩ F40_2s fun R x K => F40_2_it n (fun u0 => K (.exit 2) (SSh.enc G F40_2x0 (((), ()), (u0, ())))) n x.1.2.1 x.1.2.2.1 x.1.2.2.2.1 x.2.1
theorem F40_2_eq (n : Nat) (R : Type) (rec : SSh.den G F40_2s → Option R) (x : SSh.den G F40_2s) (K : AE → St G → Option R) :
  F40_2_step n (fun u0 => K (.exit 2) (SSh.enc G F40_2x0 (((), ()), (u0, ())))) (fun x1672 x1673 x1674 x1675 => rec (((), (x1672, (x1673, (x1674, ())))), (x1675, ()))) x.1.2.1 x.1.2.2.1 x.1.2.2.2.1 x.2.1 = exec prog G (ro G (tabOf (E21 n)) (frOf [F40_0z n, F40_1z n]) R) 0 (codeAt F40c [1, 1, 1, 1, 0, 1, 0, 0]) .no (SSh.enc G F40_2s x) (kLoop G (ro G (tabOf (E21 n)) (frOf [F40_0z n, F40_1z n]) R) 0 ⟨[6, 25, 26, 27], []⟩ F40_2s ⟨⟨[6], []⟩, ⟨[2], []⟩, [(2, ⟨[6], []⟩)]⟩ rec K) := by kernel_rfl
theorem F40_2_ok (n : Nat) : FragOK prog G 0 (codeAt F40c [1, 1, 1, 1, 0, 1, 0]) (F40_2z n) :=
  frag_loop (Z := fun R k (x : SSh.den G F40_2s) K => F40_2_it n (fun u0 => K (.exit 2) (SSh.enc G F40_2x0 (((), ()), (u0, ())))) k x.1.2.1 x.1.2.2.1 x.1.2.2.2.1 x.2.1) laws fnok (E21_ok n).tab (AllF.of (l := []) (by kernel_rfl) AllF.nil) (fun _ _ _ => rfl) (fun R k y K => F40_2_eq n R (fun (x : SSh.den G F40_2s) => F40_2_it n (fun u0 => K (.exit 2) (SSh.enc G F40_2x0 (((), ()), (u0, ())))) k x.1.2.1 x.1.2.2.1 x.1.2.2.2.1 x.2.1) y K) n
noncomputable def F40 (n : Nat) (a1633 : List (List Itm)) : Option (List Itm × Unit) :=
  (F40_1 n a1633 (0 : Int) a1633 ((a1633.length) : Int) (0 : Int) (fun z1657 z1658 =>
  (andThen (F48 n z1658) fun r1670 =>
  (F40_2 n z1657 ((z1657.length) : Int) (0 : Int) r1670.2.1 (fun z1681 =>
  some (z1681, ()))))))
noncomputable def F40e (n : Nat) : Ent G := ⟨40, (.cons (.imm 6) .nil), [], (.imm 3), [], fun x y => F40 n x.1⟩
theorem F40_eq (n : Nat) (x : ShL.den G (.cons (.imm 6) .nil)) (y : denO G []) : (F40e n).F x y = runFn prog G (ro G (tabOf (E21 n)) (frOf [F40_0z n, F40_1z n, F40_2z n]) _) Go.Proofs.Try.f40 (.nd .no (.nd .no (.nd (.nd .no (.nd (.use 1) .no)) (.nd .no (.nd (.nd .no (.nd (.use 2) .no)) .no))))) [(0, .fz)] (ShL.enc G (.cons (.imm 6) .nil) x) (encO G [] y) (decR (.imm 3) []) := by kernel_rfl
theorem F40_ok (n : Nat) : EntOK prog G (F40e n) :=
  ent_ok (fr := frOf [F40_0z n, F40_1z n, F40_2z n]) (ann := (.nd .no (.nd .no (.nd (.nd .no (.nd (.use 1) .no)) (.nd .no (.nd (.nd .no (.nd (.use 2) .no)) .no)))))) (frm := [(0, .fz)]) laws fnok (E21_ok n).tab (e := F40e n) (fn := Go.Proofs.Try.f40) (by kernel_rfl) (AllF.ofB (cd := F40c) (l := [(1, codeAt F40c [1, 1, 0, 1, 0]), (2, codeAt F40c [1, 1, 1, 1, 0, 1, 0])]) (by kernel_rfl) (by kernel_rfl) (AllF.cons (F40_1_ok n) (AllF.cons (F40_2_ok n) AllF.nil))) (F40_eq n)
noncomputable def E22 (n : Nat) : List (Ent G) := F40e n :: E21 n
theorem E22_ok (n : Nat) : AllE prog G (E22 n) := AllE.cons (F40_ok n) (E21_ok n)
noncomputable def F21 (n : Nat) (a1603 : List Itm) (a1604 : List Itm) : Option (List Itm × Unit) :=
  (F21_0 n a1603 a1604 [] (fun z1629 z1630 z1631 =>
  (andThen (F40 n (z1631 :: (z1629 :: (z1630 :: [])))) fun r1682 =>
  some (r1682.1, ()))))
noncomputable def F21e (n : Nat) : Ent G := ⟨21, (.cons (.imm 3) (.cons (.imm 3) .nil)), [], (.imm 3), [], fun x y => F21 n x.1 x.2.1⟩
theorem F21_eq (n : Nat) (x : ShL.den G (.cons (.imm 3) (.cons (.imm 3) .nil))) (y : denO G []) : (F21e n).F x y = runFn prog G (ro G (tabOf (E22 n)) (frOf [F21_0z n]) _) Go.Proofs.Try.f21 (.nd .no (.nd .no (.nd (.nd (.use 0) .no) .no))) [(0, .fz)] (ShL.enc G (.cons (.imm 3) (.cons (.imm 3) .nil)) x) (encO G [] y) (decR (.imm 3) []) := by kernel_rfl
theorem F21_ok (n : Nat) : EntOK prog G (F21e n) :=
  ent_ok (fr := frOf [F21_0z n]) (ann := (.nd .no (.nd .no (.nd (.nd (.use 0) .no) .no)))) (frm := [(0, .fz)]) laws fnok (E22_ok n).tab (e := F21e n) (fn := Go.Proofs.Try.f21) (by kernel_rfl) (AllF.ofB (cd := F21c) (l := [(0, codeAt F21c [1, 1, 0, 0])]) (by kernel_rfl) (by kernel_rfl) (AllF.cons (F21_0_ok n) AllF.nil)) (F21_eq n)
noncomputable def E23 (n : Nat) : List (Ent G) := F21e n :: E22 n
theorem E23_ok (n : Nat) : AllE prog G (E23 n) := AllE.cons (F21_ok n) (E22_ok n)
-- 8 loop.example/slowworm/impl.SortItems
noncomputable def F8c : Code := bodyOf Go.Proofs.Try.f8
noncomputable def F8_0x0 : SSh := ⟨60, [(3, (.own 0)), (4, (.own 1))], [(.arr 6 true), (.arr 0 true)]⟩
noncomputable def F8_0s : SSh := ⟨60, [(3, (.own 0)), (4, (.own 1)), (12, (.own 0)), (13, (.int .i64)), (14, (.int .i64))], [(.arr 6 true), (.arr 0 true)]⟩
noncomputable def F8_0_step {R : Type} (n : Nat) (k0 : List (List Itm) → List Int → Option R) (rec : Int → Int → List (List Itm) → List Int → Option R) (x1697 : Int) (x1698 : Int) (x1699 : List (List Itm)) (x1700 : List Int) : Option R :=
  (bif (decide (x1698 < x1697)) then
  (bif (decide ((0 : Int) ≤ x1698)) then
  (bif (decide (x1698 < ((x1699.length) : Int))) then
  let v1705 := ((((x1699.getD (x1698.toNat) []).length) : Int) :: [])
  (bif (decide (((x1700.length) + (v1705.length)) ≤ (68719476736 : Nat))) then
  (rec x1697 (IntKind.wrap .i64 (x1698 + (1 : Int))) x1699 (x1700 ++ v1705))
  else none)
  else none)
  else none)
  else (k0 x1699 x1700))
noncomputable def F8_0_it {R : Type} (n : Nat) (k0 : List (List Itm) → List Int → Option R) : Nat → Int → Int → List (List Itm) → List Int → Option R
  | 0, _, _, _, _ => none
  | k + 1, x1697, x1698, x1699, x1700 => F8_0_step n k0 (F8_0_it n k0 k) x1697 x1698 x1699 x1700
noncomputable def F8_0 {R : Type} (n : Nat) (x1697 : Int) (x1698 : Int) (x1699 : List (List Itm)) (x1700 : List Int) (k0 : List (List Itm) → List Int → Option R) : Option R := F8_0_it n k0 n x1697 x1698 x1699 x1700
noncomputable def F8_0z (n : Nat) : Sm G := inZ G 0 ⟨[3, 4, 12, 13, 14], [(4, (.own 0))]⟩ F8_0s fun R x K => F8_0_it n (fun u0 u1 => K (.exit 0) (SSh.enc G F8_0x0 (((), ((), ())), (u0, (u1, ()))))) n x.1.2.2.2.1 x.1.2.2.2.2.1 x.2.1 x.2.2.1
theorem F8_0_eq (n : Nat) (R : Type) (rec : SSh.den G F8_0s → Option R) (x : SSh.den G F8_0s) (K : AE → St G → Option R) :
  F8_0_step n (fun u0 u1 => K (.exit 0) (SSh.enc G F8_0x0 (((), ((), ())), (u0, (u1, ()))))) (fun x1697 x1698 x1699 x1700 => rec (((), ((), ((), (x1697, (x1698, ()))))), (x1699, (x1700, ())))) x.1.2.2.2.1 x.1.2.2.2.2.1 x.2.1 x.2.2.1 = exec prog G (ro G (tabOf (E23 n)) (frOf []) R) 0 (codeAt F8c [1, 1, 1, 0, 1, 0, 0]) .no (SSh.enc G F8_0s x) (kLoop G (ro G (tabOf (E23 n)) (frOf []) R) 0 ⟨[3, 4, 12, 13, 14], [(4, (.own 0))]⟩ F8_0s ⟨⟨[3, 4], []⟩, ⟨[2], []⟩, [(0, ⟨[3, 4], []⟩)]⟩ rec K) := by kernel_rfl
theorem F8_0_ok (n : Nat) : FragOK prog G 0 (codeAt F8c [1, 1, 1, 0, 1, 0]) (F8_0z n) :=
  frag_loop (Z := fun R k (x : SSh.den G F8_0s) K => F8_0_it n (fun u0 u1 => K (.exit 0) (SSh.enc G F8_0x0 (((), ((), ())), (u0, (u1, ()))))) k x.1.2.2.2.1 x.1.2.2.2.2.1 x.2.1 x.2.2.1) laws fnok (E23_ok n).tab (AllF.of (l := []) (by kernel_rfl) AllF.nil) (fun _ _ _ => rfl) (fun R k y K => F8_0_eq n R (fun (x : SSh.den G F8_0s) => F8_0_it n (fun u0 u1 => K (.exit 0) (SSh.enc G F8_0x0 (((), ((), ())), (u0, (u1, ()))))) k x.1.2.2.2.1 x.1.2.2.2.2.1 x.2.1 x.2.2.1) y K) n
noncomputable def F8_1x0 : SSh := ⟨60, [(3, (.own 0))], [(.arr 6 true)]⟩
noncomputable def F8_1s : SSh := ⟨60, [(3, (.own 0)), (25, (.imm 5)), (26, (.int .i64)), (27, (.int .i64))], [(.arr 6 true)]⟩
noncomputable def F8_1_step {R : Type} (n : Nat) (k0 : List (List Itm) → Option R) (rec : List (List Int) → Int → Int → List (List Itm) → Option R) (x1712 : List (List Int)) (x1713 : Int) (x1714 : Int) (x1715 : List (List Itm)) : Option R :=
  (bif (decide (x1714 < x1713)) then
  (bif (decide ((0 : Int) ≤ x1714)) then
  (bif (decide (x1714 < ((x1712.length) : Int))) then
  let v1718 := (x1712.getD (x1714.toNat) [])
  (bif (decide ((0 : Int) < ((v1718.length) : Int))) then
  let v1720 := (v1718.getD (0 : Nat) (0 : Int))
  (bif (decide ((0 : Int) ≤ v1720)) then
  (bif (decide (v1720 < ((x1715.length) : Int))) then
  let v1723 := (IntKind.wrap .i64 (v1720 + (1 : Int)))
  (bif (decide ((0 : Int) ≤ v1723)) then
  (bif (decide (v1723 < ((x1715.length) : Int))) then
  (andThen (F21 n (x1715.getD (v1720.toNat) []) (x1715.getD (v1723.toNat) [])) fun r1726 =>
  (bif (decide ((0 : Int) ≤ v1720)) then
  (bif (decide (v1720 < ((x1715.length) : Int))) then
  (andThen (L22 (IntKind.wrap .i64 (v1720 + (1 : Int))) (IntKind.wrap .i64 (v1720 + (2 : Int))) (x1715.set (v1720.toNat) r1726.1)) fun r1731 =>
  (rec x1712 x1713 (IntKind.wrap .i64 (x1714 + (1 : Int))) r1731.2.2.1))
  else none)
  else none))
  else none)
  else none)
  else none)
  else none)
  else none)
  else none)
  else none)
  else (k0 x1715))
noncomputable def F8_1_it {R : Type} (n : Nat) (k0 : List (List Itm) → Option R) : Nat → List (List Int) → Int → Int → List (List Itm) → Option R
  | 0, _, _, _, _ => none
  | k + 1, x1712, x1713, x1714, x1715 => F8_1_step n k0 (F8_1_it n k0 k) x1712 x1713 x1714 x1715
noncomputable def F8_1 {R : Type} (n : Nat) (x1712 : List (List Int)) (x1713 : Int) (x1714 : Int) (x1715 : List (List Itm)) (k0 : List (List Itm) → Option R) : Option R := F8_1_it n k0 n x1712 x1713 x1714 x1715
noncomputable def F8_1z (n : Nat) : Sm G := inZ G 0 ⟨[3, 25, 26, 27], []⟩ F8_1s fun R x K => F8_1_it n (fun u0 => K (.exit 2) (SSh.enc G F8_1x0 (((), ()), (u0, ())))) n x.1.2.1 x.1.2.2.1 x.1.2.2.2.1 x.2.1
theorem F8_1_eq (n : Nat) (R : Type) (rec : SSh.den G F8_1s → Option R) (x : SSh.den G F8_1s) (K : AE → St G → Option R) :
  F8_1_step n (fun u0 => K (.exit 2) (SSh.enc G F8_1x0 (((), ()), (u0, ())))) (fun x1712 x1713 x1714 x1715 => rec (((), (x1712, (x1713, (x1714, ())))), (x1715, ()))) x.1.2.1 x.1.2.2.1 x.1.2.2.2.1 x.2.1 = exec prog G (ro G (tabOf (E23 n)) (frOf [F8_0z n]) R) 0 (codeAt F8c [1, 1, 1, 1, 0, 1, 0, 0]) .no (SSh.enc G F8_1s x) (kLoop G (ro G (tabOf (E23 n)) (frOf [F8_0z n]) R) 0 ⟨[3, 25, 26, 27], []⟩ F8_1s ⟨⟨[3], []⟩, ⟨[2], []⟩, [(2, ⟨[3], []⟩)]⟩ rec K) := by kernel_rfl
theorem F8_1_ok (n : Nat) : FragOK prog G 0 (codeAt F8c [1, 1, 1, 1, 0, 1, 0]) (F8_1z n) :=
  frag_loop (Z := fun R k (x : SSh.den G F8_1s) K => F8_1_it n (fun u0 => K (.exit 2) (SSh.enc G F8_1x0 (((), ()), (u0, ())))) k x.1.2.1 x.1.2.2.1 x.1.2.2.2.1 x.2.1) laws fnok (E23_ok n).tab (AllF.of (l := []) (by kernel_rfl) AllF.nil) (fun _ _ _ => rfl) (fun R k y K => F8_1_eq n R (fun (x : SSh.den G F8_1s) => F8_1_it n (fun u0 => K (.exit 2) (SSh.enc G F8_1x0 (((), ()), (u0, ())))) k x.1.2.1 x.1.2.2.1 x.1.2.2.2.1 x.2.1) y K) n
noncomputable def F8 (n : Nat) (a1694 : List Itm) : Option (List Itm × Unit) :=
  (andThen (F11 n a1694) fun r1695 =>
  (F8_0 n ((r1695.2.1.length) : Int) (0 : Int) r1695.2.1 [] (fun z1708 z1709 =>
  (andThen (F20 n z1709) fun r1710 =>
  (F8_1 n r1710.1 ((r1710.1.length) : Int) (0 : Int) z1708 (fun z1733 =>
  (bif (((z1733.length) : Int) == (0 : Int)) then
  some ([], ())
  else (bif (decide ((0 : Int) < ((z1733.length) : Int))) then
  some ((z1733.getD (0 : Nat) []), ())
  else none))))))))
noncomputable def F8e (n : Nat) : Ent G := ⟨8, (.cons (.old 3) .nil), [], (.imm 3), [], fun x y => F8 n x.1⟩
theorem F8_eq (n : Nat) (x : ShL.den G (.cons (.old 3) .nil)) (y : denO G []) : (F8e n).F x y = runFn prog G (ro G (tabOf (E23 n)) (frOf [F8_0z n, F8_1z n]) _) Go.Proofs.Try.f8 (.nd .no (.nd .no (.nd .no (.nd (.nd .no (.nd (.use 0) .no)) (.nd (.nd .no (.nd (.use 1) .no)) .no))))) [] (ShL.enc G (.cons (.old 3) .nil) x) (encO G [] y) (decR (.imm 3) []) := by kernel_rfl
theorem F8_ok (n : Nat) : EntOK prog G (F8e n) :=
  ent_ok (fr := frOf [F8_0z n, F8_1z n]) (ann := (.nd .no (.nd .no (.nd .no (.nd (.nd .no (.nd (.use 0) .no)) (.nd (.nd .no (.nd (.use 1) .no)) .no)))))) (frm := []) laws fnok (E23_ok n).tab (e := F8e n) (fn := Go.Proofs.Try.f8) (by kernel_rfl) (AllF.ofB (cd := F8c) (l := [(0, codeAt F8c [1, 1, 1, 0, 1, 0]), (1, codeAt F8c [1, 1, 1, 1, 0, 1, 0])]) (by kernel_rfl) (by kernel_rfl) (AllF.cons (F8_0_ok n) (AllF.cons (F8_1_ok n) AllF.nil))) (F8_eq n)
noncomputable def E24 (n : Nat) : List (Ent G) := F8e n :: E23 n
theorem E24_ok (n : Nat) : AllE prog G (E24 n) := AllE.cons (F8_ok n) (E23_ok n)
-- 14 loop.example/slowworm/laws.eqItemS
noncomputable def F14c : Code := bodyOf Go.Proofs.Try.f14
-- 33 loop.example/slowworm/laws.eqItem
noncomputable def F33c : Code := bodyOf Go.Proofs.Try.f33
noncomputable def F33 (n : Nat) (a1755 : Int) (a1756 : Int) (a1757 : Int) (a1758 : Int) : Option (Bool × Unit) :=
  (bif (a1755 != a1757) then
  some (false, ())
  else (bif (a1756 != a1758) then
  some (false, ())
  else some (true, ())))
noncomputable def F33e (n : Nat) : Ent G := ⟨33, (.cons (.agg (.cons (.int .i64) (.cons (.int .i64) .nil))) (.cons (.agg (.cons (.int .i64) (.cons (.int .i64) .nil))) .nil)), [], .bool, [], fun x y => F33 n x.1.1 x.1.2.1 x.2.1.1 x.2.1.2.1⟩
theorem F33_eq (n : Nat) (x : ShL.den G (.cons (.agg (.cons (.int .i64) (.cons (.int .i64) .nil))) (.cons (.agg (.cons (.int .i64) (.cons (.int .i64) .nil))) .nil))) (y : denO G []) : (F33e n).F x y = runFn prog G (ro G (tabOf (E24 n)) (frOf []) _) Go.Proofs.Try.f33 .no [(0, .fz)] (ShL.enc G (.cons (.agg (.cons (.int .i64) (.cons (.int .i64) .nil))) (.cons (.agg (.cons (.int .i64) (.cons (.int .i64) .nil))) .nil)) x) (encO G [] y) (decR .bool []) := by kernel_rfl
theorem F33_ok (n : Nat) : EntOK prog G (F33e n) :=
  ent_ok (fr := frOf []) (ann := .no) (frm := [(0, .fz)]) laws fnok (E24_ok n).tab (e := F33e n) (fn := Go.Proofs.Try.f33) (by kernel_rfl) (AllF.ofB (cd := F33c) (l := []) (by kernel_rfl) (by kernel_rfl) AllF.nil) (F33_eq n)
noncomputable def E25 (n : Nat) : List (Ent G) := F33e n :: E24 n
theorem E25_ok (n : Nat) : AllE prog G (E25 n) := AllE.cons (F33_ok n) (E24_ok n)
noncomputable def F14_0x0 : SSh := ⟨27, [(4, .bool)], []⟩
noncomputable def F14_0x1 : SSh := ⟨27, [], []⟩
noncomputable def F14_0s : SSh := ⟨27, [(0, (.imm 3)), (1, (.imm 3)), (5, (.int .i64))], []⟩
noncomputable def F14_0_step {R : Type} (n : Nat) (k0 : Bool → Option R) (k1 : Option R) (rec : List Itm → List Itm → Int → Option R) (x1744 : List Itm) (x1745 : List Itm) (x1746 : Int) : Option R :=
  (bif (decide (x1746 < ((x1744.length) : Int))) then
  (bif (decide ((0 : Int) ≤ x1746)) then
  (bif (decide (x1746 < ((x1744.length) : Int))) then
  let v1749 := (x1744.getD (x1746.toNat) (Itm.mk (0 : Int) (0 : Int)))
  (bif (decide ((0 : Int) ≤ x1746)) then
  (bif (decide (x1746 < ((x1745.length) : Int))) then
  let v1752 := (x1745.getD (x1746.toNat) (Itm.mk (0 : Int) (0 : Int)))
  (andThen (F33 n v1749.key v1749.tag v1752.key v1752.tag) fun r1761 =>
  (bif (!r1761.1) then
  (k0 false)
  else (rec x1744 x1745 (IntKind.wrap .i64 (x1746 + (1 : Int))))))
  else none)
  else none)
  else none)
  else none)
  else k1)
noncomputable def F14_0_it {R : Type} (n : Nat) (k0 : Bool → Option R) (k1 : Option R) : Nat → List Itm → List Itm → Int → Option R
  | 0, _, _, _ => none
  | k + 1, x1744, x1745, x1746 => F14_0_step n k0 k1 (F14_0_it n k0 k1 k) x1744 x1745 x1746
noncomputable def F14_0 {R : Type} (n : Nat) (x1744 : List Itm) (x1745 : List Itm) (x1746 : Int) (k0 : Bool → Option R) (k1 : Option R) : Option R := F14_0_it n k0 k1 n x1744 x1745 x1746
noncomputable def F14_0z (n : Nat) : Sm G := inZ G 0 ⟨[0, 1, 5], []⟩ F14_0s fun R x K => F14_0_it n (fun u0 => K .ret (SSh.enc G F14_0x0 ((u0, ()), ()))) (K (.exit 0) (SSh.enc G F14_0x1 ((), ()))) n x.1.1 x.1.2.1 x.1.2.2.1
theorem F14_0_eq (n : Nat) (R : Type) (rec : SSh.den G F14_0s → Option R) (x : SSh.den G F14_0s) (K : AE → St G → Option R) :
  F14_0_step n (fun u0 => K .ret (SSh.enc G F14_0x0 ((u0, ()), ()))) (K (.exit 0) (SSh.enc G F14_0x1 ((), ()))) (fun x1744 x1745 x1746 => rec ((x1744, (x1745, (x1746, ()))), ())) x.1.1 x.1.2.1 x.1.2.2.1 = exec prog G (ro G (tabOf (E25 n)) (frOf []) R) 0 (codeAt F14c [1, 1, 0, 1, 0, 0]) .no (SSh.enc G F14_0s x) (kLoop G (ro G (tabOf (E25 n)) (frOf []) R) 0 ⟨[0, 1, 5], []⟩ F14_0s ⟨⟨[], []⟩, ⟨[4], []⟩, [(0, ⟨[], []⟩)]⟩ rec K) := by kernel_rfl
theorem F14_0_ok (n : Nat) : FragOK prog G 0 (codeAt F14c [1, 1, 0, 1, 0]) (F14_0z n) :=
  frag_loop (Z := fun R k (x : SSh.den G F14_0s) K => F14_0_it n (fun u0 => K .ret (SSh.enc G F14_0x0 ((u0, ()), ()))) (K (.exit 0) (SSh.enc G F14_0x1 ((), ()))) k x.1.1 x.1.2.1 x.1.2.2.1) laws fnok (E25_ok n).tab (AllF.of (l := []) (by kernel_rfl) AllF.nil) (fun _ _ _ => rfl) (fun R k y K => F14_0_eq n R (fun (x : SSh.den G F14_0s) => F14_0_it n (fun u0 => K .ret (SSh.enc G F14_0x0 ((u0, ()), ()))) (K (.exit 0) (SSh.enc G F14_0x1 ((), ()))) k x.1.1 x.1.2.1 x.1.2.2.1) y K) n
noncomputable def F14 (n : Nat) (a1739 : List Itm) (a1740 : List Itm) : Option (Bool × Unit) :=
  (bif (((a1739.length) : Int) != ((a1740.length) : Int)) then
  some (false, ())
  else (F14_0 n a1739 a1740 (0 : Int) (fun z1764 =>
  some (z1764, ())) (
  some (true, ()))))
noncomputable def F14e (n : Nat) : Ent G := ⟨14, (.cons (.imm 3) (.cons (.imm 3) .nil)), [], .bool, [], fun x y => F14 n x.1 x.2.1⟩
theorem F14_eq (n : Nat) (x : ShL.den G (.cons (.imm 3) (.cons (.imm 3) .nil))) (y : denO G []) : (F14e n).F x y = runFn prog G (ro G (tabOf (E25 n)) (frOf [F14_0z n]) _) Go.Proofs.Try.f14 (.nd .no (.nd .no (.nd (.nd .no (.nd (.use 0) .no)) .no))) [(0, .fz)] (ShL.enc G (.cons (.imm 3) (.cons (.imm 3) .nil)) x) (encO G [] y) (decR .bool []) := by kernel_rfl
theorem F14_ok (n : Nat) : EntOK prog G (F14e n) :=
  ent_ok (fr := frOf [F14_0z n]) (ann := (.nd .no (.nd .no (.nd (.nd .no (.nd (.use 0) .no)) .no)))) (frm := [(0, .fz)]) laws fnok (E25_ok n).tab (e := F14e n) (fn := Go.Proofs.Try.f14) (by kernel_rfl) (AllF.ofB (cd := F14c) (l := [(0, codeAt F14c [1, 1, 0, 1, 0])]) (by kernel_rfl) (by kernel_rfl) (AllF.cons (F14_0_ok n) AllF.nil)) (F14_eq n)
noncomputable def E26 (n : Nat) : List (Ent G) := F14e n :: E25 n
theorem E26_ok (n : Nat) : AllE prog G (E26 n) := AllE.cons (F14_ok n) (E25_ok n)
-- 15 loop.example/slowworm/laws.markItemS
noncomputable def F15c : Code := bodyOf Go.Proofs.Try.f15
noncomputable def F15_0x0 : SSh := ⟨27, [(1, (.int .i64))], [(.arr 3 true)]⟩
noncomputable def F15_0s : SSh := ⟨27, [(0, (.own 0)), (1, (.int .i64)), (5, (.int .i64))], [(.arr 3 true)]⟩
noncomputable def F15_0_step {R : Type} (n : Nat) (k0 : Int → List Itm → Option R) (rec : Int → Int → List Itm → Option R) (x1772 : Int) (x1773 : Int) (x1774 : List Itm) : Option R :=
  (bif (decide (x1773 < ((x1774.length) : Int))) then
  (bif (decide ((0 : Int) ≤ x1773)) then
  (bif (decide (x1773 < ((x1774.length) : Int))) then
  let v1777 := (x1773.toNat)
  let v1778 := (x1774.set v1777 (Itm.mk x1772 (x1774.getD v1777 (Itm.mk (0 : Int) (0 : Int))).tag))
  let v1779 := (IntKind.wrap .i64 (x1772 + (1 : Int)))
  (bif (decide ((0 : Int) ≤ x1773)) then
  (bif (decide (x1773 < ((v1778.length) : Int))) then
  let v1780 := (x1773.toNat)
  (rec (IntKind.wrap .i64 (v1779 + (1 : Int))) (IntKind.wrap .i64 (x1773 + (1 : Int))) (v1778.set v1780 (Itm.mk (v1778.getD v1780 (Itm.mk (0 : Int) (0 : Int))).key v1779)))
  else none)
  else none)
  else none)
  else none)
  else (k0 x1772 x1774))
noncomputable def F15_0_it {R : Type} (n : Nat) (k0 : Int → List Itm → Option R) : Nat → Int → Int → List Itm → Option R
  | 0, _, _, _ => none
  | k + 1, x1772, x1773, x1774 => F15_0_step n k0 (F15_0_it n k0 k) x1772 x1773 x1774
noncomputable def F15_0 {R : Type} (n : Nat) (x1772 : Int) (x1773 : Int) (x1774 : List Itm) (k0 : Int → List Itm → Option R) : Option R := F15_0_it n k0 n x1772 x1773 x1774
noncomputable def F15_0z (n : Nat) : Sm G := inZ G 1 ⟨[0, 1, 5], []⟩ F15_0s fun R x K => F15_0_it n (fun u0 u1 => K (.exit 0) (SSh.enc G F15_0x0 ((u0, ()), (u1, ())))) n x.1.2.1 x.1.2.2.1 x.2.1
theorem F15_0_eq (n : Nat) (R : Type) (rec : SSh.den G F15_0s → Option R) (x : SSh.den G F15_0s) (K : AE → St G → Option R) :
  F15_0_step n (fun u0 u1 => K (.exit 0) (SSh.enc G F15_0x0 ((u0, ()), (u1, ())))) (fun x1772 x1773 x1774 => rec (((), (x1772, (x1773, ()))), (x1774, ()))) x.1.2.1 x.1.2.2.1 x.2.1 = exec prog G (ro G (tabOf (E26 n)) (frOf []) R) 1 (codeAt F15c [1, 0, 1, 0, 0]) .no (SSh.enc G F15_0s x) (kLoop G (ro G (tabOf (E26 n)) (frOf []) R) 1 ⟨[0, 1, 5], []⟩ F15_0s ⟨⟨[1], []⟩, ⟨[4], []⟩, [(0, ⟨[1], []⟩)]⟩ rec K) := by kernel_rfl
theorem F15_0_ok (n : Nat) : FragOK prog G 1 (codeAt F15c [1, 0, 1, 0]) (F15_0z n) :=
  frag_loop (Z := fun R k (x : SSh.den G F15_0s) K => F15_0_it n (fun u0 u1 => K (.exit 0) (SSh.enc G F15_0x0 ((u0, ()), (u1, ())))) k x.1.2.1 x.1.2.2.1 x.2.1) laws fnok (E26_ok n).tab (AllF.of (l := []) (by kernel_rfl) AllF.nil) (fun _ _ _ => rfl) (fun R k y K => F15_0_eq n R (fun (x : SSh.den G F15_0s) => F15_0_it n (fun u0 u1 => K (.exit 0) (SSh.enc G F15_0x0 ((u0, ()), (u1, ())))) k x.1.2.1 x.1.2.2.1 x.2.1) y K) n
noncomputable def F15 (n : Nat) (a1770 : Int) (a1771 : List Itm) : Option (Int × (List Itm × Unit)) :=
  (F15_0 n a1770 (0 : Int) a1771 (fun z1784 z1785 =>
  some (z1784, (z1785, ()))))
noncomputable def F15e (n : Nat) : Ent G := ⟨15, (.cons (.own 0) (.cons (.int .i64) .nil)), [(.arr 3 true)], (.int .i64), [(.arr 3 true)], fun x y => F15 n x.2.1 y.1⟩
theorem F15_eq (n : Nat) (x : ShL.den G (.cons (.own 0) (.cons (.int .i64) .nil))) (y : denO G [(.arr 3 true)]) : (F15e n).F x y = runFn prog G (ro G (tabOf (E26 n)) (frOf [F15_0z n]) _) Go.Proofs.Try.f15 (.nd .no (.nd (.nd .no (.nd (.use 0) .no)) .no)) [] (ShL.enc G (.cons (.own 0) (.cons (.int .i64) .nil)) x) (encO G [(.arr 3 true)] y) (decR (.int .i64) [(.arr 3 true)]) := by kernel_rfl
theorem F15_ok (n : Nat) : EntOK prog G (F15e n) :=
  ent_ok (fr := frOf [F15_0z n]) (ann := (.nd .no (.nd (.nd .no (.nd (.use 0) .no)) .no))) (frm := []) laws fnok (E26_ok n).tab (e := F15e n) (fn := Go.Proofs.Try.f15) (by kernel_rfl) (AllF.ofB (cd := F15c) (l := [(0, codeAt F15c [1, 0, 1, 0])]) (by kernel_rfl) (by kernel_rfl) (AllF.cons (F15_0_ok n) AllF.nil)) (F15_eq n)
noncomputable def E27 (n : Nat) : List (Ent G) := F15e n :: E26 n
theorem E27_ok (n : Nat) : AllE prog G (E27 n) := AllE.cons (F15_ok n) (E26_ok n)
-- 15 loop.example/slowworm/laws.markItemS
noncomputable def F15v1c : Code := bodyOf Go.Proofs.Try.f15
noncomputable def F15v1_0x0 : SSh := ⟨27, [(1, (.int .i64))], [(.usr 0)]⟩
noncomputable def F15v1_0s : SSh := ⟨27, [(0, (.ref 0 0)), (1, (.int .i64)), (5, (.int .i64))], [(.usr 0)]⟩
noncomputable def F15v1_0_step {R : Type} (n : Nat) (k0 : Int → ((List Itm) × Unit) → Option R) (rec : Int → Int → ((List Itm) × Unit) → Option R) (x1792 : Int) (x1793 : Int) (x1794 : ((List Itm) × Unit)) : Option R :=
  (bif (decide (x1793 < ((x1794.1.length) : Int))) then
  (bif (decide ((0 : Int) ≤ x1793)) then
  (bif (decide (x1793 < ((x1794.1.length) : Int))) then
  let v1797 := (x1793.toNat)
  let v1798 := ((x1794.1.set v1797 (Itm.mk x1792 (x1794.1.getD v1797 (Itm.mk (0 : Int) (0 : Int))).tag)), ())
  let v1799 := (IntKind.wrap .i64 (x1792 + (1 : Int)))
  (bif (decide ((0 : Int) ≤ x1793)) then
  (bif (decide (x1793 < ((v1798.1.length) : Int))) then
  let v1800 := (x1793.toNat)
  (rec (IntKind.wrap .i64 (v1799 + (1 : Int))) (IntKind.wrap .i64 (x1793 + (1 : Int))) ((v1798.1.set v1800 (Itm.mk (v1798.1.getD v1800 (Itm.mk (0 : Int) (0 : Int))).key v1799)), ()))
  else none)
  else none)
  else none)
  else none)
  else (k0 x1792 x1794))
noncomputable def F15v1_0_it {R : Type} (n : Nat) (k0 : Int → ((List Itm) × Unit) → Option R) : Nat → Int → Int → ((List Itm) × Unit) → Option R
  | 0, _, _, _ => none
  | k + 1, x1792, x1793, x1794 => F15v1_0_step n k0 (F15v1_0_it n k0 k) x1792 x1793 x1794
noncomputable def F15v1_0 {R : Type} (n : Nat) (x1792 : Int) (x1793 : Int) (x1794 : ((List Itm) × Unit)) (k0 : Int → ((List Itm) × Unit) → Option R) : Option R := F15v1_0_it n k0 n x1792 x1793 x1794
noncomputable def F15v1_0z (n : Nat) : Sm G := inZ G 1 ⟨[0, 1, 5], []⟩ F15v1_0s fun R x K => F15v1_0_it n (fun u0 u1 => K (.exit 0) (SSh.enc G F15v1_0x0 ((u0, ()), (u1, ())))) n x.1.2.1 x.1.2.2.1 x.2.1
theorem F15v1_0_eq (n : Nat) (R : Type) (rec : SSh.den G F15v1_0s → Option R) (x : SSh.den G F15v1_0s) (K : AE → St G → Option R) :
  F15v1_0_step n (fun u0 u1 => K (.exit 0) (SSh.enc G F15v1_0x0 ((u0, ()), (u1, ())))) (fun x1792 x1793 x1794 => rec (((), (x1792, (x1793, ()))), (x1794, ()))) x.1.2.1 x.1.2.2.1 x.2.1 = exec prog G (ro G (tabOf (E27 n)) (frOf []) R) 1 (codeAt F15v1c [1, 0, 1, 0, 0]) .no (SSh.enc G F15v1_0s x) (kLoop G (ro G (tabOf (E27 n)) (frOf []) R) 1 ⟨[0, 1, 5], []⟩ F15v1_0s ⟨⟨[1], []⟩, ⟨[4], []⟩, [(0, ⟨[1], []⟩)]⟩ rec K) := by kernel_rfl
theorem F15v1_0_ok (n : Nat) : FragOK prog G 1 (codeAt F15v1c [1, 0, 1, 0]) (F15v1_0z n) :=
  frag_loop (Z := fun R k (x : SSh.den G F15v1_0s) K => F15v1_0_it n (fun u0 u1 => K (.exit 0) (SSh.enc G F15v1_0x0 ((u0, ()), (u1, ())))) k x.1.2.1 x.1.2.2.1 x.2.1) laws fnok (E27_ok n).tab (AllF.of (l := []) (by kernel_rfl) AllF.nil) (fun _ _ _ => rfl) (fun R k y K => F15v1_0_eq n R (fun (x : SSh.den G F15v1_0s) => F15v1_0_it n (fun u0 u1 => K (.exit 0) (SSh.enc G F15v1_0x0 ((u0, ()), (u1, ())))) k x.1.2.1 x.1.2.2.1 x.2.1) y K) n
noncomputable def F15v1 (n : Nat) (a1790 : Int) (a1791 : ((List Itm) × Unit)) : Option (Int × (((List Itm) × Unit) × Unit)) :=
  (F15v1_0 n a1790 (0 : Int) a1791 (fun z1804 z1805 =>
  some (z1804, (z1805, ()))))
noncomputable def F15v1e (n : Nat) : Ent G := ⟨15, (.cons (.ref 0 0) (.cons (.int .i64) .nil)), [(.usr 0)], (.int .i64), [(.usr 0)], fun x y => F15v1 n x.2.1 y.1⟩
theorem F15v1_eq (n : Nat) (x : ShL.den G (.cons (.ref 0 0) (.cons (.int .i64) .nil))) (y : denO G [(.usr 0)]) : (F15v1e n).F x y = runFn prog G (ro G (tabOf (E27 n)) (frOf [F15v1_0z n]) _) Go.Proofs.Try.f15 (.nd .no (.nd (.nd .no (.nd (.use 0) .no)) .no)) [] (ShL.enc G (.cons (.ref 0 0) (.cons (.int .i64) .nil)) x) (encO G [(.usr 0)] y) (decR (.int .i64) [(.usr 0)]) := by kernel_rfl
theorem F15v1_ok (n : Nat) : EntOK prog G (F15v1e n) :=
  ent_ok (fr := frOf [F15v1_0z n]) (ann := (.nd .no (.nd (.nd .no (.nd (.use 0) .no)) .no))) (frm := []) laws fnok (E27_ok n).tab (e := F15v1e n) (fn := Go.Proofs.Try.f15) (by kernel_rfl) (AllF.ofB (cd := F15v1c) (l := [(0, codeAt F15v1c [1, 0, 1, 0])]) (by kernel_rfl) (by kernel_rfl) (AllF.cons (F15v1_0_ok n) AllF.nil)) (F15v1_eq n)
noncomputable def E28 (n : Nat) : List (Ent G) := F15v1e n :: E27 n
theorem E28_ok (n : Nat) : AllE prog G (E28 n) := AllE.cons (F15v1_ok n) (E27_ok n)
-- 16 loop.example/slowworm/laws.heldItemS
noncomputable def F16c : Code := bodyOf Go.Proofs.Try.f16
noncomputable def F16_0x0 : SSh := ⟨31, [(4, (.int .i64))], [(.usr 0)]⟩
noncomputable def F16_0x1 : SSh := ⟨31, [(1, (.int .i64))], [(.usr 0)]⟩
noncomputable def F16_0s : SSh := ⟨31, [(0, (.ref 0 0)), (1, (.int .i64)), (5, (.int .i64))], [(.usr 0)]⟩
noncomputable def F16_0_step {R : Type} (n : Nat) (k0 : Int → ((List Itm) × Unit) → Option R) (k1 : Int → ((List Itm) × Unit) → Option R) (rec : Int → Int → ((List Itm) × Unit) → Option R) (x1809 : Int) (x1810 : Int) (x1811 : ((List Itm) × Unit)) : Option R :=
  (bif (decide (x1810 < ((x1811.1.length) : Int))) then
  (bif (decide ((0 : Int) ≤ x1810)) then
  (bif (decide (x1810 < ((x1811.1.length) : Int))) then
  (bif ((x1811.1.getD (x1810.toNat) (Itm.mk (0 : Int) (0 : Int))).key != x1809) then
  (k0 (-1 : Int) x1811)
  else let v1817 := (IntKind.wrap .i64 (x1809 + (1 : Int)))
  (bif (decide ((0 : Int) ≤ x1810)) then
  (bif (decide (x1810 < ((x1811.1.length) : Int))) then
  (bif ((x1811.1.getD (x1810.toNat) (Itm.mk (0 : Int) (0 : Int))).tag != v1817) then
  (k0 (-1 : Int) x1811)
  else (rec (IntKind.wrap .i64 (v1817 + (1 : Int))) (IntKind.wrap .i64 (x1810 + (1 : Int))) x1811))
  else none)
  else none))
  else none)
  else none)
  else (k1 x1809 x1811))
noncomputable def F16_0_it {R : Type} (n : Nat) (k0 : Int → ((List Itm) × Unit) → Option R) (k1 : Int → ((List Itm) × Unit) → Option R) : Nat → Int → Int → ((List Itm) × Unit) → Option R
  | 0, _, _, _ => none
  | k + 1, x1809, x1810, x1811 => F16_0_step n k0 k1 (F16_0_it n k0 k1 k) x1809 x1810 x1811
noncomputable def F16_0 {R : Type} (n : Nat) (x1809 : Int) (x1810 : Int) (x1811 : ((List Itm) × Unit)) (k0 : Int → ((List Itm) × Unit) → Option R) (k1 : Int → ((List Itm) × Unit) → Option R) : Option R := F16_0_it n k0 k1 n x1809 x1810 x1811
noncomputable def F16_0z (n : Nat) : Sm G := inZ G 1 ⟨[0, 1, 5], []⟩ F16_0s fun R x K => F16_0_it n (fun u0 u1 => K .ret (SSh.enc G F16_0x0 ((u0, ()), (u1, ())))) (fun u0 u1 => K (.exit 0) (SSh.enc G F16_0x1 ((u0, ()), (u1, ())))) n x.1.2.1 x.1.2.2.1 x.2.1
theorem F16_0_eq (n : Nat) (R : Type) (rec : SSh.den G F16_0s → Option R) (x : SSh.den G F16_0s) (K : AE → St G → Option R) :
  F16_0_step n (fun u0 u1 => K .ret (SSh.enc G F16_0x0 ((u0, ()), (u1, ())))) (fun u0 u1 => K (.exit 0) (SSh.enc G F16_0x1 ((u0, ()), (u1, ())))) (fun x1809 x1810 x1811 => rec (((), (x1809, (x1810, ()))), (x1811, ()))) x.1.2.1 x.1.2.2.1 x.2.1 = exec prog G (ro G (tabOf (E28 n)) (frOf []) R) 1 (codeAt F16c [1, 0, 1, 0, 0]) .no (SSh.enc G F16_0s x) (kLoop G (ro G (tabOf (E28 n)) (frOf []) R) 1 ⟨[0, 1, 5], []⟩ F16_0s ⟨⟨[1], []⟩, ⟨[4], []⟩, [(0, ⟨[1], []⟩)]⟩ rec K) := by kernel_rfl
theorem F16_0_ok (n : Nat) : FragOK prog G 1 (codeAt F16c [1, 0, 1, 0]) (F16_0z n) :=
  frag_loop (Z := fun R k (x : SSh.den G F16_0s) K => F16_0_it n (fun u0 u1 => K .ret (SSh.enc G F16_0x0 ((u0, ()), (u1, ())))) (fun u0 u1 => K (.exit 0) (SSh.enc G F16_0x1 ((u0, ()), (u1, ())))) k x.1.2.1 x.1.2.2.1 x.2.1) laws fnok (E28_ok n).tab (AllF.of (l := []) (by kernel_rfl) AllF.nil) (fun _ _ _ => rfl) (fun R k y K => F16_0_eq n R (fun (x : SSh.den G F16_0s) => F16_0_it n (fun u0 u1 => K .ret (SSh.enc G F16_0x0 ((u0, ()), (u1, ())))) (fun u0 u1 => K (.exit 0) (SSh.enc G F16_0x1 ((u0, ()), (u1, ())))) k x.1.2.1 x.1.2.2.1 x.2.1) y K) n
noncomputable def F16 (n : Nat) (a1807 : Int) (a1808 : ((List Itm) × Unit)) : Option (Int × (((List Itm) × Unit) × Unit)) :=
  (F16_0 n a1807 (0 : Int) a1808 (fun z1823 z1824 =>
  some (z1823, (z1824, ()))) (fun z1825 z1826 =>
  some (z1825, (z1826, ()))))
noncomputable def F16e (n : Nat) : Ent G := ⟨16, (.cons (.ref 0 0) (.cons (.int .i64) .nil)), [(.usr 0)], (.int .i64), [(.usr 0)], fun x y => F16 n x.2.1 y.1⟩
theorem F16_eq (n : Nat) (x : ShL.den G (.cons (.ref 0 0) (.cons (.int .i64) .nil))) (y : denO G [(.usr 0)]) : (F16e n).F x y = runFn prog G (ro G (tabOf (E28 n)) (frOf [F16_0z n]) _) Go.Proofs.Try.f16 (.nd .no (.nd (.nd .no (.nd (.use 0) .no)) .no)) [(0, .fz)] (ShL.enc G (.cons (.ref 0 0) (.cons (.int .i64) .nil)) x) (encO G [(.usr 0)] y) (decR (.int .i64) [(.usr 0)]) := by kernel_rfl
theorem F16_ok (n : Nat) : EntOK prog G (F16e n) :=
  ent_ok (fr := frOf [F16_0z n]) (ann := (.nd .no (.nd (.nd .no (.nd (.use 0) .no)) .no))) (frm := [(0, .fz)]) laws fnok (E28_ok n).tab (e := F16e n) (fn := Go.Proofs.Try.f16) (by kernel_rfl) (AllF.ofB (cd := F16c) (l := [(0, codeAt F16c [1, 0, 1, 0])]) (by kernel_rfl) (by kernel_rfl) (AllF.cons (F16_0_ok n) AllF.nil)) (F16_eq n)
noncomputable def E29 (n : Nat) : List (Ent G) := F16e n :: E28 n
theorem E29_ok (n : Nat) : AllE prog G (E29 n) := AllE.cons (F16_ok n) (E28_ok n)
noncomputable def F5 (n : Nat) (a0 : List Itm) : Option (Bool × Unit) :=
  (andThen (F12 n a0 (1048576 : Int)) fun r6 =>
  (bif (decide (r6.1 < (0 : Int))) then
  some (true, ())
  else (andThen (F13 n a0) fun r26 =>
  (andThen (F10 n r26.2.1) fun r943 =>
  (andThen (F13 n a0) fun r944 =>
  (andThen (F8 n r944.2.1) fun r1737 =>
  let v1738 := (r1737.1, ())
  (andThen (F14 n v1738.1 r943.1) fun r1765 =>
  (bif (!r1765.1) then
  some (false, ())
  else (andThen (F13 n a0) fun r1767 =>
  (andThen (F14 n r944.2.1 r1767.2.1) fun r1768 =>
  (bif (!r1768.1) then
  some (false, ())
  else (andThen (F15 n (1 : Int) r944.2.1) fun r1786 =>
  (bif (decide (r1786.1 < (0 : Int))) then
  some (false, ())
  else (andThen (F14 n v1738.1 r943.1) fun r1788 =>
  (bif (!r1788.1) then
  some (false, ())
  else (andThen (F15v1 n (1 : Int) v1738) fun r1806 =>
  (andThen (F16 n (1 : Int) r1806.2.1) fun r1827 =>
  (bif (decide (r1827.1 < (0 : Int))) then
  some (false, ())
  else (bif (r1827.1 != r1806.1) then
  some (false, ())
  else (andThen (F13 n a0) fun r1830 =>
  (andThen (F8 n r1830.2.1) fun r1831 =>
  (andThen (F14 n (r1831.1, ()).1 r943.1) fun r1833 =>
  (bif (!r1833.1) then
  some (false, ())
  else (andThen (F16 n (1 : Int) r1827.2.1) fun r1835 =>
  (bif (decide (r1835.1 < (0 : Int))) then
  some (false, ())
  else (bif (r1835.1 != r1806.1) then
  some (false, ())
  else some (true, ())))))))))))))))))))))))))))
noncomputable def F5e (n : Nat) : Ent G := ⟨5, (.cons (.imm 4) .nil), [], .bool, [], fun x y => F5 n x.1⟩
theorem F5_eq (n : Nat) (x : ShL.den G (.cons (.imm 4) .nil)) (y : denO G []) : (F5e n).F x y = runFn prog G (ro G (tabOf (E29 n)) (frOf []) _) Go.Proofs.Try.f5 .no [(0, .fz)] (ShL.enc G (.cons (.imm 4) .nil) x) (encO G [] y) (decR .bool []) := by kernel_rfl
theorem F5_ok (n : Nat) : EntOK prog G (F5e n) :=
  ent_ok (fr := frOf []) (ann := .no) (frm := [(0, .fz)]) laws fnok (E29_ok n).tab (e := F5e n) (fn := Go.Proofs.Try.f5) (by kernel_rfl) (AllF.ofB (cd := F5c) (l := []) (by kernel_rfl) (by kernel_rfl) AllF.nil) (F5_eq n)
noncomputable def E30 (n : Nat) : List (Ent G) := F5e n :: E29 n
theorem E30_ok (n : Nat) : AllE prog G (E30 n) := AllE.cons (F5_ok n) (E29_ok n)
end Go.Proofs.Ytjanepkjjmcchaa.Am
