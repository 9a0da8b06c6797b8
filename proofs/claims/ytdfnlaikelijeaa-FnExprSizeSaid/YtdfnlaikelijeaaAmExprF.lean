/- The functions of the seat of expressions, printed. -/
import Derived.Test.YtdfnlaikelijeaaAmExprE
namespace Go.Proofs.Ytdfnlaikelijeaa.Am
open Go Go.Proofs.Try
set_option autoImplicit false
set_option linter.unusedVariables false
set_option maxRecDepth 100000
noncomputable def F14c : Code := bodyOf Go.Proofs.Try.f14
-- 53 loop.example/slowworm/spec.plainExpr
noncomputable def F53c : Code := bodyOf Go.Proofs.Try.f53
noncomputable def F53_0x0 : SSh := ⟨208, [(1, (.ptr 0 0)), (3, (.int .i64)), (25, (.int .i64)), (26, .bool)], [(.box 30 (.cons (.int .i64) (.cons .str (.cons (.imm 2) (.cons (.imm 3) .nil)))))]⟩
noncomputable def F53_0s : SSh := ⟨208, [(1, (.ptr 0 0)), (3, (.int .i64)), (25, (.int .i64))], [(.box 30 (.cons (.int .i64) (.cons .str (.cons (.imm 2) (.cons (.imm 3) .nil)))))]⟩
noncomputable def F53_0 {R : Type} (n : Nat) (x1468 : Int) (x1469 : Int) (x1470 : Int) (x1471 : ByteArray) (x1472 : List ByteArray) (x1473 : List Ex) (k0 : Int → Int → Bool → Int → ByteArray → List ByteArray → List Ex → Option R) : Option R :=
  (bif (x1469 == (1 : Int)) then
  (k0 x1468 x1469 true x1470 x1471 x1472 x1473)
  else (bif (x1469 == (2 : Int)) then
  (k0 x1468 x1469 true x1470 x1471 x1472 x1473)
  else (k0 x1468 x1469 (x1469 == (3 : Int)) x1470 x1471 x1472 x1473)))
noncomputable def F53_0z (n : Nat) : Sm G := inZ G 0 ⟨[1, 3, 25], []⟩ F53_0s fun R x K => F53_0 n x.1.2.1 x.1.2.2.1 x.2.1.1 x.2.1.2.1 x.2.1.2.2.1 x.2.1.2.2.2.1 (fun u0 u1 u2 u3 u4 u5 u6 => K .normal (SSh.enc G F53_0x0 (((), (u0, (u1, (u2, ())))), ((u3, (u4, (u5, (u6, ())))), ()))))
theorem F53_0_eq (n : Nat) (R : Type) (x : SSh.den G F53_0s) (K : AE → St G → Option R) :
  F53_0 n x.1.2.1 x.1.2.2.1 x.2.1.1 x.2.1.2.1 x.2.1.2.2.1 x.2.1.2.2.2.1 (fun u0 u1 u2 u3 u4 u5 u6 => K .normal (SSh.enc G F53_0x0 (((), (u0, (u1, (u2, ())))), ((u3, (u4, (u5, (u6, ())))), ())))) = exec prog G (ro G (tabOf (E37 n)) (frOf []) R) 0 (codeAt F53c [1, 1, 1, 1, 0, 1, 0, 0]) .no (SSh.enc G F53_0s x) (kNrm G (ro G (tabOf (E37 n)) (frOf []) R) 0 ⟨⟨[1, 3, 25, 26], []⟩, ⟨[2], []⟩, [(0, ⟨[], []⟩)]⟩ K) := by kernel_rfl
theorem F53_0_ok (n : Nat) : FragOK prog G 0 (codeAt F53c [1, 1, 1, 1, 0, 1, 0, 0]) (F53_0z n) :=
  frag_plain laws fnok (E37_ok n).tab (AllF.of (l := []) (by kernel_rfl) AllF.nil) (F53_0_eq n)
-- 66 loop.example/slowworm/spec.validInt
noncomputable def F66c : Code := bodyOf Go.Proofs.Try.f66
noncomputable def F66_0x0 : SSh := ⟨44, [(0, .str), (3, .str)], []⟩
noncomputable def F66_0s : SSh := ⟨44, [(0, .str), (3, .str)], []⟩
noncomputable def F66_0 {R : Type} (n : Nat) (x1489 : ByteArray) (x1490 : ByteArray) (k0 : ByteArray → ByteArray → Option R) : Option R :=
  (bif (decide (((x1490.size) : Int) > (0 : Int))) then
  (bif (decide ((0 : Int) < ((x1490.size) : Int))) then
  (bif ((strOf x1490 (0 : Nat)) == (45 : Int)) then
  (bif (decide ((1 : Int) ≤ ((x1490.size) : Int))) then
  (bif (decide (((x1490.size) : Int) ≤ ((x1490.size) : Int))) then
  (k0 x1489 (x1490.extract (1 : Nat) (((x1490.size) : Int).toNat)))
  else none)
  else none)
  else (k0 x1489 x1490))
  else none)
  else (k0 x1489 x1490))
noncomputable def F66_0z (n : Nat) : Sm G := inZ G 0 ⟨[0, 3], []⟩ F66_0s fun R x K => F66_0 n x.1.1 x.1.2.1 (fun u0 u1 => K .normal (SSh.enc G F66_0x0 ((u0, (u1, ())), ())))
theorem F66_0_eq (n : Nat) (R : Type) (x : SSh.den G F66_0s) (K : AE → St G → Option R) :
  F66_0 n x.1.1 x.1.2.1 (fun u0 u1 => K .normal (SSh.enc G F66_0x0 ((u0, (u1, ())), ()))) = exec prog G (ro G (tabOf (E37 n)) (frOf []) R) 0 (codeAt F66c [1, 1, 0]) .no (SSh.enc G F66_0s x) (kNrm G (ro G (tabOf (E37 n)) (frOf []) R) 0 ⟨⟨[0, 3], []⟩, ⟨[2], []⟩, []⟩ K) := by kernel_rfl
theorem F66_0_ok (n : Nat) : FragOK prog G 0 (codeAt F66c [1, 1, 0]) (F66_0z n) :=
  frag_plain laws fnok (E37_ok n).tab (AllF.of (l := []) (by kernel_rfl) AllF.nil) (F66_0_eq n)
noncomputable def F66_1x0 : SSh := ⟨44, [(2, .bool)], []⟩
noncomputable def F66_1x1 : SSh := ⟨44, [(0, .str), (3, .str)], []⟩
noncomputable def F66_1s : SSh := ⟨44, [(0, .str), (3, .str), (4, (.int .i64))], []⟩
noncomputable def F66_1_step {R : Type} (n : Nat) (k0 : Bool → Option R) (k1 : ByteArray → ByteArray → Option R) (rec : ByteArray → ByteArray → Int → Option R) (x1498 : ByteArray) (x1499 : ByteArray) (x1500 : Int) : Option R :=
  (bif (decide (x1500 < ((x1499.size) : Int))) then
  (bif (decide ((0 : Int) ≤ x1500)) then
  (bif (decide (x1500 < ((x1499.size) : Int))) then
  (bif (decide ((strOf x1499 (x1500.toNat)) < (48 : Int))) then
  (k0 false)
  else (bif (decide ((0 : Int) ≤ x1500)) then
  (bif (decide (x1500 < ((x1499.size) : Int))) then
  (bif (decide ((strOf x1499 (x1500.toNat)) > (57 : Int))) then
  (k0 false)
  else (rec x1498 x1499 (IntKind.wrap .i64 (x1500 + (1 : Int)))))
  else none)
  else none))
  else none)
  else none)
  else (k1 x1498 x1499))
noncomputable def F66_1_it {R : Type} (n : Nat) (k0 : Bool → Option R) (k1 : ByteArray → ByteArray → Option R) : Nat → ByteArray → ByteArray → Int → Option R
  | 0, _, _, _ => none
  | k + 1, x1498, x1499, x1500 => F66_1_step n k0 k1 (F66_1_it n k0 k1 k) x1498 x1499 x1500
noncomputable def F66_1 {R : Type} (n : Nat) (x1498 : ByteArray) (x1499 : ByteArray) (x1500 : Int) (k0 : Bool → Option R) (k1 : ByteArray → ByteArray → Option R) : Option R := F66_1_it n k0 k1 n x1498 x1499 x1500
noncomputable def F66_1z (n : Nat) : Sm G := inZ G 0 ⟨[0, 3, 4], []⟩ F66_1s fun R x K => F66_1_it n (fun u0 => K .ret (SSh.enc G F66_1x0 ((u0, ()), ()))) (fun u0 u1 => K (.exit 0) (SSh.enc G F66_1x1 ((u0, (u1, ())), ()))) n x.1.1 x.1.2.1 x.1.2.2.1
theorem F66_1_eq (n : Nat) (R : Type) (rec : SSh.den G F66_1s → Option R) (x : SSh.den G F66_1s) (K : AE → St G → Option R) :
  F66_1_step n (fun u0 => K .ret (SSh.enc G F66_1x0 ((u0, ()), ()))) (fun u0 u1 => K (.exit 0) (SSh.enc G F66_1x1 ((u0, (u1, ())), ()))) (fun x1498 x1499 x1500 => rec ((x1498, (x1499, (x1500, ()))), ())) x.1.1 x.1.2.1 x.1.2.2.1 = exec prog G (ro G (tabOf (E37 n)) (frOf [F66_0z n]) R) 0 (codeAt F66c [1, 1, 1, 0, 1, 0, 0]) .no (SSh.enc G F66_1s x) (kLoop G (ro G (tabOf (E37 n)) (frOf [F66_0z n]) R) 0 ⟨[0, 3, 4], []⟩ F66_1s ⟨⟨[0, 3], []⟩, ⟨[2], []⟩, [(0, ⟨[0, 3], []⟩)]⟩ rec K) := by kernel_rfl
theorem F66_1_ok (n : Nat) : FragOK prog G 0 (codeAt F66c [1, 1, 1, 0, 1, 0]) (F66_1z n) :=
  frag_loop (Z := fun R k (x : SSh.den G F66_1s) K => F66_1_it n (fun u0 => K .ret (SSh.enc G F66_1x0 ((u0, ()), ()))) (fun u0 u1 => K (.exit 0) (SSh.enc G F66_1x1 ((u0, (u1, ())), ()))) k x.1.1 x.1.2.1 x.1.2.2.1) laws fnok (E37_ok n).tab (AllF.of (l := []) (by kernel_rfl) AllF.nil) (fun _ _ _ => rfl) (fun R k y K => F66_1_eq n R (fun (x : SSh.den G F66_1s) => F66_1_it n (fun u0 => K .ret (SSh.enc G F66_1x0 ((u0, ()), ()))) (fun u0 u1 => K (.exit 0) (SSh.enc G F66_1x1 ((u0, (u1, ())), ()))) k x.1.1 x.1.2.1 x.1.2.2.1) y K) n
-- 70 loop.example/slowworm/spec.inRange
noncomputable def F70c : Code := bodyOf Go.Proofs.Try.f70
noncomputable def F70 (n : Nat) (a1512 : Int) (a1513 : Int) (a1514 : Int) : Option (Bool × Unit) :=
  (bif (decide (a1512 ≥ a1513)) then
  some ((decide (a1512 ≤ a1514)), ())
  else some (false, ()))
noncomputable def F70e (n : Nat) : Ent G := ⟨70, (.cons (.int .i64) (.cons (.int .i64) (.cons (.int .i64) .nil))), [], .bool, [], fun x y => F70 n x.1 x.2.1 x.2.2.1⟩
theorem F70_eq (n : Nat) (x : ShL.den G (.cons (.int .i64) (.cons (.int .i64) (.cons (.int .i64) .nil)))) (y : denO G []) : (F70e n).F x y = runFn prog G (ro G (tabOf (E37 n)) (frOf []) _) Go.Proofs.Try.f70 .no [(0, .fz)] (ShL.enc G (.cons (.int .i64) (.cons (.int .i64) (.cons (.int .i64) .nil))) x) (encO G [] y) (decR .bool []) := by kernel_rfl
theorem F70_ok (n : Nat) : EntOK prog G (F70e n) :=
  ent_ok (fr := frOf []) (ann := .no) (frm := [(0, .fz)]) laws fnok (E37_ok n).tab (e := F70e n) (fn := Go.Proofs.Try.f70) (by kernel_rfl) (AllF.ofB (cd := F70c) (l := []) (by kernel_rfl) (by kernel_rfl) AllF.nil) (F70_eq n)
noncomputable def E38 (n : Nat) : List (Ent G) := F70e n :: E37 n
theorem E38_ok (n : Nat) : AllE prog G (E38 n) := AllE.cons (F70_ok n) (E37_ok n)
noncomputable def F66 (n : Nat) (a1488 : ByteArray) : Option (Bool × Unit) :=
  (F66_0 n a1488 a1488 (fun z1496 z1497 =>
  (F66_1 n z1496 z1497 (0 : Int) (fun z1508 =>
  some (z1508, ())) (fun z1509 z1510 =>
  (andThen (F70 n ((z1510.size) : Int) (1 : Int) (40 : Int)) fun r1517 =>
  (bif r1517.1 then
  (bif (decide ((0 : Int) < ((z1510.size) : Int))) then
  (bif ((strOf z1510 (0 : Nat)) != (48 : Int)) then
  some (true, ())
  else some (((z1509.toList) == (({ data := #[48] } : ByteArray).toList)), ()))
  else none)
  else some (false, ())))))))
noncomputable def F66e (n : Nat) : Ent G := ⟨66, (.cons .str .nil), [], .bool, [], fun x y => F66 n x.1⟩
theorem F66_eq (n : Nat) (x : ShL.den G (.cons .str .nil)) (y : denO G []) : (F66e n).F x y = runFn prog G (ro G (tabOf (E38 n)) (frOf [F66_0z n, F66_1z n]) _) Go.Proofs.Try.f66 (.nd .no (.nd .no (.nd (.use 0) (.nd (.nd .no (.nd (.use 1) .no)) .no)))) [(0, .fz)] (ShL.enc G (.cons .str .nil) x) (encO G [] y) (decR .bool []) := by kernel_rfl
theorem F66_ok (n : Nat) : EntOK prog G (F66e n) :=
  ent_ok (fr := frOf [F66_0z n, F66_1z n]) (ann := (.nd .no (.nd .no (.nd (.use 0) (.nd (.nd .no (.nd (.use 1) .no)) .no))))) (frm := [(0, .fz)]) laws fnok (E38_ok n).tab (e := F66e n) (fn := Go.Proofs.Try.f66) (by kernel_rfl) (AllF.ofB (cd := F66c) (l := [(0, codeAt F66c [1, 1, 0]), (1, codeAt F66c [1, 1, 1, 0, 1, 0])]) (by kernel_rfl) (by kernel_rfl) (AllF.cons (F66_0_ok n) (AllF.cons (F66_1_ok n) AllF.nil))) (F66_eq n)
noncomputable def E39 (n : Nat) : List (Ent G) := F66e n :: E38 n
theorem E39_ok (n : Nat) : AllE prog G (E39 n) := AllE.cons (F66_ok n) (E38_ok n)
-- 67 loop.example/slowworm/spec.validText
noncomputable def F67c : Code := bodyOf Go.Proofs.Try.f67
noncomputable def F67 (n : Nat) (a1526 : ByteArray) : Option (Bool × Unit) :=
  some ((decide (((a1526.size) : Int) ≤ (400 : Int))), ())
noncomputable def F67e (n : Nat) : Ent G := ⟨67, (.cons .str .nil), [], .bool, [], fun x y => F67 n x.1⟩
theorem F67_eq (n : Nat) (x : ShL.den G (.cons .str .nil)) (y : denO G []) : (F67e n).F x y = runFn prog G (ro G (tabOf (E39 n)) (frOf []) _) Go.Proofs.Try.f67 .no [(0, .fz)] (ShL.enc G (.cons .str .nil) x) (encO G [] y) (decR .bool []) := by kernel_rfl
theorem F67_ok (n : Nat) : EntOK prog G (F67e n) :=
  ent_ok (fr := frOf []) (ann := .no) (frm := [(0, .fz)]) laws fnok (E39_ok n).tab (e := F67e n) (fn := Go.Proofs.Try.f67) (by kernel_rfl) (AllF.ofB (cd := F67c) (l := []) (by kernel_rfl) (by kernel_rfl) AllF.nil) (F67_eq n)
noncomputable def E40 (n : Nat) : List (Ent G) := F67e n :: E39 n
theorem E40_ok (n : Nat) : AllE prog G (E40 n) := AllE.cons (F67_ok n) (E39_ok n)
-- 68 loop.example/slowworm/spec.validName
noncomputable def F68c : Code := bodyOf Go.Proofs.Try.f68
-- 85 loop.example/slowworm/spec.letter
noncomputable def F85c : Code := bodyOf Go.Proofs.Try.f85
noncomputable def F85 (n : Nat) (a1538 : Int) : Option (Bool × Unit) :=
  (bif (decide (a1538 ≥ (97 : Int))) then
  (bif (decide (a1538 ≤ (122 : Int))) then
  some (true, ())
  else (bif (decide (a1538 ≥ (65 : Int))) then
  (bif (decide (a1538 ≤ (90 : Int))) then
  some (true, ())
  else some ((a1538 == (95 : Int)), ()))
  else some ((a1538 == (95 : Int)), ())))
  else (bif (decide (a1538 ≥ (65 : Int))) then
  (bif (decide (a1538 ≤ (90 : Int))) then
  some (true, ())
  else some ((a1538 == (95 : Int)), ()))
  else some ((a1538 == (95 : Int)), ())))
noncomputable def F85e (n : Nat) : Ent G := ⟨85, (.cons (.int .u8) .nil), [], .bool, [], fun x y => F85 n x.1⟩
theorem F85_eq (n : Nat) (x : ShL.den G (.cons (.int .u8) .nil)) (y : denO G []) : (F85e n).F x y = runFn prog G (ro G (tabOf (E40 n)) (frOf []) _) Go.Proofs.Try.f85 .no [(0, .fz)] (ShL.enc G (.cons (.int .u8) .nil) x) (encO G [] y) (decR .bool []) := by kernel_rfl
theorem F85_ok (n : Nat) : EntOK prog G (F85e n) :=
  ent_ok (fr := frOf []) (ann := .no) (frm := [(0, .fz)]) laws fnok (E40_ok n).tab (e := F85e n) (fn := Go.Proofs.Try.f85) (by kernel_rfl) (AllF.ofB (cd := F85c) (l := []) (by kernel_rfl) (by kernel_rfl) AllF.nil) (F85_eq n)
noncomputable def E41 (n : Nat) : List (Ent G) := F85e n :: E40 n
theorem E41_ok (n : Nat) : AllE prog G (E41 n) := AllE.cons (F85_ok n) (E40_ok n)
-- 86 loop.example/slowworm/spec.digit
noncomputable def F86c : Code := bodyOf Go.Proofs.Try.f86
noncomputable def F86 (n : Nat) (a1553 : Int) : Option (Bool × Unit) :=
  (bif (decide (a1553 ≥ (48 : Int))) then
  some ((decide (a1553 ≤ (57 : Int))), ())
  else some (false, ()))
noncomputable def F86e (n : Nat) : Ent G := ⟨86, (.cons (.int .u8) .nil), [], .bool, [], fun x y => F86 n x.1⟩
theorem F86_eq (n : Nat) (x : ShL.den G (.cons (.int .u8) .nil)) (y : denO G []) : (F86e n).F x y = runFn prog G (ro G (tabOf (E41 n)) (frOf []) _) Go.Proofs.Try.f86 .no [(0, .fz)] (ShL.enc G (.cons (.int .u8) .nil) x) (encO G [] y) (decR .bool []) := by kernel_rfl
theorem F86_ok (n : Nat) : EntOK prog G (F86e n) :=
  ent_ok (fr := frOf []) (ann := .no) (frm := [(0, .fz)]) laws fnok (E41_ok n).tab (e := F86e n) (fn := Go.Proofs.Try.f86) (by kernel_rfl) (AllF.ofB (cd := F86c) (l := []) (by kernel_rfl) (by kernel_rfl) AllF.nil) (F86_eq n)
noncomputable def E42 (n : Nat) : List (Ent G) := F86e n :: E41 n
theorem E42_ok (n : Nat) : AllE prog G (E42 n) := AllE.cons (F86_ok n) (E41_ok n)
noncomputable def F68_0x0 : SSh := ⟨34, [(2, .bool)], []⟩
noncomputable def F68_0x1 : SSh := ⟨34, [(0, .str)], []⟩
noncomputable def F68_0s : SSh := ⟨34, [(0, .str), (3, (.int .i64))], []⟩
noncomputable def F68_0_step {R : Type} (n : Nat) (k0 : Bool → Option R) (k1 : ByteArray → Option R) (rec : ByteArray → Int → Option R) (x1533 : ByteArray) (x1534 : Int) : Option R :=
  (bif (decide (x1534 < ((x1533.size) : Int))) then
  (bif (decide ((0 : Int) ≤ x1534)) then
  (bif (decide (x1534 < ((x1533.size) : Int))) then
  (andThen (F85 n (strOf x1533 (x1534.toNat))) fun r1549 =>
  (bif (!r1549.1) then
  (bif (x1534 == (0 : Int)) then
  (k0 false)
  else (bif (decide ((0 : Int) ≤ x1534)) then
  (bif (decide (x1534 < ((x1533.size) : Int))) then
  (andThen (F86 n (strOf x1533 (x1534.toNat))) fun r1556 =>
  (bif (!r1556.1) then
  (k0 false)
  else (rec x1533 (IntKind.wrap .i64 (x1534 + (1 : Int))))))
  else none)
  else none))
  else (rec x1533 (IntKind.wrap .i64 (x1534 + (1 : Int))))))
  else none)
  else none)
  else (k1 x1533))
noncomputable def F68_0_it {R : Type} (n : Nat) (k0 : Bool → Option R) (k1 : ByteArray → Option R) : Nat → ByteArray → Int → Option R
  | 0, _, _ => none
  | k + 1, x1533, x1534 => F68_0_step n k0 k1 (F68_0_it n k0 k1 k) x1533 x1534
noncomputable def F68_0 {R : Type} (n : Nat) (x1533 : ByteArray) (x1534 : Int) (k0 : Bool → Option R) (k1 : ByteArray → Option R) : Option R := F68_0_it n k0 k1 n x1533 x1534
noncomputable def F68_0z (n : Nat) : Sm G := inZ G 0 ⟨[0, 3], []⟩ F68_0s fun R x K => F68_0_it n (fun u0 => K .ret (SSh.enc G F68_0x0 ((u0, ()), ()))) (fun u0 => K (.exit 0) (SSh.enc G F68_0x1 ((u0, ()), ()))) n x.1.1 x.1.2.1
theorem F68_0_eq (n : Nat) (R : Type) (rec : SSh.den G F68_0s → Option R) (x : SSh.den G F68_0s) (K : AE → St G → Option R) :
  F68_0_step n (fun u0 => K .ret (SSh.enc G F68_0x0 ((u0, ()), ()))) (fun u0 => K (.exit 0) (SSh.enc G F68_0x1 ((u0, ()), ()))) (fun x1533 x1534 => rec ((x1533, (x1534, ())), ())) x.1.1 x.1.2.1 = exec prog G (ro G (tabOf (E42 n)) (frOf []) R) 0 (codeAt F68c [1, 0, 1, 0, 0]) .no (SSh.enc G F68_0s x) (kLoop G (ro G (tabOf (E42 n)) (frOf []) R) 0 ⟨[0, 3], []⟩ F68_0s ⟨⟨[0], []⟩, ⟨[2], []⟩, [(0, ⟨[0], []⟩)]⟩ rec K) := by kernel_rfl
theorem F68_0_ok (n : Nat) : FragOK prog G 0 (codeAt F68c [1, 0, 1, 0]) (F68_0z n) :=
  frag_loop (Z := fun R k (x : SSh.den G F68_0s) K => F68_0_it n (fun u0 => K .ret (SSh.enc G F68_0x0 ((u0, ()), ()))) (fun u0 => K (.exit 0) (SSh.enc G F68_0x1 ((u0, ()), ()))) k x.1.1 x.1.2.1) laws fnok (E42_ok n).tab (AllF.of (l := []) (by kernel_rfl) AllF.nil) (fun _ _ _ => rfl) (fun R k y K => F68_0_eq n R (fun (x : SSh.den G F68_0s) => F68_0_it n (fun u0 => K .ret (SSh.enc G F68_0x0 ((u0, ()), ()))) (fun u0 => K (.exit 0) (SSh.enc G F68_0x1 ((u0, ()), ()))) k x.1.1 x.1.2.1) y K) n
-- 87 loop.example/slowworm/spec.isKeyword
noncomputable def F87c : Code := bodyOf Go.Proofs.Try.f87
-- 90 loop.example/slowworm/spec.keywords
noncomputable def F90c : Code := bodyOf Go.Proofs.Try.f90
noncomputable def F90 (n : Nat)  : Option (List ByteArray × Unit) :=
  some ((({ data := #[78, 111, 110, 101] } : ByteArray) :: (({ data := #[84, 114, 117, 101] } : ByteArray) :: (({ data := #[70, 97, 108, 115, 101] } : ByteArray) :: (({ data := #[97, 110, 100] } : ByteArray) :: (({ data := #[111, 114] } : ByteArray) :: (({ data := #[110, 111, 116] } : ByteArray) :: (({ data := #[105, 110] } : ByteArray) :: (({ data := #[105, 115] } : ByteArray) :: (({ data := #[105, 102] } : ByteArray) :: (({ data := #[101, 108, 105, 102] } : ByteArray) :: (({ data := #[101, 108, 115, 101] } : ByteArray) :: (({ data := #[119, 104, 105, 108, 101] } : ByteArray) :: (({ data := #[102, 111, 114] } : ByteArray) :: (({ data := #[98, 114, 101, 97, 107] } : ByteArray) :: (({ data := #[99, 111, 110, 116, 105, 110, 117, 101] } : ByteArray) :: (({ data := #[112, 97, 115, 115] } : ByteArray) :: (({ data := #[100, 101, 102] } : ByteArray) :: (({ data := #[114, 101, 116, 117, 114, 110] } : ByteArray) :: (({ data := #[108, 97, 109, 98, 100, 97] } : ByteArray) :: (({ data := #[99, 108, 97, 115, 115] } : ByteArray) :: (({ data := #[116, 114, 121] } : ByteArray) :: (({ data := #[101, 120, 99, 101, 112, 116] } : ByteArray) :: (({ data := #[102, 105, 110, 97, 108, 108, 121] } : ByteArray) :: (({ data := #[114, 97, 105, 115, 101] } : ByteArray) :: (({ data := #[97, 115] } : ByteArray) :: (({ data := #[103, 108, 111, 98, 97, 108] } : ByteArray) :: (({ data := #[110, 111, 110, 108, 111, 99, 97, 108] } : ByteArray) :: (({ data := #[121, 105, 101, 108, 100] } : ByteArray) :: (({ data := #[105, 109, 112, 111, 114, 116] } : ByteArray) :: (({ data := #[100, 101, 108] } : ByteArray) :: (({ data := #[97, 115, 115, 101, 114, 116] } : ByteArray) :: []))))))))))))))))))))))))))))))), ())
noncomputable def F90e (n : Nat) : Ent G := ⟨90, .nil, [], (.imm 2), [], fun x y => F90 n⟩
theorem F90_eq (n : Nat) (x : ShL.den G .nil) (y : denO G []) : (F90e n).F x y = runFn prog G (ro G (tabOf (E42 n)) (frOf []) _) Go.Proofs.Try.f90 .no [(0, .fz)] (ShL.enc G .nil x) (encO G [] y) (decR (.imm 2) []) := by kernel_rfl
theorem F90_ok (n : Nat) : EntOK prog G (F90e n) :=
  ent_ok (fr := frOf []) (ann := .no) (frm := [(0, .fz)]) laws fnok (E42_ok n).tab (e := F90e n) (fn := Go.Proofs.Try.f90) (by kernel_rfl) (AllF.ofB (cd := F90c) (l := []) (by kernel_rfl) (by kernel_rfl) AllF.nil) (F90_eq n)
noncomputable def E43 (n : Nat) : List (Ent G) := F90e n :: E42 n
theorem E43_ok (n : Nat) : AllE prog G (E43 n) := AllE.cons (F90_ok n) (E42_ok n)
-- 52 loop.example/slowworm/spec.isOne
noncomputable def F52c : Code := bodyOf Go.Proofs.Try.f52
noncomputable def F52_0x0 : SSh := ⟨18, [(4, .bool)], []⟩
noncomputable def F52_0x1 : SSh := ⟨18, [], []⟩
noncomputable def F52_0s : SSh := ⟨18, [(0, (.imm 2)), (1, .str), (5, (.int .i64))], []⟩
noncomputable def F52_0_step {R : Type} (n : Nat) (k0 : Bool → Option R) (k1 : Option R) (rec : List ByteArray → ByteArray → Int → Option R) (x1569 : List ByteArray) (x1570 : ByteArray) (x1571 : Int) : Option R :=
  (bif (decide (x1571 < ((x1569.length) : Int))) then
  (bif (decide ((0 : Int) ≤ x1571)) then
  (bif (decide (x1571 < ((x1569.length) : Int))) then
  (bif (((x1569.getD (x1571.toNat) ({ data := #[] } : ByteArray)).toList) == (x1570.toList)) then
  (k0 true)
  else (rec x1569 x1570 (IntKind.wrap .i64 (x1571 + (1 : Int)))))
  else none)
  else none)
  else k1)
noncomputable def F52_0_it {R : Type} (n : Nat) (k0 : Bool → Option R) (k1 : Option R) : Nat → List ByteArray → ByteArray → Int → Option R
  | 0, _, _, _ => none
  | k + 1, x1569, x1570, x1571 => F52_0_step n k0 k1 (F52_0_it n k0 k1 k) x1569 x1570 x1571
noncomputable def F52_0 {R : Type} (n : Nat) (x1569 : List ByteArray) (x1570 : ByteArray) (x1571 : Int) (k0 : Bool → Option R) (k1 : Option R) : Option R := F52_0_it n k0 k1 n x1569 x1570 x1571
noncomputable def F52_0z (n : Nat) : Sm G := inZ G 0 ⟨[0, 1, 5], []⟩ F52_0s fun R x K => F52_0_it n (fun u0 => K .ret (SSh.enc G F52_0x0 ((u0, ()), ()))) (K (.exit 0) (SSh.enc G F52_0x1 ((), ()))) n x.1.1 x.1.2.1 x.1.2.2.1
theorem F52_0_eq (n : Nat) (R : Type) (rec : SSh.den G F52_0s → Option R) (x : SSh.den G F52_0s) (K : AE → St G → Option R) :
  F52_0_step n (fun u0 => K .ret (SSh.enc G F52_0x0 ((u0, ()), ()))) (K (.exit 0) (SSh.enc G F52_0x1 ((), ()))) (fun x1569 x1570 x1571 => rec ((x1569, (x1570, (x1571, ()))), ())) x.1.1 x.1.2.1 x.1.2.2.1 = exec prog G (ro G (tabOf (E43 n)) (frOf []) R) 0 (codeAt F52c [1, 0, 1, 0, 0]) .no (SSh.enc G F52_0s x) (kLoop G (ro G (tabOf (E43 n)) (frOf []) R) 0 ⟨[0, 1, 5], []⟩ F52_0s ⟨⟨[], []⟩, ⟨[4], []⟩, [(0, ⟨[], []⟩)]⟩ rec K) := by kernel_rfl
theorem F52_0_ok (n : Nat) : FragOK prog G 0 (codeAt F52c [1, 0, 1, 0]) (F52_0z n) :=
  frag_loop (Z := fun R k (x : SSh.den G F52_0s) K => F52_0_it n (fun u0 => K .ret (SSh.enc G F52_0x0 ((u0, ()), ()))) (K (.exit 0) (SSh.enc G F52_0x1 ((), ()))) k x.1.1 x.1.2.1 x.1.2.2.1) laws fnok (E43_ok n).tab (AllF.of (l := []) (by kernel_rfl) AllF.nil) (fun _ _ _ => rfl) (fun R k y K => F52_0_eq n R (fun (x : SSh.den G F52_0s) => F52_0_it n (fun u0 => K .ret (SSh.enc G F52_0x0 ((u0, ()), ()))) (K (.exit 0) (SSh.enc G F52_0x1 ((), ()))) k x.1.1 x.1.2.1 x.1.2.2.1) y K) n
noncomputable def F52 (n : Nat) (a1567 : List ByteArray) (a1568 : ByteArray) : Option (Bool × Unit) :=
  (F52_0 n a1567 a1568 (0 : Int) (fun z1578 =>
  some (z1578, ())) (
  some (false, ())))
noncomputable def F52e (n : Nat) : Ent G := ⟨52, (.cons (.imm 2) (.cons .str .nil)), [], .bool, [], fun x y => F52 n x.1 x.2.1⟩
theorem F52_eq (n : Nat) (x : ShL.den G (.cons (.imm 2) (.cons .str .nil))) (y : denO G []) : (F52e n).F x y = runFn prog G (ro G (tabOf (E43 n)) (frOf [F52_0z n]) _) Go.Proofs.Try.f52 (.nd .no (.nd (.nd .no (.nd (.use 0) .no)) .no)) [(0, .fz)] (ShL.enc G (.cons (.imm 2) (.cons .str .nil)) x) (encO G [] y) (decR .bool []) := by kernel_rfl
theorem F52_ok (n : Nat) : EntOK prog G (F52e n) :=
  ent_ok (fr := frOf [F52_0z n]) (ann := (.nd .no (.nd (.nd .no (.nd (.use 0) .no)) .no))) (frm := [(0, .fz)]) laws fnok (E43_ok n).tab (e := F52e n) (fn := Go.Proofs.Try.f52) (by kernel_rfl) (AllF.ofB (cd := F52c) (l := [(0, codeAt F52c [1, 0, 1, 0])]) (by kernel_rfl) (by kernel_rfl) (AllF.cons (F52_0_ok n) AllF.nil)) (F52_eq n)
noncomputable def E44 (n : Nat) : List (Ent G) := F52e n :: E43 n
theorem E44_ok (n : Nat) : AllE prog G (E44 n) := AllE.cons (F52_ok n) (E43_ok n)
noncomputable def F87 (n : Nat) (a1564 : ByteArray) : Option (Bool × Unit) :=
  (andThen (F90 n) fun r1566 =>
  (andThen (F52 n r1566.1 a1564) fun r1579 =>
  some (r1579.1, ())))
noncomputable def F87e (n : Nat) : Ent G := ⟨87, (.cons .str .nil), [], .bool, [], fun x y => F87 n x.1⟩
theorem F87_eq (n : Nat) (x : ShL.den G (.cons .str .nil)) (y : denO G []) : (F87e n).F x y = runFn prog G (ro G (tabOf (E44 n)) (frOf []) _) Go.Proofs.Try.f87 .no [(0, .fz)] (ShL.enc G (.cons .str .nil) x) (encO G [] y) (decR .bool []) := by kernel_rfl
theorem F87_ok (n : Nat) : EntOK prog G (F87e n) :=
  ent_ok (fr := frOf []) (ann := .no) (frm := [(0, .fz)]) laws fnok (E44_ok n).tab (e := F87e n) (fn := Go.Proofs.Try.f87) (by kernel_rfl) (AllF.ofB (cd := F87c) (l := []) (by kernel_rfl) (by kernel_rfl) AllF.nil) (F87_eq n)
noncomputable def E45 (n : Nat) : List (Ent G) := F87e n :: E44 n
theorem E45_ok (n : Nat) : AllE prog G (E45 n) := AllE.cons (F87_ok n) (E44_ok n)
noncomputable def F68 (n : Nat) (a1532 : ByteArray) : Option (Bool × Unit) :=
  (F68_0 n a1532 (0 : Int) (fun z1560 =>
  some (z1560, ())) (fun z1561 =>
  (andThen (F70 n ((z1561.size) : Int) (1 : Int) (12 : Int)) fun r1563 =>
  (bif r1563.1 then
  (andThen (F87 n z1561) fun r1580 =>
  some ((!r1580.1), ()))
  else some (false, ())))))
noncomputable def F68e (n : Nat) : Ent G := ⟨68, (.cons .str .nil), [], .bool, [], fun x y => F68 n x.1⟩
theorem F68_eq (n : Nat) (x : ShL.den G (.cons .str .nil)) (y : denO G []) : (F68e n).F x y = runFn prog G (ro G (tabOf (E45 n)) (frOf [F68_0z n]) _) Go.Proofs.Try.f68 (.nd .no (.nd (.nd .no (.nd (.use 0) .no)) .no)) [(0, .fz)] (ShL.enc G (.cons .str .nil) x) (encO G [] y) (decR .bool []) := by kernel_rfl
theorem F68_ok (n : Nat) : EntOK prog G (F68e n) :=
  ent_ok (fr := frOf [F68_0z n]) (ann := (.nd .no (.nd (.nd .no (.nd (.use 0) .no)) .no))) (frm := [(0, .fz)]) laws fnok (E45_ok n).tab (e := F68e n) (fn := Go.Proofs.Try.f68) (by kernel_rfl) (AllF.ofB (cd := F68c) (l := [(0, codeAt F68c [1, 0, 1, 0])]) (by kernel_rfl) (by kernel_rfl) (AllF.cons (F68_0_ok n) AllF.nil)) (F68_eq n)
noncomputable def E46 (n : Nat) : List (Ent G) := F68e n :: E45 n
theorem E46_ok (n : Nat) : AllE prog G (E46 n) := AllE.cons (F68_ok n) (E45_ok n)
-- 69 loop.example/slowworm/spec.opLevel
noncomputable def F69c : Code := bodyOf Go.Proofs.Try.f69
noncomputable def F69 (n : Nat) (a1597 : ByteArray) : Option (Int × Unit) :=
  (andThen (F52 n (({ data := #[60] } : ByteArray) :: (({ data := #[60, 61] } : ByteArray) :: (({ data := #[62] } : ByteArray) :: (({ data := #[62, 61] } : ByteArray) :: (({ data := #[61, 61] } : ByteArray) :: (({ data := #[33, 61] } : ByteArray) :: (({ data := #[105, 110] } : ByteArray) :: (({ data := #[105, 115] } : ByteArray) :: [])))))))) a1597) fun r1599 =>
  (bif r1599.1 then
  some ((5 : Int), ())
  else (bif ((a1597.toList) == (({ data := #[43] } : ByteArray).toList)) then
  some ((6 : Int), ())
  else (bif ((a1597.toList) == (({ data := #[45] } : ByteArray).toList)) then
  some ((6 : Int), ())
  else (bif ((a1597.toList) == (({ data := #[42] } : ByteArray).toList)) then
  some ((7 : Int), ())
  else (bif ((a1597.toList) == (({ data := #[47, 47] } : ByteArray).toList)) then
  some ((7 : Int), ())
  else (bif ((a1597.toList) == (({ data := #[37] } : ByteArray).toList)) then
  some ((7 : Int), ())
  else (bif ((a1597.toList) == (({ data := #[42, 42] } : ByteArray).toList)) then
  some ((9 : Int), ())
  else some ((-1 : Int), ())))))))))
noncomputable def F69e (n : Nat) : Ent G := ⟨69, (.cons .str .nil), [], (.int .i64), [], fun x y => F69 n x.1⟩
theorem F69_eq (n : Nat) (x : ShL.den G (.cons .str .nil)) (y : denO G []) : (F69e n).F x y = runFn prog G (ro G (tabOf (E46 n)) (frOf []) _) Go.Proofs.Try.f69 .no [(0, .fz)] (ShL.enc G (.cons .str .nil) x) (encO G [] y) (decR (.int .i64) []) := by kernel_rfl
theorem F69_ok (n : Nat) : EntOK prog G (F69e n) :=
  ent_ok (fr := frOf []) (ann := .no) (frm := [(0, .fz)]) laws fnok (E46_ok n).tab (e := F69e n) (fn := Go.Proofs.Try.f69) (by kernel_rfl) (AllF.ofB (cd := F69c) (l := []) (by kernel_rfl) (by kernel_rfl) AllF.nil) (F69_eq n)
noncomputable def E47 (n : Nat) : List (Ent G) := F69e n :: E46 n
theorem E47_ok (n : Nat) : AllE prog G (E47 n) := AllE.cons (F69_ok n) (E46_ok n)
-- 71 loop.example/slowworm/spec.onceEach
noncomputable def F71c : Code := bodyOf Go.Proofs.Try.f71
noncomputable def F71_0x0 : SSh := ⟨26, [(2, .bool)], []⟩
noncomputable def F71_0x1 : SSh := ⟨26, [], []⟩
noncomputable def F71_0s : SSh := ⟨26, [(0, (.imm 2)), (3, (.int .i64))], []⟩
noncomputable def F71_0_step {R : Type} (n : Nat) (k0 : Bool → Option R) (k1 : Option R) (rec : List ByteArray → Int → Option R) (x1620 : List ByteArray) (x1621 : Int) : Option R :=
  (bif (decide (x1621 < ((x1620.length) : Int))) then
  (bif (decide ((0 : Int) ≤ x1621)) then
  (bif (decide (x1621 < ((x1620.length) : Int))) then
  (andThen (F68 n (x1620.getD (x1621.toNat) ({ data := #[] } : ByteArray))) fun r1626 =>
  (bif (!r1626.1) then
  (k0 false)
  else (bif (decide ((0 : Int) ≤ x1621)) then
  (bif (decide (x1621 ≤ ((x1620.length) : Int))) then
  (bif (decide ((0 : Int) ≤ x1621)) then
  (bif (decide (x1621 < ((x1620.length) : Int))) then
  (andThen (F52 n ((x1620.take (x1621.toNat)).drop (0 : Nat)) (x1620.getD (x1621.toNat) ({ data := #[] } : ByteArray))) fun r1631 =>
  (bif r1631.1 then
  (k0 false)
  else (rec x1620 (IntKind.wrap .i64 (x1621 + (1 : Int))))))
  else none)
  else none)
  else none)
  else none)))
  else none)
  else none)
  else k1)
noncomputable def F71_0_it {R : Type} (n : Nat) (k0 : Bool → Option R) (k1 : Option R) : Nat → List ByteArray → Int → Option R
  | 0, _, _ => none
  | k + 1, x1620, x1621 => F71_0_step n k0 k1 (F71_0_it n k0 k1 k) x1620 x1621
noncomputable def F71_0 {R : Type} (n : Nat) (x1620 : List ByteArray) (x1621 : Int) (k0 : Bool → Option R) (k1 : Option R) : Option R := F71_0_it n k0 k1 n x1620 x1621
noncomputable def F71_0z (n : Nat) : Sm G := inZ G 0 ⟨[0, 3], []⟩ F71_0s fun R x K => F71_0_it n (fun u0 => K .ret (SSh.enc G F71_0x0 ((u0, ()), ()))) (K (.exit 0) (SSh.enc G F71_0x1 ((), ()))) n x.1.1 x.1.2.1
theorem F71_0_eq (n : Nat) (R : Type) (rec : SSh.den G F71_0s → Option R) (x : SSh.den G F71_0s) (K : AE → St G → Option R) :
  F71_0_step n (fun u0 => K .ret (SSh.enc G F71_0x0 ((u0, ()), ()))) (K (.exit 0) (SSh.enc G F71_0x1 ((), ()))) (fun x1620 x1621 => rec ((x1620, (x1621, ())), ())) x.1.1 x.1.2.1 = exec prog G (ro G (tabOf (E47 n)) (frOf []) R) 0 (codeAt F71c [1, 0, 1, 0, 0]) .no (SSh.enc G F71_0s x) (kLoop G (ro G (tabOf (E47 n)) (frOf []) R) 0 ⟨[0, 3], []⟩ F71_0s ⟨⟨[], []⟩, ⟨[2], []⟩, [(0, ⟨[], []⟩)]⟩ rec K) := by kernel_rfl
theorem F71_0_ok (n : Nat) : FragOK prog G 0 (codeAt F71c [1, 0, 1, 0]) (F71_0z n) :=
  frag_loop (Z := fun R k (x : SSh.den G F71_0s) K => F71_0_it n (fun u0 => K .ret (SSh.enc G F71_0x0 ((u0, ()), ()))) (K (.exit 0) (SSh.enc G F71_0x1 ((), ()))) k x.1.1 x.1.2.1) laws fnok (E47_ok n).tab (AllF.of (l := []) (by kernel_rfl) AllF.nil) (fun _ _ _ => rfl) (fun R k y K => F71_0_eq n R (fun (x : SSh.den G F71_0s) => F71_0_it n (fun u0 => K .ret (SSh.enc G F71_0x0 ((u0, ()), ()))) (K (.exit 0) (SSh.enc G F71_0x1 ((), ()))) k x.1.1 x.1.2.1) y K) n
noncomputable def F71 (n : Nat) (a1619 : List ByteArray) : Option (Bool × Unit) :=
  (F71_0 n a1619 (0 : Int) (fun z1633 =>
  some (z1633, ())) (
  some (true, ())))
noncomputable def F71e (n : Nat) : Ent G := ⟨71, (.cons (.imm 2) .nil), [], .bool, [], fun x y => F71 n x.1⟩
theorem F71_eq (n : Nat) (x : ShL.den G (.cons (.imm 2) .nil)) (y : denO G []) : (F71e n).F x y = runFn prog G (ro G (tabOf (E47 n)) (frOf [F71_0z n]) _) Go.Proofs.Try.f71 (.nd .no (.nd (.nd .no (.nd (.use 0) .no)) .no)) [(0, .fz)] (ShL.enc G (.cons (.imm 2) .nil) x) (encO G [] y) (decR .bool []) := by kernel_rfl
theorem F71_ok (n : Nat) : EntOK prog G (F71e n) :=
  ent_ok (fr := frOf [F71_0z n]) (ann := (.nd .no (.nd (.nd .no (.nd (.use 0) .no)) .no))) (frm := [(0, .fz)]) laws fnok (E47_ok n).tab (e := F71e n) (fn := Go.Proofs.Try.f71) (by kernel_rfl) (AllF.ofB (cd := F71c) (l := [(0, codeAt F71c [1, 0, 1, 0])]) (by kernel_rfl) (by kernel_rfl) (AllF.cons (F71_0_ok n) AllF.nil)) (F71_eq n)
noncomputable def E48 (n : Nat) : List (Ent G) := F71e n :: E47 n
theorem E48_ok (n : Nat) : AllE prog G (E48 n) := AllE.cons (F71_ok n) (E47_ok n)
noncomputable def F53_1x0 : SSh := ⟨208, [(2, .bool)], []⟩
noncomputable def F53_1x1 : SSh := ⟨208, [], []⟩
noncomputable def F53_1s : SSh := ⟨208, [(1, (.ptr 0 0)), (3, (.int .i64))], [(.box 30 (.cons (.int .i64) (.cons .str (.cons (.imm 2) (.cons (.imm 3) .nil)))))]⟩
noncomputable def F53_1 {R : Type} (n : Nat) (x1463 : Int) (x1464 : Int) (x1465 : ByteArray) (x1466 : List ByteArray) (x1467 : List Ex) (k0 : Bool → Option R) (k1 : Option R) : Option R :=
  (F53_0 n x1463 x1464 x1464 x1465 x1466 x1467 (fun z1477 z1478 z1479 z1480 z1481 z1482 z1483 =>
  (bif z1479 then
  (bif (z1477 == (0 : Int)) then
  (k0 ((z1481.toList) == (({ data := #[] } : ByteArray).toList)))
  else (k0 false))
  else (bif (z1478 == (4 : Int)) then
  (bif (z1477 == (0 : Int)) then
  (andThen (F66 n z1481) fun r1521 =>
  (bif r1521.1 then
  (bif (decide ((0 : Int) < ((z1481.size) : Int))) then
  (k0 ((strOf z1481 (0 : Nat)) != (45 : Int)))
  else none)
  else (k0 false)))
  else (k0 false))
  else (bif (z1478 == (5 : Int)) then
  (bif (z1477 == (0 : Int)) then
  (andThen (F67 n z1481) fun r1529 =>
  (k0 r1529.1))
  else (k0 false))
  else (bif (z1478 == (6 : Int)) then
  (bif (z1477 == (0 : Int)) then
  (andThen (F68 n z1481) fun r1582 =>
  (k0 r1582.1))
  else (k0 false))
  else (bif (z1478 == (7 : Int)) then
  (bif (decide (z1477 ≤ (6 : Int))) then
  (k0 ((z1481.toList) == (({ data := #[] } : ByteArray).toList)))
  else (k0 false))
  else (bif (z1478 == (8 : Int)) then
  (bif (decide (z1477 ≤ (12 : Int))) then
  (bif ((z1477.tmod (2 : Int)) == (0 : Int)) then
  (k0 ((z1481.toList) == (({ data := #[] } : ByteArray).toList)))
  else (k0 false))
  else (k0 false))
  else (bif (z1478 == (9 : Int)) then
  (bif (z1477 == (1 : Int)) then
  (bif ((z1481.toList) == (({ data := #[45] } : ByteArray).toList)) then
  (k0 true)
  else (k0 ((z1481.toList) == (({ data := #[110, 111, 116] } : ByteArray).toList))))
  else (k0 false))
  else (bif (z1478 == (10 : Int)) then
  (bif (z1477 == (2 : Int)) then
  (andThen (F69 n z1481) fun r1606 =>
  (k0 (decide (r1606.1 ≥ (0 : Int)))))
  else (k0 false))
  else (bif (z1478 == (11 : Int)) then
  (bif (z1477 == (2 : Int)) then
  (bif ((z1481.toList) == (({ data := #[97, 110, 100] } : ByteArray).toList)) then
  (k0 true)
  else (k0 ((z1481.toList) == (({ data := #[111, 114] } : ByteArray).toList))))
  else (k0 false))
  else (bif (z1478 == (12 : Int)) then
  (bif (z1477 == (3 : Int)) then
  (k0 ((z1481.toList) == (({ data := #[] } : ByteArray).toList)))
  else (k0 false))
  else (bif (z1478 == (13 : Int)) then
  (andThen (F70 n z1477 (1 : Int) (7 : Int)) fun r1616 =>
  (bif r1616.1 then
  (bif (decide (((z1482.length) : Int) < z1477)) then
  (andThen (F71 n z1482) fun r1634 =>
  (bif r1634.1 then
  (k0 ((z1481.toList) == (({ data := #[] } : ByteArray).toList)))
  else (k0 false)))
  else (k0 false))
  else (k0 false)))
  else (bif (z1478 == (14 : Int)) then
  (bif (z1477 == (2 : Int)) then
  (k0 ((z1481.toList) == (({ data := #[] } : ByteArray).toList)))
  else (k0 false))
  else (bif (z1478 == (15 : Int)) then
  (bif (z1477 == (1 : Int)) then
  (andThen (F68 n z1481) fun r1641 =>
  (k0 r1641.1))
  else (k0 false))
  else (bif (z1478 == (16 : Int)) then
  (bif (z1477 == (1 : Int)) then
  (bif (decide (((z1482.length) : Int) ≤ (6 : Int))) then
  (andThen (F71 n z1482) fun r1646 =>
  (bif r1646.1 then
  (k0 ((z1481.toList) == (({ data := #[] } : ByteArray).toList)))
  else (k0 false)))
  else (k0 false))
  else (k0 false))
  else (bif (z1478 == (17 : Int)) then
  (bif (z1477 == (1 : Int)) then
  (k0 ((z1481.toList) == (({ data := #[] } : ByteArray).toList)))
  else (k0 false))
  else k1)))))))))))))))))
noncomputable def F53_1z (n : Nat) : Sm G := inZ G 0 ⟨[1, 3], []⟩ F53_1s fun R x K => F53_1 n x.1.2.1 x.2.1.1 x.2.1.2.1 x.2.1.2.2.1 x.2.1.2.2.2.1 (fun u0 => K .ret (SSh.enc G F53_1x0 ((u0, ()), ()))) (K .normal (SSh.enc G F53_1x1 ((), ())))
theorem F53_1_eq (n : Nat) (R : Type) (x : SSh.den G F53_1s) (K : AE → St G → Option R) :
  F53_1 n x.1.2.1 x.2.1.1 x.2.1.2.1 x.2.1.2.2.1 x.2.1.2.2.2.1 (fun u0 => K .ret (SSh.enc G F53_1x0 ((u0, ()), ()))) (K .normal (SSh.enc G F53_1x1 ((), ()))) = exec prog G (ro G (tabOf (E48 n)) (frOf [F53_0z n]) R) 0 (codeAt F53c [1, 1, 1, 1, 0]) (.nd .no (.nd (.nd (.use 0) .no) .no)) (SSh.enc G F53_1s x) (kNrm G (ro G (tabOf (E48 n)) (frOf [F53_0z n]) R) 0 ⟨⟨[], []⟩, ⟨[2], []⟩, []⟩ K) := by kernel_rfl
theorem F53_1_ok (n : Nat) : FragOK prog G 0 (codeAt F53c [1, 1, 1, 1, 0]) (F53_1z n) :=
  frag_plain laws fnok (E48_ok n).tab (AllF.of (l := [(0, codeAt F53c [1, 1, 1, 1, 0, 1, 0, 0])]) (by kernel_rfl) (AllF.cons (F53_0_ok n) AllF.nil)) (F53_1_eq n)
noncomputable def F53 (n : Nat) (a1457 : Int) (a1458 : ByteArray) (a1459 : List ByteArray) (a1460 : List Ex) : Option (Bool × Unit) :=
  let v1461 := ((a1460.length) : Int)
  (bif (a1457 == (13 : Int)) then
  (F53_1 n v1461 a1457 a1458 a1459 a1460 (fun z1651 =>
  some (z1651, ())) (
  some (false, ())))
  else (bif (!(a1457 == (16 : Int))) then
  (bif (decide (((a1459.length) : Int) > (0 : Int))) then
  some (false, ())
  else (F53_1 n v1461 a1457 a1458 a1459 a1460 (fun z1656 =>
  some (z1656, ())) (
  some (false, ()))))
  else (F53_1 n v1461 a1457 a1458 a1459 a1460 (fun z1657 =>
  some (z1657, ())) (
  some (false, ())))))
noncomputable def F53e (n : Nat) : Ent G := ⟨53, (.cons (.agg (.cons (.int .i64) (.cons .str (.cons (.imm 2) (.cons (.imm 3) .nil))))) .nil), [], .bool, [], fun x y => F53 n x.1.1 x.1.2.1 x.1.2.2.1 x.1.2.2.2.1⟩
theorem F53_eq (n : Nat) (x : ShL.den G (.cons (.agg (.cons (.int .i64) (.cons .str (.cons (.imm 2) (.cons (.imm 3) .nil))))) .nil)) (y : denO G []) : (F53e n).F x y = runFn prog G (ro G (tabOf (E48 n)) (frOf [F53_0z n, F53_1z n]) _) Go.Proofs.Try.f53 (.nd .no (.nd .no (.nd .no (.nd .no (.nd (.use 1) .no))))) [(0, .fz)] (ShL.enc G (.cons (.agg (.cons (.int .i64) (.cons .str (.cons (.imm 2) (.cons (.imm 3) .nil))))) .nil) x) (encO G [] y) (decR .bool []) := by kernel_rfl
theorem F53_ok (n : Nat) : EntOK prog G (F53e n) :=
  ent_ok (fr := frOf [F53_0z n, F53_1z n]) (ann := (.nd .no (.nd .no (.nd .no (.nd .no (.nd (.use 1) .no)))))) (frm := [(0, .fz)]) laws fnok (E48_ok n).tab (e := F53e n) (fn := Go.Proofs.Try.f53) (by kernel_rfl) (AllF.ofB (cd := F53c) (l := [(1, codeAt F53c [1, 1, 1, 1, 0])]) (by kernel_rfl) (by kernel_rfl) (AllF.cons (F53_1_ok n) AllF.nil)) (F53_eq n)
noncomputable def E49 (n : Nat) : List (Ent G) := F53e n :: E48 n
theorem E49_ok (n : Nat) : AllE prog G (E49 n) := AllE.cons (F53_ok n) (E48_ok n)
abbrev Q31RC : Type := (Int → ByteArray → List ByteArray → List Ex → Int → Option (Bool × Unit)) × Unit
noncomputable def Q31L (n : Nat) (rc : Q31RC) : List (Ent G) := ⟨31, (.cons (.agg (.cons (.int .i64) (.cons .str (.cons (.imm 2) (.cons (.imm 3) .nil))))) (.cons (.int .i64) .nil)), [], .bool, [], fun x y => rc.1 x.1.1 x.1.2.1 x.1.2.2.1 x.1.2.2.2.1 x.2.1⟩ :: E49 n
-- 31 loop.example/slowworm/spec.validExpr
noncomputable def F31bc : Code := bodyOf Go.Proofs.Try.f31
noncomputable def F31b_0x0 : SSh := ⟨29, [(4, .bool)], []⟩
noncomputable def F31b_0x1 : SSh := ⟨29, [], []⟩
noncomputable def F31b_0s : SSh := ⟨29, [(1, (.int .i64)), (2, (.ptr 0 0)), (5, (.int .i64))], [(.box 30 (.cons (.int .i64) (.cons .str (.cons (.imm 2) (.cons (.imm 3) .nil)))))]⟩
noncomputable def F31b_0_step {R : Type} (n : Nat) (rc : Q31RC) (k0 : Bool → Option R) (k1 : Option R) (rec : Int → Int → Int → ByteArray → List ByteArray → List Ex → Option R) (x1708 : Int) (x1709 : Int) (x1710 : Int) (x1711 : ByteArray) (x1712 : List ByteArray) (x1713 : List Ex) : Option R :=
  (bif (decide (x1709 < ((x1713.length) : Int))) then
  (bif (decide ((0 : Int) ≤ x1709)) then
  (bif (decide (x1709 < ((x1713.length) : Int))) then
  let v1716 := (x1713.getD (x1709.toNat) (Ex.mk (0 : Int) ({ data := #[] } : ByteArray) [] []))
  (andThen (rc.1 v1716.kind v1716.text v1716.names v1716.kids (IntKind.wrap .i64 (x1708 - (1 : Int)))) fun r1722 =>
  (bif (!r1722.1) then
  (k0 false)
  else (rec x1708 (IntKind.wrap .i64 (x1709 + (1 : Int))) x1710 x1711 x1712 x1713)))
  else none)
  else none)
  else k1)
noncomputable def F31b_0_it {R : Type} (n : Nat) (rc : Q31RC) (k0 : Bool → Option R) (k1 : Option R) : Nat → Int → Int → Int → ByteArray → List ByteArray → List Ex → Option R
  | 0, _, _, _, _, _, _ => none
  | k + 1, x1708, x1709, x1710, x1711, x1712, x1713 => F31b_0_step n rc k0 k1 (F31b_0_it n rc k0 k1 k) x1708 x1709 x1710 x1711 x1712 x1713
noncomputable def F31b_0 {R : Type} (n : Nat) (rc : Q31RC) (x1708 : Int) (x1709 : Int) (x1710 : Int) (x1711 : ByteArray) (x1712 : List ByteArray) (x1713 : List Ex) (k0 : Bool → Option R) (k1 : Option R) : Option R := F31b_0_it n rc k0 k1 n x1708 x1709 x1710 x1711 x1712 x1713
noncomputable def F31b_0z (n : Nat) (rc : Q31RC) : Sm G := inZ G 0 ⟨[1, 2, 5], []⟩ F31b_0s fun R x K => F31b_0_it n rc (fun u0 => K .ret (SSh.enc G F31b_0x0 ((u0, ()), ()))) (K (.exit 0) (SSh.enc G F31b_0x1 ((), ()))) n x.1.1 x.1.2.2.1 x.2.1.1 x.2.1.2.1 x.2.1.2.2.1 x.2.1.2.2.2.1
theorem F31b_0_eq (n : Nat) (rc : Q31RC) (R : Type) (rec : SSh.den G F31b_0s → Option R) (x : SSh.den G F31b_0s) (K : AE → St G → Option R) :
  F31b_0_step n rc (fun u0 => K .ret (SSh.enc G F31b_0x0 ((u0, ()), ()))) (K (.exit 0) (SSh.enc G F31b_0x1 ((), ()))) (fun x1708 x1709 x1710 x1711 x1712 x1713 => rec ((x1708, ((), (x1709, ()))), ((x1710, (x1711, (x1712, (x1713, ())))), ()))) x.1.1 x.1.2.2.1 x.2.1.1 x.2.1.2.1 x.2.1.2.2.1 x.2.1.2.2.2.1 = exec prog G (ro G (tabOf (Q31L n rc)) (frOf []) R) 0 (codeAt F31bc [1, 1, 0, 1, 0, 0]) .no (SSh.enc G F31b_0s x) (kLoop G (ro G (tabOf (Q31L n rc)) (frOf []) R) 0 ⟨[1, 2, 5], []⟩ F31b_0s ⟨⟨[], []⟩, ⟨[4], []⟩, [(0, ⟨[], []⟩)]⟩ rec K) := by kernel_rfl
theorem F31b_0_ok (n : Nat) (rc : Q31RC) (h : AllE prog G (Q31L n rc)) : FragOK prog G 0 (codeAt F31bc [1, 1, 0, 1, 0]) (F31b_0z n rc) :=
  frag_loop (Z := fun R k (x : SSh.den G F31b_0s) K => F31b_0_it n rc (fun u0 => K .ret (SSh.enc G F31b_0x0 ((u0, ()), ()))) (K (.exit 0) (SSh.enc G F31b_0x1 ((), ()))) k x.1.1 x.1.2.2.1 x.2.1.1 x.2.1.2.1 x.2.1.2.2.1 x.2.1.2.2.2.1) laws fnok h.tab (AllF.of (l := []) (by kernel_rfl) AllF.nil) (fun _ _ _ => rfl) (fun R k y K => F31b_0_eq n rc R (fun (x : SSh.den G F31b_0s) => F31b_0_it n rc (fun u0 => K .ret (SSh.enc G F31b_0x0 ((u0, ()), ()))) (K (.exit 0) (SSh.enc G F31b_0x1 ((), ()))) k x.1.1 x.1.2.2.1 x.2.1.1 x.2.1.2.1 x.2.1.2.2.1 x.2.1.2.2.2.1) y K) n
noncomputable def F31b (n : Nat) (rc : Q31RC) (a1700 : Int) (a1701 : ByteArray) (a1702 : List ByteArray) (a1703 : List Ex) (a1704 : Int) : Option (Bool × Unit) :=
  (bif (decide (a1704 < (1 : Int))) then
  some (false, ())
  else (andThen (F53 n a1700 a1701 a1702 a1703) fun r1706 =>
  (bif (!r1706.1) then
  some (false, ())
  else (F31b_0 n rc a1704 (0 : Int) a1700 a1701 a1702 a1703 (fun z1725 =>
  some (z1725, ())) (
  some (true, ()))))))
noncomputable def F31be (n : Nat) (rc : Q31RC) : Ent G := ⟨31, (.cons (.agg (.cons (.int .i64) (.cons .str (.cons (.imm 2) (.cons (.imm 3) .nil))))) (.cons (.int .i64) .nil)), [], .bool, [], fun x y => F31b n rc x.1.1 x.1.2.1 x.1.2.2.1 x.1.2.2.2.1 x.2.1⟩
theorem F31b_eq (n : Nat) (rc : Q31RC) (x : ShL.den G (.cons (.agg (.cons (.int .i64) (.cons .str (.cons (.imm 2) (.cons (.imm 3) .nil))))) (.cons (.int .i64) .nil))) (y : denO G []) : (F31be n rc).F x y = runFn prog G (ro G (tabOf (Q31L n rc)) (frOf [F31b_0z n rc]) _) Go.Proofs.Try.f31 (.nd .no (.nd .no (.nd (.nd .no (.nd (.use 0) .no)) .no))) [(0, .fz)] (ShL.enc G (.cons (.agg (.cons (.int .i64) (.cons .str (.cons (.imm 2) (.cons (.imm 3) .nil))))) (.cons (.int .i64) .nil)) x) (encO G [] y) (decR .bool []) := by kernel_rfl
theorem F31b_ok (n : Nat) (rc : Q31RC) (h : AllE prog G (Q31L n rc)) : EntOK prog G (F31be n rc) :=
  ent_ok (fr := frOf [F31b_0z n rc]) (ann := (.nd .no (.nd .no (.nd (.nd .no (.nd (.use 0) .no)) .no)))) (frm := [(0, .fz)]) laws fnok h.tab (e := F31be n rc) (fn := Go.Proofs.Try.f31) (by kernel_rfl) (AllF.ofB (cd := F31bc) (l := [(0, codeAt F31bc [1, 1, 0, 1, 0])]) (by kernel_rfl) (by kernel_rfl) (AllF.cons (F31b_0_ok n rc h) AllF.nil)) (F31b_eq n rc)
noncomputable def Q31it (n : Nat) : Nat → Q31RC
  | 0 => (fun _ _ _ _ _ => none, ())
  | k + 1 => (F31b n (Q31it n k), ())
theorem Q31it_ok (n : Nat) : ∀ k, AllE prog G (Q31L n (Q31it n k))
  | 0 => (AllE.cons (EntOK.none fun _ _ => rfl) (E49_ok n))
  | k + 1 => (AllE.cons (F31b_ok n _ (Q31it_ok n k)) (E49_ok n))
noncomputable def F31 (n : Nat) (a0 : Int) (a1 : ByteArray) (a2 : List ByteArray) (a3 : List Ex) (a4 : Int) : Option (Bool × Unit) := (Q31it n n).1 a0 a1 a2 a3 a4
noncomputable def F31e (n : Nat) : Ent G := ⟨31, (.cons (.agg (.cons (.int .i64) (.cons .str (.cons (.imm 2) (.cons (.imm 3) .nil))))) (.cons (.int .i64) .nil)), [], .bool, [], fun x y => F31 n x.1.1 x.1.2.1 x.1.2.2.1 x.1.2.2.2.1 x.2.1⟩
noncomputable def E50 (n : Nat) : List (Ent G) := F31e n :: E49 n
theorem E50_ok (n : Nat) : AllE prog G (E50 n) := Q31it_ok n n
abbrev Q36RC : Type := (Int → ByteArray → List ByteArray → List Ex → Option (Int × Unit)) × Unit
noncomputable def Q36L (n : Nat) (rc : Q36RC) : List (Ent G) := ⟨36, (.cons (.agg (.cons (.int .i64) (.cons .str (.cons (.imm 2) (.cons (.imm 3) .nil))))) .nil), [], (.int .i64), [], fun x y => rc.1 x.1.1 x.1.2.1 x.1.2.2.1 x.1.2.2.2.1⟩ :: E50 n
-- 36 loop.example/slowworm/spec.exprSize
noncomputable def F36bc : Code := bodyOf Go.Proofs.Try.f36
noncomputable def F36b_0x0 : SSh := ⟨21, [(3, (.int .i64))], []⟩
noncomputable def F36b_0s : SSh := ⟨21, [(1, (.ptr 0 0)), (3, (.int .i64)), (4, (.int .i64))], [(.box 30 (.cons (.int .i64) (.cons .str (.cons (.imm 2) (.cons (.imm 3) .nil)))))]⟩
noncomputable def F36b_0_step {R : Type} (n : Nat) (rc : Q36RC) (k0 : Int → Option R) (rec : Int → Int → Int → ByteArray → List ByteArray → List Ex → Option R) (x1770 : Int) (x1771 : Int) (x1772 : Int) (x1773 : ByteArray) (x1774 : List ByteArray) (x1775 : List Ex) : Option R :=
  (bif (decide (x1771 < ((x1775.length) : Int))) then
  (bif (decide ((0 : Int) ≤ x1771)) then
  (bif (decide (x1771 < ((x1775.length) : Int))) then
  let v1778 := (x1775.getD (x1771.toNat) (Ex.mk (0 : Int) ({ data := #[] } : ByteArray) [] []))
  (andThen (rc.1 v1778.kind v1778.text v1778.names v1778.kids) fun r1783 =>
  (rec (IntKind.wrap .i64 (x1770 + r1783.1)) (IntKind.wrap .i64 (x1771 + (1 : Int))) x1772 x1773 x1774 x1775))
  else none)
  else none)
  else (k0 x1770))
noncomputable def F36b_0_it {R : Type} (n : Nat) (rc : Q36RC) (k0 : Int → Option R) : Nat → Int → Int → Int → ByteArray → List ByteArray → List Ex → Option R
  | 0, _, _, _, _, _, _ => none
  | k + 1, x1770, x1771, x1772, x1773, x1774, x1775 => F36b_0_step n rc k0 (F36b_0_it n rc k0 k) x1770 x1771 x1772 x1773 x1774 x1775
noncomputable def F36b_0 {R : Type} (n : Nat) (rc : Q36RC) (x1770 : Int) (x1771 : Int) (x1772 : Int) (x1773 : ByteArray) (x1774 : List ByteArray) (x1775 : List Ex) (k0 : Int → Option R) : Option R := F36b_0_it n rc k0 n x1770 x1771 x1772 x1773 x1774 x1775
noncomputable def F36b_0z (n : Nat) (rc : Q36RC) : Sm G := inZ G 0 ⟨[1, 3, 4], []⟩ F36b_0s fun R x K => F36b_0_it n rc (fun u0 => K (.exit 0) (SSh.enc G F36b_0x0 ((u0, ()), ()))) n x.1.2.1 x.1.2.2.1 x.2.1.1 x.2.1.2.1 x.2.1.2.2.1 x.2.1.2.2.2.1
theorem F36b_0_eq (n : Nat) (rc : Q36RC) (R : Type) (rec : SSh.den G F36b_0s → Option R) (x : SSh.den G F36b_0s) (K : AE → St G → Option R) :
  F36b_0_step n rc (fun u0 => K (.exit 0) (SSh.enc G F36b_0x0 ((u0, ()), ()))) (fun x1770 x1771 x1772 x1773 x1774 x1775 => rec (((), (x1770, (x1771, ()))), ((x1772, (x1773, (x1774, (x1775, ())))), ()))) x.1.2.1 x.1.2.2.1 x.2.1.1 x.2.1.2.1 x.2.1.2.2.1 x.2.1.2.2.2.1 = exec prog G (ro G (tabOf (Q36L n rc)) (frOf []) R) 0 (codeAt F36bc [1, 1, 0, 1, 0, 0]) .no (SSh.enc G F36b_0s x) (kLoop G (ro G (tabOf (Q36L n rc)) (frOf []) R) 0 ⟨[1, 3, 4], []⟩ F36b_0s ⟨⟨[3], []⟩, ⟨[2], []⟩, [(0, ⟨[3], []⟩)]⟩ rec K) := by kernel_rfl
theorem F36b_0_ok (n : Nat) (rc : Q36RC) (h : AllE prog G (Q36L n rc)) : FragOK prog G 0 (codeAt F36bc [1, 1, 0, 1, 0]) (F36b_0z n rc) :=
  frag_loop (Z := fun R k (x : SSh.den G F36b_0s) K => F36b_0_it n rc (fun u0 => K (.exit 0) (SSh.enc G F36b_0x0 ((u0, ()), ()))) k x.1.2.1 x.1.2.2.1 x.2.1.1 x.2.1.2.1 x.2.1.2.2.1 x.2.1.2.2.2.1) laws fnok h.tab (AllF.of (l := []) (by kernel_rfl) AllF.nil) (fun _ _ _ => rfl) (fun R k y K => F36b_0_eq n rc R (fun (x : SSh.den G F36b_0s) => F36b_0_it n rc (fun u0 => K (.exit 0) (SSh.enc G F36b_0x0 ((u0, ()), ()))) k x.1.2.1 x.1.2.2.1 x.2.1.1 x.2.1.2.1 x.2.1.2.2.1 x.2.1.2.2.2.1) y K) n
noncomputable def F36b (n : Nat) (rc : Q36RC) (a1766 : Int) (a1767 : ByteArray) (a1768 : List ByteArray) (a1769 : List Ex) : Option (Int × Unit) :=
  (F36b_0 n rc (1 : Int) (0 : Int) a1766 a1767 a1768 a1769 (fun z1786 =>
  some (z1786, ())))
noncomputable def F36be (n : Nat) (rc : Q36RC) : Ent G := ⟨36, (.cons (.agg (.cons (.int .i64) (.cons .str (.cons (.imm 2) (.cons (.imm 3) .nil))))) .nil), [], (.int .i64), [], fun x y => F36b n rc x.1.1 x.1.2.1 x.1.2.2.1 x.1.2.2.2.1⟩
theorem F36b_eq (n : Nat) (rc : Q36RC) (x : ShL.den G (.cons (.agg (.cons (.int .i64) (.cons .str (.cons (.imm 2) (.cons (.imm 3) .nil))))) .nil)) (y : denO G []) : (F36be n rc).F x y = runFn prog G (ro G (tabOf (Q36L n rc)) (frOf [F36b_0z n rc]) _) Go.Proofs.Try.f36 (.nd .no (.nd .no (.nd (.nd .no (.nd (.use 0) .no)) .no))) [(0, .fz)] (ShL.enc G (.cons (.agg (.cons (.int .i64) (.cons .str (.cons (.imm 2) (.cons (.imm 3) .nil))))) .nil) x) (encO G [] y) (decR (.int .i64) []) := by kernel_rfl
theorem F36b_ok (n : Nat) (rc : Q36RC) (h : AllE prog G (Q36L n rc)) : EntOK prog G (F36be n rc) :=
  ent_ok (fr := frOf [F36b_0z n rc]) (ann := (.nd .no (.nd .no (.nd (.nd .no (.nd (.use 0) .no)) .no)))) (frm := [(0, .fz)]) laws fnok h.tab (e := F36be n rc) (fn := Go.Proofs.Try.f36) (by kernel_rfl) (AllF.ofB (cd := F36bc) (l := [(0, codeAt F36bc [1, 1, 0, 1, 0])]) (by kernel_rfl) (by kernel_rfl) (AllF.cons (F36b_0_ok n rc h) AllF.nil)) (F36b_eq n rc)
noncomputable def Q36it (n : Nat) : Nat → Q36RC
  | 0 => (fun _ _ _ _ => none, ())
  | k + 1 => (F36b n (Q36it n k), ())
theorem Q36it_ok (n : Nat) : ∀ k, AllE prog G (Q36L n (Q36it n k))
  | 0 => (AllE.cons (EntOK.none fun _ _ => rfl) (E50_ok n))
  | k + 1 => (AllE.cons (F36b_ok n _ (Q36it_ok n k)) (E50_ok n))
noncomputable def F36 (n : Nat) (a0 : Int) (a1 : ByteArray) (a2 : List ByteArray) (a3 : List Ex) : Option (Int × Unit) := (Q36it n n).1 a0 a1 a2 a3
noncomputable def F36e (n : Nat) : Ent G := ⟨36, (.cons (.agg (.cons (.int .i64) (.cons .str (.cons (.imm 2) (.cons (.imm 3) .nil))))) .nil), [], (.int .i64), [], fun x y => F36 n x.1.1 x.1.2.1 x.1.2.2.1 x.1.2.2.2.1⟩
noncomputable def E51 (n : Nat) : List (Ent G) := F36e n :: E50 n
theorem E51_ok (n : Nat) : AllE prog G (E51 n) := Q36it_ok n n
noncomputable def F14 (n : Nat) (a1447 : Int) (a1448 : ByteArray) (a1449 : List ByteArray) (a1450 : List Ex) : Option (Int × Unit) :=
  (andThen (F31 n a1447 a1448 a1449 a1450 (7 : Int)) fun r1726 =>
  (bif (!r1726.1) then
  some ((0 : Int), ())
  else (andThen (F36 n a1447 a1448 a1449 a1450) fun r1787 =>
  some (r1787.1, ()))))
noncomputable def F14e (n : Nat) : Ent G := ⟨14, (.cons (.agg (.cons (.int .i64) (.cons .str (.cons (.imm 2) (.cons (.imm 3) .nil))))) .nil), [], (.int .i64), [], fun x y => F14 n x.1.1 x.1.2.1 x.1.2.2.1 x.1.2.2.2.1⟩
theorem F14_eq (n : Nat) (x : ShL.den G (.cons (.agg (.cons (.int .i64) (.cons .str (.cons (.imm 2) (.cons (.imm 3) .nil))))) .nil)) (y : denO G []) : (F14e n).F x y = runFn prog G (ro G (tabOf (E51 n)) (frOf []) _) Go.Proofs.Try.f14 .no [(0, .fz)] (ShL.enc G (.cons (.agg (.cons (.int .i64) (.cons .str (.cons (.imm 2) (.cons (.imm 3) .nil))))) .nil) x) (encO G [] y) (decR (.int .i64) []) := by kernel_rfl
theorem F14_ok (n : Nat) : EntOK prog G (F14e n) :=
  ent_ok (fr := frOf []) (ann := .no) (frm := [(0, .fz)]) laws fnok (E51_ok n).tab (e := F14e n) (fn := Go.Proofs.Try.f14) (by kernel_rfl) (AllF.ofB (cd := F14c) (l := []) (by kernel_rfl) (by kernel_rfl) AllF.nil) (F14_eq n)
noncomputable def E52 (n : Nat) : List (Ent G) := F14e n :: E51 n
theorem E52_ok (n : Nat) : AllE prog G (E52 n) := AllE.cons (F14_ok n) (E51_ok n)
noncomputable def F6_0x0 : SSh := ⟨46, [(4, (.int .i64)), (7, (.int .i64))], []⟩
noncomputable def F6_0s : SSh := ⟨46, [(3, (.ptr 0 0)), (4, (.int .i64)), (7, (.int .i64)), (8, (.int .i64))], [(.box 30 (.cons (.int .i64) (.cons .str (.cons (.imm 2) (.cons (.imm 3) .nil)))))]⟩
noncomputable def F6_0_step {R : Type} (n : Nat) (k0 : Int → Int → Option R) (rec : Int → Int → Int → Int → ByteArray → List ByteArray → List Ex → Option R) (x1792 : Int) (x1793 : Int) (x1794 : Int) (x1795 : Int) (x1796 : ByteArray) (x1797 : List ByteArray) (x1798 : List Ex) : Option R :=
  (bif (decide (x1794 < ((x1798.length) : Int))) then
  (bif (decide ((0 : Int) ≤ x1794)) then
  (bif (decide (x1794 < ((x1798.length) : Int))) then
  let v1801 := (x1798.getD (x1794.toNat) (Ex.mk (0 : Int) ({ data := #[] } : ByteArray) [] []))
  (andThen (F15 n v1801.kind v1801.text v1801.names v1801.kids) fun r1806 =>
  (rec x1792 (IntKind.wrap .i64 (x1793 + r1806.1)) (IntKind.wrap .i64 (x1794 + (1 : Int))) x1795 x1796 x1797 x1798))
  else none)
  else none)
  else (k0 x1792 x1793))
noncomputable def F6_0_it {R : Type} (n : Nat) (k0 : Int → Int → Option R) : Nat → Int → Int → Int → Int → ByteArray → List ByteArray → List Ex → Option R
  | 0, _, _, _, _, _, _, _ => none
  | k + 1, x1792, x1793, x1794, x1795, x1796, x1797, x1798 => F6_0_step n k0 (F6_0_it n k0 k) x1792 x1793 x1794 x1795 x1796 x1797 x1798
noncomputable def F6_0 {R : Type} (n : Nat) (x1792 : Int) (x1793 : Int) (x1794 : Int) (x1795 : Int) (x1796 : ByteArray) (x1797 : List ByteArray) (x1798 : List Ex) (k0 : Int → Int → Option R) : Option R := F6_0_it n k0 n x1792 x1793 x1794 x1795 x1796 x1797 x1798
noncomputable def F6_0z (n : Nat) : Sm G := inZ G 0 ⟨[3, 4, 7, 8], []⟩ F6_0s fun R x K => F6_0_it n (fun u0 u1 => K (.exit 0) (SSh.enc G F6_0x0 ((u0, (u1, ())), ()))) n x.1.2.1 x.1.2.2.1 x.1.2.2.2.1 x.2.1.1 x.2.1.2.1 x.2.1.2.2.1 x.2.1.2.2.2.1
theorem F6_0_eq (n : Nat) (R : Type) (rec : SSh.den G F6_0s → Option R) (x : SSh.den G F6_0s) (K : AE → St G → Option R) :
  F6_0_step n (fun u0 u1 => K (.exit 0) (SSh.enc G F6_0x0 ((u0, (u1, ())), ()))) (fun x1792 x1793 x1794 x1795 x1796 x1797 x1798 => rec (((), (x1792, (x1793, (x1794, ())))), ((x1795, (x1796, (x1797, (x1798, ())))), ()))) x.1.2.1 x.1.2.2.1 x.1.2.2.2.1 x.2.1.1 x.2.1.2.1 x.2.1.2.2.1 x.2.1.2.2.2.1 = exec prog G (ro G (tabOf (E52 n)) (frOf []) R) 0 (codeAt F6c [1, 1, 1, 1, 1, 1, 1, 1, 0, 1, 0, 0]) .no (SSh.enc G F6_0s x) (kLoop G (ro G (tabOf (E52 n)) (frOf []) R) 0 ⟨[3, 4, 7, 8], []⟩ F6_0s ⟨⟨[4, 7], []⟩, ⟨[2], []⟩, [(0, ⟨[4, 7], []⟩)]⟩ rec K) := by kernel_rfl
theorem F6_0_ok (n : Nat) : FragOK prog G 0 (codeAt F6c [1, 1, 1, 1, 1, 1, 1, 1, 0, 1, 0]) (F6_0z n) :=
  frag_loop (Z := fun R k (x : SSh.den G F6_0s) K => F6_0_it n (fun u0 u1 => K (.exit 0) (SSh.enc G F6_0x0 ((u0, (u1, ())), ()))) k x.1.2.1 x.1.2.2.1 x.1.2.2.2.1 x.2.1.1 x.2.1.2.1 x.2.1.2.2.1 x.2.1.2.2.2.1) laws fnok (E52_ok n).tab (AllF.of (l := []) (by kernel_rfl) AllF.nil) (fun _ _ _ => rfl) (fun R k y K => F6_0_eq n R (fun (x : SSh.den G F6_0s) => F6_0_it n (fun u0 u1 => K (.exit 0) (SSh.enc G F6_0x0 ((u0, (u1, ())), ()))) k x.1.2.1 x.1.2.2.1 x.1.2.2.2.1 x.2.1.1 x.2.1.2.1 x.2.1.2.2.1 x.2.1.2.2.2.1) y K) n
noncomputable def F6 (n : Nat) (a0 : List Int) : Option (Bool × Unit) :=
  (bif (decide (((a0.length) : Int) > (1048576 : Int))) then
  some (true, ())
  else (andThen (F18 n a0) fun r1011 =>
  (andThen (F15 n r1011.1.1 r1011.1.2.1 r1011.1.2.2.1 r1011.1.2.2.2.1) fun r1446 =>
  (andThen (F14 n r1011.1.1 r1011.1.2.1 r1011.1.2.2.1 r1011.1.2.2.2.1) fun r1788 =>
  let v1789 := (r1446.1 == r1788.1)
  (bif (!v1789) then
  some (v1789, ())
  else (bif (r1446.1 == (0 : Int)) then
  some (v1789, ())
  else (F6_0 n r1446.1 (1 : Int) (0 : Int) r1011.1.1 r1011.1.2.1 r1011.1.2.2.1 r1011.1.2.2.2.1 (fun z1809 z1810 =>
  some ((z1810 == z1809), ())))))))))
noncomputable def F6e (n : Nat) : Ent G := ⟨6, (.cons (.imm 1) .nil), [], .bool, [], fun x y => F6 n x.1⟩
theorem F6_eq (n : Nat) (x : ShL.den G (.cons (.imm 1) .nil)) (y : denO G []) : (F6e n).F x y = runFn prog G (ro G (tabOf (E52 n)) (frOf [F6_0z n]) _) Go.Proofs.Try.f6 (.nd .no (.nd .no (.nd .no (.nd .no (.nd .no (.nd .no (.nd .no (.nd .no (.nd (.nd .no (.nd (.use 0) .no)) .no))))))))) [(0, .fz)] (ShL.enc G (.cons (.imm 1) .nil) x) (encO G [] y) (decR .bool []) := by kernel_rfl
theorem F6_ok (n : Nat) : EntOK prog G (F6e n) :=
  ent_ok (fr := frOf [F6_0z n]) (ann := (.nd .no (.nd .no (.nd .no (.nd .no (.nd .no (.nd .no (.nd .no (.nd .no (.nd (.nd .no (.nd (.use 0) .no)) .no)))))))))) (frm := [(0, .fz)]) laws fnok (E52_ok n).tab (e := F6e n) (fn := Go.Proofs.Try.f6) (by kernel_rfl) (AllF.ofB (cd := F6c) (l := [(0, codeAt F6c [1, 1, 1, 1, 1, 1, 1, 1, 0, 1, 0])]) (by kernel_rfl) (by kernel_rfl) (AllF.cons (F6_0_ok n) AllF.nil)) (F6_eq n)
noncomputable def E53 (n : Nat) : List (Ent G) := F6e n :: E52 n
theorem E53_ok (n : Nat) : AllE prog G (E53 n) := AllE.cons (F6_ok n) (E52_ok n)
-- 3 loop.example/slowworm/laws.FnExactExprOk
noncomputable def F3c : Code := bodyOf Go.Proofs.Try.f3
-- 29 loop.example/slowworm/laws.szStringS
noncomputable def F29c : Code := bodyOf Go.Proofs.Try.f29
noncomputable def F29_0x0 : SSh := ⟨28, [(4, (.int .i64))], []⟩
noncomputable def F29_0x1 : SSh := ⟨28, [(1, (.int .i64))], []⟩
noncomputable def F29_0s : SSh := ⟨28, [(0, (.imm 2)), (1, (.int .i64)), (5, (.int .i64))], []⟩
noncomputable def F29_0_step {R : Type} (n : Nat) (k0 : Int → Option R) (k1 : Int → Option R) (rec : List ByteArray → Int → Int → Option R) (x1829 : List ByteArray) (x1830 : Int) (x1831 : Int) : Option R :=
  (bif (decide (x1831 < ((x1829.length) : Int))) then
  (bif (decide ((0 : Int) ≤ x1831)) then
  (bif (decide (x1831 < ((x1829.length) : Int))) then
  let v1837 := (IntKind.wrap .i64 (x1830 - (((x1829.getD (x1831.toNat) ({ data := #[] } : ByteArray)).size) : Int)))
  (bif (decide (v1837 < (0 : Int))) then
  (k0 (-1 : Int))
  else (rec x1829 v1837 (IntKind.wrap .i64 (x1831 + (1 : Int)))))
  else none)
  else none)
  else (k1 x1830))
noncomputable def F29_0_it {R : Type} (n : Nat) (k0 : Int → Option R) (k1 : Int → Option R) : Nat → List ByteArray → Int → Int → Option R
  | 0, _, _, _ => none
  | k + 1, x1829, x1830, x1831 => F29_0_step n k0 k1 (F29_0_it n k0 k1 k) x1829 x1830 x1831
noncomputable def F29_0 {R : Type} (n : Nat) (x1829 : List ByteArray) (x1830 : Int) (x1831 : Int) (k0 : Int → Option R) (k1 : Int → Option R) : Option R := F29_0_it n k0 k1 n x1829 x1830 x1831
noncomputable def F29_0z (n : Nat) : Sm G := inZ G 0 ⟨[0, 1, 5], []⟩ F29_0s fun R x K => F29_0_it n (fun u0 => K .ret (SSh.enc G F29_0x0 ((u0, ()), ()))) (fun u0 => K (.exit 0) (SSh.enc G F29_0x1 ((u0, ()), ()))) n x.1.1 x.1.2.1 x.1.2.2.1
theorem F29_0_eq (n : Nat) (R : Type) (rec : SSh.den G F29_0s → Option R) (x : SSh.den G F29_0s) (K : AE → St G → Option R) :
  F29_0_step n (fun u0 => K .ret (SSh.enc G F29_0x0 ((u0, ()), ()))) (fun u0 => K (.exit 0) (SSh.enc G F29_0x1 ((u0, ()), ()))) (fun x1829 x1830 x1831 => rec ((x1829, (x1830, (x1831, ()))), ())) x.1.1 x.1.2.1 x.1.2.2.1 = exec prog G (ro G (tabOf (E53 n)) (frOf []) R) 0 (codeAt F29c [1, 1, 1, 0, 1, 0, 0]) .no (SSh.enc G F29_0s x) (kLoop G (ro G (tabOf (E53 n)) (frOf []) R) 0 ⟨[0, 1, 5], []⟩ F29_0s ⟨⟨[1], []⟩, ⟨[4], []⟩, [(0, ⟨[1], []⟩)]⟩ rec K) := by kernel_rfl
theorem F29_0_ok (n : Nat) : FragOK prog G 0 (codeAt F29c [1, 1, 1, 0, 1, 0]) (F29_0z n) :=
  frag_loop (Z := fun R k (x : SSh.den G F29_0s) K => F29_0_it n (fun u0 => K .ret (SSh.enc G F29_0x0 ((u0, ()), ()))) (fun u0 => K (.exit 0) (SSh.enc G F29_0x1 ((u0, ()), ()))) k x.1.1 x.1.2.1 x.1.2.2.1) laws fnok (E53_ok n).tab (AllF.of (l := []) (by kernel_rfl) AllF.nil) (fun _ _ _ => rfl) (fun R k y K => F29_0_eq n R (fun (x : SSh.den G F29_0s) => F29_0_it n (fun u0 => K .ret (SSh.enc G F29_0x0 ((u0, ()), ()))) (fun u0 => K (.exit 0) (SSh.enc G F29_0x1 ((u0, ()), ()))) k x.1.1 x.1.2.1 x.1.2.2.1) y K) n
noncomputable def F29 (n : Nat) (a1824 : List ByteArray) (a1825 : Int) : Option (Int × Unit) :=
  let v1827 := (IntKind.wrap .i64 (a1825 - ((a1824.length) : Int)))
  (bif (decide (v1827 < (0 : Int))) then
  some ((-1 : Int), ())
  else (F29_0 n a1824 v1827 (0 : Int) (fun z1840 =>
  some (z1840, ())) (fun z1841 =>
  some (z1841, ()))))
noncomputable def F29e (n : Nat) : Ent G := ⟨29, (.cons (.imm 2) (.cons (.int .i64) .nil)), [], (.int .i64), [], fun x y => F29 n x.1 x.2.1⟩
theorem F29_eq (n : Nat) (x : ShL.den G (.cons (.imm 2) (.cons (.int .i64) .nil))) (y : denO G []) : (F29e n).F x y = runFn prog G (ro G (tabOf (E53 n)) (frOf [F29_0z n]) _) Go.Proofs.Try.f29 (.nd .no (.nd .no (.nd .no (.nd (.nd .no (.nd (.use 0) .no)) .no)))) [(0, .fz)] (ShL.enc G (.cons (.imm 2) (.cons (.int .i64) .nil)) x) (encO G [] y) (decR (.int .i64) []) := by kernel_rfl
theorem F29_ok (n : Nat) : EntOK prog G (F29e n) :=
  ent_ok (fr := frOf [F29_0z n]) (ann := (.nd .no (.nd .no (.nd .no (.nd (.nd .no (.nd (.use 0) .no)) .no))))) (frm := [(0, .fz)]) laws fnok (E53_ok n).tab (e := F29e n) (fn := Go.Proofs.Try.f29) (by kernel_rfl) (AllF.ofB (cd := F29c) (l := [(0, codeAt F29c [1, 1, 1, 0, 1, 0])]) (by kernel_rfl) (by kernel_rfl) (AllF.cons (F29_0_ok n) AllF.nil)) (F29_eq n)
noncomputable def E54 (n : Nat) : List (Ent G) := F29e n :: E53 n
theorem E54_ok (n : Nat) : AllE prog G (E54 n) := AllE.cons (F29_ok n) (E53_ok n)
abbrev Q9RC : Type := (Int → ByteArray → List ByteArray → List Ex → Int → Option (Int × Unit)) × (List Ex → Int → Option (Int × Unit)) × Unit
noncomputable def Q9L (n : Nat) (rc : Q9RC) : List (Ent G) := ⟨9, (.cons (.agg (.cons (.int .i64) (.cons .str (.cons (.imm 2) (.cons (.imm 4) .nil))))) (.cons (.int .i64) .nil)), [], (.int .i64), [], fun x y => rc.1 x.1.1 x.1.2.1 x.1.2.2.1 x.1.2.2.2.1 x.2.1⟩ :: ⟨30, (.cons (.imm 4) (.cons (.int .i64) .nil)), [], (.int .i64), [], fun x y => rc.2.1 x.1 x.2.1⟩ :: E54 n
-- 9 loop.example/slowworm/laws.szExpr
noncomputable def F9bc : Code := bodyOf Go.Proofs.Try.f9
noncomputable def F9b (n : Nat) (rc : Q9RC) (a1891 : Int) (a1892 : ByteArray) (a1893 : List ByteArray) (a1894 : List Ex) (a1895 : Int) : Option (Int × Unit) :=
  let v1897 := (IntKind.wrap .i64 (a1895 - ((a1892.size) : Int)))
  (bif (decide (v1897 < (0 : Int))) then
  some ((-1 : Int), ())
  else (andThen (F29 n a1893 v1897) fun r1899 =>
  (bif (decide (r1899.1 < (0 : Int))) then
  some ((-1 : Int), ())
  else (andThen (rc.2.1 a1894 r1899.1) fun r1901 =>
  (bif (decide (r1901.1 < (0 : Int))) then
  some ((-1 : Int), ())
  else some (r1901.1, ()))))))
noncomputable def F9be (n : Nat) (rc : Q9RC) : Ent G := ⟨9, (.cons (.agg (.cons (.int .i64) (.cons .str (.cons (.imm 2) (.cons (.imm 4) .nil))))) (.cons (.int .i64) .nil)), [], (.int .i64), [], fun x y => F9b n rc x.1.1 x.1.2.1 x.1.2.2.1 x.1.2.2.2.1 x.2.1⟩
theorem F9b_eq (n : Nat) (rc : Q9RC) (x : ShL.den G (.cons (.agg (.cons (.int .i64) (.cons .str (.cons (.imm 2) (.cons (.imm 4) .nil))))) (.cons (.int .i64) .nil))) (y : denO G []) : (F9be n rc).F x y = runFn prog G (ro G (tabOf (Q9L n rc)) (frOf []) _) Go.Proofs.Try.f9 .no [(0, .fz)] (ShL.enc G (.cons (.agg (.cons (.int .i64) (.cons .str (.cons (.imm 2) (.cons (.imm 4) .nil))))) (.cons (.int .i64) .nil)) x) (encO G [] y) (decR (.int .i64) []) := by kernel_rfl
theorem F9b_ok (n : Nat) (rc : Q9RC) (h : AllE prog G (Q9L n rc)) : EntOK prog G (F9be n rc) :=
  ent_ok (fr := frOf []) (ann := .no) (frm := [(0, .fz)]) laws fnok h.tab (e := F9be n rc) (fn := Go.Proofs.Try.f9) (by kernel_rfl) (AllF.ofB (cd := F9bc) (l := []) (by kernel_rfl) (by kernel_rfl) AllF.nil) (F9b_eq n rc)
-- 30 loop.example/slowworm/laws.szExprS
noncomputable def F30bc : Code := bodyOf Go.Proofs.Try.f30
noncomputable def F30b_0x0 : SSh := ⟨27, [(4, (.int .i64))], []⟩
noncomputable def F30b_0x1 : SSh := ⟨27, [(1, (.int .i64))], []⟩
noncomputable def F30b_0s : SSh := ⟨27, [(0, (.imm 4)), (1, (.int .i64)), (5, (.int .i64))], []⟩
noncomputable def F30b_0_step {R : Type} (n : Nat) (rc : Q9RC) (k0 : Int → Option R) (k1 : Int → Option R) (rec : List Ex → Int → Int → Option R) (x1908 : List Ex) (x1909 : Int) (x1910 : Int) : Option R :=
  (bif (decide (x1910 < ((x1908.length) : Int))) then
  (bif (decide ((0 : Int) ≤ x1910)) then
  (bif (decide (x1910 < ((x1908.length) : Int))) then
  let v1913 := (x1908.getD (x1910.toNat) (Ex.mk (0 : Int) ({ data := #[] } : ByteArray) [] []))
  (andThen (rc.1 v1913.kind v1913.text v1913.names v1913.kids x1909) fun r1918 =>
  (bif (decide (r1918.1 < (0 : Int))) then
  (k0 (-1 : Int))
  else (rec x1908 r1918.1 (IntKind.wrap .i64 (x1910 + (1 : Int))))))
  else none)
  else none)
  else (k1 x1909))
noncomputable def F30b_0_it {R : Type} (n : Nat) (rc : Q9RC) (k0 : Int → Option R) (k1 : Int → Option R) : Nat → List Ex → Int → Int → Option R
  | 0, _, _, _ => none
  | k + 1, x1908, x1909, x1910 => F30b_0_step n rc k0 k1 (F30b_0_it n rc k0 k1 k) x1908 x1909 x1910
noncomputable def F30b_0 {R : Type} (n : Nat) (rc : Q9RC) (x1908 : List Ex) (x1909 : Int) (x1910 : Int) (k0 : Int → Option R) (k1 : Int → Option R) : Option R := F30b_0_it n rc k0 k1 n x1908 x1909 x1910
noncomputable def F30b_0z (n : Nat) (rc : Q9RC) : Sm G := inZ G 0 ⟨[0, 1, 5], []⟩ F30b_0s fun R x K => F30b_0_it n rc (fun u0 => K .ret (SSh.enc G F30b_0x0 ((u0, ()), ()))) (fun u0 => K (.exit 0) (SSh.enc G F30b_0x1 ((u0, ()), ()))) n x.1.1 x.1.2.1 x.1.2.2.1
theorem F30b_0_eq (n : Nat) (rc : Q9RC) (R : Type) (rec : SSh.den G F30b_0s → Option R) (x : SSh.den G F30b_0s) (K : AE → St G → Option R) :
  F30b_0_step n rc (fun u0 => K .ret (SSh.enc G F30b_0x0 ((u0, ()), ()))) (fun u0 => K (.exit 0) (SSh.enc G F30b_0x1 ((u0, ()), ()))) (fun x1908 x1909 x1910 => rec ((x1908, (x1909, (x1910, ()))), ())) x.1.1 x.1.2.1 x.1.2.2.1 = exec prog G (ro G (tabOf (Q9L n rc)) (frOf []) R) 0 (codeAt F30bc [1, 1, 1, 0, 1, 0, 0]) .no (SSh.enc G F30b_0s x) (kLoop G (ro G (tabOf (Q9L n rc)) (frOf []) R) 0 ⟨[0, 1, 5], []⟩ F30b_0s ⟨⟨[1], []⟩, ⟨[4], []⟩, [(0, ⟨[1], []⟩)]⟩ rec K) := by kernel_rfl
theorem F30b_0_ok (n : Nat) (rc : Q9RC) (h : AllE prog G (Q9L n rc)) : FragOK prog G 0 (codeAt F30bc [1, 1, 1, 0, 1, 0]) (F30b_0z n rc) :=
  frag_loop (Z := fun R k (x : SSh.den G F30b_0s) K => F30b_0_it n rc (fun u0 => K .ret (SSh.enc G F30b_0x0 ((u0, ()), ()))) (fun u0 => K (.exit 0) (SSh.enc G F30b_0x1 ((u0, ()), ()))) k x.1.1 x.1.2.1 x.1.2.2.1) laws fnok h.tab (AllF.of (l := []) (by kernel_rfl) AllF.nil) (fun _ _ _ => rfl) (fun R k y K => F30b_0_eq n rc R (fun (x : SSh.den G F30b_0s) => F30b_0_it n rc (fun u0 => K .ret (SSh.enc G F30b_0x0 ((u0, ()), ()))) (fun u0 => K (.exit 0) (SSh.enc G F30b_0x1 ((u0, ()), ()))) k x.1.1 x.1.2.1 x.1.2.2.1) y K) n
noncomputable def F30b (n : Nat) (rc : Q9RC) (a1903 : List Ex) (a1904 : Int) : Option (Int × Unit) :=
  let v1906 := (IntKind.wrap .i64 (a1904 - ((a1903.length) : Int)))
  (bif (decide (v1906 < (0 : Int))) then
  some ((-1 : Int), ())
  else (F30b_0 n rc a1903 v1906 (0 : Int) (fun z1921 =>
  some (z1921, ())) (fun z1922 =>
  some (z1922, ()))))
noncomputable def F30be (n : Nat) (rc : Q9RC) : Ent G := ⟨30, (.cons (.imm 4) (.cons (.int .i64) .nil)), [], (.int .i64), [], fun x y => F30b n rc x.1 x.2.1⟩
theorem F30b_eq (n : Nat) (rc : Q9RC) (x : ShL.den G (.cons (.imm 4) (.cons (.int .i64) .nil))) (y : denO G []) : (F30be n rc).F x y = runFn prog G (ro G (tabOf (Q9L n rc)) (frOf [F30b_0z n rc]) _) Go.Proofs.Try.f30 (.nd .no (.nd .no (.nd .no (.nd (.nd .no (.nd (.use 0) .no)) .no)))) [(0, .fz)] (ShL.enc G (.cons (.imm 4) (.cons (.int .i64) .nil)) x) (encO G [] y) (decR (.int .i64) []) := by kernel_rfl
theorem F30b_ok (n : Nat) (rc : Q9RC) (h : AllE prog G (Q9L n rc)) : EntOK prog G (F30be n rc) :=
  ent_ok (fr := frOf [F30b_0z n rc]) (ann := (.nd .no (.nd .no (.nd .no (.nd (.nd .no (.nd (.use 0) .no)) .no))))) (frm := [(0, .fz)]) laws fnok h.tab (e := F30be n rc) (fn := Go.Proofs.Try.f30) (by kernel_rfl) (AllF.ofB (cd := F30bc) (l := [(0, codeAt F30bc [1, 1, 1, 0, 1, 0])]) (by kernel_rfl) (by kernel_rfl) (AllF.cons (F30b_0_ok n rc h) AllF.nil)) (F30b_eq n rc)
noncomputable def Q9it (n : Nat) : Nat → Q9RC
  | 0 => (fun _ _ _ _ _ => none, fun _ _ => none, ())
  | k + 1 => (F9b n (Q9it n k), F30b n (Q9it n k), ())
theorem Q9it_ok (n : Nat) : ∀ k, AllE prog G (Q9L n (Q9it n k))
  | 0 => (AllE.cons (EntOK.none fun _ _ => rfl) (AllE.cons (EntOK.none fun _ _ => rfl) (E54_ok n)))
  | k + 1 => (AllE.cons (F9b_ok n _ (Q9it_ok n k)) (AllE.cons (F30b_ok n _ (Q9it_ok n k)) (E54_ok n)))
noncomputable def F9 (n : Nat) (a0 : Int) (a1 : ByteArray) (a2 : List ByteArray) (a3 : List Ex) (a4 : Int) : Option (Int × Unit) := (Q9it n n).1 a0 a1 a2 a3 a4
noncomputable def F9e (n : Nat) : Ent G := ⟨9, (.cons (.agg (.cons (.int .i64) (.cons .str (.cons (.imm 2) (.cons (.imm 4) .nil))))) (.cons (.int .i64) .nil)), [], (.int .i64), [], fun x y => F9 n x.1.1 x.1.2.1 x.1.2.2.1 x.1.2.2.2.1 x.2.1⟩
noncomputable def F30 (n : Nat) (a0 : List Ex) (a1 : Int) : Option (Int × Unit) := (Q9it n n).2.1 a0 a1
noncomputable def F30e (n : Nat) : Ent G := ⟨30, (.cons (.imm 4) (.cons (.int .i64) .nil)), [], (.int .i64), [], fun x y => F30 n x.1 x.2.1⟩
noncomputable def E55 (n : Nat) : List (Ent G) := F9e n :: F30e n :: E54 n
theorem E55_ok (n : Nat) : AllE prog G (E55 n) := Q9it_ok n n
-- 32 loop.example/slowworm/laws.toStringS
noncomputable def F32c : Code := bodyOf Go.Proofs.Try.f32
noncomputable def F32_0x0 : SSh := ⟨22, [(3, (.own 0))], [(.arr 2 true)]⟩
noncomputable def F32_0s : SSh := ⟨22, [(0, (.imm 2)), (3, (.own 0)), (4, (.int .i64))], [(.arr 2 true)]⟩
noncomputable def F32_0_step {R : Type} (n : Nat) (k0 : List ByteArray → Option R) (rec : List ByteArray → Int → List ByteArray → Option R) (x1932 : List ByteArray) (x1933 : Int) (x1934 : List ByteArray) : Option R :=
  (bif (decide (x1933 < ((x1932.length) : Int))) then
  (bif (decide ((0 : Int) ≤ x1933)) then
  (bif (decide (x1933 < ((x1932.length) : Int))) then
  (bif (decide ((0 : Int) ≤ x1933)) then
  (bif (decide (x1933 < ((x1934.length) : Int))) then
  (rec x1932 (IntKind.wrap .i64 (x1933 + (1 : Int))) (x1934.set (x1933.toNat) (x1932.getD (x1933.toNat) ({ data := #[] } : ByteArray))))
  else none)
  else none)
  else none)
  else none)
  else (k0 x1934))
noncomputable def F32_0_it {R : Type} (n : Nat) (k0 : List ByteArray → Option R) : Nat → List ByteArray → Int → List ByteArray → Option R
  | 0, _, _, _ => none
  | k + 1, x1932, x1933, x1934 => F32_0_step n k0 (F32_0_it n k0 k) x1932 x1933 x1934
noncomputable def F32_0 {R : Type} (n : Nat) (x1932 : List ByteArray) (x1933 : Int) (x1934 : List ByteArray) (k0 : List ByteArray → Option R) : Option R := F32_0_it n k0 n x1932 x1933 x1934
noncomputable def F32_0z (n : Nat) : Sm G := inZ G 0 ⟨[0, 3, 4], []⟩ F32_0s fun R x K => F32_0_it n (fun u0 => K (.exit 0) (SSh.enc G F32_0x0 (((), ()), (u0, ())))) n x.1.1 x.1.2.2.1 x.2.1
theorem F32_0_eq (n : Nat) (R : Type) (rec : SSh.den G F32_0s → Option R) (x : SSh.den G F32_0s) (K : AE → St G → Option R) :
  F32_0_step n (fun u0 => K (.exit 0) (SSh.enc G F32_0x0 (((), ()), (u0, ())))) (fun x1932 x1933 x1934 => rec ((x1932, ((), (x1933, ()))), (x1934, ()))) x.1.1 x.1.2.2.1 x.2.1 = exec prog G (ro G (tabOf (E55 n)) (frOf []) R) 0 (codeAt F32c [1, 1, 0, 1, 0, 0]) .no (SSh.enc G F32_0s x) (kLoop G (ro G (tabOf (E55 n)) (frOf []) R) 0 ⟨[0, 3, 4], []⟩ F32_0s ⟨⟨[3], []⟩, ⟨[2], []⟩, [(0, ⟨[3], []⟩)]⟩ rec K) := by kernel_rfl
theorem F32_0_ok (n : Nat) : FragOK prog G 0 (codeAt F32c [1, 1, 0, 1, 0]) (F32_0z n) :=
  frag_loop (Z := fun R k (x : SSh.den G F32_0s) K => F32_0_it n (fun u0 => K (.exit 0) (SSh.enc G F32_0x0 (((), ()), (u0, ())))) k x.1.1 x.1.2.2.1 x.2.1) laws fnok (E55_ok n).tab (AllF.of (l := []) (by kernel_rfl) AllF.nil) (fun _ _ _ => rfl) (fun R k y K => F32_0_eq n R (fun (x : SSh.den G F32_0s) => F32_0_it n (fun u0 => K (.exit 0) (SSh.enc G F32_0x0 (((), ()), (u0, ())))) k x.1.1 x.1.2.2.1 x.2.1) y K) n
noncomputable def F32 (n : Nat) (a1929 : List ByteArray) : Option (List ByteArray × Unit) :=
  let v1930 := ((a1929.length) : Int)
  (bif (decide ((0 : Int) ≤ v1930)) then
  (bif (decide (v1930 ≤ v1930)) then
  (bif (decide (v1930 ≤ ((68719476736 : Nat) : Int))) then
  (F32_0 n a1929 (0 : Int) (List.replicate (v1930.toNat) ({ data := #[] } : ByteArray)) (fun z1942 =>
  some (z1942, ())))
  else none)
  else none)
  else none)
noncomputable def F32e (n : Nat) : Ent G := ⟨32, (.cons (.imm 2) .nil), [], (.imm 2), [], fun x y => F32 n x.1⟩
theorem F32_eq (n : Nat) (x : ShL.den G (.cons (.imm 2) .nil)) (y : denO G []) : (F32e n).F x y = runFn prog G (ro G (tabOf (E55 n)) (frOf [F32_0z n]) _) Go.Proofs.Try.f32 (.nd .no (.nd .no (.nd (.nd .no (.nd (.use 0) .no)) .no))) [(0, .fz)] (ShL.enc G (.cons (.imm 2) .nil) x) (encO G [] y) (decR (.imm 2) []) := by kernel_rfl
theorem F32_ok (n : Nat) : EntOK prog G (F32e n) :=
  ent_ok (fr := frOf [F32_0z n]) (ann := (.nd .no (.nd .no (.nd (.nd .no (.nd (.use 0) .no)) .no)))) (frm := [(0, .fz)]) laws fnok (E55_ok n).tab (e := F32e n) (fn := Go.Proofs.Try.f32) (by kernel_rfl) (AllF.ofB (cd := F32c) (l := [(0, codeAt F32c [1, 1, 0, 1, 0])]) (by kernel_rfl) (by kernel_rfl) (AllF.cons (F32_0_ok n) AllF.nil)) (F32_eq n)
noncomputable def E56 (n : Nat) : List (Ent G) := F32e n :: E55 n
theorem E56_ok (n : Nat) : AllE prog G (E56 n) := AllE.cons (F32_ok n) (E55_ok n)
abbrev Q11RC : Type := (Int → ByteArray → List ByteArray → List Ex → Option ((Int × (ByteArray × (List ByteArray × (List Ex × Unit)))) × Unit)) × (List Ex → Option (List Ex × Unit)) × Unit
noncomputable def Q11L (n : Nat) (rc : Q11RC) : List (Ent G) := ⟨11, (.cons (.agg (.cons (.int .i64) (.cons .str (.cons (.imm 2) (.cons (.imm 4) .nil))))) .nil), [], (.agg (.cons (.int .i64) (.cons .str (.cons (.imm 2) (.cons (.imm 3) .nil))))), [], fun x y => rc.1 x.1.1 x.1.2.1 x.1.2.2.1 x.1.2.2.2.1⟩ :: ⟨33, (.cons (.imm 4) .nil), [], (.imm 3), [], fun x y => rc.2.1 x.1⟩ :: E56 n
-- 11 loop.example/slowworm/laws.toExpr
noncomputable def F11bc : Code := bodyOf Go.Proofs.Try.f11
noncomputable def F11b (n : Nat) (rc : Q11RC) (a1981 : Int) (a1982 : ByteArray) (a1983 : List ByteArray) (a1984 : List Ex) : Option ((Int × (ByteArray × (List ByteArray × (List Ex × Unit)))) × Unit) :=
  (andThen (F32 n a1983) fun r1985 =>
  (andThen (rc.2.1 a1984) fun r1986 =>
  some ((a1981, (a1982, (r1985.1, (r1986.1, ())))), ())))
noncomputable def F11be (n : Nat) (rc : Q11RC) : Ent G := ⟨11, (.cons (.agg (.cons (.int .i64) (.cons .str (.cons (.imm 2) (.cons (.imm 4) .nil))))) .nil), [], (.agg (.cons (.int .i64) (.cons .str (.cons (.imm 2) (.cons (.imm 3) .nil))))), [], fun x y => F11b n rc x.1.1 x.1.2.1 x.1.2.2.1 x.1.2.2.2.1⟩
theorem F11b_eq (n : Nat) (rc : Q11RC) (x : ShL.den G (.cons (.agg (.cons (.int .i64) (.cons .str (.cons (.imm 2) (.cons (.imm 4) .nil))))) .nil)) (y : denO G []) : (F11be n rc).F x y = runFn prog G (ro G (tabOf (Q11L n rc)) (frOf []) _) Go.Proofs.Try.f11 .no [(0, .fz)] (ShL.enc G (.cons (.agg (.cons (.int .i64) (.cons .str (.cons (.imm 2) (.cons (.imm 4) .nil))))) .nil) x) (encO G [] y) (decR (.agg (.cons (.int .i64) (.cons .str (.cons (.imm 2) (.cons (.imm 3) .nil))))) []) := by kernel_rfl
theorem F11b_ok (n : Nat) (rc : Q11RC) (h : AllE prog G (Q11L n rc)) : EntOK prog G (F11be n rc) :=
  ent_ok (fr := frOf []) (ann := .no) (frm := [(0, .fz)]) laws fnok h.tab (e := F11be n rc) (fn := Go.Proofs.Try.f11) (by kernel_rfl) (AllF.ofB (cd := F11bc) (l := []) (by kernel_rfl) (by kernel_rfl) AllF.nil) (F11b_eq n rc)
-- 33 loop.example/slowworm/laws.toExprS
noncomputable def F33bc : Code := bodyOf Go.Proofs.Try.f33
noncomputable def F33b_0x0 : SSh := ⟨23, [(3, (.own 0))], [(.arr 3 true)]⟩
noncomputable def F33b_0s : SSh := ⟨23, [(0, (.imm 4)), (3, (.own 0)), (4, (.int .i64))], [(.arr 3 true)]⟩
noncomputable def F33b_0_step {R : Type} (n : Nat) (rc : Q11RC) (k0 : List Ex → Option R) (rec : List Ex → Int → List Ex → Option R) (x1990 : List Ex) (x1991 : Int) (x1992 : List Ex) : Option R :=
  (bif (decide (x1991 < ((x1990.length) : Int))) then
  (bif (decide ((0 : Int) ≤ x1991)) then
  (bif (decide (x1991 < ((x1990.length) : Int))) then
  let v1995 := (x1990.getD (x1991.toNat) (Ex.mk (0 : Int) ({ data := #[] } : ByteArray) [] []))
  (andThen (rc.1 v1995.kind v1995.text v1995.names v1995.kids) fun r2000 =>
  (bif (decide ((0 : Int) ≤ x1991)) then
  (bif (decide (x1991 < ((x1992.length) : Int))) then
  (rec x1990 (IntKind.wrap .i64 (x1991 + (1 : Int))) (x1992.set (x1991.toNat) (Ex.mk r2000.1.1 r2000.1.2.1 r2000.1.2.2.1 r2000.1.2.2.2.1)))
  else none)
  else none))
  else none)
  else none)
  else (k0 x1992))
noncomputable def F33b_0_it {R : Type} (n : Nat) (rc : Q11RC) (k0 : List Ex → Option R) : Nat → List Ex → Int → List Ex → Option R
  | 0, _, _, _ => none
  | k + 1, x1990, x1991, x1992 => F33b_0_step n rc k0 (F33b_0_it n rc k0 k) x1990 x1991 x1992
noncomputable def F33b_0 {R : Type} (n : Nat) (rc : Q11RC) (x1990 : List Ex) (x1991 : Int) (x1992 : List Ex) (k0 : List Ex → Option R) : Option R := F33b_0_it n rc k0 n x1990 x1991 x1992
noncomputable def F33b_0z (n : Nat) (rc : Q11RC) : Sm G := inZ G 0 ⟨[0, 3, 4], []⟩ F33b_0s fun R x K => F33b_0_it n rc (fun u0 => K (.exit 0) (SSh.enc G F33b_0x0 (((), ()), (u0, ())))) n x.1.1 x.1.2.2.1 x.2.1
theorem F33b_0_eq (n : Nat) (rc : Q11RC) (R : Type) (rec : SSh.den G F33b_0s → Option R) (x : SSh.den G F33b_0s) (K : AE → St G → Option R) :
  F33b_0_step n rc (fun u0 => K (.exit 0) (SSh.enc G F33b_0x0 (((), ()), (u0, ())))) (fun x1990 x1991 x1992 => rec ((x1990, ((), (x1991, ()))), (x1992, ()))) x.1.1 x.1.2.2.1 x.2.1 = exec prog G (ro G (tabOf (Q11L n rc)) (frOf []) R) 0 (codeAt F33bc [1, 1, 0, 1, 0, 0]) .no (SSh.enc G F33b_0s x) (kLoop G (ro G (tabOf (Q11L n rc)) (frOf []) R) 0 ⟨[0, 3, 4], []⟩ F33b_0s ⟨⟨[3], []⟩, ⟨[2], []⟩, [(0, ⟨[3], []⟩)]⟩ rec K) := by kernel_rfl
theorem F33b_0_ok (n : Nat) (rc : Q11RC) (h : AllE prog G (Q11L n rc)) : FragOK prog G 0 (codeAt F33bc [1, 1, 0, 1, 0]) (F33b_0z n rc) :=
  frag_loop (Z := fun R k (x : SSh.den G F33b_0s) K => F33b_0_it n rc (fun u0 => K (.exit 0) (SSh.enc G F33b_0x0 (((), ()), (u0, ())))) k x.1.1 x.1.2.2.1 x.2.1) laws fnok h.tab (AllF.of (l := []) (by kernel_rfl) AllF.nil) (fun _ _ _ => rfl) (fun R k y K => F33b_0_eq n rc R (fun (x : SSh.den G F33b_0s) => F33b_0_it n rc (fun u0 => K (.exit 0) (SSh.enc G F33b_0x0 (((), ()), (u0, ())))) k x.1.1 x.1.2.2.1 x.2.1) y K) n
noncomputable def F33b (n : Nat) (rc : Q11RC) (a1987 : List Ex) : Option (List Ex × Unit) :=
  let v1988 := ((a1987.length) : Int)
  (bif (decide ((0 : Int) ≤ v1988)) then
  (bif (decide (v1988 ≤ v1988)) then
  (bif (decide (v1988 ≤ ((68719476736 : Nat) : Int))) then
  (F33b_0 n rc a1987 (0 : Int) (List.replicate (v1988.toNat) (Ex.mk (0 : Int) ({ data := #[] } : ByteArray) [] [])) (fun z2004 =>
  some (z2004, ())))
  else none)
  else none)
  else none)
noncomputable def F33be (n : Nat) (rc : Q11RC) : Ent G := ⟨33, (.cons (.imm 4) .nil), [], (.imm 3), [], fun x y => F33b n rc x.1⟩
theorem F33b_eq (n : Nat) (rc : Q11RC) (x : ShL.den G (.cons (.imm 4) .nil)) (y : denO G []) : (F33be n rc).F x y = runFn prog G (ro G (tabOf (Q11L n rc)) (frOf [F33b_0z n rc]) _) Go.Proofs.Try.f33 (.nd .no (.nd .no (.nd (.nd .no (.nd (.use 0) .no)) .no))) [(0, .fz)] (ShL.enc G (.cons (.imm 4) .nil) x) (encO G [] y) (decR (.imm 3) []) := by kernel_rfl
theorem F33b_ok (n : Nat) (rc : Q11RC) (h : AllE prog G (Q11L n rc)) : EntOK prog G (F33be n rc) :=
  ent_ok (fr := frOf [F33b_0z n rc]) (ann := (.nd .no (.nd .no (.nd (.nd .no (.nd (.use 0) .no)) .no)))) (frm := [(0, .fz)]) laws fnok h.tab (e := F33be n rc) (fn := Go.Proofs.Try.f33) (by kernel_rfl) (AllF.ofB (cd := F33bc) (l := [(0, codeAt F33bc [1, 1, 0, 1, 0])]) (by kernel_rfl) (by kernel_rfl) (AllF.cons (F33b_0_ok n rc h) AllF.nil)) (F33b_eq n rc)
noncomputable def Q11it (n : Nat) : Nat → Q11RC
  | 0 => (fun _ _ _ _ => none, fun _ => none, ())
  | k + 1 => (F11b n (Q11it n k), F33b n (Q11it n k), ())
theorem Q11it_ok (n : Nat) : ∀ k, AllE prog G (Q11L n (Q11it n k))
  | 0 => (AllE.cons (EntOK.none fun _ _ => rfl) (AllE.cons (EntOK.none fun _ _ => rfl) (E56_ok n)))
  | k + 1 => (AllE.cons (F11b_ok n _ (Q11it_ok n k)) (AllE.cons (F33b_ok n _ (Q11it_ok n k)) (E56_ok n)))
noncomputable def F11 (n : Nat) (a0 : Int) (a1 : ByteArray) (a2 : List ByteArray) (a3 : List Ex) : Option ((Int × (ByteArray × (List ByteArray × (List Ex × Unit)))) × Unit) := (Q11it n n).1 a0 a1 a2 a3
noncomputable def F11e (n : Nat) : Ent G := ⟨11, (.cons (.agg (.cons (.int .i64) (.cons .str (.cons (.imm 2) (.cons (.imm 4) .nil))))) .nil), [], (.agg (.cons (.int .i64) (.cons .str (.cons (.imm 2) (.cons (.imm 3) .nil))))), [], fun x y => F11 n x.1.1 x.1.2.1 x.1.2.2.1 x.1.2.2.2.1⟩
noncomputable def F33 (n : Nat) (a0 : List Ex) : Option (List Ex × Unit) := (Q11it n n).2.1 a0
noncomputable def F33e (n : Nat) : Ent G := ⟨33, (.cons (.imm 4) .nil), [], (.imm 3), [], fun x y => F33 n x.1⟩
noncomputable def E57 (n : Nat) : List (Ent G) := F11e n :: F33e n :: E56 n
theorem E57_ok (n : Nat) : AllE prog G (E57 n) := Q11it_ok n n
-- 10 loop.example/slowworm/spec.ExprOk
noncomputable def F10c : Code := bodyOf Go.Proofs.Try.f10
noncomputable def F10 (n : Nat) (a2006 : Int) (a2007 : ByteArray) (a2008 : List ByteArray) (a2009 : List Ex) : Option (Bool × Unit) :=
  (andThen (F31 n a2006 a2007 a2008 a2009 (7 : Int)) fun r2010 =>
  some (r2010.1, ()))
noncomputable def F10e (n : Nat) : Ent G := ⟨10, (.cons (.agg (.cons (.int .i64) (.cons .str (.cons (.imm 2) (.cons (.imm 3) .nil))))) .nil), [], .bool, [], fun x y => F10 n x.1.1 x.1.2.1 x.1.2.2.1 x.1.2.2.2.1⟩
theorem F10_eq (n : Nat) (x : ShL.den G (.cons (.agg (.cons (.int .i64) (.cons .str (.cons (.imm 2) (.cons (.imm 3) .nil))))) .nil)) (y : denO G []) : (F10e n).F x y = runFn prog G (ro G (tabOf (E57 n)) (frOf []) _) Go.Proofs.Try.f10 .no [(0, .fz)] (ShL.enc G (.cons (.agg (.cons (.int .i64) (.cons .str (.cons (.imm 2) (.cons (.imm 3) .nil))))) .nil) x) (encO G [] y) (decR .bool []) := by kernel_rfl
theorem F10_ok (n : Nat) : EntOK prog G (F10e n) :=
  ent_ok (fr := frOf []) (ann := .no) (frm := [(0, .fz)]) laws fnok (E57_ok n).tab (e := F10e n) (fn := Go.Proofs.Try.f10) (by kernel_rfl) (AllF.ofB (cd := F10c) (l := []) (by kernel_rfl) (by kernel_rfl) AllF.nil) (F10_eq n)
noncomputable def E58 (n : Nat) : List (Ent G) := F10e n :: E57 n
theorem E58_ok (n : Nat) : AllE prog G (E58 n) := AllE.cons (F10_ok n) (E57_ok n)
-- 21 loop.example/slowworm/laws.eqStringS
noncomputable def F21c : Code := bodyOf Go.Proofs.Try.f21
noncomputable def F21_0x0 : SSh := ⟨26, [(4, .bool)], []⟩
noncomputable def F21_0x1 : SSh := ⟨26, [], []⟩
noncomputable def F21_0s : SSh := ⟨26, [(0, (.imm 2)), (1, (.imm 2)), (5, (.int .i64))], []⟩
noncomputable def F21_0_step {R : Type} (n : Nat) (k0 : Bool → Option R) (k1 : Option R) (rec : List ByteArray → List ByteArray → Int → Option R) (x2031 : List ByteArray) (x2032 : List ByteArray) (x2033 : Int) : Option R :=
  (bif (decide (x2033 < ((x2031.length) : Int))) then
  (bif (decide ((0 : Int) ≤ x2033)) then
  (bif (decide (x2033 < ((x2031.length) : Int))) then
  (bif (decide ((0 : Int) ≤ x2033)) then
  (bif (decide (x2033 < ((x2032.length) : Int))) then
  (bif (!(((x2031.getD (x2033.toNat) ({ data := #[] } : ByteArray)).toList) == ((x2032.getD (x2033.toNat) ({ data := #[] } : ByteArray)).toList))) then
  (k0 false)
  else (rec x2031 x2032 (IntKind.wrap .i64 (x2033 + (1 : Int)))))
  else none)
  else none)
  else none)
  else none)
  else k1)
noncomputable def F21_0_it {R : Type} (n : Nat) (k0 : Bool → Option R) (k1 : Option R) : Nat → List ByteArray → List ByteArray → Int → Option R
  | 0, _, _, _ => none
  | k + 1, x2031, x2032, x2033 => F21_0_step n k0 k1 (F21_0_it n k0 k1 k) x2031 x2032 x2033
noncomputable def F21_0 {R : Type} (n : Nat) (x2031 : List ByteArray) (x2032 : List ByteArray) (x2033 : Int) (k0 : Bool → Option R) (k1 : Option R) : Option R := F21_0_it n k0 k1 n x2031 x2032 x2033
noncomputable def F21_0z (n : Nat) : Sm G := inZ G 0 ⟨[0, 1, 5], []⟩ F21_0s fun R x K => F21_0_it n (fun u0 => K .ret (SSh.enc G F21_0x0 ((u0, ()), ()))) (K (.exit 0) (SSh.enc G F21_0x1 ((), ()))) n x.1.1 x.1.2.1 x.1.2.2.1
theorem F21_0_eq (n : Nat) (R : Type) (rec : SSh.den G F21_0s → Option R) (x : SSh.den G F21_0s) (K : AE → St G → Option R) :
  F21_0_step n (fun u0 => K .ret (SSh.enc G F21_0x0 ((u0, ()), ()))) (K (.exit 0) (SSh.enc G F21_0x1 ((), ()))) (fun x2031 x2032 x2033 => rec ((x2031, (x2032, (x2033, ()))), ())) x.1.1 x.1.2.1 x.1.2.2.1 = exec prog G (ro G (tabOf (E58 n)) (frOf []) R) 0 (codeAt F21c [1, 1, 0, 1, 0, 0]) .no (SSh.enc G F21_0s x) (kLoop G (ro G (tabOf (E58 n)) (frOf []) R) 0 ⟨[0, 1, 5], []⟩ F21_0s ⟨⟨[], []⟩, ⟨[4], []⟩, [(0, ⟨[], []⟩)]⟩ rec K) := by kernel_rfl
theorem F21_0_ok (n : Nat) : FragOK prog G 0 (codeAt F21c [1, 1, 0, 1, 0]) (F21_0z n) :=
  frag_loop (Z := fun R k (x : SSh.den G F21_0s) K => F21_0_it n (fun u0 => K .ret (SSh.enc G F21_0x0 ((u0, ()), ()))) (K (.exit 0) (SSh.enc G F21_0x1 ((), ()))) k x.1.1 x.1.2.1 x.1.2.2.1) laws fnok (E58_ok n).tab (AllF.of (l := []) (by kernel_rfl) AllF.nil) (fun _ _ _ => rfl) (fun R k y K => F21_0_eq n R (fun (x : SSh.den G F21_0s) => F21_0_it n (fun u0 => K .ret (SSh.enc G F21_0x0 ((u0, ()), ()))) (K (.exit 0) (SSh.enc G F21_0x1 ((), ()))) k x.1.1 x.1.2.1 x.1.2.2.1) y K) n
noncomputable def F21 (n : Nat) (a2026 : List ByteArray) (a2027 : List ByteArray) : Option (Bool × Unit) :=
  (bif (((a2026.length) : Int) != ((a2027.length) : Int)) then
  some (false, ())
  else (F21_0 n a2026 a2027 (0 : Int) (fun z2042 =>
  some (z2042, ())) (
  some (true, ()))))
noncomputable def F21e (n : Nat) : Ent G := ⟨21, (.cons (.imm 2) (.cons (.imm 2) .nil)), [], .bool, [], fun x y => F21 n x.1 x.2.1⟩
theorem F21_eq (n : Nat) (x : ShL.den G (.cons (.imm 2) (.cons (.imm 2) .nil))) (y : denO G []) : (F21e n).F x y = runFn prog G (ro G (tabOf (E58 n)) (frOf [F21_0z n]) _) Go.Proofs.Try.f21 (.nd .no (.nd .no (.nd (.nd .no (.nd (.use 0) .no)) .no))) [(0, .fz)] (ShL.enc G (.cons (.imm 2) (.cons (.imm 2) .nil)) x) (encO G [] y) (decR .bool []) := by kernel_rfl
theorem F21_ok (n : Nat) : EntOK prog G (F21e n) :=
  ent_ok (fr := frOf [F21_0z n]) (ann := (.nd .no (.nd .no (.nd (.nd .no (.nd (.use 0) .no)) .no)))) (frm := [(0, .fz)]) laws fnok (E58_ok n).tab (e := F21e n) (fn := Go.Proofs.Try.f21) (by kernel_rfl) (AllF.ofB (cd := F21c) (l := [(0, codeAt F21c [1, 1, 0, 1, 0])]) (by kernel_rfl) (by kernel_rfl) (AllF.cons (F21_0_ok n) AllF.nil)) (F21_eq n)
noncomputable def E59 (n : Nat) : List (Ent G) := F21e n :: E58 n
theorem E59_ok (n : Nat) : AllE prog G (E59 n) := AllE.cons (F21_ok n) (E58_ok n)
abbrev Q13RC : Type := (Int → ByteArray → List ByteArray → List Ex → Int → ByteArray → List ByteArray → List Ex → Option (Bool × Unit)) × (List Ex → List Ex → Option (Bool × Unit)) × Unit
noncomputable def Q13L (n : Nat) (rc : Q13RC) : List (Ent G) := ⟨13, (.cons (.agg (.cons (.int .i64) (.cons .str (.cons (.imm 2) (.cons (.imm 3) .nil))))) (.cons (.agg (.cons (.int .i64) (.cons .str (.cons (.imm 2) (.cons (.imm 3) .nil))))) .nil)), [], .bool, [], fun x y => rc.1 x.1.1 x.1.2.1 x.1.2.2.1 x.1.2.2.2.1 x.2.1.1 x.2.1.2.1 x.2.1.2.2.1 x.2.1.2.2.2.1⟩ :: ⟨35, (.cons (.imm 3) (.cons (.imm 3) .nil)), [], .bool, [], fun x y => rc.2.1 x.1 x.2.1⟩ :: E59 n
-- 13 loop.example/slowworm/laws.eqExpr
noncomputable def F13bc : Code := bodyOf Go.Proofs.Try.f13
noncomputable def F13b (n : Nat) (rc : Q13RC) (a2103 : Int) (a2104 : ByteArray) (a2105 : List ByteArray) (a2106 : List Ex) (a2107 : Int) (a2108 : ByteArray) (a2109 : List ByteArray) (a2110 : List Ex) : Option (Bool × Unit) :=
  (bif (a2103 != a2107) then
  some (false, ())
  else (bif (!((a2104.toList) == (a2108.toList))) then
  some (false, ())
  else (andThen (F21 n a2105 a2109) fun r2113 =>
  (bif (!r2113.1) then
  some (false, ())
  else (andThen (rc.2.1 a2106 a2110) fun r2115 =>
  (bif (!r2115.1) then
  some (false, ())
  else some (true, ())))))))
noncomputable def F13be (n : Nat) (rc : Q13RC) : Ent G := ⟨13, (.cons (.agg (.cons (.int .i64) (.cons .str (.cons (.imm 2) (.cons (.imm 3) .nil))))) (.cons (.agg (.cons (.int .i64) (.cons .str (.cons (.imm 2) (.cons (.imm 3) .nil))))) .nil)), [], .bool, [], fun x y => F13b n rc x.1.1 x.1.2.1 x.1.2.2.1 x.1.2.2.2.1 x.2.1.1 x.2.1.2.1 x.2.1.2.2.1 x.2.1.2.2.2.1⟩
theorem F13b_eq (n : Nat) (rc : Q13RC) (x : ShL.den G (.cons (.agg (.cons (.int .i64) (.cons .str (.cons (.imm 2) (.cons (.imm 3) .nil))))) (.cons (.agg (.cons (.int .i64) (.cons .str (.cons (.imm 2) (.cons (.imm 3) .nil))))) .nil))) (y : denO G []) : (F13be n rc).F x y = runFn prog G (ro G (tabOf (Q13L n rc)) (frOf []) _) Go.Proofs.Try.f13 .no [(0, .fz)] (ShL.enc G (.cons (.agg (.cons (.int .i64) (.cons .str (.cons (.imm 2) (.cons (.imm 3) .nil))))) (.cons (.agg (.cons (.int .i64) (.cons .str (.cons (.imm 2) (.cons (.imm 3) .nil))))) .nil)) x) (encO G [] y) (decR .bool []) := by kernel_rfl
theorem F13b_ok (n : Nat) (rc : Q13RC) (h : AllE prog G (Q13L n rc)) : EntOK prog G (F13be n rc) :=
  ent_ok (fr := frOf []) (ann := .no) (frm := [(0, .fz)]) laws fnok h.tab (e := F13be n rc) (fn := Go.Proofs.Try.f13) (by kernel_rfl) (AllF.ofB (cd := F13bc) (l := []) (by kernel_rfl) (by kernel_rfl) AllF.nil) (F13b_eq n rc)
-- 35 loop.example/slowworm/laws.eqExprS
noncomputable def F35bc : Code := bodyOf Go.Proofs.Try.f35
noncomputable def F35b_0x0 : SSh := ⟨27, [(4, .bool)], []⟩
noncomputable def F35b_0x1 : SSh := ⟨27, [], []⟩
noncomputable def F35b_0s : SSh := ⟨27, [(0, (.imm 3)), (1, (.imm 3)), (5, (.int .i64))], []⟩
noncomputable def F35b_0_step {R : Type} (n : Nat) (rc : Q13RC) (k0 : Bool → Option R) (k1 : Option R) (rec : List Ex → List Ex → Int → Option R) (x2122 : List Ex) (x2123 : List Ex) (x2124 : Int) : Option R :=
  (bif (decide (x2124 < ((x2122.length) : Int))) then
  (bif (decide ((0 : Int) ≤ x2124)) then
  (bif (decide (x2124 < ((x2122.length) : Int))) then
  let v2127 := (x2122.getD (x2124.toNat) (Ex.mk (0 : Int) ({ data := #[] } : ByteArray) [] []))
  (bif (decide ((0 : Int) ≤ x2124)) then
  (bif (decide (x2124 < ((x2123.length) : Int))) then
  let v2132 := (x2123.getD (x2124.toNat) (Ex.mk (0 : Int) ({ data := #[] } : ByteArray) [] []))
  (andThen (rc.1 v2127.kind v2127.text v2127.names v2127.kids v2132.kind v2132.text v2132.names v2132.kids) fun r2137 =>
  (bif (!r2137.1) then
  (k0 false)
  else (rec x2122 x2123 (IntKind.wrap .i64 (x2124 + (1 : Int))))))
  else none)
  else none)
  else none)
  else none)
  else k1)
noncomputable def F35b_0_it {R : Type} (n : Nat) (rc : Q13RC) (k0 : Bool → Option R) (k1 : Option R) : Nat → List Ex → List Ex → Int → Option R
  | 0, _, _, _ => none
  | k + 1, x2122, x2123, x2124 => F35b_0_step n rc k0 k1 (F35b_0_it n rc k0 k1 k) x2122 x2123 x2124
noncomputable def F35b_0 {R : Type} (n : Nat) (rc : Q13RC) (x2122 : List Ex) (x2123 : List Ex) (x2124 : Int) (k0 : Bool → Option R) (k1 : Option R) : Option R := F35b_0_it n rc k0 k1 n x2122 x2123 x2124
noncomputable def F35b_0z (n : Nat) (rc : Q13RC) : Sm G := inZ G 0 ⟨[0, 1, 5], []⟩ F35b_0s fun R x K => F35b_0_it n rc (fun u0 => K .ret (SSh.enc G F35b_0x0 ((u0, ()), ()))) (K (.exit 0) (SSh.enc G F35b_0x1 ((), ()))) n x.1.1 x.1.2.1 x.1.2.2.1
theorem F35b_0_eq (n : Nat) (rc : Q13RC) (R : Type) (rec : SSh.den G F35b_0s → Option R) (x : SSh.den G F35b_0s) (K : AE → St G → Option R) :
  F35b_0_step n rc (fun u0 => K .ret (SSh.enc G F35b_0x0 ((u0, ()), ()))) (K (.exit 0) (SSh.enc G F35b_0x1 ((), ()))) (fun x2122 x2123 x2124 => rec ((x2122, (x2123, (x2124, ()))), ())) x.1.1 x.1.2.1 x.1.2.2.1 = exec prog G (ro G (tabOf (Q13L n rc)) (frOf []) R) 0 (codeAt F35bc [1, 1, 0, 1, 0, 0]) .no (SSh.enc G F35b_0s x) (kLoop G (ro G (tabOf (Q13L n rc)) (frOf []) R) 0 ⟨[0, 1, 5], []⟩ F35b_0s ⟨⟨[], []⟩, ⟨[4], []⟩, [(0, ⟨[], []⟩)]⟩ rec K) := by kernel_rfl
theorem F35b_0_ok (n : Nat) (rc : Q13RC) (h : AllE prog G (Q13L n rc)) : FragOK prog G 0 (codeAt F35bc [1, 1, 0, 1, 0]) (F35b_0z n rc) :=
  frag_loop (Z := fun R k (x : SSh.den G F35b_0s) K => F35b_0_it n rc (fun u0 => K .ret (SSh.enc G F35b_0x0 ((u0, ()), ()))) (K (.exit 0) (SSh.enc G F35b_0x1 ((), ()))) k x.1.1 x.1.2.1 x.1.2.2.1) laws fnok h.tab (AllF.of (l := []) (by kernel_rfl) AllF.nil) (fun _ _ _ => rfl) (fun R k y K => F35b_0_eq n rc R (fun (x : SSh.den G F35b_0s) => F35b_0_it n rc (fun u0 => K .ret (SSh.enc G F35b_0x0 ((u0, ()), ()))) (K (.exit 0) (SSh.enc G F35b_0x1 ((), ()))) k x.1.1 x.1.2.1 x.1.2.2.1) y K) n
noncomputable def F35b (n : Nat) (rc : Q13RC) (a2117 : List Ex) (a2118 : List Ex) : Option (Bool × Unit) :=
  (bif (((a2117.length) : Int) != ((a2118.length) : Int)) then
  some (false, ())
  else (F35b_0 n rc a2117 a2118 (0 : Int) (fun z2140 =>
  some (z2140, ())) (
  some (true, ()))))
noncomputable def F35be (n : Nat) (rc : Q13RC) : Ent G := ⟨35, (.cons (.imm 3) (.cons (.imm 3) .nil)), [], .bool, [], fun x y => F35b n rc x.1 x.2.1⟩
theorem F35b_eq (n : Nat) (rc : Q13RC) (x : ShL.den G (.cons (.imm 3) (.cons (.imm 3) .nil))) (y : denO G []) : (F35be n rc).F x y = runFn prog G (ro G (tabOf (Q13L n rc)) (frOf [F35b_0z n rc]) _) Go.Proofs.Try.f35 (.nd .no (.nd .no (.nd (.nd .no (.nd (.use 0) .no)) .no))) [(0, .fz)] (ShL.enc G (.cons (.imm 3) (.cons (.imm 3) .nil)) x) (encO G [] y) (decR .bool []) := by kernel_rfl
theorem F35b_ok (n : Nat) (rc : Q13RC) (h : AllE prog G (Q13L n rc)) : EntOK prog G (F35be n rc) :=
  ent_ok (fr := frOf [F35b_0z n rc]) (ann := (.nd .no (.nd .no (.nd (.nd .no (.nd (.use 0) .no)) .no)))) (frm := [(0, .fz)]) laws fnok h.tab (e := F35be n rc) (fn := Go.Proofs.Try.f35) (by kernel_rfl) (AllF.ofB (cd := F35bc) (l := [(0, codeAt F35bc [1, 1, 0, 1, 0])]) (by kernel_rfl) (by kernel_rfl) (AllF.cons (F35b_0_ok n rc h) AllF.nil)) (F35b_eq n rc)
noncomputable def Q13it (n : Nat) : Nat → Q13RC
  | 0 => (fun _ _ _ _ _ _ _ _ => none, fun _ _ => none, ())
  | k + 1 => (F13b n (Q13it n k), F35b n (Q13it n k), ())
theorem Q13it_ok (n : Nat) : ∀ k, AllE prog G (Q13L n (Q13it n k))
  | 0 => (AllE.cons (EntOK.none fun _ _ => rfl) (AllE.cons (EntOK.none fun _ _ => rfl) (E59_ok n)))
  | k + 1 => (AllE.cons (F13b_ok n _ (Q13it_ok n k)) (AllE.cons (F35b_ok n _ (Q13it_ok n k)) (E59_ok n)))
noncomputable def F13 (n : Nat) (a0 : Int) (a1 : ByteArray) (a2 : List ByteArray) (a3 : List Ex) (a4 : Int) (a5 : ByteArray) (a6 : List ByteArray) (a7 : List Ex) : Option (Bool × Unit) := (Q13it n n).1 a0 a1 a2 a3 a4 a5 a6 a7
noncomputable def F13e (n : Nat) : Ent G := ⟨13, (.cons (.agg (.cons (.int .i64) (.cons .str (.cons (.imm 2) (.cons (.imm 3) .nil))))) (.cons (.agg (.cons (.int .i64) (.cons .str (.cons (.imm 2) (.cons (.imm 3) .nil))))) .nil)), [], .bool, [], fun x y => F13 n x.1.1 x.1.2.1 x.1.2.2.1 x.1.2.2.2.1 x.2.1.1 x.2.1.2.1 x.2.1.2.2.1 x.2.1.2.2.2.1⟩
noncomputable def F35 (n : Nat) (a0 : List Ex) (a1 : List Ex) : Option (Bool × Unit) := (Q13it n n).2.1 a0 a1
noncomputable def F35e (n : Nat) : Ent G := ⟨35, (.cons (.imm 3) (.cons (.imm 3) .nil)), [], .bool, [], fun x y => F35 n x.1 x.2.1⟩
noncomputable def E60 (n : Nat) : List (Ent G) := F13e n :: F35e n :: E59 n
theorem E60_ok (n : Nat) : AllE prog G (E60 n) := Q13it_ok n n
noncomputable def F3 (n : Nat) (a1812 : Int) (a1813 : ByteArray) (a1814 : List ByteArray) (a1815 : List Ex) : Option (Bool × Unit) :=
  (andThen (F9 n a1812 a1813 a1814 a1815 (1048576 : Int)) fun r1923 =>
  (bif (decide (r1923.1 < (0 : Int))) then
  some (true, ())
  else (andThen (F11 n a1812 a1813 a1814 a1815) fun r2005 =>
  (andThen (F10 n r2005.1.1 r2005.1.2.1 r2005.1.2.2.1 r2005.1.2.2.2.1) fun r2011 =>
  (andThen (F11 n a1812 a1813 a1814 a1815) fun r2012 =>
  (andThen (F12 n r2012.1.1 r2012.1.2.1 r2012.1.2.2.1 r2012.1.2.2.2.1) fun r2013 =>
  (bif (!(r2013.1 == r2011.1)) then
  some (false, ())
  else (andThen (F11 n a1812 a1813 a1814 a1815) fun r2015 =>
  (andThen (F13 n r2012.1.1 r2012.1.2.1 r2012.1.2.2.1 r2012.1.2.2.2.1 r2015.1.1 r2015.1.2.1 r2015.1.2.2.1 r2015.1.2.2.2.1) fun r2141 =>
  (bif (!r2141.1) then
  some (false, ())
  else some (true, ())))))))))))
noncomputable def F3e (n : Nat) : Ent G := ⟨3, (.cons (.agg (.cons (.int .i64) (.cons .str (.cons (.imm 2) (.cons (.imm 4) .nil))))) .nil), [], .bool, [], fun x y => F3 n x.1.1 x.1.2.1 x.1.2.2.1 x.1.2.2.2.1⟩
theorem F3_eq (n : Nat) (x : ShL.den G (.cons (.agg (.cons (.int .i64) (.cons .str (.cons (.imm 2) (.cons (.imm 4) .nil))))) .nil)) (y : denO G []) : (F3e n).F x y = runFn prog G (ro G (tabOf (E60 n)) (frOf []) _) Go.Proofs.Try.f3 .no [(0, .fz)] (ShL.enc G (.cons (.agg (.cons (.int .i64) (.cons .str (.cons (.imm 2) (.cons (.imm 4) .nil))))) .nil) x) (encO G [] y) (decR .bool []) := by kernel_rfl
theorem F3_ok (n : Nat) : EntOK prog G (F3e n) :=
  ent_ok (fr := frOf []) (ann := .no) (frm := [(0, .fz)]) laws fnok (E60_ok n).tab (e := F3e n) (fn := Go.Proofs.Try.f3) (by kernel_rfl) (AllF.ofB (cd := F3c) (l := []) (by kernel_rfl) (by kernel_rfl) AllF.nil) (F3_eq n)
noncomputable def E61 (n : Nat) : List (Ent G) := F3e n :: E60 n
theorem E61_ok (n : Nat) : AllE prog G (E61 n) := AllE.cons (F3_ok n) (E60_ok n)
-- 4 loop.example/slowworm/laws.FnExactExprSize
noncomputable def F4c : Code := bodyOf Go.Proofs.Try.f4
noncomputable def F4 (n : Nat) (a2143 : Int) (a2144 : ByteArray) (a2145 : List ByteArray) (a2146 : List Ex) : Option (Bool × Unit) :=
  (andThen (F9 n a2143 a2144 a2145 a2146 (1048576 : Int)) fun r2147 =>
  (bif (decide (r2147.1 < (0 : Int))) then
  some (true, ())
  else (andThen (F11 n a2143 a2144 a2145 a2146) fun r2149 =>
  (andThen (F14 n r2149.1.1 r2149.1.2.1 r2149.1.2.2.1 r2149.1.2.2.2.1) fun r2150 =>
  (andThen (F11 n a2143 a2144 a2145 a2146) fun r2151 =>
  (andThen (F15 n r2151.1.1 r2151.1.2.1 r2151.1.2.2.1 r2151.1.2.2.2.1) fun r2152 =>
  (bif (r2152.1 != r2150.1) then
  some (false, ())
  else (andThen (F11 n a2143 a2144 a2145 a2146) fun r2154 =>
  (andThen (F13 n r2151.1.1 r2151.1.2.1 r2151.1.2.2.1 r2151.1.2.2.2.1 r2154.1.1 r2154.1.2.1 r2154.1.2.2.1 r2154.1.2.2.2.1) fun r2155 =>
  (bif (!r2155.1) then
  some (false, ())
  else some (true, ())))))))))))
noncomputable def F4e (n : Nat) : Ent G := ⟨4, (.cons (.agg (.cons (.int .i64) (.cons .str (.cons (.imm 2) (.cons (.imm 4) .nil))))) .nil), [], .bool, [], fun x y => F4 n x.1.1 x.1.2.1 x.1.2.2.1 x.1.2.2.2.1⟩
theorem F4_eq (n : Nat) (x : ShL.den G (.cons (.agg (.cons (.int .i64) (.cons .str (.cons (.imm 2) (.cons (.imm 4) .nil))))) .nil)) (y : denO G []) : (F4e n).F x y = runFn prog G (ro G (tabOf (E61 n)) (frOf []) _) Go.Proofs.Try.f4 .no [(0, .fz)] (ShL.enc G (.cons (.agg (.cons (.int .i64) (.cons .str (.cons (.imm 2) (.cons (.imm 4) .nil))))) .nil) x) (encO G [] y) (decR .bool []) := by kernel_rfl
theorem F4_ok (n : Nat) : EntOK prog G (F4e n) :=
  ent_ok (fr := frOf []) (ann := .no) (frm := [(0, .fz)]) laws fnok (E61_ok n).tab (e := F4e n) (fn := Go.Proofs.Try.f4) (by kernel_rfl) (AllF.ofB (cd := F4c) (l := []) (by kernel_rfl) (by kernel_rfl) AllF.nil) (F4_eq n)
noncomputable def E62 (n : Nat) : List (Ent G) := F4e n :: E61 n
theorem E62_ok (n : Nat) : AllE prog G (E62 n) := AllE.cons (F4_ok n) (E61_ok n)
-- 5 loop.example/slowworm/laws.FnExactExprSame
noncomputable def F5c : Code := bodyOf Go.Proofs.Try.f5
-- 16 loop.example/slowworm/spec.ExprSame
noncomputable def F16c : Code := bodyOf Go.Proofs.Try.f16
-- 48 loop.example/slowworm/spec.sameTexts
noncomputable def F48c : Code := bodyOf Go.Proofs.Try.f48
noncomputable def F48_0x0 : SSh := ⟨26, [(4, .bool)], []⟩
noncomputable def F48_0x1 : SSh := ⟨26, [], []⟩
noncomputable def F48_0s : SSh := ⟨26, [(0, (.imm 2)), (1, (.imm 2)), (5, (.int .i64))], []⟩
noncomputable def F48_0_step {R : Type} (n : Nat) (k0 : Bool → Option R) (k1 : Option R) (rec : List ByteArray → List ByteArray → Int → Option R) (x2199 : List ByteArray) (x2200 : List ByteArray) (x2201 : Int) : Option R :=
  (bif (decide (x2201 < ((x2199.length) : Int))) then
  (bif (decide ((0 : Int) ≤ x2201)) then
  (bif (decide (x2201 < ((x2199.length) : Int))) then
  (bif (decide ((0 : Int) ≤ x2201)) then
  (bif (decide (x2201 < ((x2200.length) : Int))) then
  (bif (!(((x2199.getD (x2201.toNat) ({ data := #[] } : ByteArray)).toList) == ((x2200.getD (x2201.toNat) ({ data := #[] } : ByteArray)).toList))) then
  (k0 false)
  else (rec x2199 x2200 (IntKind.wrap .i64 (x2201 + (1 : Int)))))
  else none)
  else none)
  else none)
  else none)
  else k1)
noncomputable def F48_0_it {R : Type} (n : Nat) (k0 : Bool → Option R) (k1 : Option R) : Nat → List ByteArray → List ByteArray → Int → Option R
  | 0, _, _, _ => none
  | k + 1, x2199, x2200, x2201 => F48_0_step n k0 k1 (F48_0_it n k0 k1 k) x2199 x2200 x2201
noncomputable def F48_0 {R : Type} (n : Nat) (x2199 : List ByteArray) (x2200 : List ByteArray) (x2201 : Int) (k0 : Bool → Option R) (k1 : Option R) : Option R := F48_0_it n k0 k1 n x2199 x2200 x2201
noncomputable def F48_0z (n : Nat) : Sm G := inZ G 0 ⟨[0, 1, 5], []⟩ F48_0s fun R x K => F48_0_it n (fun u0 => K .ret (SSh.enc G F48_0x0 ((u0, ()), ()))) (K (.exit 0) (SSh.enc G F48_0x1 ((), ()))) n x.1.1 x.1.2.1 x.1.2.2.1
theorem F48_0_eq (n : Nat) (R : Type) (rec : SSh.den G F48_0s → Option R) (x : SSh.den G F48_0s) (K : AE → St G → Option R) :
  F48_0_step n (fun u0 => K .ret (SSh.enc G F48_0x0 ((u0, ()), ()))) (K (.exit 0) (SSh.enc G F48_0x1 ((), ()))) (fun x2199 x2200 x2201 => rec ((x2199, (x2200, (x2201, ()))), ())) x.1.1 x.1.2.1 x.1.2.2.1 = exec prog G (ro G (tabOf (E62 n)) (frOf []) R) 0 (codeAt F48c [1, 1, 0, 1, 0, 0]) .no (SSh.enc G F48_0s x) (kLoop G (ro G (tabOf (E62 n)) (frOf []) R) 0 ⟨[0, 1, 5], []⟩ F48_0s ⟨⟨[], []⟩, ⟨[4], []⟩, [(0, ⟨[], []⟩)]⟩ rec K) := by kernel_rfl
theorem F48_0_ok (n : Nat) : FragOK prog G 0 (codeAt F48c [1, 1, 0, 1, 0]) (F48_0z n) :=
  frag_loop (Z := fun R k (x : SSh.den G F48_0s) K => F48_0_it n (fun u0 => K .ret (SSh.enc G F48_0x0 ((u0, ()), ()))) (K (.exit 0) (SSh.enc G F48_0x1 ((), ()))) k x.1.1 x.1.2.1 x.1.2.2.1) laws fnok (E62_ok n).tab (AllF.of (l := []) (by kernel_rfl) AllF.nil) (fun _ _ _ => rfl) (fun R k y K => F48_0_eq n R (fun (x : SSh.den G F48_0s) => F48_0_it n (fun u0 => K .ret (SSh.enc G F48_0x0 ((u0, ()), ()))) (K (.exit 0) (SSh.enc G F48_0x1 ((), ()))) k x.1.1 x.1.2.1 x.1.2.2.1) y K) n
noncomputable def F48 (n : Nat) (a2194 : List ByteArray) (a2195 : List ByteArray) : Option (Bool × Unit) :=
  (bif (((a2194.length) : Int) != ((a2195.length) : Int)) then
  some (false, ())
  else (F48_0 n a2194 a2195 (0 : Int) (fun z2210 =>
  some (z2210, ())) (
  some (true, ()))))
noncomputable def F48e (n : Nat) : Ent G := ⟨48, (.cons (.imm 2) (.cons (.imm 2) .nil)), [], .bool, [], fun x y => F48 n x.1 x.2.1⟩
theorem F48_eq (n : Nat) (x : ShL.den G (.cons (.imm 2) (.cons (.imm 2) .nil))) (y : denO G []) : (F48e n).F x y = runFn prog G (ro G (tabOf (E62 n)) (frOf [F48_0z n]) _) Go.Proofs.Try.f48 (.nd .no (.nd .no (.nd (.nd .no (.nd (.use 0) .no)) .no))) [(0, .fz)] (ShL.enc G (.cons (.imm 2) (.cons (.imm 2) .nil)) x) (encO G [] y) (decR .bool []) := by kernel_rfl
theorem F48_ok (n : Nat) : EntOK prog G (F48e n) :=
  ent_ok (fr := frOf [F48_0z n]) (ann := (.nd .no (.nd .no (.nd (.nd .no (.nd (.use 0) .no)) .no)))) (frm := [(0, .fz)]) laws fnok (E62_ok n).tab (e := F48e n) (fn := Go.Proofs.Try.f48) (by kernel_rfl) (AllF.ofB (cd := F48c) (l := [(0, codeAt F48c [1, 1, 0, 1, 0])]) (by kernel_rfl) (by kernel_rfl) (AllF.cons (F48_0_ok n) AllF.nil)) (F48_eq n)
noncomputable def E63 (n : Nat) : List (Ent G) := F48e n :: E62 n
theorem E63_ok (n : Nat) : AllE prog G (E63 n) := AllE.cons (F48_ok n) (E62_ok n)
abbrev Q38RC : Type := (Int → ByteArray → List ByteArray → List Ex → Int → ByteArray → List ByteArray → List Ex → Option (Bool × Unit)) × Unit
noncomputable def Q38L (n : Nat) (rc : Q38RC) : List (Ent G) := ⟨38, (.cons (.agg (.cons (.int .i64) (.cons .str (.cons (.imm 2) (.cons (.imm 3) .nil))))) (.cons (.agg (.cons (.int .i64) (.cons .str (.cons (.imm 2) (.cons (.imm 3) .nil))))) .nil)), [], .bool, [], fun x y => rc.1 x.1.1 x.1.2.1 x.1.2.2.1 x.1.2.2.2.1 x.2.1.1 x.2.1.2.1 x.2.1.2.2.1 x.2.1.2.2.2.1⟩ :: E63 n
-- 38 loop.example/slowworm/spec.sameExpr
noncomputable def F38bc : Code := bodyOf Go.Proofs.Try.f38
noncomputable def F38b_0x0 : SSh := ⟨54, [(4, .bool)], []⟩
noncomputable def F38b_0x1 : SSh := ⟨54, [], []⟩
noncomputable def F38b_0s : SSh := ⟨54, [(2, (.ptr 0 0)), (3, (.ptr 1 0)), (5, (.int .i64))], [(.box 30 (.cons (.int .i64) (.cons .str (.cons (.imm 2) (.cons (.imm 3) .nil))))), (.box 30 (.cons (.int .i64) (.cons .str (.cons (.imm 2) (.cons (.imm 3) .nil)))))]⟩
noncomputable def F38b_0_step {R : Type} (n : Nat) (rc : Q38RC) (k0 : Bool → Option R) (k1 : Option R) (rec : Int → Int → ByteArray → List ByteArray → List Ex → Int → ByteArray → List ByteArray → List Ex → Option R) (x2289 : Int) (x2290 : Int) (x2291 : ByteArray) (x2292 : List ByteArray) (x2293 : List Ex) (x2294 : Int) (x2295 : ByteArray) (x2296 : List ByteArray) (x2297 : List Ex) : Option R :=
  (bif (decide (x2289 < ((x2293.length) : Int))) then
  (bif (decide ((0 : Int) ≤ x2289)) then
  (bif (decide (x2289 < ((x2293.length) : Int))) then
  let v2300 := (x2293.getD (x2289.toNat) (Ex.mk (0 : Int) ({ data := #[] } : ByteArray) [] []))
  (bif (decide ((0 : Int) ≤ x2289)) then
  (bif (decide (x2289 < ((x2297.length) : Int))) then
  let v2305 := (x2297.getD (x2289.toNat) (Ex.mk (0 : Int) ({ data := #[] } : ByteArray) [] []))
  (andThen (rc.1 v2300.kind v2300.text v2300.names v2300.kids v2305.kind v2305.text v2305.names v2305.kids) fun r2310 =>
  (bif (!r2310.1) then
  (k0 false)
  else (rec (IntKind.wrap .i64 (x2289 + (1 : Int))) x2290 x2291 x2292 x2293 x2294 x2295 x2296 x2297)))
  else none)
  else none)
  else none)
  else none)
  else k1)
noncomputable def F38b_0_it {R : Type} (n : Nat) (rc : Q38RC) (k0 : Bool → Option R) (k1 : Option R) : Nat → Int → Int → ByteArray → List ByteArray → List Ex → Int → ByteArray → List ByteArray → List Ex → Option R
  | 0, _, _, _, _, _, _, _, _, _ => none
  | k + 1, x2289, x2290, x2291, x2292, x2293, x2294, x2295, x2296, x2297 => F38b_0_step n rc k0 k1 (F38b_0_it n rc k0 k1 k) x2289 x2290 x2291 x2292 x2293 x2294 x2295 x2296 x2297
noncomputable def F38b_0 {R : Type} (n : Nat) (rc : Q38RC) (x2289 : Int) (x2290 : Int) (x2291 : ByteArray) (x2292 : List ByteArray) (x2293 : List Ex) (x2294 : Int) (x2295 : ByteArray) (x2296 : List ByteArray) (x2297 : List Ex) (k0 : Bool → Option R) (k1 : Option R) : Option R := F38b_0_it n rc k0 k1 n x2289 x2290 x2291 x2292 x2293 x2294 x2295 x2296 x2297
noncomputable def F38b_0z (n : Nat) (rc : Q38RC) : Sm G := inZ G 0 ⟨[2, 3, 5], []⟩ F38b_0s fun R x K => F38b_0_it n rc (fun u0 => K .ret (SSh.enc G F38b_0x0 ((u0, ()), ()))) (K (.exit 0) (SSh.enc G F38b_0x1 ((), ()))) n x.1.2.2.1 x.2.1.1 x.2.1.2.1 x.2.1.2.2.1 x.2.1.2.2.2.1 x.2.2.1.1 x.2.2.1.2.1 x.2.2.1.2.2.1 x.2.2.1.2.2.2.1
theorem F38b_0_eq (n : Nat) (rc : Q38RC) (R : Type) (rec : SSh.den G F38b_0s → Option R) (x : SSh.den G F38b_0s) (K : AE → St G → Option R) :
  F38b_0_step n rc (fun u0 => K .ret (SSh.enc G F38b_0x0 ((u0, ()), ()))) (K (.exit 0) (SSh.enc G F38b_0x1 ((), ()))) (fun x2289 x2290 x2291 x2292 x2293 x2294 x2295 x2296 x2297 => rec (((), ((), (x2289, ()))), ((x2290, (x2291, (x2292, (x2293, ())))), ((x2294, (x2295, (x2296, (x2297, ())))), ())))) x.1.2.2.1 x.2.1.1 x.2.1.2.1 x.2.1.2.2.1 x.2.1.2.2.2.1 x.2.2.1.1 x.2.2.1.2.1 x.2.2.1.2.2.1 x.2.2.1.2.2.2.1 = exec prog G (ro G (tabOf (Q38L n rc)) (frOf []) R) 0 (codeAt F38bc [1, 1, 0, 1, 0, 0]) .no (SSh.enc G F38b_0s x) (kLoop G (ro G (tabOf (Q38L n rc)) (frOf []) R) 0 ⟨[2, 3, 5], []⟩ F38b_0s ⟨⟨[], []⟩, ⟨[4], []⟩, [(0, ⟨[], []⟩)]⟩ rec K) := by kernel_rfl
theorem F38b_0_ok (n : Nat) (rc : Q38RC) (h : AllE prog G (Q38L n rc)) : FragOK prog G 0 (codeAt F38bc [1, 1, 0, 1, 0]) (F38b_0z n rc) :=
  frag_loop (Z := fun R k (x : SSh.den G F38b_0s) K => F38b_0_it n rc (fun u0 => K .ret (SSh.enc G F38b_0x0 ((u0, ()), ()))) (K (.exit 0) (SSh.enc G F38b_0x1 ((), ()))) k x.1.2.2.1 x.2.1.1 x.2.1.2.1 x.2.1.2.2.1 x.2.1.2.2.2.1 x.2.2.1.1 x.2.2.1.2.1 x.2.2.1.2.2.1 x.2.2.1.2.2.2.1) laws fnok h.tab (AllF.of (l := []) (by kernel_rfl) AllF.nil) (fun _ _ _ => rfl) (fun R k y K => F38b_0_eq n rc R (fun (x : SSh.den G F38b_0s) => F38b_0_it n rc (fun u0 => K .ret (SSh.enc G F38b_0x0 ((u0, ()), ()))) (K (.exit 0) (SSh.enc G F38b_0x1 ((), ()))) k x.1.2.2.1 x.2.1.1 x.2.1.2.1 x.2.1.2.2.1 x.2.1.2.2.2.1 x.2.2.1.1 x.2.2.1.2.1 x.2.2.1.2.2.1 x.2.2.1.2.2.2.1) y K) n
noncomputable def F38b (n : Nat) (rc : Q38RC) (a2274 : Int) (a2275 : ByteArray) (a2276 : List ByteArray) (a2277 : List Ex) (a2278 : Int) (a2279 : ByteArray) (a2280 : List ByteArray) (a2281 : List Ex) : Option (Bool × Unit) :=
  (bif (a2274 != a2278) then
  some (false, ())
  else (bif (!((a2275.toList) == (a2279.toList))) then
  some (false, ())
  else (bif (((a2277.length) : Int) != ((a2281.length) : Int)) then
  some (false, ())
  else (andThen (F48 n a2276 a2280) fun r2287 =>
  (bif (!r2287.1) then
  some (false, ())
  else (F38b_0 n rc (0 : Int) a2274 a2275 a2276 a2277 a2278 a2279 a2280 a2281 (fun z2313 =>
  some (z2313, ())) (
  some (true, ()))))))))
noncomputable def F38be (n : Nat) (rc : Q38RC) : Ent G := ⟨38, (.cons (.agg (.cons (.int .i64) (.cons .str (.cons (.imm 2) (.cons (.imm 3) .nil))))) (.cons (.agg (.cons (.int .i64) (.cons .str (.cons (.imm 2) (.cons (.imm 3) .nil))))) .nil)), [], .bool, [], fun x y => F38b n rc x.1.1 x.1.2.1 x.1.2.2.1 x.1.2.2.2.1 x.2.1.1 x.2.1.2.1 x.2.1.2.2.1 x.2.1.2.2.2.1⟩
theorem F38b_eq (n : Nat) (rc : Q38RC) (x : ShL.den G (.cons (.agg (.cons (.int .i64) (.cons .str (.cons (.imm 2) (.cons (.imm 3) .nil))))) (.cons (.agg (.cons (.int .i64) (.cons .str (.cons (.imm 2) (.cons (.imm 3) .nil))))) .nil))) (y : denO G []) : (F38be n rc).F x y = runFn prog G (ro G (tabOf (Q38L n rc)) (frOf [F38b_0z n rc]) _) Go.Proofs.Try.f38 (.nd .no (.nd .no (.nd (.nd .no (.nd (.use 0) .no)) .no))) [(0, .fz)] (ShL.enc G (.cons (.agg (.cons (.int .i64) (.cons .str (.cons (.imm 2) (.cons (.imm 3) .nil))))) (.cons (.agg (.cons (.int .i64) (.cons .str (.cons (.imm 2) (.cons (.imm 3) .nil))))) .nil)) x) (encO G [] y) (decR .bool []) := by kernel_rfl
theorem F38b_ok (n : Nat) (rc : Q38RC) (h : AllE prog G (Q38L n rc)) : EntOK prog G (F38be n rc) :=
  ent_ok (fr := frOf [F38b_0z n rc]) (ann := (.nd .no (.nd .no (.nd (.nd .no (.nd (.use 0) .no)) .no)))) (frm := [(0, .fz)]) laws fnok h.tab (e := F38be n rc) (fn := Go.Proofs.Try.f38) (by kernel_rfl) (AllF.ofB (cd := F38bc) (l := [(0, codeAt F38bc [1, 1, 0, 1, 0])]) (by kernel_rfl) (by kernel_rfl) (AllF.cons (F38b_0_ok n rc h) AllF.nil)) (F38b_eq n rc)
noncomputable def Q38it (n : Nat) : Nat → Q38RC
  | 0 => (fun _ _ _ _ _ _ _ _ => none, ())
  | k + 1 => (F38b n (Q38it n k), ())
theorem Q38it_ok (n : Nat) : ∀ k, AllE prog G (Q38L n (Q38it n k))
  | 0 => (AllE.cons (EntOK.none fun _ _ => rfl) (E63_ok n))
  | k + 1 => (AllE.cons (F38b_ok n _ (Q38it_ok n k)) (E63_ok n))
noncomputable def F38 (n : Nat) (a0 : Int) (a1 : ByteArray) (a2 : List ByteArray) (a3 : List Ex) (a4 : Int) (a5 : ByteArray) (a6 : List ByteArray) (a7 : List Ex) : Option (Bool × Unit) := (Q38it n n).1 a0 a1 a2 a3 a4 a5 a6 a7
noncomputable def F38e (n : Nat) : Ent G := ⟨38, (.cons (.agg (.cons (.int .i64) (.cons .str (.cons (.imm 2) (.cons (.imm 3) .nil))))) (.cons (.agg (.cons (.int .i64) (.cons .str (.cons (.imm 2) (.cons (.imm 3) .nil))))) .nil)), [], .bool, [], fun x y => F38 n x.1.1 x.1.2.1 x.1.2.2.1 x.1.2.2.2.1 x.2.1.1 x.2.1.2.1 x.2.1.2.2.1 x.2.1.2.2.2.1⟩
noncomputable def E64 (n : Nat) : List (Ent G) := F38e n :: E63 n
theorem E64_ok (n : Nat) : AllE prog G (E64 n) := Q38it_ok n n
noncomputable def F16 (n : Nat) (a2171 : Int) (a2172 : ByteArray) (a2173 : List ByteArray) (a2174 : List Ex) (a2175 : Int) (a2176 : ByteArray) (a2177 : List ByteArray) (a2178 : List Ex) : Option (Bool × Unit) :=
  (andThen (F31 n a2171 a2172 a2173 a2174 (7 : Int)) fun r2179 =>
  (bif r2179.1 then
  (andThen (F31 n a2175 a2176 a2177 a2178 (7 : Int)) fun r2180 =>
  (bif r2180.1 then
  (andThen (F38 n a2171 a2172 a2173 a2174 a2175 a2176 a2177 a2178) fun r2314 =>
  some (r2314.1, ()))
  else some (false, ())))
  else some (false, ())))
noncomputable def F16e (n : Nat) : Ent G := ⟨16, (.cons (.agg (.cons (.int .i64) (.cons .str (.cons (.imm 2) (.cons (.imm 3) .nil))))) (.cons (.agg (.cons (.int .i64) (.cons .str (.cons (.imm 2) (.cons (.imm 3) .nil))))) .nil)), [], .bool, [], fun x y => F16 n x.1.1 x.1.2.1 x.1.2.2.1 x.1.2.2.2.1 x.2.1.1 x.2.1.2.1 x.2.1.2.2.1 x.2.1.2.2.2.1⟩
theorem F16_eq (n : Nat) (x : ShL.den G (.cons (.agg (.cons (.int .i64) (.cons .str (.cons (.imm 2) (.cons (.imm 3) .nil))))) (.cons (.agg (.cons (.int .i64) (.cons .str (.cons (.imm 2) (.cons (.imm 3) .nil))))) .nil))) (y : denO G []) : (F16e n).F x y = runFn prog G (ro G (tabOf (E64 n)) (frOf []) _) Go.Proofs.Try.f16 .no [(0, .fz)] (ShL.enc G (.cons (.agg (.cons (.int .i64) (.cons .str (.cons (.imm 2) (.cons (.imm 3) .nil))))) (.cons (.agg (.cons (.int .i64) (.cons .str (.cons (.imm 2) (.cons (.imm 3) .nil))))) .nil)) x) (encO G [] y) (decR .bool []) := by kernel_rfl
theorem F16_ok (n : Nat) : EntOK prog G (F16e n) :=
  ent_ok (fr := frOf []) (ann := .no) (frm := [(0, .fz)]) laws fnok (E64_ok n).tab (e := F16e n) (fn := Go.Proofs.Try.f16) (by kernel_rfl) (AllF.ofB (cd := F16c) (l := []) (by kernel_rfl) (by kernel_rfl) AllF.nil) (F16_eq n)
noncomputable def E65 (n : Nat) : List (Ent G) := F16e n :: E64 n
theorem E65_ok (n : Nat) : AllE prog G (E65 n) := AllE.cons (F16_ok n) (E64_ok n)
-- 17 loop.example/slowworm/impl.ExprSame
noncomputable def F17c : Code := bodyOf Go.Proofs.Try.f17
-- 55 slices.Equal[[]string,string]
noncomputable def F55c : Code := bodyOf Go.Proofs.Try.f55
noncomputable def F55_0x0 : SSh := ⟨26, [(4, .bool)], []⟩
noncomputable def F55_0x1 : SSh := ⟨26, [], []⟩
noncomputable def F55_0s : SSh := ⟨26, [(0, (.imm 2)), (1, (.imm 2)), (12, (.int .i64)), (13, (.int .i64))], []⟩
noncomputable def F55_0_step {R : Type} (n : Nat) (k0 : Bool → Option R) (k1 : Option R) (rec : List ByteArray → List ByteArray → Int → Int → Option R) (x2344 : List ByteArray) (x2345 : List ByteArray) (x2346 : Int) (x2347 : Int) : Option R :=
  (bif (decide (x2347 < x2346)) then
  (bif (decide ((0 : Int) ≤ x2347)) then
  (bif (decide (x2347 < ((x2344.length) : Int))) then
  (bif (decide ((0 : Int) ≤ x2347)) then
  (bif (decide (x2347 < ((x2345.length) : Int))) then
  (bif (!(((x2344.getD (x2347.toNat) ({ data := #[] } : ByteArray)).toList) == ((x2345.getD (x2347.toNat) ({ data := #[] } : ByteArray)).toList))) then
  (k0 false)
  else (rec x2344 x2345 x2346 (IntKind.wrap .i64 (x2347 + (1 : Int)))))
  else none)
  else none)
  else none)
  else none)
  else k1)
noncomputable def F55_0_it {R : Type} (n : Nat) (k0 : Bool → Option R) (k1 : Option R) : Nat → List ByteArray → List ByteArray → Int → Int → Option R
  | 0, _, _, _, _ => none
  | k + 1, x2344, x2345, x2346, x2347 => F55_0_step n k0 k1 (F55_0_it n k0 k1 k) x2344 x2345 x2346 x2347
noncomputable def F55_0 {R : Type} (n : Nat) (x2344 : List ByteArray) (x2345 : List ByteArray) (x2346 : Int) (x2347 : Int) (k0 : Bool → Option R) (k1 : Option R) : Option R := F55_0_it n k0 k1 n x2344 x2345 x2346 x2347
noncomputable def F55_0z (n : Nat) : Sm G := inZ G 0 ⟨[0, 1, 12, 13], []⟩ F55_0s fun R x K => F55_0_it n (fun u0 => K .ret (SSh.enc G F55_0x0 ((u0, ()), ()))) (K (.exit 0) (SSh.enc G F55_0x1 ((), ()))) n x.1.1 x.1.2.1 x.1.2.2.1 x.1.2.2.2.1
theorem F55_0_eq (n : Nat) (R : Type) (rec : SSh.den G F55_0s → Option R) (x : SSh.den G F55_0s) (K : AE → St G → Option R) :
  F55_0_step n (fun u0 => K .ret (SSh.enc G F55_0x0 ((u0, ()), ()))) (K (.exit 0) (SSh.enc G F55_0x1 ((), ()))) (fun x2344 x2345 x2346 x2347 => rec ((x2344, (x2345, (x2346, (x2347, ())))), ())) x.1.1 x.1.2.1 x.1.2.2.1 x.1.2.2.2.1 = exec prog G (ro G (tabOf (E65 n)) (frOf []) R) 0 (codeAt F55c [1, 1, 0, 1, 0, 0]) .no (SSh.enc G F55_0s x) (kLoop G (ro G (tabOf (E65 n)) (frOf []) R) 0 ⟨[0, 1, 12, 13], []⟩ F55_0s ⟨⟨[], []⟩, ⟨[4], []⟩, [(0, ⟨[], []⟩)]⟩ rec K) := by kernel_rfl
theorem F55_0_ok (n : Nat) : FragOK prog G 0 (codeAt F55c [1, 1, 0, 1, 0]) (F55_0z n) :=
  frag_loop (Z := fun R k (x : SSh.den G F55_0s) K => F55_0_it n (fun u0 => K .ret (SSh.enc G F55_0x0 ((u0, ()), ()))) (K (.exit 0) (SSh.enc G F55_0x1 ((), ()))) k x.1.1 x.1.2.1 x.1.2.2.1 x.1.2.2.2.1) laws fnok (E65_ok n).tab (AllF.of (l := []) (by kernel_rfl) AllF.nil) (fun _ _ _ => rfl) (fun R k y K => F55_0_eq n R (fun (x : SSh.den G F55_0s) => F55_0_it n (fun u0 => K .ret (SSh.enc G F55_0x0 ((u0, ()), ()))) (K (.exit 0) (SSh.enc G F55_0x1 ((), ()))) k x.1.1 x.1.2.1 x.1.2.2.1 x.1.2.2.2.1) y K) n
noncomputable def F55 (n : Nat) (a2338 : List ByteArray) (a2339 : List ByteArray) : Option (Bool × Unit) :=
  (bif (((a2338.length) : Int) != ((a2339.length) : Int)) then
  some (false, ())
  else (F55_0 n a2338 a2339 ((a2338.length) : Int) (0 : Int) (fun z2355 =>
  some (z2355, ())) (
  some (true, ()))))
noncomputable def F55e (n : Nat) : Ent G := ⟨55, (.cons (.imm 2) (.cons (.imm 2) .nil)), [], .bool, [], fun x y => F55 n x.1 x.2.1⟩
theorem F55_eq (n : Nat) (x : ShL.den G (.cons (.imm 2) (.cons (.imm 2) .nil))) (y : denO G []) : (F55e n).F x y = runFn prog G (ro G (tabOf (E65 n)) (frOf [F55_0z n]) _) Go.Proofs.Try.f55 (.nd .no (.nd .no (.nd (.nd .no (.nd (.use 0) .no)) .no))) [(0, .fz)] (ShL.enc G (.cons (.imm 2) (.cons (.imm 2) .nil)) x) (encO G [] y) (decR .bool []) := by kernel_rfl
theorem F55_ok (n : Nat) : EntOK prog G (F55e n) :=
  ent_ok (fr := frOf [F55_0z n]) (ann := (.nd .no (.nd .no (.nd (.nd .no (.nd (.use 0) .no)) .no)))) (frm := [(0, .fz)]) laws fnok (E65_ok n).tab (e := F55e n) (fn := Go.Proofs.Try.f55) (by kernel_rfl) (AllF.ofB (cd := F55c) (l := [(0, codeAt F55c [1, 1, 0, 1, 0])]) (by kernel_rfl) (by kernel_rfl) (AllF.cons (F55_0_ok n) AllF.nil)) (F55_eq n)
noncomputable def E66 (n : Nat) : List (Ent G) := F55e n :: E65 n
theorem E66_ok (n : Nat) : AllE prog G (E66 n) := AllE.cons (F55_ok n) (E65_ok n)
abbrev Q39RC : Type := (Int → ByteArray → List ByteArray → List Ex → Int → ByteArray → List ByteArray → List Ex → Option (Bool × Unit)) × (List Ex → List Ex → Option (Bool × Unit)) × Unit
noncomputable def Q39L (n : Nat) (rc : Q39RC) : List (Ent G) := ⟨39, (.cons (.agg (.cons (.int .i64) (.cons .str (.cons (.imm 2) (.cons (.imm 3) .nil))))) (.cons (.agg (.cons (.int .i64) (.cons .str (.cons (.imm 2) (.cons (.imm 3) .nil))))) .nil)), [], .bool, [], fun x y => rc.1 x.1.1 x.1.2.1 x.1.2.2.1 x.1.2.2.2.1 x.2.1.1 x.2.1.2.1 x.2.1.2.2.1 x.2.1.2.2.2.1⟩ :: ⟨56, (.cons (.imm 3) (.cons (.imm 3) (.cons (.clo 39 .nil) .nil))), [], .bool, [], fun x y => rc.2.1 x.1 x.2.1⟩ :: E66 n
-- 39 (loop.example/slowworm/impl.Expr).same
noncomputable def F39bc : Code := bodyOf Go.Proofs.Try.f39
noncomputable def F39b (n : Nat) (rc : Q39RC) (a2415 : Int) (a2416 : ByteArray) (a2417 : List ByteArray) (a2418 : List Ex) (a2419 : Int) (a2420 : ByteArray) (a2421 : List ByteArray) (a2422 : List Ex) : Option (Bool × Unit) :=
  (bif (a2415 == a2419) then
  (bif ((a2416.toList) == (a2420.toList)) then
  (andThen (F55 n a2417 a2421) fun r2425 =>
  (bif r2425.1 then
  (andThen (rc.2.1 a2418 a2422) fun r2426 =>
  some (r2426.1, ()))
  else some (false, ())))
  else some (false, ()))
  else some (false, ()))
noncomputable def F39be (n : Nat) (rc : Q39RC) : Ent G := ⟨39, (.cons (.agg (.cons (.int .i64) (.cons .str (.cons (.imm 2) (.cons (.imm 3) .nil))))) (.cons (.agg (.cons (.int .i64) (.cons .str (.cons (.imm 2) (.cons (.imm 3) .nil))))) .nil)), [], .bool, [], fun x y => F39b n rc x.1.1 x.1.2.1 x.1.2.2.1 x.1.2.2.2.1 x.2.1.1 x.2.1.2.1 x.2.1.2.2.1 x.2.1.2.2.2.1⟩
theorem F39b_eq (n : Nat) (rc : Q39RC) (x : ShL.den G (.cons (.agg (.cons (.int .i64) (.cons .str (.cons (.imm 2) (.cons (.imm 3) .nil))))) (.cons (.agg (.cons (.int .i64) (.cons .str (.cons (.imm 2) (.cons (.imm 3) .nil))))) .nil))) (y : denO G []) : (F39be n rc).F x y = runFn prog G (ro G (tabOf (Q39L n rc)) (frOf []) _) Go.Proofs.Try.f39 .no [(0, .fz)] (ShL.enc G (.cons (.agg (.cons (.int .i64) (.cons .str (.cons (.imm 2) (.cons (.imm 3) .nil))))) (.cons (.agg (.cons (.int .i64) (.cons .str (.cons (.imm 2) (.cons (.imm 3) .nil))))) .nil)) x) (encO G [] y) (decR .bool []) := by kernel_rfl
theorem F39b_ok (n : Nat) (rc : Q39RC) (h : AllE prog G (Q39L n rc)) : EntOK prog G (F39be n rc) :=
  ent_ok (fr := frOf []) (ann := .no) (frm := [(0, .fz)]) laws fnok h.tab (e := F39be n rc) (fn := Go.Proofs.Try.f39) (by kernel_rfl) (AllF.ofB (cd := F39bc) (l := []) (by kernel_rfl) (by kernel_rfl) AllF.nil) (F39b_eq n rc)
-- 56 slices.EqualFunc[[]loop.example/slowworm/impl.Expr,[]loop.example/slowworm/impl.Expr,loop.example/slowworm/impl.Expr,loop.example/slowworm/impl.Expr]
noncomputable def F56bc : Code := bodyOf Go.Proofs.Try.f56
noncomputable def F56b_0x0 : SSh := ⟨32, [(6, .bool)], []⟩
noncomputable def F56b_0x1 : SSh := ⟨32, [], []⟩
noncomputable def F56b_0s : SSh := ⟨32, [(1, (.imm 3)), (2, (.clo 39 .nil)), (15, (.imm 3)), (16, (.int .i64)), (17, (.int .i64))], []⟩
noncomputable def F56b_0_step {R : Type} (n : Nat) (rc : Q39RC) (k0 : Bool → Option R) (k1 : Option R) (rec : List Ex → List Ex → Int → Int → Option R) (x2433 : List Ex) (x2434 : List Ex) (x2435 : Int) (x2436 : Int) : Option R :=
  (bif (decide (x2436 < x2435)) then
  (bif (decide ((0 : Int) ≤ x2436)) then
  (bif (decide (x2436 < ((x2434.length) : Int))) then
  let v2438 := (x2434.getD (x2436.toNat) (Ex.mk (0 : Int) ({ data := #[] } : ByteArray) [] []))
  (bif (decide ((0 : Int) ≤ x2436)) then
  (bif (decide (x2436 < ((x2433.length) : Int))) then
  let v2443 := (x2433.getD (x2436.toNat) (Ex.mk (0 : Int) ({ data := #[] } : ByteArray) [] []))
  (andThen (rc.1 v2438.kind v2438.text v2438.names v2438.kids v2443.kind v2443.text v2443.names v2443.kids) fun r2448 =>
  (bif (!r2448.1) then
  (k0 false)
  else (rec x2433 x2434 x2435 (IntKind.wrap .i64 (x2436 + (1 : Int))))))
  else none)
  else none)
  else none)
  else none)
  else k1)
noncomputable def F56b_0_it {R : Type} (n : Nat) (rc : Q39RC) (k0 : Bool → Option R) (k1 : Option R) : Nat → List Ex → List Ex → Int → Int → Option R
  | 0, _, _, _, _ => none
  | k + 1, x2433, x2434, x2435, x2436 => F56b_0_step n rc k0 k1 (F56b_0_it n rc k0 k1 k) x2433 x2434 x2435 x2436
noncomputable def F56b_0 {R : Type} (n : Nat) (rc : Q39RC) (x2433 : List Ex) (x2434 : List Ex) (x2435 : Int) (x2436 : Int) (k0 : Bool → Option R) (k1 : Option R) : Option R := F56b_0_it n rc k0 k1 n x2433 x2434 x2435 x2436
noncomputable def F56b_0z (n : Nat) (rc : Q39RC) : Sm G := inZ G 0 ⟨[1, 2, 15, 16, 17], []⟩ F56b_0s fun R x K => F56b_0_it n rc (fun u0 => K .ret (SSh.enc G F56b_0x0 ((u0, ()), ()))) (K (.exit 0) (SSh.enc G F56b_0x1 ((), ()))) n x.1.1 x.1.2.2.1 x.1.2.2.2.1 x.1.2.2.2.2.1
theorem F56b_0_eq (n : Nat) (rc : Q39RC) (R : Type) (rec : SSh.den G F56b_0s → Option R) (x : SSh.den G F56b_0s) (K : AE → St G → Option R) :
  F56b_0_step n rc (fun u0 => K .ret (SSh.enc G F56b_0x0 ((u0, ()), ()))) (K (.exit 0) (SSh.enc G F56b_0x1 ((), ()))) (fun x2433 x2434 x2435 x2436 => rec ((x2433, ((), (x2434, (x2435, (x2436, ()))))), ())) x.1.1 x.1.2.2.1 x.1.2.2.2.1 x.1.2.2.2.2.1 = exec prog G (ro G (tabOf (Q39L n rc)) (frOf []) R) 0 (codeAt F56bc [1, 1, 0, 1, 0, 0]) .no (SSh.enc G F56b_0s x) (kLoop G (ro G (tabOf (Q39L n rc)) (frOf []) R) 0 ⟨[1, 2, 15, 16, 17], []⟩ F56b_0s ⟨⟨[], []⟩, ⟨[6], []⟩, [(0, ⟨[], []⟩)]⟩ rec K) := by kernel_rfl
theorem F56b_0_ok (n : Nat) (rc : Q39RC) (h : AllE prog G (Q39L n rc)) : FragOK prog G 0 (codeAt F56bc [1, 1, 0, 1, 0]) (F56b_0z n rc) :=
  frag_loop (Z := fun R k (x : SSh.den G F56b_0s) K => F56b_0_it n rc (fun u0 => K .ret (SSh.enc G F56b_0x0 ((u0, ()), ()))) (K (.exit 0) (SSh.enc G F56b_0x1 ((), ()))) k x.1.1 x.1.2.2.1 x.1.2.2.2.1 x.1.2.2.2.2.1) laws fnok h.tab (AllF.of (l := []) (by kernel_rfl) AllF.nil) (fun _ _ _ => rfl) (fun R k y K => F56b_0_eq n rc R (fun (x : SSh.den G F56b_0s) => F56b_0_it n rc (fun u0 => K .ret (SSh.enc G F56b_0x0 ((u0, ()), ()))) (K (.exit 0) (SSh.enc G F56b_0x1 ((), ()))) k x.1.1 x.1.2.2.1 x.1.2.2.2.1 x.1.2.2.2.2.1) y K) n
noncomputable def F56b (n : Nat) (rc : Q39RC) (a2427 : List Ex) (a2428 : List Ex) : Option (Bool × Unit) :=
  (bif (((a2427.length) : Int) != ((a2428.length) : Int)) then
  some (false, ())
  else (F56b_0 n rc a2428 a2427 ((a2427.length) : Int) (0 : Int) (fun z2451 =>
  some (z2451, ())) (
  some (true, ()))))
noncomputable def F56be (n : Nat) (rc : Q39RC) : Ent G := ⟨56, (.cons (.imm 3) (.cons (.imm 3) (.cons (.clo 39 .nil) .nil))), [], .bool, [], fun x y => F56b n rc x.1 x.2.1⟩
theorem F56b_eq (n : Nat) (rc : Q39RC) (x : ShL.den G (.cons (.imm 3) (.cons (.imm 3) (.cons (.clo 39 .nil) .nil)))) (y : denO G []) : (F56be n rc).F x y = runFn prog G (ro G (tabOf (Q39L n rc)) (frOf [F56b_0z n rc]) _) Go.Proofs.Try.f56 (.nd .no (.nd .no (.nd (.nd .no (.nd (.use 0) .no)) .no))) [(0, .fz)] (ShL.enc G (.cons (.imm 3) (.cons (.imm 3) (.cons (.clo 39 .nil) .nil))) x) (encO G [] y) (decR .bool []) := by kernel_rfl
theorem F56b_ok (n : Nat) (rc : Q39RC) (h : AllE prog G (Q39L n rc)) : EntOK prog G (F56be n rc) :=
  ent_ok (fr := frOf [F56b_0z n rc]) (ann := (.nd .no (.nd .no (.nd (.nd .no (.nd (.use 0) .no)) .no)))) (frm := [(0, .fz)]) laws fnok h.tab (e := F56be n rc) (fn := Go.Proofs.Try.f56) (by kernel_rfl) (AllF.ofB (cd := F56bc) (l := [(0, codeAt F56bc [1, 1, 0, 1, 0])]) (by kernel_rfl) (by kernel_rfl) (AllF.cons (F56b_0_ok n rc h) AllF.nil)) (F56b_eq n rc)
noncomputable def Q39it (n : Nat) : Nat → Q39RC
  | 0 => (fun _ _ _ _ _ _ _ _ => none, fun _ _ => none, ())
  | k + 1 => (F39b n (Q39it n k), F56b n (Q39it n k), ())
theorem Q39it_ok (n : Nat) : ∀ k, AllE prog G (Q39L n (Q39it n k))
  | 0 => (AllE.cons (EntOK.none fun _ _ => rfl) (AllE.cons (EntOK.none fun _ _ => rfl) (E66_ok n)))
  | k + 1 => (AllE.cons (F39b_ok n _ (Q39it_ok n k)) (AllE.cons (F56b_ok n _ (Q39it_ok n k)) (E66_ok n)))
noncomputable def F39 (n : Nat) (a0 : Int) (a1 : ByteArray) (a2 : List ByteArray) (a3 : List Ex) (a4 : Int) (a5 : ByteArray) (a6 : List ByteArray) (a7 : List Ex) : Option (Bool × Unit) := (Q39it n n).1 a0 a1 a2 a3 a4 a5 a6 a7
noncomputable def F39e (n : Nat) : Ent G := ⟨39, (.cons (.agg (.cons (.int .i64) (.cons .str (.cons (.imm 2) (.cons (.imm 3) .nil))))) (.cons (.agg (.cons (.int .i64) (.cons .str (.cons (.imm 2) (.cons (.imm 3) .nil))))) .nil)), [], .bool, [], fun x y => F39 n x.1.1 x.1.2.1 x.1.2.2.1 x.1.2.2.2.1 x.2.1.1 x.2.1.2.1 x.2.1.2.2.1 x.2.1.2.2.2.1⟩
noncomputable def F56 (n : Nat) (a0 : List Ex) (a1 : List Ex) : Option (Bool × Unit) := (Q39it n n).2.1 a0 a1
noncomputable def F56e (n : Nat) : Ent G := ⟨56, (.cons (.imm 3) (.cons (.imm 3) (.cons (.clo 39 .nil) .nil))), [], .bool, [], fun x y => F56 n x.1 x.2.1⟩
noncomputable def E67 (n : Nat) : List (Ent G) := F39e n :: F56e n :: E66 n
theorem E67_ok (n : Nat) : AllE prog G (E67 n) := Q39it_ok n n
noncomputable def F17 (n : Nat) (a2318 : Int) (a2319 : ByteArray) (a2320 : List ByteArray) (a2321 : List Ex) (a2322 : Int) (a2323 : ByteArray) (a2324 : List ByteArray) (a2325 : List Ex) : Option (Bool × Unit) :=
  (andThen (F12 n a2318 a2319 a2320 a2321) fun r2326 =>
  (bif r2326.1 then
  (andThen (F12 n a2322 a2323 a2324 a2325) fun r2327 =>
  (bif r2327.1 then
  (andThen (F39 n a2318 a2319 a2320 a2321 a2322 a2323 a2324 a2325) fun r2452 =>
  some (r2452.1, ()))
  else some (false, ())))
  else some (false, ())))
noncomputable def F17e (n : Nat) : Ent G := ⟨17, (.cons (.agg (.cons (.int .i64) (.cons .str (.cons (.imm 2) (.cons (.imm 3) .nil))))) (.cons (.agg (.cons (.int .i64) (.cons .str (.cons (.imm 2) (.cons (.imm 3) .nil))))) .nil)), [], .bool, [], fun x y => F17 n x.1.1 x.1.2.1 x.1.2.2.1 x.1.2.2.2.1 x.2.1.1 x.2.1.2.1 x.2.1.2.2.1 x.2.1.2.2.2.1⟩
theorem F17_eq (n : Nat) (x : ShL.den G (.cons (.agg (.cons (.int .i64) (.cons .str (.cons (.imm 2) (.cons (.imm 3) .nil))))) (.cons (.agg (.cons (.int .i64) (.cons .str (.cons (.imm 2) (.cons (.imm 3) .nil))))) .nil))) (y : denO G []) : (F17e n).F x y = runFn prog G (ro G (tabOf (E67 n)) (frOf []) _) Go.Proofs.Try.f17 .no [(0, .fz)] (ShL.enc G (.cons (.agg (.cons (.int .i64) (.cons .str (.cons (.imm 2) (.cons (.imm 3) .nil))))) (.cons (.agg (.cons (.int .i64) (.cons .str (.cons (.imm 2) (.cons (.imm 3) .nil))))) .nil)) x) (encO G [] y) (decR .bool []) := by kernel_rfl
theorem F17_ok (n : Nat) : EntOK prog G (F17e n) :=
  ent_ok (fr := frOf []) (ann := .no) (frm := [(0, .fz)]) laws fnok (E67_ok n).tab (e := F17e n) (fn := Go.Proofs.Try.f17) (by kernel_rfl) (AllF.ofB (cd := F17c) (l := []) (by kernel_rfl) (by kernel_rfl) AllF.nil) (F17_eq n)
noncomputable def E68 (n : Nat) : List (Ent G) := F17e n :: E67 n
theorem E68_ok (n : Nat) : AllE prog G (E68 n) := AllE.cons (F17_ok n) (E67_ok n)
noncomputable def F5 (n : Nat) (a2157 : Int) (a2158 : ByteArray) (a2159 : List ByteArray) (a2160 : List Ex) (a2161 : Int) (a2162 : ByteArray) (a2163 : List ByteArray) (a2164 : List Ex) : Option (Bool × Unit) :=
  (andThen (F9 n a2157 a2158 a2159 a2160 (1048576 : Int)) fun r2165 =>
  (bif (decide (r2165.1 < (0 : Int))) then
  some (true, ())
  else (andThen (F9 n a2161 a2162 a2163 a2164 r2165.1) fun r2167 =>
  (bif (decide (r2167.1 < (0 : Int))) then
  some (true, ())
  else (andThen (F11 n a2157 a2158 a2159 a2160) fun r2169 =>
  (andThen (F11 n a2161 a2162 a2163 a2164) fun r2170 =>
  (andThen (F16 n r2169.1.1 r2169.1.2.1 r2169.1.2.2.1 r2169.1.2.2.2.1 r2170.1.1 r2170.1.2.1 r2170.1.2.2.1 r2170.1.2.2.2.1) fun r2315 =>
  (andThen (F11 n a2157 a2158 a2159 a2160) fun r2316 =>
  (andThen (F11 n a2161 a2162 a2163 a2164) fun r2317 =>
  (andThen (F17 n r2316.1.1 r2316.1.2.1 r2316.1.2.2.1 r2316.1.2.2.2.1 r2317.1.1 r2317.1.2.1 r2317.1.2.2.1 r2317.1.2.2.2.1) fun r2453 =>
  (bif (!(r2453.1 == r2315.1)) then
  some (false, ())
  else (andThen (F11 n a2157 a2158 a2159 a2160) fun r2455 =>
  (andThen (F13 n r2316.1.1 r2316.1.2.1 r2316.1.2.2.1 r2316.1.2.2.2.1 r2455.1.1 r2455.1.2.1 r2455.1.2.2.1 r2455.1.2.2.2.1) fun r2456 =>
  (bif (!r2456.1) then
  some (false, ())
  else (andThen (F11 n a2161 a2162 a2163 a2164) fun r2458 =>
  (andThen (F13 n r2317.1.1 r2317.1.2.1 r2317.1.2.2.1 r2317.1.2.2.2.1 r2458.1.1 r2458.1.2.1 r2458.1.2.2.1 r2458.1.2.2.2.1) fun r2459 =>
  (bif (!r2459.1) then
  some (false, ())
  else some (true, ()))))))))))))))))))
noncomputable def F5e (n : Nat) : Ent G := ⟨5, (.cons (.agg (.cons (.int .i64) (.cons .str (.cons (.imm 2) (.cons (.imm 4) .nil))))) (.cons (.agg (.cons (.int .i64) (.cons .str (.cons (.imm 2) (.cons (.imm 4) .nil))))) .nil)), [], .bool, [], fun x y => F5 n x.1.1 x.1.2.1 x.1.2.2.1 x.1.2.2.2.1 x.2.1.1 x.2.1.2.1 x.2.1.2.2.1 x.2.1.2.2.2.1⟩
theorem F5_eq (n : Nat) (x : ShL.den G (.cons (.agg (.cons (.int .i64) (.cons .str (.cons (.imm 2) (.cons (.imm 4) .nil))))) (.cons (.agg (.cons (.int .i64) (.cons .str (.cons (.imm 2) (.cons (.imm 4) .nil))))) .nil))) (y : denO G []) : (F5e n).F x y = runFn prog G (ro G (tabOf (E68 n)) (frOf []) _) Go.Proofs.Try.f5 .no [(0, .fz)] (ShL.enc G (.cons (.agg (.cons (.int .i64) (.cons .str (.cons (.imm 2) (.cons (.imm 4) .nil))))) (.cons (.agg (.cons (.int .i64) (.cons .str (.cons (.imm 2) (.cons (.imm 4) .nil))))) .nil)) x) (encO G [] y) (decR .bool []) := by kernel_rfl
theorem F5_ok (n : Nat) : EntOK prog G (F5e n) :=
  ent_ok (fr := frOf []) (ann := .no) (frm := [(0, .fz)]) laws fnok (E68_ok n).tab (e := F5e n) (fn := Go.Proofs.Try.f5) (by kernel_rfl) (AllF.ofB (cd := F5c) (l := []) (by kernel_rfl) (by kernel_rfl) AllF.nil) (F5_eq n)
noncomputable def E69 (n : Nat) : List (Ent G) := F5e n :: E68 n
theorem E69_ok (n : Nat) : AllE prog G (E69 n) := AllE.cons (F5_ok n) (E68_ok n)
end Go.Proofs.Ytdfnlaikelijeaa.Am
