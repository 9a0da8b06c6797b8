/- The functions of the seat of expressions, printed. -/
import Derived.Test.YtdfnlaikelijeaaAmExprE
namespace Go.Proofs.Ytdfnlaikelijeaa.Am
open Go Go.Proofs.Try
set_option autoImplicit false
set_option linter.unusedVariables false
set_option maxRecDepth 100000
noncomputable def F69c : Code := bodyOf Go.Proofs.Try.f69
noncomputable def F69 (n : Nat) (a1597 : ByteArray) : Option (Int × Unit) :=
  (andThen (F52 n (({ data := #[60] } : ByteArray) :: (({ data := #[60, 61] } : ByteArray) :: (({ data := #[62] } : ByteArray) :: (({ data := #[62, 61] } : ByteArray) :: (({ data := #[61, 61] } : ByteArray) :: (({ data := #[33, 61] } : ByteArray) :: (({ data := #[105, 110] } : ByteArray) :: (({ data := #[105, 115] } : ByteArray) :: [])))))))) a1597) fun r1599 =>
  (bif r1599.1 then
  some ((5 : Int), ())
  else (bif ((a1597.toList) == (({ data := #[43] } : ByteArray).toList)) then
  some ((6 : Int), ())
  else (bif ((a1597.toList) == (({ data := #[45] } : ByteArray).toList)) then
  some ((6 : Int), ())
  else (bif ((a1597.toList) == (({ data := #[42] } : ByteArray).toList)) then
  some ((7 : Int), ())
  else (bif ((a1597.toList) == (({ data := #[47, 47] } : ByteArray).toList)) then
  some ((7 : Int), ())
  else (bif ((a1597.toList) == (({ data := #[37] } : ByteArray).toList)) then
  some ((7 : Int), ())
  else (bif ((a1597.toList) == (({ data := #[42, 42] } : ByteArray).toList)) then
  some ((9 : Int), ())
  else some ((-1 : Int), ())))))))))
noncomputable def F69e (n : Nat) : Ent G := ⟨69, (.cons .str .nil), [], (.int .i64), [], fun x y => F69 n x.1⟩
theorem F69_eq (n : Nat) (x : ShL.den G (.cons .str .nil)) (y : denO G []) : (F69e n).F x y = runFn prog G (ro G (tabOf (E46 n)) (frOf []) _) Go.Proofs.Try.f69 .no [(0, .fz)] (ShL.enc G (.cons .str .nil) x) (encO G [] y) (decR (.int .i64) []) := by kernel_rfl
theorem F69_ok (n : Nat) : EntOK prog G (F69e n) :=
  ent_ok (fr := frOf []) (ann := .no) (frm := [(0, .fz)]) laws fnok (E46_ok n).tab (e := F69e n) (fn := Go.Proofs.Try.f69) (by kernel_rfl) (AllF.ofB (cd := F69c) (l := []) (by kernel_rfl) (by kernel_rfl) AllF.nil) (F69_eq n)
noncomputable def E47 (n : Nat) : List (Ent G) := F69e n :: E46 n
theorem E47_ok (n : Nat) : AllE prog G (E47 n) := AllE.cons (F69_ok n) (E46_ok n)
-- 71 loop.example/slowworm/spec.onceEach
noncomputable def F71c : Code := bodyOf Go.Proofs.Try.f71
noncomputable def F71_0x0 : SSh := ⟨26, [(2, .bool)], []⟩
noncomputable def F71_0x1 : SSh := ⟨26, [], []⟩
noncomputable def F71_0s : SSh := ⟨26, [(0, (.imm 2)), (3, (.int .i64))], []⟩
noncomputable def F71_0_step {R : Type} (n : Nat) (k0 : Bool → Option R) (k1 : Option R) (rec : List ByteArray → Int → Option R) (x1620 : List ByteArray) (x1621 : Int) : Option R :=
  (bif (decide (x1621 < ((x1620.length) : Int))) then
  (bif (decide ((0 : Int) ≤ x1621)) then
  (bif (decide (x1621 < ((x1620.length) : Int))) then
  (andThen (F68 n (x1620.getD (x1621.toNat) ({ data := #[] } : ByteArray))) fun r1626 =>
  (bif (!r1626.1) then
  (k0 false)
  else (bif (decide ((0 : Int) ≤ x1621)) then
  (bif (decide (x1621 ≤ ((x1620.length) : Int))) then
  (bif (decide ((0 : Int) ≤ x1621)) then
  (bif (decide (x1621 < ((x1620.length) : Int))) then
  (andThen (F52 n ((x1620.take (x1621.toNat)).drop (0 : Nat)) (x1620.getD (x1621.toNat) ({ data := #[] } : ByteArray))) fun r1631 =>
  (bif r1631.1 then
  (k0 false)
  else (rec x1620 (IntKind.wrap .i64 (x1621 + (1 : Int))))))
  else none)
  else none)
  else none)
  else none)))
  else none)
  else none)
  else k1)
noncomputable def F71_0_it {R : Type} (n : Nat) (k0 : Bool → Option R) (k1 : Option R) : Nat → List ByteArray → Int → Option R
  | 0, _, _ => none
  | k + 1, x1620, x1621 => F71_0_step n k0 k1 (F71_0_it n k0 k1 k) x1620 x1621
noncomputable def F71_0 {R : Type} (n : Nat) (x1620 : List ByteArray) (x1621 : Int) (k0 : Bool → Option R) (k1 : Option R) : Option R := F71_0_it n k0 k1 n x1620 x1621
noncomputable def F71_0z (n : Nat) : Sm G := inZ G 0 ⟨[0, 3], []⟩ F71_0s fun R x K => F71_0_it n (fun u0 => K .ret (SSh.enc G F71_0x0 ((u0, ()), ()))) (K (.exit 0) (SSh.enc G F71_0x1 ((), ()))) n x.1.1 x.1.2.1
theorem F71_0_eq (n : Nat) (R : Type) (rec : SSh.den G F71_0s → Option R) (x : SSh.den G F71_0s) (K : AE → St G → Option R) :
  F71_0_step n (fun u0 => K .ret (SSh.enc G F71_0x0 ((u0, ()), ()))) (K (.exit 0) (SSh.enc G F71_0x1 ((), ()))) (fun x1620 x1621 => rec ((x1620, (x1621, ())), ())) x.1.1 x.1.2.1 = exec prog G (ro G (tabOf (E47 n)) (frOf []) R) 0 (codeAt F71c [1, 0, 1, 0, 0]) .no (SSh.enc G F71_0s x) (kLoop G (ro G (tabOf (E47 n)) (frOf []) R) 0 ⟨[0, 3], []⟩ F71_0s ⟨⟨[], []⟩, ⟨[2], []⟩, [(0, ⟨[], []⟩)]⟩ rec K) := by kernel_rfl
theorem F71_0_ok (n : Nat) : FragOK prog G 0 (codeAt F71c [1, 0, 1, 0]) (F71_0z n) :=
  frag_loop (Z := fun R k (x : SSh.den G F71_0s) K => F71_0_it n (fun u0 => K .ret (SSh.enc G F71_0x0 ((u0, ()), ()))) (K (.exit 0) (SSh.enc G F71_0x1 ((), ()))) k x.1.1 x.1.2.1) laws fnok (E47_ok n).tab (AllF.of (l := []) (by kernel_rfl) AllF.nil) (fun _ _ _ => rfl) (fun R k y K => F71_0_eq n R (fun (x : SSh.den G F71_0s) => F71_0_it n (fun u0 => K .ret (SSh.enc G F71_0x0 ((u0, ()), ()))) (K (.exit 0) (SSh.enc G F71_0x1 ((), ()))) k x.1.1 x.1.2.1) y K) n
noncomputable def F71 (n : Nat) (a1619 : List ByteArray) : Option (Bool × Unit) :=
  (F71_0 n a1619 (0 : Int) (fun z1633 =>
  some (z1633, ())) (
  some (true, ())))
noncomputable def F71e (n : Nat) : Ent G := ⟨71, (.cons (.imm 2) .nil), [], .bool, [], fun x y => F71 n x.1⟩
theorem F71_eq (n : Nat) (x : ShL.den G (.cons (.imm 2) .nil)) (y : denO G []) : (F71e n).F x y = runFn prog G (ro G (tabOf (E47 n)) (frOf [F71_0z n]) _) Go.Proofs.Try.f71 (.nd .no (.nd (.nd .no (.nd (.use 0) .no)) .no)) [(0, .fz)] (ShL.enc G (.cons (.imm 2) .nil) x) (encO G [] y) (decR .bool []) := by kernel_rfl
theorem F71_ok (n : Nat) : EntOK prog G (F71e n) :=
  ent_ok (fr := frOf [F71_0z n]) (ann := (.nd .no (.nd (.nd .no (.nd (.use 0) .no)) .no))) (frm := [(0, .fz)]) laws fnok (E47_ok n).tab (e := F71e n) (fn := Go.Proofs.Try.f71) (by kernel_rfl) (AllF.ofB (cd := F71c) (l := [(0, codeAt F71c [1, 0, 1, 0])]) (by kernel_rfl) (by kernel_rfl) (AllF.cons (F71_0_ok n) AllF.nil)) (F71_eq n)
noncomputable def E48 (n : Nat) : List (Ent G) := F71e n :: E47 n
theorem E48_ok (n : Nat) : AllE prog G (E48 n) := AllE.cons (F71_ok n) (E47_ok n)
noncomputable def F53_1x0 : SSh := ⟨208, [(2, .bool)], []⟩
noncomputable def F53_1x1 : SSh := ⟨208, [], []⟩
noncomputable def F53_1s : SSh := ⟨208, [(1, (.ptr 0 0)), (3, (.int .i64))], [(.box 30 (.cons (.int .i64) (.cons .str (.cons (.imm 2) (.cons (.imm 3) .nil)))))]⟩
noncomputable def F53_1 {R : Type} (n : Nat) (x1463 : Int) (x1464 : Int) (x1465 : ByteArray) (x1466 : List ByteArray) (x1467 : List Ex) (k0 : Bool → Option R) (k1 : Option R) : Option R :=
  (F53_0 n x1463 x1464 x1464 x1465 x1466 x1467 (fun z1477 z1478 z1479 z1480 z1481 z1482 z1483 =>
  (bif z1479 then
  (bif (z1477 == (0 : Int)) then
  (k0 ((z1481.toList) == (({ data := #[] } : ByteArray).toList)))
  else (k0 false))
  else (bif (z1478 == (4 : Int)) then
  (bif (z1477 == (0 : Int)) then
  (andThen (F66 n z1481) fun r1521 =>
  (bif r1521.1 then
  (bif (decide ((0 : Int) < ((z1481.size) : Int))) then
  (k0 ((strOf z1481 (0 : Nat)) != (45 : Int)))
  else none)
  else (k0 false)))
  else (k0 false))
  else (bif (z1478 == (5 : Int)) then
  (bif (z1477 == (0 : Int)) then
  (andThen (F67 n z1481) fun r1529 =>
  (k0 r1529.1))
  else (k0 false))
  else (bif (z1478 == (6 : Int)) then
  (bif (z1477 == (0 : Int)) then
  (andThen (F68 n z1481) fun r1582 =>
  (k0 r1582.1))
  else (k0 false))
  else (bif (z1478 == (7 : Int)) then
  (bif (decide (z1477 ≤ (6 : Int))) then
  (k0 ((z1481.toList) == (({ data := #[] } : ByteArray).toList)))
  else (k0 false))
  else (bif (z1478 == (8 : Int)) then
  (bif (decide (z1477 ≤ (12 : Int))) then
  (bif ((z1477.tmod (2 : Int)) == (0 : Int)) then
  (k0 ((z1481.toList) == (({ data := #[] } : ByteArray).toList)))
  else (k0 false))
  else (k0 false))
  else (bif (z1478 == (9 : Int)) then
  (bif (z1477 == (1 : Int)) then
  (bif ((z1481.toList) == (({ data := #[45] } : ByteArray).toList)) then
  (k0 true)
  else (k0 ((z1481.toList) == (({ data := #[110, 111, 116] } : ByteArray).toList))))
  else (k0 false))
  else (bif (z1478 == (10 : Int)) then
  (bif (z1477 == (2 : Int)) then
  (andThen (F69 n z1481) fun r1606 =>
  (k0 (decide (r1606.1 ≥ (0 : Int)))))
  else (k0 false))
  else (bif (z1478 == (11 : Int)) then
  (bif (z1477 == (2 : Int)) then
  (bif ((z1481.toList) == (({ data := #[97, 110, 100] } : ByteArray).toList)) then
  (k0 true)
  else (k0 ((z1481.toList) == (({ data := #[111, 114] } : ByteArray).toList))))
  else (k0 false))
  else (bif (z1478 == (12 : Int)) then
  (bif (z1477 == (3 : Int)) then
  (k0 ((z1481.toList) == (({ data := #[] } : ByteArray).toList)))
  else (k0 false))
  else (bif (z1478 == (13 : Int)) then
  (andThen (F70 n z1477 (1 : Int) (7 : Int)) fun r1616 =>
  (bif r1616.1 then
  (bif (decide (((z1482.length) : Int) < z1477)) then
  (andThen (F71 n z1482) fun r1634 =>
  (bif r1634.1 then
  (k0 ((z1481.toList) == (({ data := #[] } : ByteArray).toList)))
  else (k0 false)))
  else (k0 false))
  else (k0 false)))
  else (bif (z1478 == (14 : Int)) then
  (bif (z1477 == (2 : Int)) then
  (k0 ((z1481.toList) == (({ data := #[] } : ByteArray).toList)))
  else (k0 false))
  else (bif (z1478 == (15 : Int)) then
  (bif (z1477 == (1 : Int)) then
  (andThen (F68 n z1481) fun r1641 =>
  (k0 r1641.1))
  else (k0 false))
  else (bif (z1478 == (16 : Int)) then
  (bif (z1477 == (1 : Int)) then
  (bif (decide (((z1482.length) : Int) ≤ (6 : Int))) then
  (andThen (F71 n z1482) fun r1646 =>
  (bif r1646.1 then
  (k0 ((z1481.toList) == (({ data := #[] } : ByteArray).toList)))
  else (k0 false)))
  else (k0 false))
  else (k0 false))
  else (bif (z1478 == (17 : Int)) then
  (bif (z1477 == (1 : Int)) then
  (k0 ((z1481.toList) == (({ data := #[] } : ByteArray).toList)))
  else (k0 false))
  else k1)))))))))))))))))
noncomputable def F53_1z (n : Nat) : Sm G := inZ G 0 ⟨[1, 3], []⟩ F53_1s fun R x K => F53_1 n x.1.2.1 x.2.1.1 x.2.1.2.1 x.2.1.2.2.1 x.2.1.2.2.2.1 (fun u0 => K .ret (SSh.enc G F53_1x0 ((u0, ()), ()))) (K .normal (SSh.enc G F53_1x1 ((), ())))
theorem F53_1_eq (n : Nat) (R : Type) (x : SSh.den G F53_1s) (K : AE → St G → Option R) :
  F53_1 n x.1.2.1 x.2.1.1 x.2.1.2.1 x.2.1.2.2.1 x.2.1.2.2.2.1 (fun u0 => K .ret (SSh.enc G F53_1x0 ((u0, ()), ()))) (K .normal (SSh.enc G F53_1x1 ((), ()))) = exec prog G (ro G (tabOf (E48 n)) (frOf [F53_0z n]) R) 0 (codeAt F53c [1, 1, 1, 1, 0]) (.nd .no (.nd (.nd (.use 0) .no) .no)) (SSh.enc G F53_1s x) (kNrm G (ro G (tabOf (E48 n)) (frOf [F53_0z n]) R) 0 ⟨⟨[], []⟩, ⟨[2], []⟩, []⟩ K) := by kernel_rfl
theorem F53_1_ok (n : Nat) : FragOK prog G 0 (codeAt F53c [1, 1, 1, 1, 0]) (F53_1z n) :=
  frag_plain laws fnok (E48_ok n).tab (AllF.of (l := [(0, codeAt F53c [1, 1, 1, 1, 0, 1, 0, 0])]) (by kernel_rfl) (AllF.cons (F53_0_ok n) AllF.nil)) (F53_1_eq n)
noncomputable def F53 (n : Nat) (a1457 : Int) (a1458 : ByteArray) (a1459 : List ByteArray) (a1460 : List Ex) : Option (Bool × Unit) :=
  let v1461 := ((a1460.length) : Int)
  (bif (a1457 == (13 : Int)) then
  (F53_1 n v1461 a1457 a1458 a1459 a1460 (fun z1651 =>
  some (z1651, ())) (
  some (false, ())))
  else (bif (!(a1457 == (16 : Int))) then
  (bif (decide (((a1459.length) : Int) > (0 : Int))) then
  some (false, ())
  else (F53_1 n v1461 a1457 a1458 a1459 a1460 (fun z1656 =>
  some (z1656, ())) (
  some (false, ()))))
  else (F53_1 n v1461 a1457 a1458 a1459 a1460 (fun z1657 =>
  some (z1657, ())) (
  some (false, ())))))
noncomputable def F53e (n : Nat) : Ent G := ⟨53, (.cons (.agg (.cons (.int .i64) (.cons .str (.cons (.imm 2) (.cons (.imm 3) .nil))))) .nil), [], .bool, [], fun x y => F53 n x.1.1 x.1.2.1 x.1.2.2.1 x.1.2.2.2.1⟩
theorem F53_eq (n : Nat) (x : ShL.den G (.cons (.agg (.cons (.int .i64) (.cons .str (.cons (.imm 2) (.cons (.imm 3) .nil))))) .nil)) (y : denO G []) : (F53e n).F x y = runFn prog G (ro G (tabOf (E48 n)) (frOf [F53_0z n, F53_1z n]) _) Go.Proofs.Try.f53 (.nd .no (.nd .no (.nd .no (.nd .no (.nd (.use 1) .no))))) [(0, .fz)] (ShL.enc G (.cons (.agg (.cons (.int .i64) (.cons .str (.cons (.imm 2) (.cons (.imm 3) .nil))))) .nil) x) (encO G [] y) (decR .bool []) := by kernel_rfl
theorem F53_ok (n : Nat) : EntOK prog G (F53e n) :=
  ent_ok (fr := frOf [F53_0z n, F53_1z n]) (ann := (.nd .no (.nd .no (.nd .no (.nd .no (.nd (.use 1) .no)))))) (frm := [(0, .fz)]) laws fnok (E48_ok n).tab (e := F53e n) (fn := Go.Proofs.Try.f53) (by kernel_rfl) (AllF.ofB (cd := F53c) (l := [(1, codeAt F53c [1, 1, 1, 1, 0])]) (by kernel_rfl) (by kernel_rfl) (AllF.cons (F53_1_ok n) AllF.nil)) (F53_eq n)
noncomputable def E49 (n : Nat) : List (Ent G) := F53e n :: E48 n
theorem E49_ok (n : Nat) : AllE prog G (E49 n) := AllE.cons (F53_ok n) (E48_ok n)
abbrev Q31RC : Type := (Int → ByteArray → List ByteArray → List Ex → Int → Option (Bool × Unit)) × Unit
noncomputable def Q31L (n : Nat) (rc : Q31RC) : List (Ent G) := ⟨31, (.cons (.agg (.cons (.int .i64) (.cons .str (.cons (.imm 2) (.cons (.imm 3) .nil))))) (.cons (.int .i64) .nil)), [], .bool, [], fun x y => rc.1 x.1.1 x.1.2.1 x.1.2.2.1 x.1.2.2.2.1 x.2.1⟩ :: E49 n
-- 31 loop.example/slowworm/spec.validExpr
noncomputable def F31bc : Code := bodyOf Go.Proofs.Try.f31
noncomputable def F31b_0x0 : SSh := ⟨29, [(4, .bool)], []⟩
noncomputable def F31b_0x1 : SSh := ⟨29, [], []⟩
noncomputable def F31b_0s : SSh := ⟨29, [(1, (.int .i64)), (2, (.ptr 0 0)), (5, (.int .i64))], [(.box 30 (.cons (.int .i64) (.cons .str (.cons (.imm 2) (.cons (.imm 3) .nil)))))]⟩
noncomputable def F31b_0_step {R : Type} (n : Nat) (rc : Q31RC) (k0 : Bool → Option R) (k1 : Option R) (rec : Int → Int → Int → ByteArray → List ByteArray → List Ex → Option R) (x1708 : Int) (x1709 : Int) (x1710 : Int) (x1711 : ByteArray) (x1712 : List ByteArray) (x1713 : List Ex) : Option R :=
  (bif (decide (x1709 < ((x1713.length) : Int))) then
  (bif (decide ((0 : Int) ≤ x1709)) then
  (bif (decide (x1709 < ((x1713.length) : Int))) then
  let v1716 := (x1713.getD (x1709.toNat) (Ex.mk (0 : Int) ({ data := #[] } : ByteArray) [] []))
  (andThen (rc.1 v1716.kind v1716.text v1716.names v1716.kids (IntKind.wrap .i64 (x1708 - (1 : Int)))) fun r1722 =>
  (bif (!r1722.1) then
  (k0 false)
  else (rec x1708 (IntKind.wrap .i64 (x1709 + (1 : Int))) x1710 x1711 x1712 x1713)))
  else none)
  else none)
  else k1)
noncomputable def F31b_0_it {R : Type} (n : Nat) (rc : Q31RC) (k0 : Bool → Option R) (k1 : Option R) : Nat → Int → Int → Int → ByteArray → List ByteArray → List Ex → Option R
  | 0, _, _, _, _, _, _ => none
  | k + 1, x1708, x1709, x1710, x1711, x1712, x1713 => F31b_0_step n rc k0 k1 (F31b_0_it n rc k0 k1 k) x1708 x1709 x1710 x1711 x1712 x1713
noncomputable def F31b_0 {R : Type} (n : Nat) (rc : Q31RC) (x1708 : Int) (x1709 : Int) (x1710 : Int) (x1711 : ByteArray) (x1712 : List ByteArray) (x1713 : List Ex) (k0 : Bool → Option R) (k1 : Option R) : Option R := F31b_0_it n rc k0 k1 n x1708 x1709 x1710 x1711 x1712 x1713
noncomputable def F31b_0z (n : Nat) (rc : Q31RC) : Sm G := inZ G 0 ⟨[1, 2, 5], []⟩ F31b_0s fun R x K => F31b_0_it n rc (fun u0 => K .ret (SSh.enc G F31b_0x0 ((u0, ()), ()))) (K (.exit 0) (SSh.enc G F31b_0x1 ((), ()))) n x.1.1 x.1.2.2.1 x.2.1.1 x.2.1.2.1 x.2.1.2.2.1 x.2.1.2.2.2.1
theorem F31b_0_eq (n : Nat) (rc : Q31RC) (R : Type) (rec : SSh.den G F31b_0s → Option R) (x : SSh.den G F31b_0s) (K : AE → St G → Option R) :
  F31b_0_step n rc (fun u0 => K .ret (SSh.enc G F31b_0x0 ((u0, ()), ()))) (K (.exit 0) (SSh.enc G F31b_0x1 ((), ()))) (fun x1708 x1709 x1710 x1711 x1712 x1713 => rec ((x1708, ((), (x1709, ()))), ((x1710, (x1711, (x1712, (x1713, ())))), ()))) x.1.1 x.1.2.2.1 x.2.1.1 x.2.1.2.1 x.2.1.2.2.1 x.2.1.2.2.2.1 = exec prog G (ro G (tabOf (Q31L n rc)) (frOf []) R) 0 (codeAt F31bc [1, 1, 0, 1, 0, 0]) .no (SSh.enc G F31b_0s x) (kLoop G (ro G (tabOf (Q31L n rc)) (frOf []) R) 0 ⟨[1, 2, 5], []⟩ F31b_0s ⟨⟨[], []⟩, ⟨[4], []⟩, [(0, ⟨[], []⟩)]⟩ rec K) := by kernel_rfl
theorem F31b_0_ok (n : Nat) (rc : Q31RC) (h : AllE prog G (Q31L n rc)) : FragOK prog G 0 (codeAt F31bc [1, 1, 0, 1, 0]) (F31b_0z n rc) :=
  frag_loop (Z := fun R k (x : SSh.den G F31b_0s) K => F31b_0_it n rc (fun u0 => K .ret (SSh.enc G F31b_0x0 ((u0, ()), ()))) (K (.exit 0) (SSh.enc G F31b_0x1 ((), ()))) k x.1.1 x.1.2.2.1 x.2.1.1 x.2.1.2.1 x.2.1.2.2.1 x.2.1.2.2.2.1) laws fnok h.tab (AllF.of (l := []) (by kernel_rfl) AllF.nil) (fun _ _ _ => rfl) (fun R k y K => F31b_0_eq n rc R (fun (x : SSh.den G F31b_0s) => F31b_0_it n rc (fun u0 => K .ret (SSh.enc G F31b_0x0 ((u0, ()), ()))) (K (.exit 0) (SSh.enc G F31b_0x1 ((), ()))) k x.1.1 x.1.2.2.1 x.2.1.1 x.2.1.2.1 x.2.1.2.2.1 x.2.1.2.2.2.1) y K) n
noncomputable def F31b (n : Nat) (rc : Q31RC) (a1700 : Int) (a1701 : ByteArray) (a1702 : List ByteArray) (a1703 : List Ex) (a1704 : Int) : Option (Bool × Unit) :=
  (bif (decide (a1704 < (1 : Int))) then
  some (false, ())
  else (andThen (F53 n a1700 a1701 a1702 a1703) fun r1706 =>
  (bif (!r1706.1) then
  some (false, ())
  else (F31b_0 n rc a1704 (0 : Int) a1700 a1701 a1702 a1703 (fun z1725 =>
  some (z1725, ())) (
  some (true, ()))))))
noncomputable def F31be (n : Nat) (rc : Q31RC) : Ent G := ⟨31, (.cons (.agg (.cons (.int .i64) (.cons .str (.cons (.imm 2) (.cons (.imm 3) .nil))))) (.cons (.int .i64) .nil)), [], .bool, [], fun x y => F31b n rc x.1.1 x.1.2.1 x.1.2.2.1 x.1.2.2.2.1 x.2.1⟩
theorem F31b_eq (n : Nat) (rc : Q31RC) (x : ShL.den G (.cons (.agg (.cons (.int .i64) (.cons .str (.cons (.imm 2) (.cons (.imm 3) .nil))))) (.cons (.int .i64) .nil))) (y : denO G []) : (F31be n rc).F x y = runFn prog G (ro G (tabOf (Q31L n rc)) (frOf [F31b_0z n rc]) _) Go.Proofs.Try.f31 (.nd .no (.nd .no (.nd (.nd .no (.nd (.use 0) .no)) .no))) [(0, .fz)] (ShL.enc G (.cons (.agg (.cons (.int .i64) (.cons .str (.cons (.imm 2) (.cons (.imm 3) .nil))))) (.cons (.int .i64) .nil)) x) (encO G [] y) (decR .bool []) := by kernel_rfl
theorem F31b_ok (n : Nat) (rc : Q31RC) (h : AllE prog G (Q31L n rc)) : EntOK prog G (F31be n rc) :=
  ent_ok (fr := frOf [F31b_0z n rc]) (ann := (.nd .no (.nd .no (.nd (.nd .no (.nd (.use 0) .no)) .no)))) (frm := [(0, .fz)]) laws fnok h.tab (e := F31be n rc) (fn := Go.Proofs.Try.f31) (by kernel_rfl) (AllF.ofB (cd := F31bc) (l := [(0, codeAt F31bc [1, 1, 0, 1, 0])]) (by kernel_rfl) (by kernel_rfl) (AllF.cons (F31b_0_ok n rc h) AllF.nil)) (F31b_eq n rc)
noncomputable def Q31it (n : Nat) : Nat → Q31RC
  | 0 => (fun _ _ _ _ _ => none, ())
  | k + 1 => (F31b n (Q31it n k), ())
theorem Q31it_ok (n : Nat) : ∀ k, AllE prog G (Q31L n (Q31it n k))
  | 0 => (AllE.cons (EntOK.none fun _ _ => rfl) (E49_ok n))
  | k + 1 => (AllE.cons (F31b_ok n _ (Q31it_ok n k)) (E49_ok n))
noncomputable def F31 (n : Nat) (a0 : Int) (a1 : ByteArray) (a2 : List ByteArray) (a3 : List Ex) (a4 : Int) : Option (Bool × Unit) := (Q31it n n).1 a0 a1 a2 a3 a4
noncomputable def F31e (n : Nat) : Ent G := ⟨31, (.cons (.agg (.cons (.int .i64) (.cons .str (.cons (.imm 2) (.cons (.imm 3) .nil))))) (.cons (.int .i64) .nil)), [], .bool, [], fun x y => F31 n x.1.1 x.1.2.1 x.1.2.2.1 x.1.2.2.2.1 x.2.1⟩
noncomputable def E50 (n : Nat) : List (Ent G) := F31e n :: E49 n
theorem E50_ok (n : Nat) : AllE prog G (E50 n) := Q31it_ok n n
abbrev Q36RC : Type := (Int → ByteArray → List ByteArray → List Ex → Option (Int × Unit)) × Unit
noncomputable def Q36L (n : Nat) (rc : Q36RC) : List (Ent G) := ⟨36, (.cons (.agg (.cons (.int .i64) (.cons .str (.cons (.imm 2) (.cons (.imm 3) .nil))))) .nil), [], (.int .i64), [], fun x y => rc.1 x.1.1 x.1.2.1 x.1.2.2.1 x.1.2.2.2.1⟩ :: E50 n
-- 36 loop.example/slowworm/spec.exprSize
noncomputable def F36bc : Code := bodyOf Go.Proofs.Try.f36
noncomputable def F36b_0x0 : SSh := ⟨21, [(3, (.int .i64))], []⟩
noncomputable def F36b_0s : SSh := ⟨21, [(1, (.ptr 0 0)), (3, (.int .i64)), (4, (.int .i64))], [(.box 30 (.cons (.int .i64) (.cons .str (.cons (.imm 2) (.cons (.imm 3) .nil)))))]⟩
noncomputable def F36b_0_step {R : Type} (n : Nat) (rc : Q36RC) (k0 : Int → Option R) (rec : Int → Int → Int → ByteArray → List ByteArray → List Ex → Option R) (x1770 : Int) (x1771 : Int) (x1772 : Int) (x1773 : ByteArray) (x1774 : List ByteArray) (x1775 : List Ex) : Option R :=
  (bif (decide (x1771 < ((x1775.length) : Int))) then
  (bif (decide ((0 : Int) ≤ x1771)) then
  (bif (decide (x1771 < ((x1775.length) : Int))) then
  let v1778 := (x1775.getD (x1771.toNat) (Ex.mk (0 : Int) ({ data := #[] } : ByteArray) [] []))
  (andThen (rc.1 v1778.kind v1778.text v1778.names v1778.kids) fun r1783 =>
  (rec (IntKind.wrap .i64 (x1770 + r1783.1)) (IntKind.wrap .i64 (x1771 + (1 : Int))) x1772 x1773 x1774 x1775))
  else none)
  else none)
  else (k0 x1770))
noncomputable def F36b_0_it {R : Type} (n : Nat) (rc : Q36RC) (k0 : Int → Option R) : Nat → Int → Int → Int → ByteArray → List ByteArray → List Ex → Option R
  | 0, _, _, _, _, _, _ => none
  | k + 1, x1770, x1771, x1772, x1773, x1774, x1775 => F36b_0_step n rc k0 (F36b_0_it n rc k0 k) x1770 x1771 x1772 x1773 x1774 x1775
noncomputable def F36b_0 {R : Type} (n : Nat) (rc : Q36RC) (x1770 : Int) (x1771 : Int) (x1772 : Int) (x1773 : ByteArray) (x1774 : List ByteArray) (x1775 : List Ex) (k0 : Int → Option R) : Option R := F36b_0_it n rc k0 n x1770 x1771 x1772 x1773 x1774 x1775
noncomputable def F36b_0z (n : Nat) (rc : Q36RC) : Sm G := inZ G 0 ⟨[1, 3, 4], []⟩ F36b_0s fun R x K => F36b_0_it n rc (fun u0 => K (.exit 0) (SSh.enc G F36b_0x0 ((u0, ()), ()))) n x.1.2.1 x.1.2.2.1 x.2.1.1 x.2.1.2.1 x.2.1.2.2.1 x.2.1.2.2.2.1
theorem F36b_0_eq (n : Nat) (rc : Q36RC) (R : Type) (rec : SSh.den G F36b_0s → Option R) (x : SSh.den G F36b_0s) (K : AE → St G → Option R) :
  F36b_0_step n rc (fun u0 => K (.exit 0) (SSh.enc G F36b_0x0 ((u0, ()), ()))) (fun x1770 x1771 x1772 x1773 x1774 x1775 => rec (((), (x1770, (x1771, ()))), ((x1772, (x1773, (x1774, (x1775, ())))), ()))) x.1.2.1 x.1.2.2.1 x.2.1.1 x.2.1.2.1 x.2.1.2.2.1 x.2.1.2.2.2.1 = exec prog G (ro G (tabOf (Q36L n rc)) (frOf []) R) 0 (codeAt F36bc [1, 1, 0, 1, 0, 0]) .no (SSh.enc G F36b_0s x) (kLoop G (ro G (tabOf (Q36L n rc)) (frOf []) R) 0 ⟨[1, 3, 4], []⟩ F36b_0s ⟨⟨[3], []⟩, ⟨[2], []⟩, [(0, ⟨[3], []⟩)]⟩ rec K) := by kernel_rfl
theorem F36b_0_ok (n : Nat) (rc : Q36RC) (h : AllE prog G (Q36L n rc)) : FragOK prog G 0 (codeAt F36bc [1, 1, 0, 1, 0]) (F36b_0z n rc) :=
  frag_loop (Z := fun R k (x : SSh.den G F36b_0s) K => F36b_0_it n rc (fun u0 => K (.exit 0) (SSh.enc G F36b_0x0 ((u0, ()), ()))) k x.1.2.1 x.1.2.2.1 x.2.1.1 x.2.1.2.1 x.2.1.2.2.1 x.2.1.2.2.2.1) laws fnok h.tab (AllF.of (l := []) (by kernel_rfl) AllF.nil) (fun _ _ _ => rfl) (fun R k y K => F36b_0_eq n rc R (fun (x : SSh.den G F36b_0s) => F36b_0_it n rc (fun u0 => K (.exit 0) (SSh.enc G F36b_0x0 ((u0, ()), ()))) k x.1.2.1 x.1.2.2.1 x.2.1.1 x.2.1.2.1 x.2.1.2.2.1 x.2.1.2.2.2.1) y K) n
noncomputable def F36b (n : Nat) (rc : Q36RC) (a1766 : Int) (a1767 : ByteArray) (a1768 : List ByteArray) (a1769 : List Ex) : Option (Int × Unit) :=
  (F36b_0 n rc (1 : Int) (0 : Int) a1766 a1767 a1768 a1769 (fun z1786 =>
  some (z1786, ())))
noncomputable def F36be (n : Nat) (rc : Q36RC) : Ent G := ⟨36, (.cons (.agg (.cons (.int .i64) (.cons .str (.cons (.imm 2) (.cons (.imm 3) .nil))))) .nil), [], (.int .i64), [], fun x y => F36b n rc x.1.1 x.1.2.1 x.1.2.2.1 x.1.2.2.2.1⟩
theorem F36b_eq (n : Nat) (rc : Q36RC) (x : ShL.den G (.cons (.agg (.cons (.int .i64) (.cons .str (.cons (.imm 2) (.cons (.imm 3) .nil))))) .nil)) (y : denO G []) : (F36be n rc).F x y = runFn prog G (ro G (tabOf (Q36L n rc)) (frOf [F36b_0z n rc]) _) Go.Proofs.Try.f36 (.nd .no (.nd .no (.nd (.nd .no (.nd (.use 0) .no)) .no))) [(0, .fz)] (ShL.enc G (.cons (.agg (.cons (.int .i64) (.cons .str (.cons (.imm 2) (.cons (.imm 3) .nil))))) .nil) x) (encO G [] y) (decR (.int .i64) []) := by kernel_rfl
theorem F36b_ok (n : Nat) (rc : Q36RC) (h : AllE prog G (Q36L n rc)) : EntOK prog G (F36be n rc) :=
  ent_ok (fr := frOf [F36b_0z n rc]) (ann := (.nd .no (.nd .no (.nd (.nd .no (.nd (.use 0) .no)) .no)))) (frm := [(0, .fz)]) laws fnok h.tab (e := F36be n rc) (fn := Go.Proofs.Try.f36) (by kernel_rfl) (AllF.ofB (cd := F36bc) (l := [(0, codeAt F36bc [1, 1, 0, 1, 0])]) (by kernel_rfl) (by kernel_rfl) (AllF.cons (F36b_0_ok n rc h) AllF.nil)) (F36b_eq n rc)
noncomputable def Q36it (n : Nat) : Nat → Q36RC
  | 0 => (fun _ _ _ _ => none, ())
  | k + 1 => (F36b n (Q36it n k), ())
theorem Q36it_ok (n : Nat) : ∀ k, AllE prog G (Q36L n (Q36it n k))
  | 0 => (AllE.cons (EntOK.none fun _ _ => rfl) (E50_ok n))
  | k + 1 => (AllE.cons (F36b_ok n _ (Q36it_ok n k)) (E50_ok n))
noncomputable def F36 (n : Nat) (a0 : Int) (a1 : ByteArray) (a2 : List ByteArray) (a3 : List Ex) : Option (Int × Unit) := (Q36it n n).1 a0 a1 a2 a3
noncomputable def F36e (n : Nat) : Ent G := ⟨36, (.cons (.agg (.cons (.int .i64) (.cons .str (.cons (.imm 2) (.cons (.imm 3) .nil))))) .nil), [], (.int .i64), [], fun x y => F36 n x.1.1 x.1.2.1 x.1.2.2.1 x.1.2.2.2.1⟩
noncomputable def E51 (n : Nat) : List (Ent G) := F36e n :: E50 n
theorem E51_ok (n : Nat) : AllE prog G (E51 n) := Q36it_ok n n
noncomputable def F14 (n : Nat) (a1447 : Int) (a1448 : ByteArray) (a1449 : List ByteArray) (a1450 : List Ex) : Option (Int × Unit) :=
  (andThen (F31 n a1447 a1448 a1449 a1450 (7 : Int)) fun r1726 =>
  (bif (!r1726.1) then
  some ((0 : Int), ())
  else (andThen (F36 n a1447 a1448 a1449 a1450) fun r1787 =>
  some (r1787.1, ()))))
noncomputable def F14e (n : Nat) : Ent G := ⟨14, (.cons (.agg (.cons (.int .i64) (.cons .str (.cons (.imm 2) (.cons (.imm 3) .nil))))) .nil), [], (.int .i64), [], fun x y => F14 n x.1.1 x.1.2.1 x.1.2.2.1 x.1.2.2.2.1⟩
theorem F14_eq (n : Nat) (x : ShL.den G (.cons (.agg (.cons (.int .i64) (.cons .str (.cons (.imm 2) (.cons (.imm 3) .nil))))) .nil)) (y : denO G []) : (F14e n).F x y = runFn prog G (ro G (tabOf (E51 n)) (frOf []) _) Go.Proofs.Try.f14 .no [(0, .fz)] (ShL.enc G (.cons (.agg (.cons (.int .i64) (.cons .str (.cons (.imm 2) (.cons (.imm 3) .nil))))) .nil) x) (encO G [] y) (decR (.int .i64) []) := by kernel_rfl
theorem F14_ok (n : Nat) : EntOK prog G (F14e n) :=
  ent_ok (fr := frOf []) (ann := .no) (frm := [(0, .fz)]) laws fnok (E51_ok n).tab (e := F14e n) (fn := Go.Proofs.Try.f14) (by kernel_rfl) (AllF.ofB (cd := F14c) (l := []) (by kernel_rfl) (by kernel_rfl) AllF.nil) (F14_eq n)
noncomputable def E52 (n : Nat) : List (Ent G) := F14e n :: E51 n
theorem E52_ok (n : Nat) : AllE prog G (E52 n) := AllE.cons (F14_ok n) (E51_ok n)
noncomputable def F6_0x0 : SSh := ⟨46, [(4, (.int .i64)), (7, (.int .i64))], []⟩
noncomputable def F6_0s : SSh := ⟨46, [(3, (.ptr 0 0)), (4, (.int .i64)), (7, (.int .i64)), (8, (.int .i64))], [(.box 30 (.cons (.int .i64) (.cons .str (.cons (.imm 2) (.cons (.imm 3) .nil)))))]⟩
noncomputable def F6_0_step {R : Type} (n : Nat) (k0 : Int → Int → Option R) (rec : Int → Int → Int → Int → ByteArray → List ByteArray → List Ex → Option R) (x1792 : Int) (x1793 : Int) (x1794 : Int) (x1795 : Int) (x1796 : ByteArray) (x1797 : List ByteArray) (x1798 : List Ex) : Option R :=
  (bif (decide (x1794 < ((x1798.length) : Int))) then
  (bif (decide ((0 : Int) ≤ x1794)) then
  (bif (decide (x1794 < ((x1798.length) : Int))) then
  let v1801 := (x1798.getD (x1794.toNat) (Ex.mk (0 : Int) ({ data := #[] } : ByteArray) [] []))
  (andThen (F15 n v1801.kind v1801.text v1801.names v1801.kids) fun r1806 =>
  (rec x1792 (IntKind.wrap .i64 (x1793 + r1806.1)) (IntKind.wrap .i64 (x1794 + (1 : Int))) x1795 x1796 x1797 x1798))
  else none)
  else none)
  else (k0 x1792 x1793))
noncomputable def F6_0_it {R : Type} (n : Nat) (k0 : Int → Int → Option R) : Nat → Int → Int → Int → Int → ByteArray → List ByteArray → List Ex → Option R
  | 0, _, _, _, _, _, _, _ => none
  | k + 1, x1792, x1793, x1794, x1795, x1796, x1797, x1798 => F6_0_step n k0 (F6_0_it n k0 k) x1792 x1793 x1794 x1795 x1796 x1797 x1798
noncomputable def F6_0 {R : Type} (n : Nat) (x1792 : Int) (x1793 : Int) (x1794 : Int) (x1795 : Int) (x1796 : ByteArray) (x1797 : List ByteArray) (x1798 : List Ex) (k0 : Int → Int → Option R) : Option R := F6_0_it n k0 n x1792 x1793 x1794 x1795 x1796 x1797 x1798
noncomputable def F6_0z (n : Nat) : Sm G := inZ G 0 ⟨[3, 4, 7, 8], []⟩ F6_0s fun R x K => F6_0_it n (fun u0 u1 => K (.exit 0) (SSh.enc G F6_0x0 ((u0, (u1, ())), ()))) n x.1.2.1 x.1.2.2.1 x.1.2.2.2.1 x.2.1.1 x.2.1.2.1 x.2.1.2.2.1 x.2.1.2.2.2.1
theorem F6_0_eq (n : Nat) (R : Type) (rec : SSh.den G F6_0s → Option R) (x : SSh.den G F6_0s) (K : AE → St G → Option R) :
  F6_0_step n (fun u0 u1 => K (.exit 0) (SSh.enc G F6_0x0 ((u0, (u1, ())), ()))) (fun x1792 x1793 x1794 x1795 x1796 x1797 x1798 => rec (((), (x1792, (x1793, (x1794, ())))), ((x1795, (x1796, (x1797, (x1798, ())))), ()))) x.1.2.1 x.1.2.2.1 x.1.2.2.2.1 x.2.1.1 x.2.1.2.1 x.2.1.2.2.1 x.2.1.2.2.2.1 = exec prog G (ro G (tabOf (E52 n)) (frOf []) R) 0 (codeAt F6c [1, 1, 1, 1, 1, 1, 1, 1, 0, 1, 0, 0]) .no (SSh.enc G F6_0s x) (kLoop G (ro G (tabOf (E52 n)) (frOf []) R) 0 ⟨[3, 4, 7, 8], []⟩ F6_0s ⟨⟨[4, 7], []⟩, ⟨[2], []⟩, [(0, ⟨[4, 7], []⟩)]⟩ rec K) := by kernel_rfl
theorem F6_0_ok (n : Nat) : FragOK prog G 0 (codeAt F6c [1, 1, 1, 1, 1, 1, 1, 1, 0, 1, 0]) (F6_0z n) :=
  frag_loop (Z := fun R k (x : SSh.den G F6_0s) K => F6_0_it n (fun u0 u1 => K (.exit 0) (SSh.enc G F6_0x0 ((u0, (u1, ())), ()))) k x.1.2.1 x.1.2.2.1 x.1.2.2.2.1 x.2.1.1 x.2.1.2.1 x.2.1.2.2.1 x.2.1.2.2.2.1) laws fnok (E52_ok n).tab (AllF.of (l := []) (by kernel_rfl) AllF.nil) (fun _ _ _ => rfl) (fun R k y K => F6_0_eq n R (fun (x : SSh.den G F6_0s) => F6_0_it n (fun u0 u1 => K (.exit 0) (SSh.enc G F6_0x0 ((u0, (u1, ())), ()))) k x.1.2.1 x.1.2.2.1 x.1.2.2.2.1 x.2.1.1 x.2.1.2.1 x.2.1.2.2.1 x.2.1.2.2.2.1) y K) n
noncomputable def F6 (n : Nat) (a0 : List Int) : Option (Bool × Unit) :=
  (bif (decide (((a0.length) : Int) > (1048576 : Int))) then
  some (true, ())
  else (andThen (F18 n a0) fun r1011 =>
  (andThen (F15 n r1011.1.1 r1011.1.2.1 r1011.1.2.2.1 r1011.1.2.2.2.1) fun r1446 =>
  (andThen (F14 n r1011.1.1 r1011.1.2.1 r1011.1.2.2.1 r1011.1.2.2.2.1) fun r1788 =>
  let v1789 := (r1446.1 == r1788.1)
  (bif (!v1789) then
  some (v1789, ())
  else (bif (r1446.1 == (0 : Int)) then
  some (v1789, ())
  else (F6_0 n r1446.1 (1 : Int) (0 : Int) r1011.1.1 r1011.1.2.1 r1011.1.2.2.1 r1011.1.2.2.2.1 (fun z1809 z1810 =>
  some ((z1810 == z1809), ())))))))))
noncomputable def F6e (n : Nat) : Ent G := ⟨6, (.cons (.imm 1) .nil), [], .bool, [], fun x y => F6 n x.1⟩
theorem F6_eq (n : Nat) (x : ShL.den G (.cons (.imm 1) .nil)) (y : denO G []) : (F6e n).F x y = runFn prog G (ro G (tabOf (E52 n)) (frOf [F6_0z n]) _) Go.Proofs.Try.f6 (.nd .no (.nd .no (.nd .no (.nd .no (.nd .no (.nd .no (.nd .no (.nd .no (.nd (.nd .no (.nd (.use 0) .no)) .no))))))))) [(0, .fz)] (ShL.enc G (.cons (.imm 1) .nil) x) (encO G [] y) (decR .bool []) := by kernel_rfl
theorem F6_ok (n : Nat) : EntOK prog G (F6e n) :=
  ent_ok (fr := frOf [F6_0z n]) (ann := (.nd .no (.nd .no (.nd .no (.nd .no (.nd .no (.nd .no (.nd .no (.nd .no (.nd (.nd .no (.nd (.use 0) .no)) .no)))))))))) (frm := [(0, .fz)]) laws fnok (E52_ok n).tab (e := F6e n) (fn := Go.Proofs.Try.f6) (by kernel_rfl) (AllF.ofB (cd := F6c) (l := [(0, codeAt F6c [1, 1, 1, 1, 1, 1, 1, 1, 0, 1, 0])]) (by kernel_rfl) (by kernel_rfl) (AllF.cons (F6_0_ok n) AllF.nil)) (F6_eq n)
noncomputable def E53 (n : Nat) : List (Ent G) := F6e n :: E52 n
theorem E53_ok (n : Nat) : AllE prog G (E53 n) := AllE.cons (F6_ok n) (E52_ok n)
-- 8 loop.example/slowworm/laws.FnExprNames
noncomputable def F8c : Code := bodyOf Go.Proofs.Try.f8
-- 25 loop.example/slowworm/spec.DrawExprNames
noncomputable def F25c : Code := bodyOf Go.Proofs.Try.f25
noncomputable def F25 (n : Nat) (a1815 : List Int) : Option ((Int × (ByteArray × (List ByteArray × (List Ex × Unit)))) × Unit) :=
  (andThen (F40 n a1815) fun r1816 =>
  (andThen (F41 n r1816.2.1.1 r1816.2.1.2.1) fun r1817 =>
  some ((r1817.1.1, (r1817.1.2.1, (r1817.1.2.2.1, (r1817.1.2.2.2.1, ())))), ())))
noncomputable def F25e (n : Nat) : Ent G := ⟨25, (.cons (.imm 1) .nil), [], (.agg (.cons (.int .i64) (.cons .str (.cons (.imm 2) (.cons (.imm 3) .nil))))), [], fun x y => F25 n x.1⟩
theorem F25_eq (n : Nat) (x : ShL.den G (.cons (.imm 1) .nil)) (y : denO G []) : (F25e n).F x y = runFn prog G (ro G (tabOf (E53 n)) (frOf []) _) Go.Proofs.Try.f25 .no [(0, .fz)] (ShL.enc G (.cons (.imm 1) .nil) x) (encO G [] y) (decR (.agg (.cons (.int .i64) (.cons .str (.cons (.imm 2) (.cons (.imm 3) .nil))))) []) := by kernel_rfl
theorem F25_ok (n : Nat) : EntOK prog G (F25e n) :=
  ent_ok (fr := frOf []) (ann := .no) (frm := [(0, .fz)]) laws fnok (E53_ok n).tab (e := F25e n) (fn := Go.Proofs.Try.f25) (by kernel_rfl) (AllF.ofB (cd := F25c) (l := []) (by kernel_rfl) (by kernel_rfl) AllF.nil) (F25_eq n)
noncomputable def E54 (n : Nat) : List (Ent G) := F25e n :: E53 n
theorem E54_ok (n : Nat) : AllE prog G (E54 n) := AllE.cons (F25_ok n) (E53_ok n)
-- 44 loop.example/slowworm/impl.ExprNames$1
noncomputable def F44c : Code := bodyOf Go.Proofs.Try.f44
noncomputable def F44 (n : Nat) (a1840 : ByteArray) (a1841 : List ByteArray) : Option (Unit × ((Unit × Unit) × (Unit × (List ByteArray × Unit)))) :=
  (andThen (F45 n a1841 a1840) fun r1842 =>
  (bif (!r1842.1) then
  let v1844 := (a1840 :: [])
  (bif (decide (((a1841.length) + (v1844.length)) ≤ (68719476736 : Nat))) then
  some ((), (((), ()), ((), ((a1841 ++ v1844), ()))))
  else none)
  else some ((), (((), ()), ((), (a1841, ()))))))
noncomputable def F44e (n : Nat) : Ent G := ⟨44, (.cons .str (.cons (.ptr 0 0) .nil)), [(.box 22 (.cons (.own 1) .nil)), (.arr 2 true)], (.tup .nil), [(.box 22 (.cons (.own 2) .nil)), .dead, (.arr 2 true)], fun x y => F44 n x.1 y.2.1⟩
theorem F44_eq (n : Nat) (x : ShL.den G (.cons .str (.cons (.ptr 0 0) .nil))) (y : denO G [(.box 22 (.cons (.own 1) .nil)), (.arr 2 true)]) : (F44e n).F x y = runFn prog G (ro G (tabOf (E54 n)) (frOf []) _) Go.Proofs.Try.f44 .no [(0, (.obj 0 0 (.mv 2)))] (ShL.enc G (.cons .str (.cons (.ptr 0 0) .nil)) x) (encO G [(.box 22 (.cons (.own 1) .nil)), (.arr 2 true)] y) (decR (.tup .nil) [(.box 22 (.cons (.own 2) .nil)), .dead, (.arr 2 true)]) := by kernel_rfl
theorem F44_ok (n : Nat) : EntOK prog G (F44e n) :=
  ent_ok (fr := frOf []) (ann := .no) (frm := [(0, (.obj 0 0 (.mv 2)))]) laws fnok (E54_ok n).tab (e := F44e n) (fn := Go.Proofs.Try.f44) (by kernel_rfl) (AllF.ofB (cd := F44c) (l := []) (by kernel_rfl) (by kernel_rfl) AllF.nil) (F44_eq n)
noncomputable def E55 (n : Nat) : List (Ent G) := F44e n :: E54 n
theorem E55_ok (n : Nat) : AllE prog G (E55 n) := AllE.cons (F44_ok n) (E54_ok n)
-- 63 slices.Concat[[]string,string]
noncomputable def F63c : Code := bodyOf Go.Proofs.Try.f63
noncomputable def F63_0x0 : SSh := ⟨36, [(0, (.imm 5)), (3, (.int .i64)), (9, (.imm 5)), (10, (.int .i64)), (11, (.int .i64))], []⟩
noncomputable def F63_0s : SSh := ⟨36, [(0, (.imm 5)), (3, (.int .i64)), (9, (.imm 5)), (10, (.int .i64)), (11, (.int .i64))], []⟩
noncomputable def F63_0 {R : Type} (n : Nat) (x1869 : List (List ByteArray)) (x1870 : Int) (x1871 : List (List ByteArray)) (x1872 : Int) (x1873 : Int) (k0 : List (List ByteArray) → Int → List (List ByteArray) → Int → Int → Option R) : Option R :=
  (bif (decide ((0 : Int) ≤ x1873)) then
  (bif (decide (x1873 < ((x1871.length) : Int))) then
  let v1877 := (IntKind.wrap .i64 (x1870 + (((x1871.getD (x1873.toNat) []).length) : Int)))
  (bif (decide (v1877 < (0 : Int))) then
  none
  else (k0 x1869 v1877 x1871 x1872 x1873))
  else none)
  else none)
noncomputable def F63_0z (n : Nat) : Sm G := inZ G 0 ⟨[0, 3, 9, 10, 11], []⟩ F63_0s fun R x K => F63_0 n x.1.1 x.1.2.1 x.1.2.2.1 x.1.2.2.2.1 x.1.2.2.2.2.1 (fun u0 u1 u2 u3 u4 => K .normal (SSh.enc G F63_0x0 ((u0, (u1, (u2, (u3, (u4, ()))))), ())))
theorem F63_0_eq (n : Nat) (R : Type) (x : SSh.den G F63_0s) (K : AE → St G → Option R) :
  F63_0 n x.1.1 x.1.2.1 x.1.2.2.1 x.1.2.2.2.1 x.1.2.2.2.2.1 (fun u0 u1 u2 u3 u4 => K .normal (SSh.enc G F63_0x0 ((u0, (u1, (u2, (u3, (u4, ()))))), ()))) = exec prog G (ro G (tabOf (E55 n)) (frOf []) R) 0 (codeAt F63c [1, 1, 0, 1, 0, 0, 1, 1, 0]) .no (SSh.enc G F63_0s x) (kNrm G (ro G (tabOf (E55 n)) (frOf []) R) 0 ⟨⟨[0, 3, 9, 10, 11], []⟩, ⟨[2], []⟩, [(0, ⟨[0, 3], []⟩)]⟩ K) := by kernel_rfl
theorem F63_0_ok (n : Nat) : FragOK prog G 0 (codeAt F63c [1, 1, 0, 1, 0, 0, 1, 1, 0]) (F63_0z n) :=
  frag_plain laws fnok (E55_ok n).tab (AllF.of (l := []) (by kernel_rfl) AllF.nil) (F63_0_eq n)
noncomputable def F63_1x0 : SSh := ⟨36, [(0, (.imm 5)), (3, (.int .i64))], []⟩
noncomputable def F63_1s : SSh := ⟨36, [(0, (.imm 5)), (3, (.int .i64)), (9, (.imm 5)), (10, (.int .i64)), (11, (.int .i64))], []⟩
noncomputable def F63_1_step {R : Type} (n : Nat) (k0 : List (List ByteArray) → Int → Option R) (rec : List (List ByteArray) → Int → List (List ByteArray) → Int → Int → Option R) (x1863 : List (List ByteArray)) (x1864 : Int) (x1865 : List (List ByteArray)) (x1866 : Int) (x1867 : Int) : Option R :=
  (bif (decide (x1867 < x1866)) then
  (F63_0 n x1863 x1864 x1865 x1866 x1867 (fun z1879 z1880 z1881 z1882 z1883 =>
  (rec z1879 z1880 z1881 z1882 (IntKind.wrap .i64 (z1883 + (1 : Int))))))
  else (k0 x1863 x1864))
noncomputable def F63_1_it {R : Type} (n : Nat) (k0 : List (List ByteArray) → Int → Option R) : Nat → List (List ByteArray) → Int → List (List ByteArray) → Int → Int → Option R
  | 0, _, _, _, _, _ => none
  | k + 1, x1863, x1864, x1865, x1866, x1867 => F63_1_step n k0 (F63_1_it n k0 k) x1863 x1864 x1865 x1866 x1867
noncomputable def F63_1 {R : Type} (n : Nat) (x1863 : List (List ByteArray)) (x1864 : Int) (x1865 : List (List ByteArray)) (x1866 : Int) (x1867 : Int) (k0 : List (List ByteArray) → Int → Option R) : Option R := F63_1_it n k0 n x1863 x1864 x1865 x1866 x1867
noncomputable def F63_1z (n : Nat) : Sm G := inZ G 0 ⟨[0, 3, 9, 10, 11], []⟩ F63_1s fun R x K => F63_1_it n (fun u0 u1 => K (.exit 0) (SSh.enc G F63_1x0 ((u0, (u1, ())), ()))) n x.1.1 x.1.2.1 x.1.2.2.1 x.1.2.2.2.1 x.1.2.2.2.2.1
theorem F63_1_eq (n : Nat) (R : Type) (rec : SSh.den G F63_1s → Option R) (x : SSh.den G F63_1s) (K : AE → St G → Option R) :
  F63_1_step n (fun u0 u1 => K (.exit 0) (SSh.enc G F63_1x0 ((u0, (u1, ())), ()))) (fun x1863 x1864 x1865 x1866 x1867 => rec ((x1863, (x1864, (x1865, (x1866, (x1867, ()))))), ())) x.1.1 x.1.2.1 x.1.2.2.1 x.1.2.2.2.1 x.1.2.2.2.2.1 = exec prog G (ro G (tabOf (E55 n)) (frOf [F63_0z n]) R) 0 (codeAt F63c [1, 1, 0, 1, 0, 0]) (.nd .no (.nd .no (.nd (.use 0) .no))) (SSh.enc G F63_1s x) (kLoop G (ro G (tabOf (E55 n)) (frOf [F63_0z n]) R) 0 ⟨[0, 3, 9, 10, 11], []⟩ F63_1s ⟨⟨[0, 3], []⟩, ⟨[2], []⟩, [(0, ⟨[0, 3], []⟩)]⟩ rec K) := by kernel_rfl
theorem F63_1_ok (n : Nat) : FragOK prog G 0 (codeAt F63c [1, 1, 0, 1, 0]) (F63_1z n) :=
  frag_loop (Z := fun R k (x : SSh.den G F63_1s) K => F63_1_it n (fun u0 u1 => K (.exit 0) (SSh.enc G F63_1x0 ((u0, (u1, ())), ()))) k x.1.1 x.1.2.1 x.1.2.2.1 x.1.2.2.2.1 x.1.2.2.2.2.1) laws fnok (E55_ok n).tab (AllF.of (l := [(0, codeAt F63c [1, 1, 0, 1, 0, 0, 1, 1, 0])]) (by kernel_rfl) (AllF.cons (F63_0_ok n) AllF.nil)) (fun _ _ _ => rfl) (fun R k y K => F63_1_eq n R (fun (x : SSh.den G F63_1s) => F63_1_it n (fun u0 u1 => K (.exit 0) (SSh.enc G F63_1x0 ((u0, (u1, ())), ()))) k x.1.1 x.1.2.1 x.1.2.2.1 x.1.2.2.2.1 x.1.2.2.2.2.1) y K) n
-- 84 slices.Grow[[]string,string]
noncomputable def F84c : Code := bodyOf Go.Proofs.Try.f84
noncomputable def F84_0x0 : SSh := ⟨27, [(0, .nil0), (1, (.int .i64))], []⟩
noncomputable def F84_0s : SSh := ⟨27, [(0, .nil0), (1, (.int .i64))], []⟩
noncomputable def F84_0 {R : Type} (n : Nat) (x1888 : Int) (k0 : Int → Option R) : Option R :=
  (bif (decide (x1888 < (0 : Int))) then
  none
  else (k0 x1888))
noncomputable def F84_0z (n : Nat) : Sm G := inZ G 0 ⟨[0, 1], []⟩ F84_0s fun R x K => F84_0 n x.1.2.1 (fun u0 => K .normal (SSh.enc G F84_0x0 (((), (u0, ())), ())))
theorem F84_0_eq (n : Nat) (R : Type) (x : SSh.den G F84_0s) (K : AE → St G → Option R) :
  F84_0 n x.1.2.1 (fun u0 => K .normal (SSh.enc G F84_0x0 (((), (u0, ())), ()))) = exec prog G (ro G (tabOf (E55 n)) (frOf []) R) 0 (codeAt F84c [1, 0]) .no (SSh.enc G F84_0s x) (kNrm G (ro G (tabOf (E55 n)) (frOf []) R) 0 ⟨⟨[0, 1], []⟩, ⟨[4], []⟩, []⟩ K) := by kernel_rfl
theorem F84_0_ok (n : Nat) : FragOK prog G 0 (codeAt F84c [1, 0]) (F84_0z n) :=
  frag_plain laws fnok (E55_ok n).tab (AllF.of (l := []) (by kernel_rfl) AllF.nil) (F84_0_eq n)
noncomputable def F84_1x0 : SSh := ⟨27, [(0, (.pre 0))], [(.arr 2 true)]⟩
noncomputable def F84_1x1 : SSh := ⟨27, [(0, .nil0)], []⟩
noncomputable def F84_1s : SSh := ⟨27, [(0, .nil0), (1, (.int .i64))], []⟩
noncomputable def F84_1 {R : Type} (n : Nat) (x1891 : Int) (k0 : Nat → List ByteArray → Option R) (k1 : Option R) : Option R :=
  let v1892 := (IntKind.wrap .i64 (x1891 - (Int.ofNat (0 : Nat))))
  (bif (decide (v1892 > (0 : Int))) then
  (bif (decide ((0 : Int) < v1892)) then
  (bif (decide (v1892 ≤ ((68719476736 : Nat) : Int))) then
  let v1894 := (List.replicate (v1892.toNat) ({ data := #[] } : ByteArray))
  (bif (decide ((Int.ofNat (0 : Nat)) ≤ ((v1894.length) : Int))) then
  (k0 (0 : Nat) v1894)
  else none)
  else none)
  else none)
  else k1)
noncomputable def F84_1z (n : Nat) : Sm G := inZ G 0 ⟨[0, 1], []⟩ F84_1s fun R x K => F84_1 n x.1.2.1 (fun u0 u1 => K .normal (SSh.enc G F84_1x0 ((u0, ()), (u1, ())))) (K .normal (SSh.enc G F84_1x1 (((), ()), ())))
theorem F84_1_eq (n : Nat) (R : Type) (x : SSh.den G F84_1s) (K : AE → St G → Option R) :
  F84_1 n x.1.2.1 (fun u0 u1 => K .normal (SSh.enc G F84_1x0 ((u0, ()), (u1, ())))) (K .normal (SSh.enc G F84_1x1 (((), ()), ()))) = exec prog G (ro G (tabOf (E55 n)) (frOf [F84_0z n]) R) 0 (codeAt F84c [1, 1, 0]) .no (SSh.enc G F84_1s x) (kNrm G (ro G (tabOf (E55 n)) (frOf [F84_0z n]) R) 0 ⟨⟨[0], []⟩, ⟨[4], []⟩, []⟩ K) := by kernel_rfl
theorem F84_1_ok (n : Nat) : FragOK prog G 0 (codeAt F84c [1, 1, 0]) (F84_1z n) :=
  frag_plain laws fnok (E55_ok n).tab (AllF.of (l := []) (by kernel_rfl) AllF.nil) (F84_1_eq n)
noncomputable def F84 (n : Nat) (a1887 : Int) : Option (Unit × (List ByteArray × Unit)) :=
  (F84_0 n a1887 (fun z1890 =>
  (F84_1 n z1890 (fun z1895 z1896 =>
  some ((), ((z1896.take z1895), ()))) (
  some ((), ([], ()))))))
noncomputable def F84e (n : Nat) : Ent G := ⟨84, (.cons .nil0 (.cons (.int .i64) .nil)), [], (.own 0), [(.arr 2 true)], fun x y => F84 n x.2.1⟩
theorem F84_eq (n : Nat) (x : ShL.den G (.cons .nil0 (.cons (.int .i64) .nil))) (y : denO G []) : (F84e n).F x y = runFn prog G (ro G (tabOf (E55 n)) (frOf [F84_0z n, F84_1z n]) _) Go.Proofs.Try.f84 (.nd .no (.nd (.use 0) (.nd (.use 1) .no))) [(0, (.mv 2))] (ShL.enc G (.cons .nil0 (.cons (.int .i64) .nil)) x) (encO G [] y) (decR (.own 0) [(.arr 2 true)]) := by kernel_rfl
theorem F84_ok (n : Nat) : EntOK prog G (F84e n) :=
  ent_ok (fr := frOf [F84_0z n, F84_1z n]) (ann := (.nd .no (.nd (.use 0) (.nd (.use 1) .no)))) (frm := [(0, (.mv 2))]) laws fnok (E55_ok n).tab (e := F84e n) (fn := Go.Proofs.Try.f84) (by kernel_rfl) (AllF.ofB (cd := F84c) (l := [(0, codeAt F84c [1, 0]), (1, codeAt F84c [1, 1, 0])]) (by kernel_rfl) (by kernel_rfl) (AllF.cons (F84_0_ok n) (AllF.cons (F84_1_ok n) AllF.nil))) (F84_eq n)
noncomputable def E56 (n : Nat) : List (Ent G) := F84e n :: E55 n
theorem E56_ok (n : Nat) : AllE prog G (E56 n) := AllE.cons (F84_ok n) (E55_ok n)
noncomputable def F63_2x0 : SSh := ⟨36, [(6, (.own 0))], [(.arr 2 true)]⟩
noncomputable def F63_2s : SSh := ⟨36, [(6, (.own 0)), (25, (.imm 5)), (26, (.int .i64)), (27, (.int .i64))], [(.arr 2 true)]⟩
noncomputable def F63_2_step {R : Type} (n : Nat) (k0 : List ByteArray → Option R) (rec : List (List ByteArray) → Int → Int → List ByteArray → Option R) (x1900 : List (List ByteArray)) (x1901 : Int) (x1902 : Int) (x1903 : List ByteArray) : Option R :=
  (bif (decide (x1902 < x1901)) then
  (bif (decide ((0 : Int) ≤ x1902)) then
  (bif (decide (x1902 < ((x1900.length) : Int))) then
  let v1906 := (x1900.getD (x1902.toNat) [])
  (bif (decide (((x1903.length) + (v1906.length)) ≤ (68719476736 : Nat))) then
  (rec x1900 x1901 (IntKind.wrap .i64 (x1902 + (1 : Int))) (x1903 ++ v1906))
  else none)
  else none)
  else none)
  else (k0 x1903))
noncomputable def F63_2_it {R : Type} (n : Nat) (k0 : List ByteArray → Option R) : Nat → List (List ByteArray) → Int → Int → List ByteArray → Option R
  | 0, _, _, _, _ => none
  | k + 1, x1900, x1901, x1902, x1903 => F63_2_step n k0 (F63_2_it n k0 k) x1900 x1901 x1902 x1903
noncomputable def F63_2 {R : Type} (n : Nat) (x1900 : List (List ByteArray)) (x1901 : Int) (x1902 : Int) (x1903 : List ByteArray) (k0 : List ByteArray → Option R) : Option R := F63_2_it n k0 n x1900 x1901 x1902 x1903
noncomputable def F63_2z (n : Nat) : Sm G := inZ G 0 ⟨[6, 25, 26, 27], []⟩ F63_2s fun R x K => F63_2_it n (fun u0 => K (.exit 2) (SSh.enc G F63_2x0 (((), ()), (u0, ())))) n x.1.2.1 x.1.2.2.1 x.1.2.2.2.1 x.2.1
theorem F63_2_eq (n : Nat) (R : Type) (rec : SSh.den G F63_2s → Option R) (x : SSh.den G F63_2s) (K : AE → St G → Option R) :
  F63_2_step n (fun u0 => K (.exit 2) (SSh.enc G F63_2x0 (((), ()), (u0, ())))) (fun x1900 x1901 x1902 x1903 => rec (((), (x1900, (x1901, (x1902, ())))), (x1903, ()))) x.1.2.1 x.1.2.2.1 x.1.2.2.2.1 x.2.1 = exec prog G (ro G (tabOf (E56 n)) (frOf [F63_0z n, F63_1z n]) R) 0 (codeAt F63c [1, 1, 1, 1, 0, 1, 0, 0]) .no (SSh.enc G F63_2s x) (kLoop G (ro G (tabOf (E56 n)) (frOf [F63_0z n, F63_1z n]) R) 0 ⟨[6, 25, 26, 27], []⟩ F63_2s ⟨⟨[6], []⟩, ⟨[2], []⟩, [(2, ⟨[6], []⟩)]⟩ rec K) := by kernel_rfl
theorem F63_2_ok (n : Nat) : FragOK prog G 0 (codeAt F63c [1, 1, 1, 1, 0, 1, 0]) (F63_2z n) :=
  frag_loop (Z := fun R k (x : SSh.den G F63_2s) K => F63_2_it n (fun u0 => K (.exit 2) (SSh.enc G F63_2x0 (((), ()), (u0, ())))) k x.1.2.1 x.1.2.2.1 x.1.2.2.2.1 x.2.1) laws fnok (E56_ok n).tab (AllF.of (l := []) (by kernel_rfl) AllF.nil) (fun _ _ _ => rfl) (fun R k y K => F63_2_eq n R (fun (x : SSh.den G F63_2s) => F63_2_it n (fun u0 => K (.exit 2) (SSh.enc G F63_2x0 (((), ()), (u0, ())))) k x.1.2.1 x.1.2.2.1 x.1.2.2.2.1 x.2.1) y K) n
noncomputable def F63 (n : Nat) (a1861 : List (List ByteArray)) : Option (List ByteArray × Unit) :=
  (F63_1 n a1861 (0 : Int) a1861 ((a1861.length) : Int) (0 : Int) (fun z1885 z1886 =>
  (andThen (F84 n z1886) fun r1898 =>
  (F63_2 n z1885 ((z1885.length) : Int) (0 : Int) r1898.2.1 (fun z1909 =>
  some (z1909, ()))))))
noncomputable def F63e (n : Nat) : Ent G := ⟨63, (.cons (.imm 5) .nil), [], (.imm 2), [], fun x y => F63 n x.1⟩
theorem F63_eq (n : Nat) (x : ShL.den G (.cons (.imm 5) .nil)) (y : denO G []) : (F63e n).F x y = runFn prog G (ro G (tabOf (E56 n)) (frOf [F63_0z n, F63_1z n, F63_2z n]) _) Go.Proofs.Try.f63 (.nd .no (.nd .no (.nd (.nd .no (.nd (.use 1) .no)) (.nd .no (.nd (.nd .no (.nd (.use 2) .no)) .no))))) [(0, .fz)] (ShL.enc G (.cons (.imm 5) .nil) x) (encO G [] y) (decR (.imm 2) []) := by kernel_rfl
theorem F63_ok (n : Nat) : EntOK prog G (F63e n) :=
  ent_ok (fr := frOf [F63_0z n, F63_1z n, F63_2z n]) (ann := (.nd .no (.nd .no (.nd (.nd .no (.nd (.use 1) .no)) (.nd .no (.nd (.nd .no (.nd (.use 2) .no)) .no)))))) (frm := [(0, .fz)]) laws fnok (E56_ok n).tab (e := F63e n) (fn := Go.Proofs.Try.f63) (by kernel_rfl) (AllF.ofB (cd := F63c) (l := [(1, codeAt F63c [1, 1, 0, 1, 0]), (2, codeAt F63c [1, 1, 1, 1, 0, 1, 0])]) (by kernel_rfl) (by kernel_rfl) (AllF.cons (F63_1_ok n) (AllF.cons (F63_2_ok n) AllF.nil))) (F63_eq n)
noncomputable def E57 (n : Nat) : List (Ent G) := F63e n :: E56 n
theorem E57_ok (n : Nat) : AllE prog G (E57 n) := AllE.cons (F63_ok n) (E56_ok n)
abbrev Q43RC : Type := (Int → ByteArray → List ByteArray → List Ex → List ByteArray → List ByteArray → Option (Unit × ((Unit × Unit) × (Unit × (List ByteArray × Unit))))) × Unit
noncomputable def Q43L (n : Nat) (rc : Q43RC) : List (Ent G) := ⟨43, (.cons (.agg (.cons (.int .i64) (.cons .str (.cons (.imm 2) (.cons (.imm 3) .nil))))) (.cons (.imm 2) (.cons (.clo 44 (.cons (.ptr 0 0) .nil)) .nil))), [(.box 22 (.cons (.own 1) .nil)), (.arr 2 true)], (.tup .nil), [(.box 22 (.cons (.own 2) .nil)), .dead, (.arr 2 true)], fun x y => rc.1 x.1.1 x.1.2.1 x.1.2.2.1 x.1.2.2.2.1 x.2.1 y.2.1⟩ :: E57 n
-- 43 (loop.example/slowworm/impl.Expr).reads
noncomputable def F43bc : Code := bodyOf Go.Proofs.Try.f43
noncomputable def F43b_0x0 : SSh := ⟨42, [(1, (.imm 2)), (2, (.clo 44 (.cons (.ptr 0 0) .nil))), (3, (.ptr 2 0))], [(.box 22 (.cons (.own 3) .nil)), .dead, (.box 30 (.cons (.int .i64) (.cons .str (.cons (.imm 2) (.cons (.imm 3) .nil))))), (.arr 2 true)]⟩
noncomputable def F43b_0x1 : SSh := ⟨42, [(1, (.imm 2)), (2, (.clo 44 (.cons (.ptr 0 0) .nil))), (3, (.ptr 2 0))], [(.box 22 (.cons (.own 1) .nil)), (.arr 2 true), (.box 30 (.cons (.int .i64) (.cons .str (.cons (.imm 2) (.cons (.imm 3) .nil)))))]⟩
noncomputable def F43b_0s : SSh := ⟨42, [(1, (.imm 2)), (2, (.clo 44 (.cons (.ptr 0 0) .nil))), (3, (.ptr 2 0))], [(.box 22 (.cons (.own 1) .nil)), (.arr 2 true), (.box 30 (.cons (.int .i64) (.cons .str (.cons (.imm 2) (.cons (.imm 3) .nil)))))]⟩
noncomputable def F43b_0 {R : Type} (n : Nat) (rc : Q43RC) (x2059 : List ByteArray) (x2060 : List ByteArray) (x2061 : Int) (x2062 : ByteArray) (x2063 : List ByteArray) (x2064 : List Ex) (k0 : List ByteArray → Int → ByteArray → List ByteArray → List Ex → List ByteArray → Option R) (k1 : List ByteArray → List ByteArray → Int → ByteArray → List ByteArray → List Ex → Option R) : Option R :=
  (bif (x2061 == (6 : Int)) then
  (andThen (F45 n x2059 x2062) fun r2066 =>
  (bif (!r2066.1) then
  (andThen (F44 n x2062 x2060) fun r2068 =>
  (k0 x2059 x2061 x2062 x2063 x2064 r2068.2.2.2.1))
  else (k1 x2059 x2060 x2061 x2062 x2063 x2064)))
  else (k1 x2059 x2060 x2061 x2062 x2063 x2064))
noncomputable def F43b_0z (n : Nat) (rc : Q43RC) : Sm G := inZ G 2 ⟨[1, 2, 3], []⟩ F43b_0s fun R x K => F43b_0 n rc x.1.1 x.2.2.1 x.2.2.2.1.1 x.2.2.2.1.2.1 x.2.2.2.1.2.2.1 x.2.2.2.1.2.2.2.1 (fun u0 u1 u2 u3 u4 u5 => K .normal (SSh.enc G F43b_0x0 ((u0, (((), ()), ((), ()))), (((), ()), ((), ((u1, (u2, (u3, (u4, ())))), (u5, ()))))))) (fun u0 u1 u2 u3 u4 u5 => K .normal (SSh.enc G F43b_0x1 ((u0, (((), ()), ((), ()))), (((), ()), (u1, ((u2, (u3, (u4, (u5, ())))), ()))))))
theorem F43b_0_eq (n : Nat) (rc : Q43RC) (R : Type) (x : SSh.den G F43b_0s) (K : AE → St G → Option R) :
  F43b_0 n rc x.1.1 x.2.2.1 x.2.2.2.1.1 x.2.2.2.1.2.1 x.2.2.2.1.2.2.1 x.2.2.2.1.2.2.2.1 (fun u0 u1 u2 u3 u4 u5 => K .normal (SSh.enc G F43b_0x0 ((u0, (((), ()), ((), ()))), (((), ()), ((), ((u1, (u2, (u3, (u4, ())))), (u5, ()))))))) (fun u0 u1 u2 u3 u4 u5 => K .normal (SSh.enc G F43b_0x1 ((u0, (((), ()), ((), ()))), (((), ()), (u1, ((u2, (u3, (u4, (u5, ())))), ())))))) = exec prog G (ro G (tabOf (Q43L n rc)) (frOf []) R) 2 (codeAt F43bc [1, 0]) .no (SSh.enc G F43b_0s x) (kNrm G (ro G (tabOf (Q43L n rc)) (frOf []) R) 2 ⟨⟨[1, 2, 3], []⟩, ⟨[], []⟩, []⟩ K) := by kernel_rfl
theorem F43b_0_ok (n : Nat) (rc : Q43RC) (h : AllE prog G (Q43L n rc)) : FragOK prog G 2 (codeAt F43bc [1, 0]) (F43b_0z n rc) :=
  frag_plain laws fnok h.tab (AllF.of (l := []) (by kernel_rfl) AllF.nil) (F43b_0_eq n rc)
noncomputable def F43b_1x0 : SSh := ⟨42, [(1, (.imm 2)), (2, (.clo 44 (.cons (.ptr 0 0) .nil))), (3, (.ptr 2 0))], [(.box 22 (.cons (.own 3) .nil)), .dead, (.box 30 (.cons (.int .i64) (.cons .str (.cons (.imm 2) (.cons (.imm 3) .nil))))), (.arr 2 true)]⟩
noncomputable def F43b_1s : SSh := ⟨42, [(1, (.imm 2)), (2, (.clo 44 (.cons (.ptr 0 0) .nil))), (3, (.ptr 2 0))], [(.box 22 (.cons (.own 3) .nil)), .dead, (.box 30 (.cons (.int .i64) (.cons .str (.cons (.imm 2) (.cons (.imm 3) .nil))))), (.arr 2 true)]⟩
noncomputable def F43b_1 {R : Type} (n : Nat) (rc : Q43RC) (x2075 : List ByteArray) (x2076 : Int) (x2077 : ByteArray) (x2078 : List ByteArray) (x2079 : List Ex) (x2080 : List ByteArray) (k0 : List ByteArray → Int → ByteArray → List ByteArray → List Ex → List ByteArray → Option R) : Option R :=
  (bif (x2076 == (16 : Int)) then
  (andThen (F63 n (x2075 :: (x2078 :: []))) fun r2083 =>
  (k0 r2083.1 x2076 x2077 x2078 x2079 x2080))
  else (k0 x2075 x2076 x2077 x2078 x2079 x2080))
noncomputable def F43b_1z (n : Nat) (rc : Q43RC) : Sm G := inZ G 2 ⟨[1, 2, 3], [(0, (.obj 0 0 (.mv 2)))]⟩ F43b_1s fun R x K => F43b_1 n rc x.1.1 x.2.2.2.1.1 x.2.2.2.1.2.1 x.2.2.2.1.2.2.1 x.2.2.2.1.2.2.2.1 x.2.2.2.2.1 (fun u0 u1 u2 u3 u4 u5 => K .normal (SSh.enc G F43b_1x0 ((u0, (((), ()), ((), ()))), (((), ()), ((), ((u1, (u2, (u3, (u4, ())))), (u5, ())))))))
theorem F43b_1_eq (n : Nat) (rc : Q43RC) (R : Type) (x : SSh.den G F43b_1s) (K : AE → St G → Option R) :
  F43b_1 n rc x.1.1 x.2.2.2.1.1 x.2.2.2.1.2.1 x.2.2.2.1.2.2.1 x.2.2.2.1.2.2.2.1 x.2.2.2.2.1 (fun u0 u1 u2 u3 u4 u5 => K .normal (SSh.enc G F43b_1x0 ((u0, (((), ()), ((), ()))), (((), ()), ((), ((u1, (u2, (u3, (u4, ())))), (u5, ()))))))) = exec prog G (ro G (tabOf (Q43L n rc)) (frOf [F43b_0z n rc]) R) 2 (codeAt F43bc [1, 1, 0]) .no (SSh.enc G F43b_1s x) (kNrm G (ro G (tabOf (Q43L n rc)) (frOf [F43b_0z n rc]) R) 2 ⟨⟨[1, 2, 3], []⟩, ⟨[], []⟩, []⟩ K) := by kernel_rfl
theorem F43b_1_ok (n : Nat) (rc : Q43RC) (h : AllE prog G (Q43L n rc)) : FragOK prog G 2 (codeAt F43bc [1, 1, 0]) (F43b_1z n rc) :=
  frag_plain laws fnok h.tab (AllF.of (l := []) (by kernel_rfl) AllF.nil) (F43b_1_eq n rc)
noncomputable def F43b_2x0 : SSh := ⟨42, [], [(.box 22 (.cons (.own 2) .nil)), .dead, (.arr 2 true)]⟩
noncomputable def F43b_2s : SSh := ⟨42, [(1, (.imm 2)), (2, (.clo 44 (.cons (.ptr 0 0) .nil))), (31, (.imm 3)), (32, (.int .i64)), (33, (.int .i64))], [(.box 22 (.cons (.own 2) .nil)), .dead, (.arr 2 true)]⟩
noncomputable def F43b_2_step {R : Type} (n : Nat) (rc : Q43RC) (k0 : List ByteArray → Option R) (rec : List ByteArray → List Ex → Int → Int → List ByteArray → Option R) (x2091 : List ByteArray) (x2092 : List Ex) (x2093 : Int) (x2094 : Int) (x2095 : List ByteArray) : Option R :=
  (bif (decide (x2094 < x2093)) then
  (bif (decide ((0 : Int) ≤ x2094)) then
  (bif (decide (x2094 < ((x2092.length) : Int))) then
  let v2097 := (x2092.getD (x2094.toNat) (Ex.mk (0 : Int) ({ data := #[] } : ByteArray) [] []))
  (andThen (rc.1 v2097.kind v2097.text v2097.names v2097.kids x2091 x2095) fun r2102 =>
  (rec x2091 x2092 x2093 (IntKind.wrap .i64 (x2094 + (1 : Int))) r2102.2.2.2.1))
  else none)
  else none)
  else (k0 x2095))
noncomputable def F43b_2_it {R : Type} (n : Nat) (rc : Q43RC) (k0 : List ByteArray → Option R) : Nat → List ByteArray → List Ex → Int → Int → List ByteArray → Option R
  | 0, _, _, _, _, _ => none
  | k + 1, x2091, x2092, x2093, x2094, x2095 => F43b_2_step n rc k0 (F43b_2_it n rc k0 k) x2091 x2092 x2093 x2094 x2095
noncomputable def F43b_2 {R : Type} (n : Nat) (rc : Q43RC) (x2091 : List ByteArray) (x2092 : List Ex) (x2093 : Int) (x2094 : Int) (x2095 : List ByteArray) (k0 : List ByteArray → Option R) : Option R := F43b_2_it n rc k0 n x2091 x2092 x2093 x2094 x2095
noncomputable def F43b_2z (n : Nat) (rc : Q43RC) : Sm G := inZ G 2 ⟨[1, 2, 31, 32, 33], []⟩ F43b_2s fun R x K => F43b_2_it n rc (fun u0 => K (.exit 0) (SSh.enc G F43b_2x0 ((), (((), ()), ((), (u0, ())))))) n x.1.1 x.1.2.2.1 x.1.2.2.2.1 x.1.2.2.2.2.1 x.2.2.2.1
theorem F43b_2_eq (n : Nat) (rc : Q43RC) (R : Type) (rec : SSh.den G F43b_2s → Option R) (x : SSh.den G F43b_2s) (K : AE → St G → Option R) :
  F43b_2_step n rc (fun u0 => K (.exit 0) (SSh.enc G F43b_2x0 ((), (((), ()), ((), (u0, ())))))) (fun x2091 x2092 x2093 x2094 x2095 => rec ((x2091, (((), ()), (x2092, (x2093, (x2094, ()))))), (((), ()), ((), (x2095, ()))))) x.1.1 x.1.2.2.1 x.1.2.2.2.1 x.1.2.2.2.2.1 x.2.2.2.1 = exec prog G (ro G (tabOf (Q43L n rc)) (frOf [F43b_0z n rc, F43b_1z n rc]) R) 2 (codeAt F43bc [1, 1, 1, 1, 0, 0]) .no (SSh.enc G F43b_2s x) (kLoop G (ro G (tabOf (Q43L n rc)) (frOf [F43b_0z n rc, F43b_1z n rc]) R) 2 ⟨[1, 2, 31, 32, 33], []⟩ F43b_2s ⟨⟨[], []⟩, ⟨[], []⟩, [(0, ⟨[], []⟩)]⟩ rec K) := by kernel_rfl
theorem F43b_2_ok (n : Nat) (rc : Q43RC) (h : AllE prog G (Q43L n rc)) : FragOK prog G 2 (codeAt F43bc [1, 1, 1, 1, 0]) (F43b_2z n rc) :=
  frag_loop (Z := fun R k (x : SSh.den G F43b_2s) K => F43b_2_it n rc (fun u0 => K (.exit 0) (SSh.enc G F43b_2x0 ((), (((), ()), ((), (u0, ())))))) k x.1.1 x.1.2.2.1 x.1.2.2.2.1 x.1.2.2.2.2.1 x.2.2.2.1) laws fnok h.tab (AllF.of (l := []) (by kernel_rfl) AllF.nil) (fun _ _ _ => rfl) (fun R k y K => F43b_2_eq n rc R (fun (x : SSh.den G F43b_2s) => F43b_2_it n rc (fun u0 => K (.exit 0) (SSh.enc G F43b_2x0 ((), (((), ()), ((), (u0, ())))))) k x.1.1 x.1.2.2.1 x.1.2.2.2.1 x.1.2.2.2.2.1 x.2.2.2.1) y K) n
noncomputable def F43b (n : Nat) (rc : Q43RC) (a2053 : Int) (a2054 : ByteArray) (a2055 : List ByteArray) (a2056 : List Ex) (a2057 : List ByteArray) (a2058 : List ByteArray) : Option (Unit × ((Unit × Unit) × (Unit × (List ByteArray × Unit)))) :=
  (F43b_0 n rc a2057 a2058 a2053 a2054 a2055 a2056 (fun z2069 z2070 z2071 z2072 z2073 z2074 =>
  (F43b_1 n rc z2069 z2070 z2071 z2072 z2073 z2074 (fun z2084 z2085 z2086 z2087 z2088 z2089 =>
  (F43b_2 n rc z2084 z2088 ((z2088.length) : Int) (0 : Int) z2089 (fun z2104 =>
  some ((), (((), ()), ((), (z2104, ()))))))))) (fun z2105 z2106 z2107 z2108 z2109 z2110 =>
  (F43b_1 n rc z2105 z2107 z2108 z2109 z2110 z2106 (fun z2111 z2112 z2113 z2114 z2115 z2116 =>
  (F43b_2 n rc z2111 z2115 ((z2115.length) : Int) (0 : Int) z2116 (fun z2118 =>
  some ((), (((), ()), ((), (z2118, ()))))))))))
noncomputable def F43be (n : Nat) (rc : Q43RC) : Ent G := ⟨43, (.cons (.agg (.cons (.int .i64) (.cons .str (.cons (.imm 2) (.cons (.imm 3) .nil))))) (.cons (.imm 2) (.cons (.clo 44 (.cons (.ptr 0 0) .nil)) .nil))), [(.box 22 (.cons (.own 1) .nil)), (.arr 2 true)], (.tup .nil), [(.box 22 (.cons (.own 2) .nil)), .dead, (.arr 2 true)], fun x y => F43b n rc x.1.1 x.1.2.1 x.1.2.2.1 x.1.2.2.2.1 x.2.1 y.2.1⟩
theorem F43b_eq (n : Nat) (rc : Q43RC) (x : ShL.den G (.cons (.agg (.cons (.int .i64) (.cons .str (.cons (.imm 2) (.cons (.imm 3) .nil))))) (.cons (.imm 2) (.cons (.clo 44 (.cons (.ptr 0 0) .nil)) .nil)))) (y : denO G [(.box 22 (.cons (.own 1) .nil)), (.arr 2 true)]) : (F43be n rc).F x y = runFn prog G (ro G (tabOf (Q43L n rc)) (frOf [F43b_0z n rc, F43b_1z n rc, F43b_2z n rc]) _) Go.Proofs.Try.f43 (.nd .no (.nd (.use 0) (.nd (.use 1) (.nd .no (.nd (.use 2) .no))))) [(0, (.obj 0 0 (.mv 2)))] (ShL.enc G (.cons (.agg (.cons (.int .i64) (.cons .str (.cons (.imm 2) (.cons (.imm 3) .nil))))) (.cons (.imm 2) (.cons (.clo 44 (.cons (.ptr 0 0) .nil)) .nil))) x) (encO G [(.box 22 (.cons (.own 1) .nil)), (.arr 2 true)] y) (decR (.tup .nil) [(.box 22 (.cons (.own 2) .nil)), .dead, (.arr 2 true)]) := by kernel_rfl
theorem F43b_ok (n : Nat) (rc : Q43RC) (h : AllE prog G (Q43L n rc)) : EntOK prog G (F43be n rc) :=
  ent_ok (fr := frOf [F43b_0z n rc, F43b_1z n rc, F43b_2z n rc]) (ann := (.nd .no (.nd (.use 0) (.nd (.use 1) (.nd .no (.nd (.use 2) .no)))))) (frm := [(0, (.obj 0 0 (.mv 2)))]) laws fnok h.tab (e := F43be n rc) (fn := Go.Proofs.Try.f43) (by kernel_rfl) (AllF.ofB (cd := F43bc) (l := [(0, codeAt F43bc [1, 0]), (1, codeAt F43bc [1, 1, 0]), (2, codeAt F43bc [1, 1, 1, 1, 0])]) (by kernel_rfl) (by kernel_rfl) (AllF.cons (F43b_0_ok n rc h) (AllF.cons (F43b_1_ok n rc h) (AllF.cons (F43b_2_ok n rc h) AllF.nil)))) (F43b_eq n rc)
noncomputable def Q43it (n : Nat) : Nat → Q43RC
  | 0 => (fun _ _ _ _ _ _ => none, ())
  | k + 1 => (F43b n (Q43it n k), ())
theorem Q43it_ok (n : Nat) : ∀ k, AllE prog G (Q43L n (Q43it n k))
  | 0 => (AllE.cons (EntOK.none fun _ _ => rfl) (E57_ok n))
  | k + 1 => (AllE.cons (F43b_ok n _ (Q43it_ok n k)) (E57_ok n))
noncomputable def F43 (n : Nat) (a0 : Int) (a1 : ByteArray) (a2 : List ByteArray) (a3 : List Ex) (a4 : List ByteArray) (a5 : List ByteArray) : Option (Unit × ((Unit × Unit) × (Unit × (List ByteArray × Unit)))) := (Q43it n n).1 a0 a1 a2 a3 a4 a5
noncomputable def F43e (n : Nat) : Ent G := ⟨43, (.cons (.agg (.cons (.int .i64) (.cons .str (.cons (.imm 2) (.cons (.imm 3) .nil))))) (.cons (.imm 2) (.cons (.clo 44 (.cons (.ptr 0 0) .nil)) .nil))), [(.box 22 (.cons (.own 1) .nil)), (.arr 2 true)], (.tup .nil), [(.box 22 (.cons (.own 2) .nil)), .dead, (.arr 2 true)], fun x y => F43 n x.1.1 x.1.2.1 x.1.2.2.1 x.1.2.2.2.1 x.2.1 y.2.1⟩
noncomputable def E58 (n : Nat) : List (Ent G) := F43e n :: E57 n
theorem E58_ok (n : Nat) : AllE prog G (E58 n) := Q43it_ok n n
-- 20 loop.example/slowworm/impl.ExprNames
noncomputable def F20c : Code := bodyOf Go.Proofs.Try.f20
noncomputable def F20 (n : Nat) (a2120 : Int) (a2121 : ByteArray) (a2122 : List ByteArray) (a2123 : List Ex) : Option (List ByteArray × Unit) :=
  (andThen (F12 n a2120 a2121 a2122 a2123) fun r2124 =>
  (bif (!r2124.1) then
  some ([], ())
  else (andThen (F43 n a2120 a2121 a2122 a2123 [] []) fun r2126 =>
  some (r2126.2.2.2.1, ()))))
noncomputable def F20e (n : Nat) : Ent G := ⟨20, (.cons (.agg (.cons (.int .i64) (.cons .str (.cons (.imm 2) (.cons (.imm 3) .nil))))) .nil), [], (.imm 2), [], fun x y => F20 n x.1.1 x.1.2.1 x.1.2.2.1 x.1.2.2.2.1⟩
theorem F20_eq (n : Nat) (x : ShL.den G (.cons (.agg (.cons (.int .i64) (.cons .str (.cons (.imm 2) (.cons (.imm 3) .nil))))) .nil)) (y : denO G []) : (F20e n).F x y = runFn prog G (ro G (tabOf (E58 n)) (frOf []) _) Go.Proofs.Try.f20 .no [(0, .fz)] (ShL.enc G (.cons (.agg (.cons (.int .i64) (.cons .str (.cons (.imm 2) (.cons (.imm 3) .nil))))) .nil) x) (encO G [] y) (decR (.imm 2) []) := by kernel_rfl
theorem F20_ok (n : Nat) : EntOK prog G (F20e n) :=
  ent_ok (fr := frOf []) (ann := .no) (frm := [(0, .fz)]) laws fnok (E58_ok n).tab (e := F20e n) (fn := Go.Proofs.Try.f20) (by kernel_rfl) (AllF.ofB (cd := F20c) (l := []) (by kernel_rfl) (by kernel_rfl) AllF.nil) (F20_eq n)
noncomputable def E59 (n : Nat) : List (Ent G) := F20e n :: E58 n
theorem E59_ok (n : Nat) : AllE prog G (E59 n) := AllE.cons (F20_ok n) (E58_ok n)
abbrev Q42RC : Type := (Int → ByteArray → List ByteArray → List Ex → List ByteArray → List ByteArray → Option (List ByteArray × Unit)) × Unit
noncomputable def Q42L (n : Nat) (rc : Q42RC) : List (Ent G) := ⟨42, (.cons (.agg (.cons (.int .i64) (.cons .str (.cons (.imm 2) (.cons (.imm 3) .nil))))) (.cons (.imm 2) (.cons (.imm 2) .nil))), [], (.imm 2), [], fun x y => rc.1 x.1.1 x.1.2.1 x.1.2.2.1 x.1.2.2.2.1 x.2.1 x.2.2.1⟩ :: E59 n
-- 42 loop.example/slowworm/spec.readNames
noncomputable def F42bc : Code := bodyOf Go.Proofs.Try.f42
noncomputable def F42b_0x0 : SSh := ⟨57, [(1, (.own 0)), (2, (.imm 2)), (3, (.ptr 1 0))], [(.arr 2 true), (.box 30 (.cons (.int .i64) (.cons .str (.cons (.imm 2) (.cons (.imm 3) .nil)))))]⟩
noncomputable def F42b_0x1 : SSh := ⟨57, [(1, (.imm 2)), (2, (.imm 2)), (3, (.ptr 0 0))], [(.box 30 (.cons (.int .i64) (.cons .str (.cons (.imm 2) (.cons (.imm 3) .nil)))))]⟩
noncomputable def F42b_0s : SSh := ⟨57, [(1, (.imm 2)), (2, (.imm 2)), (3, (.ptr 0 0))], [(.box 30 (.cons (.int .i64) (.cons .str (.cons (.imm 2) (.cons (.imm 3) .nil)))))]⟩
noncomputable def F42b_0 {R : Type} (n : Nat) (rc : Q42RC) (x2325 : List ByteArray) (x2326 : List ByteArray) (x2327 : Int) (x2328 : ByteArray) (x2329 : List ByteArray) (x2330 : List Ex) (k0 : List ByteArray → List ByteArray → Int → ByteArray → List ByteArray → List Ex → Option R) (k1 : List ByteArray → List ByteArray → Int → ByteArray → List ByteArray → List Ex → Option R) : Option R :=
  (bif (x2327 == (16 : Int)) then
  let v2332 := []
  (bif (decide (((v2332.length) + (x2325.length)) ≤ (68719476736 : Nat))) then
  let v2333 := (v2332 ++ x2325)
  (bif (decide (((v2333.length) + (x2329.length)) ≤ (68719476736 : Nat))) then
  (k0 x2326 (v2333 ++ x2329) x2327 x2328 x2329 x2330)
  else none)
  else none)
  else (k1 x2325 x2326 x2327 x2328 x2329 x2330))
noncomputable def F42b_0z (n : Nat) (rc : Q42RC) : Sm G := inZ G 0 ⟨[1, 2, 3], []⟩ F42b_0s fun R x K => F42b_0 n rc x.1.1 x.1.2.1 x.2.1.1 x.2.1.2.1 x.2.1.2.2.1 x.2.1.2.2.2.1 (fun u0 u1 u2 u3 u4 u5 => K .normal (SSh.enc G F42b_0x0 (((), (u0, ((), ()))), (u1, ((u2, (u3, (u4, (u5, ())))), ()))))) (fun u0 u1 u2 u3 u4 u5 => K .normal (SSh.enc G F42b_0x1 ((u0, (u1, ((), ()))), ((u2, (u3, (u4, (u5, ())))), ()))))
theorem F42b_0_eq (n : Nat) (rc : Q42RC) (R : Type) (x : SSh.den G F42b_0s) (K : AE → St G → Option R) :
  F42b_0 n rc x.1.1 x.1.2.1 x.2.1.1 x.2.1.2.1 x.2.1.2.2.1 x.2.1.2.2.2.1 (fun u0 u1 u2 u3 u4 u5 => K .normal (SSh.enc G F42b_0x0 (((), (u0, ((), ()))), (u1, ((u2, (u3, (u4, (u5, ())))), ()))))) (fun u0 u1 u2 u3 u4 u5 => K .normal (SSh.enc G F42b_0x1 ((u0, (u1, ((), ()))), ((u2, (u3, (u4, (u5, ())))), ())))) = exec prog G (ro G (tabOf (Q42L n rc)) (frOf []) R) 0 (codeAt F42bc [1, 1, 0]) .no (SSh.enc G F42b_0s x) (kNrm G (ro G (tabOf (Q42L n rc)) (frOf []) R) 0 ⟨⟨[1, 2, 3], []⟩, ⟨[6], []⟩, []⟩ K) := by kernel_rfl
theorem F42b_0_ok (n : Nat) (rc : Q42RC) (h : AllE prog G (Q42L n rc)) : FragOK prog G 0 (codeAt F42bc [1, 1, 0]) (F42b_0z n rc) :=
  frag_plain laws fnok h.tab (AllF.of (l := []) (by kernel_rfl) AllF.nil) (F42b_0_eq n rc)
noncomputable def F42b_1x0 : SSh := ⟨57, [(2, (.imm 2))], []⟩
noncomputable def F42b_1s : SSh := ⟨57, [(1, (.imm 2)), (2, (.imm 2)), (3, (.ptr 0 0)), (7, (.int .i64))], [(.box 30 (.cons (.int .i64) (.cons .str (.cons (.imm 2) (.cons (.imm 3) .nil)))))]⟩
noncomputable def F42b_1_step {R : Type} (n : Nat) (rc : Q42RC) (k0 : List ByteArray → Option R) (rec : List ByteArray → List ByteArray → Int → Int → ByteArray → List ByteArray → List Ex → Option R) (x2341 : List ByteArray) (x2342 : List ByteArray) (x2343 : Int) (x2344 : Int) (x2345 : ByteArray) (x2346 : List ByteArray) (x2347 : List Ex) : Option R :=
  (bif (decide (x2343 < ((x2347.length) : Int))) then
  (bif (decide ((0 : Int) ≤ x2343)) then
  (bif (decide (x2343 < ((x2347.length) : Int))) then
  let v2350 := (x2347.getD (x2343.toNat) (Ex.mk (0 : Int) ({ data := #[] } : ByteArray) [] []))
  (andThen (rc.1 v2350.kind v2350.text v2350.names v2350.kids x2341 x2342) fun r2355 =>
  (rec x2341 r2355.1 (IntKind.wrap .i64 (x2343 + (1 : Int))) x2344 x2345 x2346 x2347))
  else none)
  else none)
  else (k0 x2342))
noncomputable def F42b_1_it {R : Type} (n : Nat) (rc : Q42RC) (k0 : List ByteArray → Option R) : Nat → List ByteArray → List ByteArray → Int → Int → ByteArray → List ByteArray → List Ex → Option R
  | 0, _, _, _, _, _, _, _ => none
  | k + 1, x2341, x2342, x2343, x2344, x2345, x2346, x2347 => F42b_1_step n rc k0 (F42b_1_it n rc k0 k) x2341 x2342 x2343 x2344 x2345 x2346 x2347
noncomputable def F42b_1 {R : Type} (n : Nat) (rc : Q42RC) (x2341 : List ByteArray) (x2342 : List ByteArray) (x2343 : Int) (x2344 : Int) (x2345 : ByteArray) (x2346 : List ByteArray) (x2347 : List Ex) (k0 : List ByteArray → Option R) : Option R := F42b_1_it n rc k0 n x2341 x2342 x2343 x2344 x2345 x2346 x2347
noncomputable def F42b_1z (n : Nat) (rc : Q42RC) : Sm G := inZ G 0 ⟨[1, 2, 3, 7], [(1, .fz)]⟩ F42b_1s fun R x K => F42b_1_it n rc (fun u0 => K (.exit 0) (SSh.enc G F42b_1x0 ((u0, ()), ()))) n x.1.1 x.1.2.1 x.1.2.2.2.1 x.2.1.1 x.2.1.2.1 x.2.1.2.2.1 x.2.1.2.2.2.1
theorem F42b_1_eq (n : Nat) (rc : Q42RC) (R : Type) (rec : SSh.den G F42b_1s → Option R) (x : SSh.den G F42b_1s) (K : AE → St G → Option R) :
  F42b_1_step n rc (fun u0 => K (.exit 0) (SSh.enc G F42b_1x0 ((u0, ()), ()))) (fun x2341 x2342 x2343 x2344 x2345 x2346 x2347 => rec ((x2341, (x2342, ((), (x2343, ())))), ((x2344, (x2345, (x2346, (x2347, ())))), ()))) x.1.1 x.1.2.1 x.1.2.2.2.1 x.2.1.1 x.2.1.2.1 x.2.1.2.2.1 x.2.1.2.2.2.1 = exec prog G (ro G (tabOf (Q42L n rc)) (frOf [F42b_0z n rc]) R) 0 (codeAt F42bc [1, 1, 1, 0, 1, 0, 0]) .no (SSh.enc G F42b_1s x) (kLoop G (ro G (tabOf (Q42L n rc)) (frOf [F42b_0z n rc]) R) 0 ⟨[1, 2, 3, 7], [(1, .fz)]⟩ F42b_1s ⟨⟨[2], []⟩, ⟨[6], []⟩, [(0, ⟨[2], []⟩)]⟩ rec K) := by kernel_rfl
theorem F42b_1_ok (n : Nat) (rc : Q42RC) (h : AllE prog G (Q42L n rc)) : FragOK prog G 0 (codeAt F42bc [1, 1, 1, 0, 1, 0]) (F42b_1z n rc) :=
  frag_loop (Z := fun R k (x : SSh.den G F42b_1s) K => F42b_1_it n rc (fun u0 => K (.exit 0) (SSh.enc G F42b_1x0 ((u0, ()), ()))) k x.1.1 x.1.2.1 x.1.2.2.2.1 x.2.1.1 x.2.1.2.1 x.2.1.2.2.1 x.2.1.2.2.2.1) laws fnok h.tab (AllF.of (l := []) (by kernel_rfl) AllF.nil) (fun _ _ _ => rfl) (fun R k y K => F42b_1_eq n rc R (fun (x : SSh.den G F42b_1s) => F42b_1_it n rc (fun u0 => K (.exit 0) (SSh.enc G F42b_1x0 ((u0, ()), ()))) k x.1.1 x.1.2.1 x.1.2.2.2.1 x.2.1.1 x.2.1.2.1 x.2.1.2.2.1 x.2.1.2.2.2.1) y K) n
noncomputable def F42b (n : Nat) (rc : Q42RC) (a2310 : Int) (a2311 : ByteArray) (a2312 : List ByteArray) (a2313 : List Ex) (a2314 : List ByteArray) (a2315 : List ByteArray) : Option (List ByteArray × Unit) :=
  (bif (a2310 == (6 : Int)) then
  (andThen (F52 n a2314 a2311) fun r2317 =>
  (bif (!r2317.1) then
  (andThen (F52 n a2315 a2311) fun r2319 =>
  (bif (!r2319.1) then
  let v2321 := []
  (bif (decide (((v2321.length) + (a2315.length)) ≤ (68719476736 : Nat))) then
  let v2322 := (v2321 ++ a2315)
  let v2323 := (a2311 :: [])
  (bif (decide (((v2322.length) + (v2323.length)) ≤ (68719476736 : Nat))) then
  some ((v2322 ++ v2323), ())
  else none)
  else none)
  else (F42b_0 n rc a2314 a2315 a2310 a2311 a2312 a2313 (fun z2335 z2336 z2337 z2338 z2339 z2340 =>
  (F42b_1 n rc z2336 z2335 (0 : Int) z2337 z2338 z2339 z2340 (fun z2357 =>
  some (z2357, ())))) (fun z2358 z2359 z2360 z2361 z2362 z2363 =>
  (F42b_1 n rc z2358 z2359 (0 : Int) z2360 z2361 z2362 z2363 (fun z2364 =>
  some (z2364, ())))))))
  else (F42b_0 n rc a2314 a2315 a2310 a2311 a2312 a2313 (fun z2365 z2366 z2367 z2368 z2369 z2370 =>
  (F42b_1 n rc z2366 z2365 (0 : Int) z2367 z2368 z2369 z2370 (fun z2371 =>
  some (z2371, ())))) (fun z2372 z2373 z2374 z2375 z2376 z2377 =>
  (F42b_1 n rc z2372 z2373 (0 : Int) z2374 z2375 z2376 z2377 (fun z2378 =>
  some (z2378, ())))))))
  else (F42b_0 n rc a2314 a2315 a2310 a2311 a2312 a2313 (fun z2379 z2380 z2381 z2382 z2383 z2384 =>
  (F42b_1 n rc z2380 z2379 (0 : Int) z2381 z2382 z2383 z2384 (fun z2385 =>
  some (z2385, ())))) (fun z2386 z2387 z2388 z2389 z2390 z2391 =>
  (F42b_1 n rc z2386 z2387 (0 : Int) z2388 z2389 z2390 z2391 (fun z2392 =>
  some (z2392, ()))))))
noncomputable def F42be (n : Nat) (rc : Q42RC) : Ent G := ⟨42, (.cons (.agg (.cons (.int .i64) (.cons .str (.cons (.imm 2) (.cons (.imm 3) .nil))))) (.cons (.imm 2) (.cons (.imm 2) .nil))), [], (.imm 2), [], fun x y => F42b n rc x.1.1 x.1.2.1 x.1.2.2.1 x.1.2.2.2.1 x.2.1 x.2.2.1⟩
theorem F42b_eq (n : Nat) (rc : Q42RC) (x : ShL.den G (.cons (.agg (.cons (.int .i64) (.cons .str (.cons (.imm 2) (.cons (.imm 3) .nil))))) (.cons (.imm 2) (.cons (.imm 2) .nil)))) (y : denO G []) : (F42be n rc).F x y = runFn prog G (ro G (tabOf (Q42L n rc)) (frOf [F42b_0z n rc, F42b_1z n rc]) _) Go.Proofs.Try.f42 (.nd .no (.nd .no (.nd (.use 0) (.nd (.nd .no (.nd (.use 1) .no)) .no)))) [(0, .fz)] (ShL.enc G (.cons (.agg (.cons (.int .i64) (.cons .str (.cons (.imm 2) (.cons (.imm 3) .nil))))) (.cons (.imm 2) (.cons (.imm 2) .nil))) x) (encO G [] y) (decR (.imm 2) []) := by kernel_rfl
theorem F42b_ok (n : Nat) (rc : Q42RC) (h : AllE prog G (Q42L n rc)) : EntOK prog G (F42be n rc) :=
  ent_ok (fr := frOf [F42b_0z n rc, F42b_1z n rc]) (ann := (.nd .no (.nd .no (.nd (.use 0) (.nd (.nd .no (.nd (.use 1) .no)) .no))))) (frm := [(0, .fz)]) laws fnok h.tab (e := F42be n rc) (fn := Go.Proofs.Try.f42) (by kernel_rfl) (AllF.ofB (cd := F42bc) (l := [(0, codeAt F42bc [1, 1, 0]), (1, codeAt F42bc [1, 1, 1, 0, 1, 0])]) (by kernel_rfl) (by kernel_rfl) (AllF.cons (F42b_0_ok n rc h) (AllF.cons (F42b_1_ok n rc h) AllF.nil))) (F42b_eq n rc)
noncomputable def Q42it (n : Nat) : Nat → Q42RC
  | 0 => (fun _ _ _ _ _ _ => none, ())
  | k + 1 => (F42b n (Q42it n k), ())
theorem Q42it_ok (n : Nat) : ∀ k, AllE prog G (Q42L n (Q42it n k))
  | 0 => (AllE.cons (EntOK.none fun _ _ => rfl) (E59_ok n))
  | k + 1 => (AllE.cons (F42b_ok n _ (Q42it_ok n k)) (E59_ok n))
noncomputable def F42 (n : Nat) (a0 : Int) (a1 : ByteArray) (a2 : List ByteArray) (a3 : List Ex) (a4 : List ByteArray) (a5 : List ByteArray) : Option (List ByteArray × Unit) := (Q42it n n).1 a0 a1 a2 a3 a4 a5
noncomputable def F42e (n : Nat) : Ent G := ⟨42, (.cons (.agg (.cons (.int .i64) (.cons .str (.cons (.imm 2) (.cons (.imm 3) .nil))))) (.cons (.imm 2) (.cons (.imm 2) .nil))), [], (.imm 2), [], fun x y => F42 n x.1.1 x.1.2.1 x.1.2.2.1 x.1.2.2.2.1 x.2.1 x.2.2.1⟩
noncomputable def E60 (n : Nat) : List (Ent G) := F42e n :: E59 n
theorem E60_ok (n : Nat) : AllE prog G (E60 n) := Q42it_ok n n
-- 19 loop.example/slowworm/spec.ExprNames
noncomputable def F19c : Code := bodyOf Go.Proofs.Try.f19
noncomputable def F19 (n : Nat) (a2394 : Int) (a2395 : ByteArray) (a2396 : List ByteArray) (a2397 : List Ex) : Option (List ByteArray × Unit) :=
  (andThen (F31 n a2394 a2395 a2396 a2397 (7 : Int)) fun r2398 =>
  (bif (!r2398.1) then
  some ([], ())
  else (andThen (F42 n a2394 a2395 a2396 a2397 [] []) fun r2401 =>
  some (r2401.1, ()))))
noncomputable def F19e (n : Nat) : Ent G := ⟨19, (.cons (.agg (.cons (.int .i64) (.cons .str (.cons (.imm 2) (.cons (.imm 3) .nil))))) .nil), [], (.imm 2), [], fun x y => F19 n x.1.1 x.1.2.1 x.1.2.2.1 x.1.2.2.2.1⟩
theorem F19_eq (n : Nat) (x : ShL.den G (.cons (.agg (.cons (.int .i64) (.cons .str (.cons (.imm 2) (.cons (.imm 3) .nil))))) .nil)) (y : denO G []) : (F19e n).F x y = runFn prog G (ro G (tabOf (E60 n)) (frOf []) _) Go.Proofs.Try.f19 .no [(0, .fz)] (ShL.enc G (.cons (.agg (.cons (.int .i64) (.cons .str (.cons (.imm 2) (.cons (.imm 3) .nil))))) .nil) x) (encO G [] y) (decR (.imm 2) []) := by kernel_rfl
theorem F19_ok (n : Nat) : EntOK prog G (F19e n) :=
  ent_ok (fr := frOf []) (ann := .no) (frm := [(0, .fz)]) laws fnok (E60_ok n).tab (e := F19e n) (fn := Go.Proofs.Try.f19) (by kernel_rfl) (AllF.ofB (cd := F19c) (l := []) (by kernel_rfl) (by kernel_rfl) AllF.nil) (F19_eq n)
noncomputable def E61 (n : Nat) : List (Ent G) := F19e n :: E60 n
theorem E61_ok (n : Nat) : AllE prog G (E61 n) := AllE.cons (F19_ok n) (E60_ok n)
-- 26 loop.example/slowworm/spec.SameTexts
noncomputable def F26c : Code := bodyOf Go.Proofs.Try.f26
-- 48 loop.example/slowworm/spec.sameTexts
noncomputable def F48c : Code := bodyOf Go.Proofs.Try.f48
noncomputable def F48_0x0 : SSh := ⟨26, [(4, .bool)], []⟩
noncomputable def F48_0x1 : SSh := ⟨26, [], []⟩
noncomputable def F48_0s : SSh := ⟨26, [(0, (.imm 2)), (1, (.imm 2)), (5, (.int .i64))], []⟩
noncomputable def F48_0_step {R : Type} (n : Nat) (k0 : Bool → Option R) (k1 : Option R) (rec : List ByteArray → List ByteArray → Int → Option R) (x2410 : List ByteArray) (x2411 : List ByteArray) (x2412 : Int) : Option R :=
  (bif (decide (x2412 < ((x2410.length) : Int))) then
  (bif (decide ((0 : Int) ≤ x2412)) then
  (bif (decide (x2412 < ((x2410.length) : Int))) then
  (bif (decide ((0 : Int) ≤ x2412)) then
  (bif (decide (x2412 < ((x2411.length) : Int))) then
  (bif (!(((x2410.getD (x2412.toNat) ({ data := #[] } : ByteArray)).toList) == ((x2411.getD (x2412.toNat) ({ data := #[] } : ByteArray)).toList))) then
  (k0 false)
  else (rec x2410 x2411 (IntKind.wrap .i64 (x2412 + (1 : Int)))))
  else none)
  else none)
  else none)
  else none)
  else k1)
noncomputable def F48_0_it {R : Type} (n : Nat) (k0 : Bool → Option R) (k1 : Option R) : Nat → List ByteArray → List ByteArray → Int → Option R
  | 0, _, _, _ => none
  | k + 1, x2410, x2411, x2412 => F48_0_step n k0 k1 (F48_0_it n k0 k1 k) x2410 x2411 x2412
noncomputable def F48_0 {R : Type} (n : Nat) (x2410 : List ByteArray) (x2411 : List ByteArray) (x2412 : Int) (k0 : Bool → Option R) (k1 : Option R) : Option R := F48_0_it n k0 k1 n x2410 x2411 x2412
noncomputable def F48_0z (n : Nat) : Sm G := inZ G 0 ⟨[0, 1, 5], []⟩ F48_0s fun R x K => F48_0_it n (fun u0 => K .ret (SSh.enc G F48_0x0 ((u0, ()), ()))) (K (.exit 0) (SSh.enc G F48_0x1 ((), ()))) n x.1.1 x.1.2.1 x.1.2.2.1
theorem F48_0_eq (n : Nat) (R : Type) (rec : SSh.den G F48_0s → Option R) (x : SSh.den G F48_0s) (K : AE → St G → Option R) :
  F48_0_step n (fun u0 => K .ret (SSh.enc G F48_0x0 ((u0, ()), ()))) (K (.exit 0) (SSh.enc G F48_0x1 ((), ()))) (fun x2410 x2411 x2412 => rec ((x2410, (x2411, (x2412, ()))), ())) x.1.1 x.1.2.1 x.1.2.2.1 = exec prog G (ro G (tabOf (E61 n)) (frOf []) R) 0 (codeAt F48c [1, 1, 0, 1, 0, 0]) .no (SSh.enc G F48_0s x) (kLoop G (ro G (tabOf (E61 n)) (frOf []) R) 0 ⟨[0, 1, 5], []⟩ F48_0s ⟨⟨[], []⟩, ⟨[4], []⟩, [(0, ⟨[], []⟩)]⟩ rec K) := by kernel_rfl
theorem F48_0_ok (n : Nat) : FragOK prog G 0 (codeAt F48c [1, 1, 0, 1, 0]) (F48_0z n) :=
  frag_loop (Z := fun R k (x : SSh.den G F48_0s) K => F48_0_it n (fun u0 => K .ret (SSh.enc G F48_0x0 ((u0, ()), ()))) (K (.exit 0) (SSh.enc G F48_0x1 ((), ()))) k x.1.1 x.1.2.1 x.1.2.2.1) laws fnok (E61_ok n).tab (AllF.of (l := []) (by kernel_rfl) AllF.nil) (fun _ _ _ => rfl) (fun R k y K => F48_0_eq n R (fun (x : SSh.den G F48_0s) => F48_0_it n (fun u0 => K .ret (SSh.enc G F48_0x0 ((u0, ()), ()))) (K (.exit 0) (SSh.enc G F48_0x1 ((), ()))) k x.1.1 x.1.2.1 x.1.2.2.1) y K) n
noncomputable def F48 (n : Nat) (a2405 : List ByteArray) (a2406 : List ByteArray) : Option (Bool × Unit) :=
  (bif (((a2405.length) : Int) != ((a2406.length) : Int)) then
  some (false, ())
  else (F48_0 n a2405 a2406 (0 : Int) (fun z2421 =>
  some (z2421, ())) (
  some (true, ()))))
noncomputable def F48e (n : Nat) : Ent G := ⟨48, (.cons (.imm 2) (.cons (.imm 2) .nil)), [], .bool, [], fun x y => F48 n x.1 x.2.1⟩
theorem F48_eq (n : Nat) (x : ShL.den G (.cons (.imm 2) (.cons (.imm 2) .nil))) (y : denO G []) : (F48e n).F x y = runFn prog G (ro G (tabOf (E61 n)) (frOf [F48_0z n]) _) Go.Proofs.Try.f48 (.nd .no (.nd .no (.nd (.nd .no (.nd (.use 0) .no)) .no))) [(0, .fz)] (ShL.enc G (.cons (.imm 2) (.cons (.imm 2) .nil)) x) (encO G [] y) (decR .bool []) := by kernel_rfl
theorem F48_ok (n : Nat) : EntOK prog G (F48e n) :=
  ent_ok (fr := frOf [F48_0z n]) (ann := (.nd .no (.nd .no (.nd (.nd .no (.nd (.use 0) .no)) .no)))) (frm := [(0, .fz)]) laws fnok (E61_ok n).tab (e := F48e n) (fn := Go.Proofs.Try.f48) (by kernel_rfl) (AllF.ofB (cd := F48c) (l := [(0, codeAt F48c [1, 1, 0, 1, 0])]) (by kernel_rfl) (by kernel_rfl) (AllF.cons (F48_0_ok n) AllF.nil)) (F48_eq n)
noncomputable def E62 (n : Nat) : List (Ent G) := F48e n :: E61 n
theorem E62_ok (n : Nat) : AllE prog G (E62 n) := AllE.cons (F48_ok n) (E61_ok n)
noncomputable def F26 (n : Nat) (a2403 : List ByteArray) (a2404 : List ByteArray) : Option (Bool × Unit) :=
  (andThen (F48 n a2403 a2404) fun r2422 =>
  some (r2422.1, ()))
noncomputable def F26e (n : Nat) : Ent G := ⟨26, (.cons (.imm 2) (.cons (.imm 2) .nil)), [], .bool, [], fun x y => F26 n x.1 x.2.1⟩
theorem F26_eq (n : Nat) (x : ShL.den G (.cons (.imm 2) (.cons (.imm 2) .nil))) (y : denO G []) : (F26e n).F x y = runFn prog G (ro G (tabOf (E62 n)) (frOf []) _) Go.Proofs.Try.f26 .no [(0, .fz)] (ShL.enc G (.cons (.imm 2) (.cons (.imm 2) .nil)) x) (encO G [] y) (decR .bool []) := by kernel_rfl
theorem F26_ok (n : Nat) : EntOK prog G (F26e n) :=
  ent_ok (fr := frOf []) (ann := .no) (frm := [(0, .fz)]) laws fnok (E62_ok n).tab (e := F26e n) (fn := Go.Proofs.Try.f26) (by kernel_rfl) (AllF.ofB (cd := F26c) (l := []) (by kernel_rfl) (by kernel_rfl) AllF.nil) (F26_eq n)
noncomputable def E63 (n : Nat) : List (Ent G) := F26e n :: E62 n
theorem E63_ok (n : Nat) : AllE prog G (E63 n) := AllE.cons (F26_ok n) (E62_ok n)
-- 28 loop.example/slowworm/spec.IsOne
noncomputable def F28c : Code := bodyOf Go.Proofs.Try.f28
noncomputable def F28 (n : Nat) (a2442 : List ByteArray) (a2443 : ByteArray) : Option (Bool × Unit) :=
  (andThen (F52 n a2442 a2443) fun r2444 =>
  some (r2444.1, ()))
noncomputable def F28e (n : Nat) : Ent G := ⟨28, (.cons (.imm 2) (.cons .str .nil)), [], .bool, [], fun x y => F28 n x.1 x.2.1⟩
theorem F28_eq (n : Nat) (x : ShL.den G (.cons (.imm 2) (.cons .str .nil))) (y : denO G []) : (F28e n).F x y = runFn prog G (ro G (tabOf (E63 n)) (frOf []) _) Go.Proofs.Try.f28 .no [(0, .fz)] (ShL.enc G (.cons (.imm 2) (.cons .str .nil)) x) (encO G [] y) (decR .bool []) := by kernel_rfl
theorem F28_ok (n : Nat) : EntOK prog G (F28e n) :=
  ent_ok (fr := frOf []) (ann := .no) (frm := [(0, .fz)]) laws fnok (E63_ok n).tab (e := F28e n) (fn := Go.Proofs.Try.f28) (by kernel_rfl) (AllF.ofB (cd := F28c) (l := []) (by kernel_rfl) (by kernel_rfl) AllF.nil) (F28_eq n)
noncomputable def E64 (n : Nat) : List (Ent G) := F28e n :: E63 n
theorem E64_ok (n : Nat) : AllE prog G (E64 n) := AllE.cons (F28_ok n) (E63_ok n)
noncomputable def F8_0x0 : SSh := ⟨63, [(2, .bool)], []⟩
noncomputable def F8_0x1 : SSh := ⟨63, [(3, (.ptr 0 0)), (4, (.imm 2))], [(.box 30 (.cons (.int .i64) (.cons .str (.cons (.imm 2) (.cons (.imm 3) .nil)))))]⟩
noncomputable def F8_0s : SSh := ⟨63, [(3, (.ptr 0 0)), (4, (.imm 2)), (7, (.int .i64))], [(.box 30 (.cons (.int .i64) (.cons .str (.cons (.imm 2) (.cons (.imm 3) .nil)))))]⟩
noncomputable def F8_0_step {R : Type} (n : Nat) (k0 : Bool → Option R) (k1 : List ByteArray → Int → ByteArray → List ByteArray → List Ex → Option R) (rec : List ByteArray → Int → Int → ByteArray → List ByteArray → List Ex → Option R) (x2427 : List ByteArray) (x2428 : Int) (x2429 : Int) (x2430 : ByteArray) (x2431 : List ByteArray) (x2432 : List Ex) : Option R :=
  (bif (decide (x2428 < ((x2427.length) : Int))) then
  (bif (decide ((0 : Int) ≤ x2428)) then
  (bif (decide (x2428 < ((x2427.length) : Int))) then
  (andThen (F27 n (x2427.getD (x2428.toNat) ({ data := #[] } : ByteArray))) fun r2437 =>
  (bif (!r2437.1) then
  (k0 false)
  else (bif (decide ((0 : Int) ≤ x2428)) then
  (bif (decide (x2428 ≤ ((x2427.length) : Int))) then
  (bif (decide ((0 : Int) ≤ x2428)) then
  (bif (decide (x2428 < ((x2427.length) : Int))) then
  (andThen (F28 n ((x2427.take (x2428.toNat)).drop (0 : Nat)) (x2427.getD (x2428.toNat) ({ data := #[] } : ByteArray))) fun r2445 =>
  (bif r2445.1 then
  (k0 false)
  else (rec x2427 (IntKind.wrap .i64 (x2428 + (1 : Int))) x2429 x2430 x2431 x2432)))
  else none)
  else none)
  else none)
  else none)))
  else none)
  else none)
  else (k1 x2427 x2429 x2430 x2431 x2432))
noncomputable def F8_0_it {R : Type} (n : Nat) (k0 : Bool → Option R) (k1 : List ByteArray → Int → ByteArray → List ByteArray → List Ex → Option R) : Nat → List ByteArray → Int → Int → ByteArray → List ByteArray → List Ex → Option R
  | 0, _, _, _, _, _, _ => none
  | k + 1, x2427, x2428, x2429, x2430, x2431, x2432 => F8_0_step n k0 k1 (F8_0_it n k0 k1 k) x2427 x2428 x2429 x2430 x2431 x2432
noncomputable def F8_0 {R : Type} (n : Nat) (x2427 : List ByteArray) (x2428 : Int) (x2429 : Int) (x2430 : ByteArray) (x2431 : List ByteArray) (x2432 : List Ex) (k0 : Bool → Option R) (k1 : List ByteArray → Int → ByteArray → List ByteArray → List Ex → Option R) : Option R := F8_0_it n k0 k1 n x2427 x2428 x2429 x2430 x2431 x2432
noncomputable def F8_0z (n : Nat) : Sm G := inZ G 0 ⟨[3, 4, 7], []⟩ F8_0s fun R x K => F8_0_it n (fun u0 => K .ret (SSh.enc G F8_0x0 ((u0, ()), ()))) (fun u0 u1 u2 u3 u4 => K (.exit 0) (SSh.enc G F8_0x1 (((), (u0, ())), ((u1, (u2, (u3, (u4, ())))), ())))) n x.1.2.1 x.1.2.2.1 x.2.1.1 x.2.1.2.1 x.2.1.2.2.1 x.2.1.2.2.2.1
theorem F8_0_eq (n : Nat) (R : Type) (rec : SSh.den G F8_0s → Option R) (x : SSh.den G F8_0s) (K : AE → St G → Option R) :
  F8_0_step n (fun u0 => K .ret (SSh.enc G F8_0x0 ((u0, ()), ()))) (fun u0 u1 u2 u3 u4 => K (.exit 0) (SSh.enc G F8_0x1 (((), (u0, ())), ((u1, (u2, (u3, (u4, ())))), ())))) (fun x2427 x2428 x2429 x2430 x2431 x2432 => rec (((), (x2427, (x2428, ()))), ((x2429, (x2430, (x2431, (x2432, ())))), ()))) x.1.2.1 x.1.2.2.1 x.2.1.1 x.2.1.2.1 x.2.1.2.2.1 x.2.1.2.2.2.1 = exec prog G (ro G (tabOf (E64 n)) (frOf []) R) 0 (codeAt F8c [1, 1, 1, 1, 1, 1, 1, 0, 1, 0, 0]) .no (SSh.enc G F8_0s x) (kLoop G (ro G (tabOf (E64 n)) (frOf []) R) 0 ⟨[3, 4, 7], []⟩ F8_0s ⟨⟨[3, 4], []⟩, ⟨[2], []⟩, [(0, ⟨[3, 4], []⟩)]⟩ rec K) := by kernel_rfl
theorem F8_0_ok (n : Nat) : FragOK prog G 0 (codeAt F8c [1, 1, 1, 1, 1, 1, 1, 0, 1, 0]) (F8_0z n) :=
  frag_loop (Z := fun R k (x : SSh.den G F8_0s) K => F8_0_it n (fun u0 => K .ret (SSh.enc G F8_0x0 ((u0, ()), ()))) (fun u0 u1 u2 u3 u4 => K (.exit 0) (SSh.enc G F8_0x1 (((), (u0, ())), ((u1, (u2, (u3, (u4, ())))), ())))) k x.1.2.1 x.1.2.2.1 x.2.1.1 x.2.1.2.1 x.2.1.2.2.1 x.2.1.2.2.2.1) laws fnok (E64_ok n).tab (AllF.of (l := []) (by kernel_rfl) AllF.nil) (fun _ _ _ => rfl) (fun R k y K => F8_0_eq n R (fun (x : SSh.den G F8_0s) => F8_0_it n (fun u0 => K .ret (SSh.enc G F8_0x0 ((u0, ()), ()))) (fun u0 u1 u2 u3 u4 => K (.exit 0) (SSh.enc G F8_0x1 (((), (u0, ())), ((u1, (u2, (u3, (u4, ())))), ())))) k x.1.2.1 x.1.2.2.1 x.2.1.1 x.2.1.2.1 x.2.1.2.2.1 x.2.1.2.2.2.1) y K) n
noncomputable def F8 (n : Nat) (a1812 : List Int) : Option (Bool × Unit) :=
  (bif (decide (((a1812.length) : Int) > (1048576 : Int))) then
  some (true, ())
  else (andThen (F25 n a1812) fun r1818 =>
  (andThen (F20 n r1818.1.1 r1818.1.2.1 r1818.1.2.2.1 r1818.1.2.2.2.1) fun r2127 =>
  (andThen (F19 n r1818.1.1 r1818.1.2.1 r1818.1.2.2.1 r1818.1.2.2.2.1) fun r2402 =>
  (andThen (F26 n r2127.1 r2402.1) fun r2423 =>
  (bif (!r2423.1) then
  some (r2423.1, ())
  else (bif (((r2127.1.length) : Int) == (0 : Int)) then
  some (r2423.1, ())
  else (F8_0 n r2127.1 (0 : Int) r1818.1.1 r1818.1.2.1 r1818.1.2.2.1 r1818.1.2.2.2.1 (fun z2447 =>
  some (z2447, ())) (fun z2448 z2449 z2450 z2451 z2452 =>
  let v2453 := ((Ex.mk z2449 z2450 z2451 z2452) :: [])
  (andThen (F12 n (9 : Int) ({ data := #[110, 111, 116] } : ByteArray) [] v2453) fun r2454 =>
  (bif (!r2454.1) then
  some (true, ())
  else (andThen (F20 n (9 : Int) ({ data := #[110, 111, 116] } : ByteArray) [] v2453) fun r2456 =>
  (andThen (F26 n r2456.1 z2448) fun r2457 =>
  some (r2457.1, ()))))))))))))))
noncomputable def F8e (n : Nat) : Ent G := ⟨8, (.cons (.imm 1) .nil), [], .bool, [], fun x y => F8 n x.1⟩
theorem F8_eq (n : Nat) (x : ShL.den G (.cons (.imm 1) .nil)) (y : denO G []) : (F8e n).F x y = runFn prog G (ro G (tabOf (E64 n)) (frOf [F8_0z n]) _) Go.Proofs.Try.f8 (.nd .no (.nd .no (.nd .no (.nd .no (.nd .no (.nd .no (.nd .no (.nd (.nd .no (.nd (.use 0) .no)) .no)))))))) [(0, .fz)] (ShL.enc G (.cons (.imm 1) .nil) x) (encO G [] y) (decR .bool []) := by kernel_rfl
theorem F8_ok (n : Nat) : EntOK prog G (F8e n) :=
  ent_ok (fr := frOf [F8_0z n]) (ann := (.nd .no (.nd .no (.nd .no (.nd .no (.nd .no (.nd .no (.nd .no (.nd (.nd .no (.nd (.use 0) .no)) .no))))))))) (frm := [(0, .fz)]) laws fnok (E64_ok n).tab (e := F8e n) (fn := Go.Proofs.Try.f8) (by kernel_rfl) (AllF.ofB (cd := F8c) (l := [(0, codeAt F8c [1, 1, 1, 1, 1, 1, 1, 0, 1, 0])]) (by kernel_rfl) (by kernel_rfl) (AllF.cons (F8_0_ok n) AllF.nil)) (F8_eq n)
noncomputable def E65 (n : Nat) : List (Ent G) := F8e n :: E64 n
theorem E65_ok (n : Nat) : AllE prog G (E65 n) := AllE.cons (F8_ok n) (E64_ok n)
-- 3 loop.example/slowworm/laws.FnExactExprOk
noncomputable def F3c : Code := bodyOf Go.Proofs.Try.f3
-- 29 loop.example/slowworm/laws.szStringS
noncomputable def F29c : Code := bodyOf Go.Proofs.Try.f29
noncomputable def F29_0x0 : SSh := ⟨28, [(4, (.int .i64))], []⟩
noncomputable def F29_0x1 : SSh := ⟨28, [(1, (.int .i64))], []⟩
noncomputable def F29_0s : SSh := ⟨28, [(0, (.imm 2)), (1, (.int .i64)), (5, (.int .i64))], []⟩
noncomputable def F29_0_step {R : Type} (n : Nat) (k0 : Int → Option R) (k1 : Int → Option R) (rec : List ByteArray → Int → Int → Option R) (x2475 : List ByteArray) (x2476 : Int) (x2477 : Int) : Option R :=
  (bif (decide (x2477 < ((x2475.length) : Int))) then
  (bif (decide ((0 : Int) ≤ x2477)) then
  (bif (decide (x2477 < ((x2475.length) : Int))) then
  let v2483 := (IntKind.wrap .i64 (x2476 - (((x2475.getD (x2477.toNat) ({ data := #[] } : ByteArray)).size) : Int)))
  (bif (decide (v2483 < (0 : Int))) then
  (k0 (-1 : Int))
  else (rec x2475 v2483 (IntKind.wrap .i64 (x2477 + (1 : Int)))))
  else none)
  else none)
  else (k1 x2476))
noncomputable def F29_0_it {R : Type} (n : Nat) (k0 : Int → Option R) (k1 : Int → Option R) : Nat → List ByteArray → Int → Int → Option R
  | 0, _, _, _ => none
  | k + 1, x2475, x2476, x2477 => F29_0_step n k0 k1 (F29_0_it n k0 k1 k) x2475 x2476 x2477
noncomputable def F29_0 {R : Type} (n : Nat) (x2475 : List ByteArray) (x2476 : Int) (x2477 : Int) (k0 : Int → Option R) (k1 : Int → Option R) : Option R := F29_0_it n k0 k1 n x2475 x2476 x2477
noncomputable def F29_0z (n : Nat) : Sm G := inZ G 0 ⟨[0, 1, 5], []⟩ F29_0s fun R x K => F29_0_it n (fun u0 => K .ret (SSh.enc G F29_0x0 ((u0, ()), ()))) (fun u0 => K (.exit 0) (SSh.enc G F29_0x1 ((u0, ()), ()))) n x.1.1 x.1.2.1 x.1.2.2.1
theorem F29_0_eq (n : Nat) (R : Type) (rec : SSh.den G F29_0s → Option R) (x : SSh.den G F29_0s) (K : AE → St G → Option R) :
  F29_0_step n (fun u0 => K .ret (SSh.enc G F29_0x0 ((u0, ()), ()))) (fun u0 => K (.exit 0) (SSh.enc G F29_0x1 ((u0, ()), ()))) (fun x2475 x2476 x2477 => rec ((x2475, (x2476, (x2477, ()))), ())) x.1.1 x.1.2.1 x.1.2.2.1 = exec prog G (ro G (tabOf (E65 n)) (frOf []) R) 0 (codeAt F29c [1, 1, 1, 0, 1, 0, 0]) .no (SSh.enc G F29_0s x) (kLoop G (ro G (tabOf (E65 n)) (frOf []) R) 0 ⟨[0, 1, 5], []⟩ F29_0s ⟨⟨[1], []⟩, ⟨[4], []⟩, [(0, ⟨[1], []⟩)]⟩ rec K) := by kernel_rfl
theorem F29_0_ok (n : Nat) : FragOK prog G 0 (codeAt F29c [1, 1, 1, 0, 1, 0]) (F29_0z n) :=
  frag_loop (Z := fun R k (x : SSh.den G F29_0s) K => F29_0_it n (fun u0 => K .ret (SSh.enc G F29_0x0 ((u0, ()), ()))) (fun u0 => K (.exit 0) (SSh.enc G F29_0x1 ((u0, ()), ()))) k x.1.1 x.1.2.1 x.1.2.2.1) laws fnok (E65_ok n).tab (AllF.of (l := []) (by kernel_rfl) AllF.nil) (fun _ _ _ => rfl) (fun R k y K => F29_0_eq n R (fun (x : SSh.den G F29_0s) => F29_0_it n (fun u0 => K .ret (SSh.enc G F29_0x0 ((u0, ()), ()))) (fun u0 => K (.exit 0) (SSh.enc G F29_0x1 ((u0, ()), ()))) k x.1.1 x.1.2.1 x.1.2.2.1) y K) n
noncomputable def F29 (n : Nat) (a2470 : List ByteArray) (a2471 : Int) : Option (Int × Unit) :=
  let v2473 := (IntKind.wrap .i64 (a2471 - ((a2470.length) : Int)))
  (bif (decide (v2473 < (0 : Int))) then
  some ((-1 : Int), ())
  else (F29_0 n a2470 v2473 (0 : Int) (fun z2486 =>
  some (z2486, ())) (fun z2487 =>
  some (z2487, ()))))
noncomputable def F29e (n : Nat) : Ent G := ⟨29, (.cons (.imm 2) (.cons (.int .i64) .nil)), [], (.int .i64), [], fun x y => F29 n x.1 x.2.1⟩
theorem F29_eq (n : Nat) (x : ShL.den G (.cons (.imm 2) (.cons (.int .i64) .nil))) (y : denO G []) : (F29e n).F x y = runFn prog G (ro G (tabOf (E65 n)) (frOf [F29_0z n]) _) Go.Proofs.Try.f29 (.nd .no (.nd .no (.nd .no (.nd (.nd .no (.nd (.use 0) .no)) .no)))) [(0, .fz)] (ShL.enc G (.cons (.imm 2) (.cons (.int .i64) .nil)) x) (encO G [] y) (decR (.int .i64) []) := by kernel_rfl
theorem F29_ok (n : Nat) : EntOK prog G (F29e n) :=
  ent_ok (fr := frOf [F29_0z n]) (ann := (.nd .no (.nd .no (.nd .no (.nd (.nd .no (.nd (.use 0) .no)) .no))))) (frm := [(0, .fz)]) laws fnok (E65_ok n).tab (e := F29e n) (fn := Go.Proofs.Try.f29) (by kernel_rfl) (AllF.ofB (cd := F29c) (l := [(0, codeAt F29c [1, 1, 1, 0, 1, 0])]) (by kernel_rfl) (by kernel_rfl) (AllF.cons (F29_0_ok n) AllF.nil)) (F29_eq n)
noncomputable def E66 (n : Nat) : List (Ent G) := F29e n :: E65 n
theorem E66_ok (n : Nat) : AllE prog G (E66 n) := AllE.cons (F29_ok n) (E65_ok n)
abbrev Q9RC : Type := (Int → ByteArray → List ByteArray → List Ex → Int → Option (Int × Unit)) × (List Ex → Int → Option (Int × Unit)) × Unit
noncomputable def Q9L (n : Nat) (rc : Q9RC) : List (Ent G) := ⟨9, (.cons (.agg (.cons (.int .i64) (.cons .str (.cons (.imm 2) (.cons (.imm 4) .nil))))) (.cons (.int .i64) .nil)), [], (.int .i64), [], fun x y => rc.1 x.1.1 x.1.2.1 x.1.2.2.1 x.1.2.2.2.1 x.2.1⟩ :: ⟨30, (.cons (.imm 4) (.cons (.int .i64) .nil)), [], (.int .i64), [], fun x y => rc.2.1 x.1 x.2.1⟩ :: E66 n
-- 9 loop.example/slowworm/laws.szExpr
noncomputable def F9bc : Code := bodyOf Go.Proofs.Try.f9
noncomputable def F9b (n : Nat) (rc : Q9RC) (a2537 : Int) (a2538 : ByteArray) (a2539 : List ByteArray) (a2540 : List Ex) (a2541 : Int) : Option (Int × Unit) :=
  let v2543 := (IntKind.wrap .i64 (a2541 - ((a2538.size) : Int)))
  (bif (decide (v2543 < (0 : Int))) then
  some ((-1 : Int), ())
  else (andThen (F29 n a2539 v2543) fun r2545 =>
  (bif (decide (r2545.1 < (0 : Int))) then
  some ((-1 : Int), ())
  else (andThen (rc.2.1 a2540 r2545.1) fun r2547 =>
  (bif (decide (r2547.1 < (0 : Int))) then
  some ((-1 : Int), ())
  else some (r2547.1, ()))))))
noncomputable def F9be (n : Nat) (rc : Q9RC) : Ent G := ⟨9, (.cons (.agg (.cons (.int .i64) (.cons .str (.cons (.imm 2) (.cons (.imm 4) .nil))))) (.cons (.int .i64) .nil)), [], (.int .i64), [], fun x y => F9b n rc x.1.1 x.1.2.1 x.1.2.2.1 x.1.2.2.2.1 x.2.1⟩
theorem F9b_eq (n : Nat) (rc : Q9RC) (x : ShL.den G (.cons (.agg (.cons (.int .i64) (.cons .str (.cons (.imm 2) (.cons (.imm 4) .nil))))) (.cons (.int .i64) .nil))) (y : denO G []) : (F9be n rc).F x y = runFn prog G (ro G (tabOf (Q9L n rc)) (frOf []) _) Go.Proofs.Try.f9 .no [(0, .fz)] (ShL.enc G (.cons (.agg (.cons (.int .i64) (.cons .str (.cons (.imm 2) (.cons (.imm 4) .nil))))) (.cons (.int .i64) .nil)) x) (encO G [] y) (decR (.int .i64) []) := by kernel_rfl
theorem F9b_ok (n : Nat) (rc : Q9RC) (h : AllE prog G (Q9L n rc)) : EntOK prog G (F9be n rc) :=
  ent_ok (fr := frOf []) (ann := .no) (frm := [(0, .fz)]) laws fnok h.tab (e := F9be n rc) (fn := Go.Proofs.Try.f9) (by kernel_rfl) (AllF.ofB (cd := F9bc) (l := []) (by kernel_rfl) (by kernel_rfl) AllF.nil) (F9b_eq n rc)
-- 30 loop.example/slowworm/laws.szExprS
noncomputable def F30bc : Code := bodyOf Go.Proofs.Try.f30
noncomputable def F30b_0x0 : SSh := ⟨27, [(4, (.int .i64))], []⟩
noncomputable def F30b_0x1 : SSh := ⟨27, [(1, (.int .i64))], []⟩
noncomputable def F30b_0s : SSh := ⟨27, [(0, (.imm 4)), (1, (.int .i64)), (5, (.int .i64))], []⟩
noncomputable def F30b_0_step {R : Type} (n : Nat) (rc : Q9RC) (k0 : Int → Option R) (k1 : Int → Option R) (rec : List Ex → Int → Int → Option R) (x2554 : List Ex) (x2555 : Int) (x2556 : Int) : Option R :=
  (bif (decide (x2556 < ((x2554.length) : Int))) then
  (bif (decide ((0 : Int) ≤ x2556)) then
  (bif (decide (x2556 < ((x2554.length) : Int))) then
  let v2559 := (x2554.getD (x2556.toNat) (Ex.mk (0 : Int) ({ data := #[] } : ByteArray) [] []))
  (andThen (rc.1 v2559.kind v2559.text v2559.names v2559.kids x2555) fun r2564 =>
  (bif (decide (r2564.1 < (0 : Int))) then
  (k0 (-1 : Int))
  else (rec x2554 r2564.1 (IntKind.wrap .i64 (x2556 + (1 : Int))))))
  else none)
  else none)
  else (k1 x2555))
noncomputable def F30b_0_it {R : Type} (n : Nat) (rc : Q9RC) (k0 : Int → Option R) (k1 : Int → Option R) : Nat → List Ex → Int → Int → Option R
  | 0, _, _, _ => none
  | k + 1, x2554, x2555, x2556 => F30b_0_step n rc k0 k1 (F30b_0_it n rc k0 k1 k) x2554 x2555 x2556
noncomputable def F30b_0 {R : Type} (n : Nat) (rc : Q9RC) (x2554 : List Ex) (x2555 : Int) (x2556 : Int) (k0 : Int → Option R) (k1 : Int → Option R) : Option R := F30b_0_it n rc k0 k1 n x2554 x2555 x2556
noncomputable def F30b_0z (n : Nat) (rc : Q9RC) : Sm G := inZ G 0 ⟨[0, 1, 5], []⟩ F30b_0s fun R x K => F30b_0_it n rc (fun u0 => K .ret (SSh.enc G F30b_0x0 ((u0, ()), ()))) (fun u0 => K (.exit 0) (SSh.enc G F30b_0x1 ((u0, ()), ()))) n x.1.1 x.1.2.1 x.1.2.2.1
theorem F30b_0_eq (n : Nat) (rc : Q9RC) (R : Type) (rec : SSh.den G F30b_0s → Option R) (x : SSh.den G F30b_0s) (K : AE → St G → Option R) :
  F30b_0_step n rc (fun u0 => K .ret (SSh.enc G F30b_0x0 ((u0, ()), ()))) (fun u0 => K (.exit 0) (SSh.enc G F30b_0x1 ((u0, ()), ()))) (fun x2554 x2555 x2556 => rec ((x2554, (x2555, (x2556, ()))), ())) x.1.1 x.1.2.1 x.1.2.2.1 = exec prog G (ro G (tabOf (Q9L n rc)) (frOf []) R) 0 (codeAt F30bc [1, 1, 1, 0, 1, 0, 0]) .no (SSh.enc G F30b_0s x) (kLoop G (ro G (tabOf (Q9L n rc)) (frOf []) R) 0 ⟨[0, 1, 5], []⟩ F30b_0s ⟨⟨[1], []⟩, ⟨[4], []⟩, [(0, ⟨[1], []⟩)]⟩ rec K) := by kernel_rfl
theorem F30b_0_ok (n : Nat) (rc : Q9RC) (h : AllE prog G (Q9L n rc)) : FragOK prog G 0 (codeAt F30bc [1, 1, 1, 0, 1, 0]) (F30b_0z n rc) :=
  frag_loop (Z := fun R k (x : SSh.den G F30b_0s) K => F30b_0_it n rc (fun u0 => K .ret (SSh.enc G F30b_0x0 ((u0, ()), ()))) (fun u0 => K (.exit 0) (SSh.enc G F30b_0x1 ((u0, ()), ()))) k x.1.1 x.1.2.1 x.1.2.2.1) laws fnok h.tab (AllF.of (l := []) (by kernel_rfl) AllF.nil) (fun _ _ _ => rfl) (fun R k y K => F30b_0_eq n rc R (fun (x : SSh.den G F30b_0s) => F30b_0_it n rc (fun u0 => K .ret (SSh.enc G F30b_0x0 ((u0, ()), ()))) (fun u0 => K (.exit 0) (SSh.enc G F30b_0x1 ((u0, ()), ()))) k x.1.1 x.1.2.1 x.1.2.2.1) y K) n
noncomputable def F30b (n : Nat) (rc : Q9RC) (a2549 : List Ex) (a2550 : Int) : Option (Int × Unit) :=
  let v2552 := (IntKind.wrap .i64 (a2550 - ((a2549.length) : Int)))
  (bif (decide (v2552 < (0 : Int))) then
  some ((-1 : Int), ())
  else (F30b_0 n rc a2549 v2552 (0 : Int) (fun z2567 =>
  some (z2567, ())) (fun z2568 =>
  some (z2568, ()))))
noncomputable def F30be (n : Nat) (rc : Q9RC) : Ent G := ⟨30, (.cons (.imm 4) (.cons (.int .i64) .nil)), [], (.int .i64), [], fun x y => F30b n rc x.1 x.2.1⟩
theorem F30b_eq (n : Nat) (rc : Q9RC) (x : ShL.den G (.cons (.imm 4) (.cons (.int .i64) .nil))) (y : denO G []) : (F30be n rc).F x y = runFn prog G (ro G (tabOf (Q9L n rc)) (frOf [F30b_0z n rc]) _) Go.Proofs.Try.f30 (.nd .no (.nd .no (.nd .no (.nd (.nd .no (.nd (.use 0) .no)) .no)))) [(0, .fz)] (ShL.enc G (.cons (.imm 4) (.cons (.int .i64) .nil)) x) (encO G [] y) (decR (.int .i64) []) := by kernel_rfl
theorem F30b_ok (n : Nat) (rc : Q9RC) (h : AllE prog G (Q9L n rc)) : EntOK prog G (F30be n rc) :=
  ent_ok (fr := frOf [F30b_0z n rc]) (ann := (.nd .no (.nd .no (.nd .no (.nd (.nd .no (.nd (.use 0) .no)) .no))))) (frm := [(0, .fz)]) laws fnok h.tab (e := F30be n rc) (fn := Go.Proofs.Try.f30) (by kernel_rfl) (AllF.ofB (cd := F30bc) (l := [(0, codeAt F30bc [1, 1, 1, 0, 1, 0])]) (by kernel_rfl) (by kernel_rfl) (AllF.cons (F30b_0_ok n rc h) AllF.nil)) (F30b_eq n rc)
noncomputable def Q9it (n : Nat) : Nat → Q9RC
  | 0 => (fun _ _ _ _ _ => none, fun _ _ => none, ())
  | k + 1 => (F9b n (Q9it n k), F30b n (Q9it n k), ())
theorem Q9it_ok (n : Nat) : ∀ k, AllE prog G (Q9L n (Q9it n k))
  | 0 => (AllE.cons (EntOK.none fun _ _ => rfl) (AllE.cons (EntOK.none fun _ _ => rfl) (E66_ok n)))
  | k + 1 => (AllE.cons (F9b_ok n _ (Q9it_ok n k)) (AllE.cons (F30b_ok n _ (Q9it_ok n k)) (E66_ok n)))
noncomputable def F9 (n : Nat) (a0 : Int) (a1 : ByteArray) (a2 : List ByteArray) (a3 : List Ex) (a4 : Int) : Option (Int × Unit) := (Q9it n n).1 a0 a1 a2 a3 a4
noncomputable def F9e (n : Nat) : Ent G := ⟨9, (.cons (.agg (.cons (.int .i64) (.cons .str (.cons (.imm 2) (.cons (.imm 4) .nil))))) (.cons (.int .i64) .nil)), [], (.int .i64), [], fun x y => F9 n x.1.1 x.1.2.1 x.1.2.2.1 x.1.2.2.2.1 x.2.1⟩
noncomputable def F30 (n : Nat) (a0 : List Ex) (a1 : Int) : Option (Int × Unit) := (Q9it n n).2.1 a0 a1
noncomputable def F30e (n : Nat) : Ent G := ⟨30, (.cons (.imm 4) (.cons (.int .i64) .nil)), [], (.int .i64), [], fun x y => F30 n x.1 x.2.1⟩
noncomputable def E67 (n : Nat) : List (Ent G) := F9e n :: F30e n :: E66 n
theorem E67_ok (n : Nat) : AllE prog G (E67 n) := Q9it_ok n n
-- 32 loop.example/slowworm/laws.toStringS
noncomputable def F32c : Code := bodyOf Go.Proofs.Try.f32
noncomputable def F32_0x0 : SSh := ⟨22, [(3, (.own 0))], [(.arr 2 true)]⟩
noncomputable def F32_0s : SSh := ⟨22, [(0, (.imm 2)), (3, (.own 0)), (4, (.int .i64))], [(.arr 2 true)]⟩
noncomputable def F32_0_step {R : Type} (n : Nat) (k0 : List ByteArray → Option R) (rec : List ByteArray → Int → List ByteArray → Option R) (x2578 : List ByteArray) (x2579 : Int) (x2580 : List ByteArray) : Option R :=
  (bif (decide (x2579 < ((x2578.length) : Int))) then
  (bif (decide ((0 : Int) ≤ x2579)) then
  (bif (decide (x2579 < ((x2578.length) : Int))) then
  (bif (decide ((0 : Int) ≤ x2579)) then
  (bif (decide (x2579 < ((x2580.length) : Int))) then
  (rec x2578 (IntKind.wrap .i64 (x2579 + (1 : Int))) (x2580.set (x2579.toNat) (x2578.getD (x2579.toNat) ({ data := #[] } : ByteArray))))
  else none)
  else none)
  else none)
  else none)
  else (k0 x2580))
noncomputable def F32_0_it {R : Type} (n : Nat) (k0 : List ByteArray → Option R) : Nat → List ByteArray → Int → List ByteArray → Option R
  | 0, _, _, _ => none
  | k + 1, x2578, x2579, x2580 => F32_0_step n k0 (F32_0_it n k0 k) x2578 x2579 x2580
noncomputable def F32_0 {R : Type} (n : Nat) (x2578 : List ByteArray) (x2579 : Int) (x2580 : List ByteArray) (k0 : List ByteArray → Option R) : Option R := F32_0_it n k0 n x2578 x2579 x2580
noncomputable def F32_0z (n : Nat) : Sm G := inZ G 0 ⟨[0, 3, 4], []⟩ F32_0s fun R x K => F32_0_it n (fun u0 => K (.exit 0) (SSh.enc G F32_0x0 (((), ()), (u0, ())))) n x.1.1 x.1.2.2.1 x.2.1
theorem F32_0_eq (n : Nat) (R : Type) (rec : SSh.den G F32_0s → Option R) (x : SSh.den G F32_0s) (K : AE → St G → Option R) :
  F32_0_step n (fun u0 => K (.exit 0) (SSh.enc G F32_0x0 (((), ()), (u0, ())))) (fun x2578 x2579 x2580 => rec ((x2578, ((), (x2579, ()))), (x2580, ()))) x.1.1 x.1.2.2.1 x.2.1 = exec prog G (ro G (tabOf (E67 n)) (frOf []) R) 0 (codeAt F32c [1, 1, 0, 1, 0, 0]) .no (SSh.enc G F32_0s x) (kLoop G (ro G (tabOf (E67 n)) (frOf []) R) 0 ⟨[0, 3, 4], []⟩ F32_0s ⟨⟨[3], []⟩, ⟨[2], []⟩, [(0, ⟨[3], []⟩)]⟩ rec K) := by kernel_rfl
theorem F32_0_ok (n : Nat) : FragOK prog G 0 (codeAt F32c [1, 1, 0, 1, 0]) (F32_0z n) :=
  frag_loop (Z := fun R k (x : SSh.den G F32_0s) K => F32_0_it n (fun u0 => K (.exit 0) (SSh.enc G F32_0x0 (((), ()), (u0, ())))) k x.1.1 x.1.2.2.1 x.2.1) laws fnok (E67_ok n).tab (AllF.of (l := []) (by kernel_rfl) AllF.nil) (fun _ _ _ => rfl) (fun R k y K => F32_0_eq n R (fun (x : SSh.den G F32_0s) => F32_0_it n (fun u0 => K (.exit 0) (SSh.enc G F32_0x0 (((), ()), (u0, ())))) k x.1.1 x.1.2.2.1 x.2.1) y K) n
noncomputable def F32 (n : Nat) (a2575 : List ByteArray) : Option (List ByteArray × Unit) :=
  let v2576 := ((a2575.length) : Int)
  (bif (decide ((0 : Int) ≤ v2576)) then
  (bif (decide (v2576 ≤ v2576)) then
  (bif (decide (v2576 ≤ ((68719476736 : Nat) : Int))) then
  (F32_0 n a2575 (0 : Int) (List.replicate (v2576.toNat) ({ data := #[] } : ByteArray)) (fun z2588 =>
  some (z2588, ())))
  else none)
  else none)
  else none)
noncomputable def F32e (n : Nat) : Ent G := ⟨32, (.cons (.imm 2) .nil), [], (.imm 2), [], fun x y => F32 n x.1⟩
theorem F32_eq (n : Nat) (x : ShL.den G (.cons (.imm 2) .nil)) (y : denO G []) : (F32e n).F x y = runFn prog G (ro G (tabOf (E67 n)) (frOf [F32_0z n]) _) Go.Proofs.Try.f32 (.nd .no (.nd .no (.nd (.nd .no (.nd (.use 0) .no)) .no))) [(0, .fz)] (ShL.enc G (.cons (.imm 2) .nil) x) (encO G [] y) (decR (.imm 2) []) := by kernel_rfl
theorem F32_ok (n : Nat) : EntOK prog G (F32e n) :=
  ent_ok (fr := frOf [F32_0z n]) (ann := (.nd .no (.nd .no (.nd (.nd .no (.nd (.use 0) .no)) .no)))) (frm := [(0, .fz)]) laws fnok (E67_ok n).tab (e := F32e n) (fn := Go.Proofs.Try.f32) (by kernel_rfl) (AllF.ofB (cd := F32c) (l := [(0, codeAt F32c [1, 1, 0, 1, 0])]) (by kernel_rfl) (by kernel_rfl) (AllF.cons (F32_0_ok n) AllF.nil)) (F32_eq n)
noncomputable def E68 (n : Nat) : List (Ent G) := F32e n :: E67 n
theorem E68_ok (n : Nat) : AllE prog G (E68 n) := AllE.cons (F32_ok n) (E67_ok n)
abbrev Q11RC : Type := (Int → ByteArray → List ByteArray → List Ex → Option ((Int × (ByteArray × (List ByteArray × (List Ex × Unit)))) × Unit)) × (List Ex → Option (List Ex × Unit)) × Unit
noncomputable def Q11L (n : Nat) (rc : Q11RC) : List (Ent G) := ⟨11, (.cons (.agg (.cons (.int .i64) (.cons .str (.cons (.imm 2) (.cons (.imm 4) .nil))))) .nil), [], (.agg (.cons (.int .i64) (.cons .str (.cons (.imm 2) (.cons (.imm 3) .nil))))), [], fun x y => rc.1 x.1.1 x.1.2.1 x.1.2.2.1 x.1.2.2.2.1⟩ :: ⟨33, (.cons (.imm 4) .nil), [], (.imm 3), [], fun x y => rc.2.1 x.1⟩ :: E68 n
-- 11 loop.example/slowworm/laws.toExpr
noncomputable def F11bc : Code := bodyOf Go.Proofs.Try.f11
noncomputable def F11b (n : Nat) (rc : Q11RC) (a2627 : Int) (a2628 : ByteArray) (a2629 : List ByteArray) (a2630 : List Ex) : Option ((Int × (ByteArray × (List ByteArray × (List Ex × Unit)))) × Unit) :=
  (andThen (F32 n a2629) fun r2631 =>
  (andThen (rc.2.1 a2630) fun r2632 =>
  some ((a2627, (a2628, (r2631.1, (r2632.1, ())))), ())))
noncomputable def F11be (n : Nat) (rc : Q11RC) : Ent G := ⟨11, (.cons (.agg (.cons (.int .i64) (.cons .str (.cons (.imm 2) (.cons (.imm 4) .nil))))) .nil), [], (.agg (.cons (.int .i64) (.cons .str (.cons (.imm 2) (.cons (.imm 3) .nil))))), [], fun x y => F11b n rc x.1.1 x.1.2.1 x.1.2.2.1 x.1.2.2.2.1⟩
theorem F11b_eq (n : Nat) (rc : Q11RC) (x : ShL.den G (.cons (.agg (.cons (.int .i64) (.cons .str (.cons (.imm 2) (.cons (.imm 4) .nil))))) .nil)) (y : denO G []) : (F11be n rc).F x y = runFn prog G (ro G (tabOf (Q11L n rc)) (frOf []) _) Go.Proofs.Try.f11 .no [(0, .fz)] (ShL.enc G (.cons (.agg (.cons (.int .i64) (.cons .str (.cons (.imm 2) (.cons (.imm 4) .nil))))) .nil) x) (encO G [] y) (decR (.agg (.cons (.int .i64) (.cons .str (.cons (.imm 2) (.cons (.imm 3) .nil))))) []) := by kernel_rfl
theorem F11b_ok (n : Nat) (rc : Q11RC) (h : AllE prog G (Q11L n rc)) : EntOK prog G (F11be n rc) :=
  ent_ok (fr := frOf []) (ann := .no) (frm := [(0, .fz)]) laws fnok h.tab (e := F11be n rc) (fn := Go.Proofs.Try.f11) (by kernel_rfl) (AllF.ofB (cd := F11bc) (l := []) (by kernel_rfl) (by kernel_rfl) AllF.nil) (F11b_eq n rc)
-- 33 loop.example/slowworm/laws.toExprS
noncomputable def F33bc : Code := bodyOf Go.Proofs.Try.f33
noncomputable def F33b_0x0 : SSh := ⟨23, [(3, (.own 0))], [(.arr 3 true)]⟩
noncomputable def F33b_0s : SSh := ⟨23, [(0, (.imm 4)), (3, (.own 0)), (4, (.int .i64))], [(.arr 3 true)]⟩
noncomputable def F33b_0_step {R : Type} (n : Nat) (rc : Q11RC) (k0 : List Ex → Option R) (rec : List Ex → Int → List Ex → Option R) (x2636 : List Ex) (x2637 : Int) (x2638 : List Ex) : Option R :=
  (bif (decide (x2637 < ((x2636.length) : Int))) then
  (bif (decide ((0 : Int) ≤ x2637)) then
  (bif (decide (x2637 < ((x2636.length) : Int))) then
  let v2641 := (x2636.getD (x2637.toNat) (Ex.mk (0 : Int) ({ data := #[] } : ByteArray) [] []))
  (andThen (rc.1 v2641.kind v2641.text v2641.names v2641.kids) fun r2646 =>
  (bif (decide ((0 : Int) ≤ x2637)) then
  (bif (decide (x2637 < ((x2638.length) : Int))) then
  (rec x2636 (IntKind.wrap .i64 (x2637 + (1 : Int))) (x2638.set (x2637.toNat) (Ex.mk r2646.1.1 r2646.1.2.1 r2646.1.2.2.1 r2646.1.2.2.2.1)))
  else none)
  else none))
  else none)
  else none)
  else (k0 x2638))
noncomputable def F33b_0_it {R : Type} (n : Nat) (rc : Q11RC) (k0 : List Ex → Option R) : Nat → List Ex → Int → List Ex → Option R
  | 0, _, _, _ => none
  | k + 1, x2636, x2637, x2638 => F33b_0_step n rc k0 (F33b_0_it n rc k0 k) x2636 x2637 x2638
noncomputable def F33b_0 {R : Type} (n : Nat) (rc : Q11RC) (x2636 : List Ex) (x2637 : Int) (x2638 : List Ex) (k0 : List Ex → Option R) : Option R := F33b_0_it n rc k0 n x2636 x2637 x2638
noncomputable def F33b_0z (n : Nat) (rc : Q11RC) : Sm G := inZ G 0 ⟨[0, 3, 4], []⟩ F33b_0s fun R x K => F33b_0_it n rc (fun u0 => K (.exit 0) (SSh.enc G F33b_0x0 (((), ()), (u0, ())))) n x.1.1 x.1.2.2.1 x.2.1
theorem F33b_0_eq (n : Nat) (rc : Q11RC) (R : Type) (rec : SSh.den G F33b_0s → Option R) (x : SSh.den G F33b_0s) (K : AE → St G → Option R) :
  F33b_0_step n rc (fun u0 => K (.exit 0) (SSh.enc G F33b_0x0 (((), ()), (u0, ())))) (fun x2636 x2637 x2638 => rec ((x2636, ((), (x2637, ()))), (x2638, ()))) x.1.1 x.1.2.2.1 x.2.1 = exec prog G (ro G (tabOf (Q11L n rc)) (frOf []) R) 0 (codeAt F33bc [1, 1, 0, 1, 0, 0]) .no (SSh.enc G F33b_0s x) (kLoop G (ro G (tabOf (Q11L n rc)) (frOf []) R) 0 ⟨[0, 3, 4], []⟩ F33b_0s ⟨⟨[3], []⟩, ⟨[2], []⟩, [(0, ⟨[3], []⟩)]⟩ rec K) := by kernel_rfl
theorem F33b_0_ok (n : Nat) (rc : Q11RC) (h : AllE prog G (Q11L n rc)) : FragOK prog G 0 (codeAt F33bc [1, 1, 0, 1, 0]) (F33b_0z n rc) :=
  frag_loop (Z := fun R k (x : SSh.den G F33b_0s) K => F33b_0_it n rc (fun u0 => K (.exit 0) (SSh.enc G F33b_0x0 (((), ()), (u0, ())))) k x.1.1 x.1.2.2.1 x.2.1) laws fnok h.tab (AllF.of (l := []) (by kernel_rfl) AllF.nil) (fun _ _ _ => rfl) (fun R k y K => F33b_0_eq n rc R (fun (x : SSh.den G F33b_0s) => F33b_0_it n rc (fun u0 => K (.exit 0) (SSh.enc G F33b_0x0 (((), ()), (u0, ())))) k x.1.1 x.1.2.2.1 x.2.1) y K) n
noncomputable def F33b (n : Nat) (rc : Q11RC) (a2633 : List Ex) : Option (List Ex × Unit) :=
  let v2634 := ((a2633.length) : Int)
  (bif (decide ((0 : Int) ≤ v2634)) then
  (bif (decide (v2634 ≤ v2634)) then
  (bif (decide (v2634 ≤ ((68719476736 : Nat) : Int))) then
  (F33b_0 n rc a2633 (0 : Int) (List.replicate (v2634.toNat) (Ex.mk (0 : Int) ({ data := #[] } : ByteArray) [] [])) (fun z2650 =>
  some (z2650, ())))
  else none)
  else none)
  else none)
noncomputable def F33be (n : Nat) (rc : Q11RC) : Ent G := ⟨33, (.cons (.imm 4) .nil), [], (.imm 3), [], fun x y => F33b n rc x.1⟩
theorem F33b_eq (n : Nat) (rc : Q11RC) (x : ShL.den G (.cons (.imm 4) .nil)) (y : denO G []) : (F33be n rc).F x y = runFn prog G (ro G (tabOf (Q11L n rc)) (frOf [F33b_0z n rc]) _) Go.Proofs.Try.f33 (.nd .no (.nd .no (.nd (.nd .no (.nd (.use 0) .no)) .no))) [(0, .fz)] (ShL.enc G (.cons (.imm 4) .nil) x) (encO G [] y) (decR (.imm 3) []) := by kernel_rfl
theorem F33b_ok (n : Nat) (rc : Q11RC) (h : AllE prog G (Q11L n rc)) : EntOK prog G (F33be n rc) :=
  ent_ok (fr := frOf [F33b_0z n rc]) (ann := (.nd .no (.nd .no (.nd (.nd .no (.nd (.use 0) .no)) .no)))) (frm := [(0, .fz)]) laws fnok h.tab (e := F33be n rc) (fn := Go.Proofs.Try.f33) (by kernel_rfl) (AllF.ofB (cd := F33bc) (l := [(0, codeAt F33bc [1, 1, 0, 1, 0])]) (by kernel_rfl) (by kernel_rfl) (AllF.cons (F33b_0_ok n rc h) AllF.nil)) (F33b_eq n rc)
noncomputable def Q11it (n : Nat) : Nat → Q11RC
  | 0 => (fun _ _ _ _ => none, fun _ => none, ())
  | k + 1 => (F11b n (Q11it n k), F33b n (Q11it n k), ())
theorem Q11it_ok (n : Nat) : ∀ k, AllE prog G (Q11L n (Q11it n k))
  | 0 => (AllE.cons (EntOK.none fun _ _ => rfl) (AllE.cons (EntOK.none fun _ _ => rfl) (E68_ok n)))
  | k + 1 => (AllE.cons (F11b_ok n _ (Q11it_ok n k)) (AllE.cons (F33b_ok n _ (Q11it_ok n k)) (E68_ok n)))
noncomputable def F11 (n : Nat) (a0 : Int) (a1 : ByteArray) (a2 : List ByteArray) (a3 : List Ex) : Option ((Int × (ByteArray × (List ByteArray × (List Ex × Unit)))) × Unit) := (Q11it n n).1 a0 a1 a2 a3
noncomputable def F11e (n : Nat) : Ent G := ⟨11, (.cons (.agg (.cons (.int .i64) (.cons .str (.cons (.imm 2) (.cons (.imm 4) .nil))))) .nil), [], (.agg (.cons (.int .i64) (.cons .str (.cons (.imm 2) (.cons (.imm 3) .nil))))), [], fun x y => F11 n x.1.1 x.1.2.1 x.1.2.2.1 x.1.2.2.2.1⟩
noncomputable def F33 (n : Nat) (a0 : List Ex) : Option (List Ex × Unit) := (Q11it n n).2.1 a0
noncomputable def F33e (n : Nat) : Ent G := ⟨33, (.cons (.imm 4) .nil), [], (.imm 3), [], fun x y => F33 n x.1⟩
noncomputable def E69 (n : Nat) : List (Ent G) := F11e n :: F33e n :: E68 n
theorem E69_ok (n : Nat) : AllE prog G (E69 n) := Q11it_ok n n
-- 10 loop.example/slowworm/spec.ExprOk
noncomputable def F10c : Code := bodyOf Go.Proofs.Try.f10
noncomputable def F10 (n : Nat) (a2652 : Int) (a2653 : ByteArray) (a2654 : List ByteArray) (a2655 : List Ex) : Option (Bool × Unit) :=
  (andThen (F31 n a2652 a2653 a2654 a2655 (7 : Int)) fun r2656 =>
  some (r2656.1, ()))
noncomputable def F10e (n : Nat) : Ent G := ⟨10, (.cons (.agg (.cons (.int .i64) (.cons .str (.cons (.imm 2) (.cons (.imm 3) .nil))))) .nil), [], .bool, [], fun x y => F10 n x.1.1 x.1.2.1 x.1.2.2.1 x.1.2.2.2.1⟩
theorem F10_eq (n : Nat) (x : ShL.den G (.cons (.agg (.cons (.int .i64) (.cons .str (.cons (.imm 2) (.cons (.imm 3) .nil))))) .nil)) (y : denO G []) : (F10e n).F x y = runFn prog G (ro G (tabOf (E69 n)) (frOf []) _) Go.Proofs.Try.f10 .no [(0, .fz)] (ShL.enc G (.cons (.agg (.cons (.int .i64) (.cons .str (.cons (.imm 2) (.cons (.imm 3) .nil))))) .nil) x) (encO G [] y) (decR .bool []) := by kernel_rfl
theorem F10_ok (n : Nat) : EntOK prog G (F10e n) :=
  ent_ok (fr := frOf []) (ann := .no) (frm := [(0, .fz)]) laws fnok (E69_ok n).tab (e := F10e n) (fn := Go.Proofs.Try.f10) (by kernel_rfl) (AllF.ofB (cd := F10c) (l := []) (by kernel_rfl) (by kernel_rfl) AllF.nil) (F10_eq n)
noncomputable def E70 (n : Nat) : List (Ent G) := F10e n :: E69 n
theorem E70_ok (n : Nat) : AllE prog G (E70 n) := AllE.cons (F10_ok n) (E69_ok n)
-- 21 loop.example/slowworm/laws.eqStringS
noncomputable def F21c : Code := bodyOf Go.Proofs.Try.f21
noncomputable def F21_0x0 : SSh := ⟨26, [(4, .bool)], []⟩
noncomputable def F21_0x1 : SSh := ⟨26, [], []⟩
noncomputable def F21_0s : SSh := ⟨26, [(0, (.imm 2)), (1, (.imm 2)), (5, (.int .i64))], []⟩
noncomputable def F21_0_step {R : Type} (n : Nat) (k0 : Bool → Option R) (k1 : Option R) (rec : List ByteArray → List ByteArray → Int → Option R) (x2677 : List ByteArray) (x2678 : List ByteArray) (x2679 : Int) : Option R :=
  (bif (decide (x2679 < ((x2677.length) : Int))) then
  (bif (decide ((0 : Int) ≤ x2679)) then
  (bif (decide (x2679 < ((x2677.length) : Int))) then
  (bif (decide ((0 : Int) ≤ x2679)) then
  (bif (decide (x2679 < ((x2678.length) : Int))) then
  (bif (!(((x2677.getD (x2679.toNat) ({ data := #[] } : ByteArray)).toList) == ((x2678.getD (x2679.toNat) ({ data := #[] } : ByteArray)).toList))) then
  (k0 false)
  else (rec x2677 x2678 (IntKind.wrap .i64 (x2679 + (1 : Int)))))
  else none)
  else none)
  else none)
  else none)
  else k1)
noncomputable def F21_0_it {R : Type} (n : Nat) (k0 : Bool → Option R) (k1 : Option R) : Nat → List ByteArray → List ByteArray → Int → Option R
  | 0, _, _, _ => none
  | k + 1, x2677, x2678, x2679 => F21_0_step n k0 k1 (F21_0_it n k0 k1 k) x2677 x2678 x2679
noncomputable def F21_0 {R : Type} (n : Nat) (x2677 : List ByteArray) (x2678 : List ByteArray) (x2679 : Int) (k0 : Bool → Option R) (k1 : Option R) : Option R := F21_0_it n k0 k1 n x2677 x2678 x2679
noncomputable def F21_0z (n : Nat) : Sm G := inZ G 0 ⟨[0, 1, 5], []⟩ F21_0s fun R x K => F21_0_it n (fun u0 => K .ret (SSh.enc G F21_0x0 ((u0, ()), ()))) (K (.exit 0) (SSh.enc G F21_0x1 ((), ()))) n x.1.1 x.1.2.1 x.1.2.2.1
theorem F21_0_eq (n : Nat) (R : Type) (rec : SSh.den G F21_0s → Option R) (x : SSh.den G F21_0s) (K : AE → St G → Option R) :
  F21_0_step n (fun u0 => K .ret (SSh.enc G F21_0x0 ((u0, ()), ()))) (K (.exit 0) (SSh.enc G F21_0x1 ((), ()))) (fun x2677 x2678 x2679 => rec ((x2677, (x2678, (x2679, ()))), ())) x.1.1 x.1.2.1 x.1.2.2.1 = exec prog G (ro G (tabOf (E70 n)) (frOf []) R) 0 (codeAt F21c [1, 1, 0, 1, 0, 0]) .no (SSh.enc G F21_0s x) (kLoop G (ro G (tabOf (E70 n)) (frOf []) R) 0 ⟨[0, 1, 5], []⟩ F21_0s ⟨⟨[], []⟩, ⟨[4], []⟩, [(0, ⟨[], []⟩)]⟩ rec K) := by kernel_rfl
theorem F21_0_ok (n : Nat) : FragOK prog G 0 (codeAt F21c [1, 1, 0, 1, 0]) (F21_0z n) :=
  frag_loop (Z := fun R k (x : SSh.den G F21_0s) K => F21_0_it n (fun u0 => K .ret (SSh.enc G F21_0x0 ((u0, ()), ()))) (K (.exit 0) (SSh.enc G F21_0x1 ((), ()))) k x.1.1 x.1.2.1 x.1.2.2.1) laws fnok (E70_ok n).tab (AllF.of (l := []) (by kernel_rfl) AllF.nil) (fun _ _ _ => rfl) (fun R k y K => F21_0_eq n R (fun (x : SSh.den G F21_0s) => F21_0_it n (fun u0 => K .ret (SSh.enc G F21_0x0 ((u0, ()), ()))) (K (.exit 0) (SSh.enc G F21_0x1 ((), ()))) k x.1.1 x.1.2.1 x.1.2.2.1) y K) n
noncomputable def F21 (n : Nat) (a2672 : List ByteArray) (a2673 : List ByteArray) : Option (Bool × Unit) :=
  (bif (((a2672.length) : Int) != ((a2673.length) : Int)) then
  some (false, ())
  else (F21_0 n a2672 a2673 (0 : Int) (fun z2688 =>
  some (z2688, ())) (
  some (true, ()))))
noncomputable def F21e (n : Nat) : Ent G := ⟨21, (.cons (.imm 2) (.cons (.imm 2) .nil)), [], .bool, [], fun x y => F21 n x.1 x.2.1⟩
theorem F21_eq (n : Nat) (x : ShL.den G (.cons (.imm 2) (.cons (.imm 2) .nil))) (y : denO G []) : (F21e n).F x y = runFn prog G (ro G (tabOf (E70 n)) (frOf [F21_0z n]) _) Go.Proofs.Try.f21 (.nd .no (.nd .no (.nd (.nd .no (.nd (.use 0) .no)) .no))) [(0, .fz)] (ShL.enc G (.cons (.imm 2) (.cons (.imm 2) .nil)) x) (encO G [] y) (decR .bool []) := by kernel_rfl
theorem F21_ok (n : Nat) : EntOK prog G (F21e n) :=
  ent_ok (fr := frOf [F21_0z n]) (ann := (.nd .no (.nd .no (.nd (.nd .no (.nd (.use 0) .no)) .no)))) (frm := [(0, .fz)]) laws fnok (E70_ok n).tab (e := F21e n) (fn := Go.Proofs.Try.f21) (by kernel_rfl) (AllF.ofB (cd := F21c) (l := [(0, codeAt F21c [1, 1, 0, 1, 0])]) (by kernel_rfl) (by kernel_rfl) (AllF.cons (F21_0_ok n) AllF.nil)) (F21_eq n)
noncomputable def E71 (n : Nat) : List (Ent G) := F21e n :: E70 n
theorem E71_ok (n : Nat) : AllE prog G (E71 n) := AllE.cons (F21_ok n) (E70_ok n)
abbrev Q13RC : Type := (Int → ByteArray → List ByteArray → List Ex → Int → ByteArray → List ByteArray → List Ex → Option (Bool × Unit)) × (List Ex → List Ex → Option (Bool × Unit)) × Unit
noncomputable def Q13L (n : Nat) (rc : Q13RC) : List (Ent G) := ⟨13, (.cons (.agg (.cons (.int .i64) (.cons .str (.cons (.imm 2) (.cons (.imm 3) .nil))))) (.cons (.agg (.cons (.int .i64) (.cons .str (.cons (.imm 2) (.cons (.imm 3) .nil))))) .nil)), [], .bool, [], fun x y => rc.1 x.1.1 x.1.2.1 x.1.2.2.1 x.1.2.2.2.1 x.2.1.1 x.2.1.2.1 x.2.1.2.2.1 x.2.1.2.2.2.1⟩ :: ⟨35, (.cons (.imm 3) (.cons (.imm 3) .nil)), [], .bool, [], fun x y => rc.2.1 x.1 x.2.1⟩ :: E71 n
-- 13 loop.example/slowworm/laws.eqExpr
noncomputable def F13bc : Code := bodyOf Go.Proofs.Try.f13
noncomputable def F13b (n : Nat) (rc : Q13RC) (a2749 : Int) (a2750 : ByteArray) (a2751 : List ByteArray) (a2752 : List Ex) (a2753 : Int) (a2754 : ByteArray) (a2755 : List ByteArray) (a2756 : List Ex) : Option (Bool × Unit) :=
  (bif (a2749 != a2753) then
  some (false, ())
  else (bif (!((a2750.toList) == (a2754.toList))) then
  some (false, ())
  else (andThen (F21 n a2751 a2755) fun r2759 =>
  (bif (!r2759.1) then
  some (false, ())
  else (andThen (rc.2.1 a2752 a2756) fun r2761 =>
  (bif (!r2761.1) then
  some (false, ())
  else some (true, ())))))))
noncomputable def F13be (n : Nat) (rc : Q13RC) : Ent G := ⟨13, (.cons (.agg (.cons (.int .i64) (.cons .str (.cons (.imm 2) (.cons (.imm 3) .nil))))) (.cons (.agg (.cons (.int .i64) (.cons .str (.cons (.imm 2) (.cons (.imm 3) .nil))))) .nil)), [], .bool, [], fun x y => F13b n rc x.1.1 x.1.2.1 x.1.2.2.1 x.1.2.2.2.1 x.2.1.1 x.2.1.2.1 x.2.1.2.2.1 x.2.1.2.2.2.1⟩
theorem F13b_eq (n : Nat) (rc : Q13RC) (x : ShL.den G (.cons (.agg (.cons (.int .i64) (.cons .str (.cons (.imm 2) (.cons (.imm 3) .nil))))) (.cons (.agg (.cons (.int .i64) (.cons .str (.cons (.imm 2) (.cons (.imm 3) .nil))))) .nil))) (y : denO G []) : (F13be n rc).F x y = runFn prog G (ro G (tabOf (Q13L n rc)) (frOf []) _) Go.Proofs.Try.f13 .no [(0, .fz)] (ShL.enc G (.cons (.agg (.cons (.int .i64) (.cons .str (.cons (.imm 2) (.cons (.imm 3) .nil))))) (.cons (.agg (.cons (.int .i64) (.cons .str (.cons (.imm 2) (.cons (.imm 3) .nil))))) .nil)) x) (encO G [] y) (decR .bool []) := by kernel_rfl
theorem F13b_ok (n : Nat) (rc : Q13RC) (h : AllE prog G (Q13L n rc)) : EntOK prog G (F13be n rc) :=
  ent_ok (fr := frOf []) (ann := .no) (frm := [(0, .fz)]) laws fnok h.tab (e := F13be n rc) (fn := Go.Proofs.Try.f13) (by kernel_rfl) (AllF.ofB (cd := F13bc) (l := []) (by kernel_rfl) (by kernel_rfl) AllF.nil) (F13b_eq n rc)
-- 35 loop.example/slowworm/laws.eqExprS
noncomputable def F35bc : Code := bodyOf Go.Proofs.Try.f35
noncomputable def F35b_0x0 : SSh := ⟨27, [(4, .bool)], []⟩
noncomputable def F35b_0x1 : SSh := ⟨27, [], []⟩
noncomputable def F35b_0s : SSh := ⟨27, [(0, (.imm 3)), (1, (.imm 3)), (5, (.int .i64))], []⟩
noncomputable def F35b_0_step {R : Type} (n : Nat) (rc : Q13RC) (k0 : Bool → Option R) (k1 : Option R) (rec : List Ex → List Ex → Int → Option R) (x2768 : List Ex) (x2769 : List Ex) (x2770 : Int) : Option R :=
  (bif (decide (x2770 < ((x2768.length) : Int))) then
  (bif (decide ((0 : Int) ≤ x2770)) then
  (bif (decide (x2770 < ((x2768.length) : Int))) then
  let v2773 := (x2768.getD (x2770.toNat) (Ex.mk (0 : Int) ({ data := #[] } : ByteArray) [] []))
  (bif (decide ((0 : Int) ≤ x2770)) then
  (bif (decide (x2770 < ((x2769.length) : Int))) then
  let v2778 := (x2769.getD (x2770.toNat) (Ex.mk (0 : Int) ({ data := #[] } : ByteArray) [] []))
  (andThen (rc.1 v2773.kind v2773.text v2773.names v2773.kids v2778.kind v2778.text v2778.names v2778.kids) fun r2783 =>
  (bif (!r2783.1) then
  (k0 false)
  else (rec x2768 x2769 (IntKind.wrap .i64 (x2770 + (1 : Int))))))
  else none)
  else none)
  else none)
  else none)
  else k1)
noncomputable def F35b_0_it {R : Type} (n : Nat) (rc : Q13RC) (k0 : Bool → Option R) (k1 : Option R) : Nat → List Ex → List Ex → Int → Option R
  | 0, _, _, _ => none
  | k + 1, x2768, x2769, x2770 => F35b_0_step n rc k0 k1 (F35b_0_it n rc k0 k1 k) x2768 x2769 x2770
noncomputable def F35b_0 {R : Type} (n : Nat) (rc : Q13RC) (x2768 : List Ex) (x2769 : List Ex) (x2770 : Int) (k0 : Bool → Option R) (k1 : Option R) : Option R := F35b_0_it n rc k0 k1 n x2768 x2769 x2770
noncomputable def F35b_0z (n : Nat) (rc : Q13RC) : Sm G := inZ G 0 ⟨[0, 1, 5], []⟩ F35b_0s fun R x K => F35b_0_it n rc (fun u0 => K .ret (SSh.enc G F35b_0x0 ((u0, ()), ()))) (K (.exit 0) (SSh.enc G F35b_0x1 ((), ()))) n x.1.1 x.1.2.1 x.1.2.2.1
theorem F35b_0_eq (n : Nat) (rc : Q13RC) (R : Type) (rec : SSh.den G F35b_0s → Option R) (x : SSh.den G F35b_0s) (K : AE → St G → Option R) :
  F35b_0_step n rc (fun u0 => K .ret (SSh.enc G F35b_0x0 ((u0, ()), ()))) (K (.exit 0) (SSh.enc G F35b_0x1 ((), ()))) (fun x2768 x2769 x2770 => rec ((x2768, (x2769, (x2770, ()))), ())) x.1.1 x.1.2.1 x.1.2.2.1 = exec prog G (ro G (tabOf (Q13L n rc)) (frOf []) R) 0 (codeAt F35bc [1, 1, 0, 1, 0, 0]) .no (SSh.enc G F35b_0s x) (kLoop G (ro G (tabOf (Q13L n rc)) (frOf []) R) 0 ⟨[0, 1, 5], []⟩ F35b_0s ⟨⟨[], []⟩, ⟨[4], []⟩, [(0, ⟨[], []⟩)]⟩ rec K) := by kernel_rfl
theorem F35b_0_ok (n : Nat) (rc : Q13RC) (h : AllE prog G (Q13L n rc)) : FragOK prog G 0 (codeAt F35bc [1, 1, 0, 1, 0]) (F35b_0z n rc) :=
  frag_loop (Z := fun R k (x : SSh.den G F35b_0s) K => F35b_0_it n rc (fun u0 => K .ret (SSh.enc G F35b_0x0 ((u0, ()), ()))) (K (.exit 0) (SSh.enc G F35b_0x1 ((), ()))) k x.1.1 x.1.2.1 x.1.2.2.1) laws fnok h.tab (AllF.of (l := []) (by kernel_rfl) AllF.nil) (fun _ _ _ => rfl) (fun R k y K => F35b_0_eq n rc R (fun (x : SSh.den G F35b_0s) => F35b_0_it n rc (fun u0 => K .ret (SSh.enc G F35b_0x0 ((u0, ()), ()))) (K (.exit 0) (SSh.enc G F35b_0x1 ((), ()))) k x.1.1 x.1.2.1 x.1.2.2.1) y K) n
noncomputable def F35b (n : Nat) (rc : Q13RC) (a2763 : List Ex) (a2764 : List Ex) : Option (Bool × Unit) :=
  (bif (((a2763.length) : Int) != ((a2764.length) : Int)) then
  some (false, ())
  else (F35b_0 n rc a2763 a2764 (0 : Int) (fun z2786 =>
  some (z2786, ())) (
  some (true, ()))))
noncomputable def F35be (n : Nat) (rc : Q13RC) : Ent G := ⟨35, (.cons (.imm 3) (.cons (.imm 3) .nil)), [], .bool, [], fun x y => F35b n rc x.1 x.2.1⟩
theorem F35b_eq (n : Nat) (rc : Q13RC) (x : ShL.den G (.cons (.imm 3) (.cons (.imm 3) .nil))) (y : denO G []) : (F35be n rc).F x y = runFn prog G (ro G (tabOf (Q13L n rc)) (frOf [F35b_0z n rc]) _) Go.Proofs.Try.f35 (.nd .no (.nd .no (.nd (.nd .no (.nd (.use 0) .no)) .no))) [(0, .fz)] (ShL.enc G (.cons (.imm 3) (.cons (.imm 3) .nil)) x) (encO G [] y) (decR .bool []) := by kernel_rfl
theorem F35b_ok (n : Nat) (rc : Q13RC) (h : AllE prog G (Q13L n rc)) : EntOK prog G (F35be n rc) :=
  ent_ok (fr := frOf [F35b_0z n rc]) (ann := (.nd .no (.nd .no (.nd (.nd .no (.nd (.use 0) .no)) .no)))) (frm := [(0, .fz)]) laws fnok h.tab (e := F35be n rc) (fn := Go.Proofs.Try.f35) (by kernel_rfl) (AllF.ofB (cd := F35bc) (l := [(0, codeAt F35bc [1, 1, 0, 1, 0])]) (by kernel_rfl) (by kernel_rfl) (AllF.cons (F35b_0_ok n rc h) AllF.nil)) (F35b_eq n rc)
noncomputable def Q13it (n : Nat) : Nat → Q13RC
  | 0 => (fun _ _ _ _ _ _ _ _ => none, fun _ _ => none, ())
  | k + 1 => (F13b n (Q13it n k), F35b n (Q13it n k), ())
theorem Q13it_ok (n : Nat) : ∀ k, AllE prog G (Q13L n (Q13it n k))
  | 0 => (AllE.cons (EntOK.none fun _ _ => rfl) (AllE.cons (EntOK.none fun _ _ => rfl) (E71_ok n)))
  | k + 1 => (AllE.cons (F13b_ok n _ (Q13it_ok n k)) (AllE.cons (F35b_ok n _ (Q13it_ok n k)) (E71_ok n)))
noncomputable def F13 (n : Nat) (a0 : Int) (a1 : ByteArray) (a2 : List ByteArray) (a3 : List Ex) (a4 : Int) (a5 : ByteArray) (a6 : List ByteArray) (a7 : List Ex) : Option (Bool × Unit) := (Q13it n n).1 a0 a1 a2 a3 a4 a5 a6 a7
noncomputable def F13e (n : Nat) : Ent G := ⟨13, (.cons (.agg (.cons (.int .i64) (.cons .str (.cons (.imm 2) (.cons (.imm 3) .nil))))) (.cons (.agg (.cons (.int .i64) (.cons .str (.cons (.imm 2) (.cons (.imm 3) .nil))))) .nil)), [], .bool, [], fun x y => F13 n x.1.1 x.1.2.1 x.1.2.2.1 x.1.2.2.2.1 x.2.1.1 x.2.1.2.1 x.2.1.2.2.1 x.2.1.2.2.2.1⟩
noncomputable def F35 (n : Nat) (a0 : List Ex) (a1 : List Ex) : Option (Bool × Unit) := (Q13it n n).2.1 a0 a1
noncomputable def F35e (n : Nat) : Ent G := ⟨35, (.cons (.imm 3) (.cons (.imm 3) .nil)), [], .bool, [], fun x y => F35 n x.1 x.2.1⟩
noncomputable def E72 (n : Nat) : List (Ent G) := F13e n :: F35e n :: E71 n
theorem E72_ok (n : Nat) : AllE prog G (E72 n) := Q13it_ok n n
noncomputable def F3 (n : Nat) (a2458 : Int) (a2459 : ByteArray) (a2460 : List ByteArray) (a2461 : List Ex) : Option (Bool × Unit) :=
  (andThen (F9 n a2458 a2459 a2460 a2461 (1048576 : Int)) fun r2569 =>
  (bif (decide (r2569.1 < (0 : Int))) then
  some (true, ())
  else (andThen (F11 n a2458 a2459 a2460 a2461) fun r2651 =>
  (andThen (F10 n r2651.1.1 r2651.1.2.1 r2651.1.2.2.1 r2651.1.2.2.2.1) fun r2657 =>
  (andThen (F11 n a2458 a2459 a2460 a2461) fun r2658 =>
  (andThen (F12 n r2658.1.1 r2658.1.2.1 r2658.1.2.2.1 r2658.1.2.2.2.1) fun r2659 =>
  (bif (!(r2659.1 == r2657.1)) then
  some (false, ())
  else (andThen (F11 n a2458 a2459 a2460 a2461) fun r2661 =>
  (andThen (F13 n r2658.1.1 r2658.1.2.1 r2658.1.2.2.1 r2658.1.2.2.2.1 r2661.1.1 r2661.1.2.1 r2661.1.2.2.1 r2661.1.2.2.2.1) fun r2787 =>
  (bif (!r2787.1) then
  some (false, ())
  else some (true, ())))))))))))
noncomputable def F3e (n : Nat) : Ent G := ⟨3, (.cons (.agg (.cons (.int .i64) (.cons .str (.cons (.imm 2) (.cons (.imm 4) .nil))))) .nil), [], .bool, [], fun x y => F3 n x.1.1 x.1.2.1 x.1.2.2.1 x.1.2.2.2.1⟩
theorem F3_eq (n : Nat) (x : ShL.den G (.cons (.agg (.cons (.int .i64) (.cons .str (.cons (.imm 2) (.cons (.imm 4) .nil))))) .nil)) (y : denO G []) : (F3e n).F x y = runFn prog G (ro G (tabOf (E72 n)) (frOf []) _) Go.Proofs.Try.f3 .no [(0, .fz)] (ShL.enc G (.cons (.agg (.cons (.int .i64) (.cons .str (.cons (.imm 2) (.cons (.imm 4) .nil))))) .nil) x) (encO G [] y) (decR .bool []) := by kernel_rfl
theorem F3_ok (n : Nat) : EntOK prog G (F3e n) :=
  ent_ok (fr := frOf []) (ann := .no) (frm := [(0, .fz)]) laws fnok (E72_ok n).tab (e := F3e n) (fn := Go.Proofs.Try.f3) (by kernel_rfl) (AllF.ofB (cd := F3c) (l := []) (by kernel_rfl) (by kernel_rfl) AllF.nil) (F3_eq n)
noncomputable def E73 (n : Nat) : List (Ent G) := F3e n :: E72 n
theorem E73_ok (n : Nat) : AllE prog G (E73 n) := AllE.cons (F3_ok n) (E72_ok n)
-- 4 loop.example/slowworm/laws.FnExactExprSize
noncomputable def F4c : Code := bodyOf Go.Proofs.Try.f4
noncomputable def F4 (n : Nat) (a2789 : Int) (a2790 : ByteArray) (a2791 : List ByteArray) (a2792 : List Ex) : Option (Bool × Unit) :=
  (andThen (F9 n a2789 a2790 a2791 a2792 (1048576 : Int)) fun r2793 =>
  (bif (decide (r2793.1 < (0 : Int))) then
  some (true, ())
  else (andThen (F11 n a2789 a2790 a2791 a2792) fun r2795 =>
  (andThen (F14 n r2795.1.1 r2795.1.2.1 r2795.1.2.2.1 r2795.1.2.2.2.1) fun r2796 =>
  (andThen (F11 n a2789 a2790 a2791 a2792) fun r2797 =>
  (andThen (F15 n r2797.1.1 r2797.1.2.1 r2797.1.2.2.1 r2797.1.2.2.2.1) fun r2798 =>
  (bif (r2798.1 != r2796.1) then
  some (false, ())
  else (andThen (F11 n a2789 a2790 a2791 a2792) fun r2800 =>
  (andThen (F13 n r2797.1.1 r2797.1.2.1 r2797.1.2.2.1 r2797.1.2.2.2.1 r2800.1.1 r2800.1.2.1 r2800.1.2.2.1 r2800.1.2.2.2.1) fun r2801 =>
  (bif (!r2801.1) then
  some (false, ())
  else some (true, ())))))))))))
noncomputable def F4e (n : Nat) : Ent G := ⟨4, (.cons (.agg (.cons (.int .i64) (.cons .str (.cons (.imm 2) (.cons (.imm 4) .nil))))) .nil), [], .bool, [], fun x y => F4 n x.1.1 x.1.2.1 x.1.2.2.1 x.1.2.2.2.1⟩
theorem F4_eq (n : Nat) (x : ShL.den G (.cons (.agg (.cons (.int .i64) (.cons .str (.cons (.imm 2) (.cons (.imm 4) .nil))))) .nil)) (y : denO G []) : (F4e n).F x y = runFn prog G (ro G (tabOf (E73 n)) (frOf []) _) Go.Proofs.Try.f4 .no [(0, .fz)] (ShL.enc G (.cons (.agg (.cons (.int .i64) (.cons .str (.cons (.imm 2) (.cons (.imm 4) .nil))))) .nil) x) (encO G [] y) (decR .bool []) := by kernel_rfl
theorem F4_ok (n : Nat) : EntOK prog G (F4e n) :=
  ent_ok (fr := frOf []) (ann := .no) (frm := [(0, .fz)]) laws fnok (E73_ok n).tab (e := F4e n) (fn := Go.Proofs.Try.f4) (by kernel_rfl) (AllF.ofB (cd := F4c) (l := []) (by kernel_rfl) (by kernel_rfl) AllF.nil) (F4_eq n)
noncomputable def E74 (n : Nat) : List (Ent G) := F4e n :: E73 n
theorem E74_ok (n : Nat) : AllE prog G (E74 n) := AllE.cons (F4_ok n) (E73_ok n)
-- 5 loop.example/slowworm/laws.FnExactExprSame
noncomputable def F5c : Code := bodyOf Go.Proofs.Try.f5
-- 16 loop.example/slowworm/spec.ExprSame
noncomputable def F16c : Code := bodyOf Go.Proofs.Try.f16
abbrev Q38RC : Type := (Int → ByteArray → List ByteArray → List Ex → Int → ByteArray → List ByteArray → List Ex → Option (Bool × Unit)) × Unit
noncomputable def Q38L (n : Nat) (rc : Q38RC) : List (Ent G) := ⟨38, (.cons (.agg (.cons (.int .i64) (.cons .str (.cons (.imm 2) (.cons (.imm 3) .nil))))) (.cons (.agg (.cons (.int .i64) (.cons .str (.cons (.imm 2) (.cons (.imm 3) .nil))))) .nil)), [], .bool, [], fun x y => rc.1 x.1.1 x.1.2.1 x.1.2.2.1 x.1.2.2.2.1 x.2.1.1 x.2.1.2.1 x.2.1.2.2.1 x.2.1.2.2.2.1⟩ :: E74 n
-- 38 loop.example/slowworm/spec.sameExpr
noncomputable def F38bc : Code := bodyOf Go.Proofs.Try.f38
noncomputable def F38b_0x0 : SSh := ⟨54, [(4, .bool)], []⟩
noncomputable def F38b_0x1 : SSh := ⟨54, [], []⟩
noncomputable def F38b_0s : SSh := ⟨54, [(2, (.ptr 0 0)), (3, (.ptr 1 0)), (5, (.int .i64))], [(.box 30 (.cons (.int .i64) (.cons .str (.cons (.imm 2) (.cons (.imm 3) .nil))))), (.box 30 (.cons (.int .i64) (.cons .str (.cons (.imm 2) (.cons (.imm 3) .nil)))))]⟩
noncomputable def F38b_0_step {R : Type} (n : Nat) (rc : Q38RC) (k0 : Bool → Option R) (k1 : Option R) (rec : Int → Int → ByteArray → List ByteArray → List Ex → Int → ByteArray → List ByteArray → List Ex → Option R) (x2918 : Int) (x2919 : Int) (x2920 : ByteArray) (x2921 : List ByteArray) (x2922 : List Ex) (x2923 : Int) (x2924 : ByteArray) (x2925 : List ByteArray) (x2926 : List Ex) : Option R :=
  (bif (decide (x2918 < ((x2922.length) : Int))) then
  (bif (decide ((0 : Int) ≤ x2918)) then
  (bif (decide (x2918 < ((x2922.length) : Int))) then
  let v2929 := (x2922.getD (x2918.toNat) (Ex.mk (0 : Int) ({ data := #[] } : ByteArray) [] []))
  (bif (decide ((0 : Int) ≤ x2918)) then
  (bif (decide (x2918 < ((x2926.length) : Int))) then
  let v2934 := (x2926.getD (x2918.toNat) (Ex.mk (0 : Int) ({ data := #[] } : ByteArray) [] []))
  (andThen (rc.1 v2929.kind v2929.text v2929.names v2929.kids v2934.kind v2934.text v2934.names v2934.kids) fun r2939 =>
  (bif (!r2939.1) then
  (k0 false)
  else (rec (IntKind.wrap .i64 (x2918 + (1 : Int))) x2919 x2920 x2921 x2922 x2923 x2924 x2925 x2926)))
  else none)
  else none)
  else none)
  else none)
  else k1)
noncomputable def F38b_0_it {R : Type} (n : Nat) (rc : Q38RC) (k0 : Bool → Option R) (k1 : Option R) : Nat → Int → Int → ByteArray → List ByteArray → List Ex → Int → ByteArray → List ByteArray → List Ex → Option R
  | 0, _, _, _, _, _, _, _, _, _ => none
  | k + 1, x2918, x2919, x2920, x2921, x2922, x2923, x2924, x2925, x2926 => F38b_0_step n rc k0 k1 (F38b_0_it n rc k0 k1 k) x2918 x2919 x2920 x2921 x2922 x2923 x2924 x2925 x2926
noncomputable def F38b_0 {R : Type} (n : Nat) (rc : Q38RC) (x2918 : Int) (x2919 : Int) (x2920 : ByteArray) (x2921 : List ByteArray) (x2922 : List Ex) (x2923 : Int) (x2924 : ByteArray) (x2925 : List ByteArray) (x2926 : List Ex) (k0 : Bool → Option R) (k1 : Option R) : Option R := F38b_0_it n rc k0 k1 n x2918 x2919 x2920 x2921 x2922 x2923 x2924 x2925 x2926
noncomputable def F38b_0z (n : Nat) (rc : Q38RC) : Sm G := inZ G 0 ⟨[2, 3, 5], []⟩ F38b_0s fun R x K => F38b_0_it n rc (fun u0 => K .ret (SSh.enc G F38b_0x0 ((u0, ()), ()))) (K (.exit 0) (SSh.enc G F38b_0x1 ((), ()))) n x.1.2.2.1 x.2.1.1 x.2.1.2.1 x.2.1.2.2.1 x.2.1.2.2.2.1 x.2.2.1.1 x.2.2.1.2.1 x.2.2.1.2.2.1 x.2.2.1.2.2.2.1
theorem F38b_0_eq (n : Nat) (rc : Q38RC) (R : Type) (rec : SSh.den G F38b_0s → Option R) (x : SSh.den G F38b_0s) (K : AE → St G → Option R) :
  F38b_0_step n rc (fun u0 => K .ret (SSh.enc G F38b_0x0 ((u0, ()), ()))) (K (.exit 0) (SSh.enc G F38b_0x1 ((), ()))) (fun x2918 x2919 x2920 x2921 x2922 x2923 x2924 x2925 x2926 => rec (((), ((), (x2918, ()))), ((x2919, (x2920, (x2921, (x2922, ())))), ((x2923, (x2924, (x2925, (x2926, ())))), ())))) x.1.2.2.1 x.2.1.1 x.2.1.2.1 x.2.1.2.2.1 x.2.1.2.2.2.1 x.2.2.1.1 x.2.2.1.2.1 x.2.2.1.2.2.1 x.2.2.1.2.2.2.1 = exec prog G (ro G (tabOf (Q38L n rc)) (frOf []) R) 0 (codeAt F38bc [1, 1, 0, 1, 0, 0]) .no (SSh.enc G F38b_0s x) (kLoop G (ro G (tabOf (Q38L n rc)) (frOf []) R) 0 ⟨[2, 3, 5], []⟩ F38b_0s ⟨⟨[], []⟩, ⟨[4], []⟩, [(0, ⟨[], []⟩)]⟩ rec K) := by kernel_rfl
theorem F38b_0_ok (n : Nat) (rc : Q38RC) (h : AllE prog G (Q38L n rc)) : FragOK prog G 0 (codeAt F38bc [1, 1, 0, 1, 0]) (F38b_0z n rc) :=
  frag_loop (Z := fun R k (x : SSh.den G F38b_0s) K => F38b_0_it n rc (fun u0 => K .ret (SSh.enc G F38b_0x0 ((u0, ()), ()))) (K (.exit 0) (SSh.enc G F38b_0x1 ((), ()))) k x.1.2.2.1 x.2.1.1 x.2.1.2.1 x.2.1.2.2.1 x.2.1.2.2.2.1 x.2.2.1.1 x.2.2.1.2.1 x.2.2.1.2.2.1 x.2.2.1.2.2.2.1) laws fnok h.tab (AllF.of (l := []) (by kernel_rfl) AllF.nil) (fun _ _ _ => rfl) (fun R k y K => F38b_0_eq n rc R (fun (x : SSh.den G F38b_0s) => F38b_0_it n rc (fun u0 => K .ret (SSh.enc G F38b_0x0 ((u0, ()), ()))) (K (.exit 0) (SSh.enc G F38b_0x1 ((), ()))) k x.1.2.2.1 x.2.1.1 x.2.1.2.1 x.2.1.2.2.1 x.2.1.2.2.2.1 x.2.2.1.1 x.2.2.1.2.1 x.2.2.1.2.2.1 x.2.2.1.2.2.2.1) y K) n
noncomputable def F38b (n : Nat) (rc : Q38RC) (a2903 : Int) (a2904 : ByteArray) (a2905 : List ByteArray) (a2906 : List Ex) (a2907 : Int) (a2908 : ByteArray) (a2909 : List ByteArray) (a2910 : List Ex) : Option (Bool × Unit) :=
  (bif (a2903 != a2907) then
  some (false, ())
  else (bif (!((a2904.toList) == (a2908.toList))) then
  some (false, ())
  else (bif (((a2906.length) : Int) != ((a2910.length) : Int)) then
  some (false, ())
  else (andThen (F48 n a2905 a2909) fun r2916 =>
  (bif (!r2916.1) then
  some (false, ())
  else (F38b_0 n rc (0 : Int) a2903 a2904 a2905 a2906 a2907 a2908 a2909 a2910 (fun z2942 =>
  some (z2942, ())) (
  some (true, ()))))))))
noncomputable def F38be (n : Nat) (rc : Q38RC) : Ent G := ⟨38, (.cons (.agg (.cons (.int .i64) (.cons .str (.cons (.imm 2) (.cons (.imm 3) .nil))))) (.cons (.agg (.cons (.int .i64) (.cons .str (.cons (.imm 2) (.cons (.imm 3) .nil))))) .nil)), [], .bool, [], fun x y => F38b n rc x.1.1 x.1.2.1 x.1.2.2.1 x.1.2.2.2.1 x.2.1.1 x.2.1.2.1 x.2.1.2.2.1 x.2.1.2.2.2.1⟩
theorem F38b_eq (n : Nat) (rc : Q38RC) (x : ShL.den G (.cons (.agg (.cons (.int .i64) (.cons .str (.cons (.imm 2) (.cons (.imm 3) .nil))))) (.cons (.agg (.cons (.int .i64) (.cons .str (.cons (.imm 2) (.cons (.imm 3) .nil))))) .nil))) (y : denO G []) : (F38be n rc).F x y = runFn prog G (ro G (tabOf (Q38L n rc)) (frOf [F38b_0z n rc]) _) Go.Proofs.Try.f38 (.nd .no (.nd .no (.nd (.nd .no (.nd (.use 0) .no)) .no))) [(0, .fz)] (ShL.enc G (.cons (.agg (.cons (.int .i64) (.cons .str (.cons (.imm 2) (.cons (.imm 3) .nil))))) (.cons (.agg (.cons (.int .i64) (.cons .str (.cons (.imm 2) (.cons (.imm 3) .nil))))) .nil)) x) (encO G [] y) (decR .bool []) := by kernel_rfl
theorem F38b_ok (n : Nat) (rc : Q38RC) (h : AllE prog G (Q38L n rc)) : EntOK prog G (F38be n rc) :=
  ent_ok (fr := frOf [F38b_0z n rc]) (ann := (.nd .no (.nd .no (.nd (.nd .no (.nd (.use 0) .no)) .no)))) (frm := [(0, .fz)]) laws fnok h.tab (e := F38be n rc) (fn := Go.Proofs.Try.f38) (by kernel_rfl) (AllF.ofB (cd := F38bc) (l := [(0, codeAt F38bc [1, 1, 0, 1, 0])]) (by kernel_rfl) (by kernel_rfl) (AllF.cons (F38b_0_ok n rc h) AllF.nil)) (F38b_eq n rc)
noncomputable def Q38it (n : Nat) : Nat → Q38RC
  | 0 => (fun _ _ _ _ _ _ _ _ => none, ())
  | k + 1 => (F38b n (Q38it n k), ())
theorem Q38it_ok (n : Nat) : ∀ k, AllE prog G (Q38L n (Q38it n k))
  | 0 => (AllE.cons (EntOK.none fun _ _ => rfl) (E74_ok n))
  | k + 1 => (AllE.cons (F38b_ok n _ (Q38it_ok n k)) (E74_ok n))
noncomputable def F38 (n : Nat) (a0 : Int) (a1 : ByteArray) (a2 : List ByteArray) (a3 : List Ex) (a4 : Int) (a5 : ByteArray) (a6 : List ByteArray) (a7 : List Ex) : Option (Bool × Unit) := (Q38it n n).1 a0 a1 a2 a3 a4 a5 a6 a7
noncomputable def F38e (n : Nat) : Ent G := ⟨38, (.cons (.agg (.cons (.int .i64) (.cons .str (.cons (.imm 2) (.cons (.imm 3) .nil))))) (.cons (.agg (.cons (.int .i64) (.cons .str (.cons (.imm 2) (.cons (.imm 3) .nil))))) .nil)), [], .bool, [], fun x y => F38 n x.1.1 x.1.2.1 x.1.2.2.1 x.1.2.2.2.1 x.2.1.1 x.2.1.2.1 x.2.1.2.2.1 x.2.1.2.2.2.1⟩
noncomputable def E75 (n : Nat) : List (Ent G) := F38e n :: E74 n
theorem E75_ok (n : Nat) : AllE prog G (E75 n) := Q38it_ok n n
noncomputable def F16 (n : Nat) (a2817 : Int) (a2818 : ByteArray) (a2819 : List ByteArray) (a2820 : List Ex) (a2821 : Int) (a2822 : ByteArray) (a2823 : List ByteArray) (a2824 : List Ex) : Option (Bool × Unit) :=
  (andThen (F31 n a2817 a2818 a2819 a2820 (7 : Int)) fun r2825 =>
  (bif r2825.1 then
  (andThen (F31 n a2821 a2822 a2823 a2824 (7 : Int)) fun r2826 =>
  (bif r2826.1 then
  (andThen (F38 n a2817 a2818 a2819 a2820 a2821 a2822 a2823 a2824) fun r2943 =>
  some (r2943.1, ()))
  else some (false, ())))
  else some (false, ())))
noncomputable def F16e (n : Nat) : Ent G := ⟨16, (.cons (.agg (.cons (.int .i64) (.cons .str (.cons (.imm 2) (.cons (.imm 3) .nil))))) (.cons (.agg (.cons (.int .i64) (.cons .str (.cons (.imm 2) (.cons (.imm 3) .nil))))) .nil)), [], .bool, [], fun x y => F16 n x.1.1 x.1.2.1 x.1.2.2.1 x.1.2.2.2.1 x.2.1.1 x.2.1.2.1 x.2.1.2.2.1 x.2.1.2.2.2.1⟩
theorem F16_eq (n : Nat) (x : ShL.den G (.cons (.agg (.cons (.int .i64) (.cons .str (.cons (.imm 2) (.cons (.imm 3) .nil))))) (.cons (.agg (.cons (.int .i64) (.cons .str (.cons (.imm 2) (.cons (.imm 3) .nil))))) .nil))) (y : denO G []) : (F16e n).F x y = runFn prog G (ro G (tabOf (E75 n)) (frOf []) _) Go.Proofs.Try.f16 .no [(0, .fz)] (ShL.enc G (.cons (.agg (.cons (.int .i64) (.cons .str (.cons (.imm 2) (.cons (.imm 3) .nil))))) (.cons (.agg (.cons (.int .i64) (.cons .str (.cons (.imm 2) (.cons (.imm 3) .nil))))) .nil)) x) (encO G [] y) (decR .bool []) := by kernel_rfl
theorem F16_ok (n : Nat) : EntOK prog G (F16e n) :=
  ent_ok (fr := frOf []) (ann := .no) (frm := [(0, .fz)]) laws fnok (E75_ok n).tab (e := F16e n) (fn := Go.Proofs.Try.f16) (by kernel_rfl) (AllF.ofB (cd := F16c) (l := []) (by kernel_rfl) (by kernel_rfl) AllF.nil) (F16_eq n)
noncomputable def E76 (n : Nat) : List (Ent G) := F16e n :: E75 n
theorem E76_ok (n : Nat) : AllE prog G (E76 n) := AllE.cons (F16_ok n) (E75_ok n)
-- 17 loop.example/slowworm/impl.ExprSame
noncomputable def F17c : Code := bodyOf Go.Proofs.Try.f17
-- 55 slices.Equal[[]string,string]
noncomputable def F55c : Code := bodyOf Go.Proofs.Try.f55
noncomputable def F55_0x0 : SSh := ⟨26, [(4, .bool)], []⟩
noncomputable def F55_0x1 : SSh := ⟨26, [], []⟩
noncomputable def F55_0s : SSh := ⟨26, [(0, (.imm 2)), (1, (.imm 2)), (12, (.int .i64)), (13, (.int .i64))], []⟩
noncomputable def F55_0_step {R : Type} (n : Nat) (k0 : Bool → Option R) (k1 : Option R) (rec : List ByteArray → List ByteArray → Int → Int → Option R) (x2973 : List ByteArray) (x2974 : List ByteArray) (x2975 : Int) (x2976 : Int) : Option R :=
  (bif (decide (x2976 < x2975)) then
  (bif (decide ((0 : Int) ≤ x2976)) then
  (bif (decide (x2976 < ((x2973.length) : Int))) then
  (bif (decide ((0 : Int) ≤ x2976)) then
  (bif (decide (x2976 < ((x2974.length) : Int))) then
  (bif (!(((x2973.getD (x2976.toNat) ({ data := #[] } : ByteArray)).toList) == ((x2974.getD (x2976.toNat) ({ data := #[] } : ByteArray)).toList))) then
  (k0 false)
  else (rec x2973 x2974 x2975 (IntKind.wrap .i64 (x2976 + (1 : Int)))))
  else none)
  else none)
  else none)
  else none)
  else k1)
noncomputable def F55_0_it {R : Type} (n : Nat) (k0 : Bool → Option R) (k1 : Option R) : Nat → List ByteArray → List ByteArray → Int → Int → Option R
  | 0, _, _, _, _ => none
  | k + 1, x2973, x2974, x2975, x2976 => F55_0_step n k0 k1 (F55_0_it n k0 k1 k) x2973 x2974 x2975 x2976
noncomputable def F55_0 {R : Type} (n : Nat) (x2973 : List ByteArray) (x2974 : List ByteArray) (x2975 : Int) (x2976 : Int) (k0 : Bool → Option R) (k1 : Option R) : Option R := F55_0_it n k0 k1 n x2973 x2974 x2975 x2976
noncomputable def F55_0z (n : Nat) : Sm G := inZ G 0 ⟨[0, 1, 12, 13], []⟩ F55_0s fun R x K => F55_0_it n (fun u0 => K .ret (SSh.enc G F55_0x0 ((u0, ()), ()))) (K (.exit 0) (SSh.enc G F55_0x1 ((), ()))) n x.1.1 x.1.2.1 x.1.2.2.1 x.1.2.2.2.1
theorem F55_0_eq (n : Nat) (R : Type) (rec : SSh.den G F55_0s → Option R) (x : SSh.den G F55_0s) (K : AE → St G → Option R) :
  F55_0_step n (fun u0 => K .ret (SSh.enc G F55_0x0 ((u0, ()), ()))) (K (.exit 0) (SSh.enc G F55_0x1 ((), ()))) (fun x2973 x2974 x2975 x2976 => rec ((x2973, (x2974, (x2975, (x2976, ())))), ())) x.1.1 x.1.2.1 x.1.2.2.1 x.1.2.2.2.1 = exec prog G (ro G (tabOf (E76 n)) (frOf []) R) 0 (codeAt F55c [1, 1, 0, 1, 0, 0]) .no (SSh.enc G F55_0s x) (kLoop G (ro G (tabOf (E76 n)) (frOf []) R) 0 ⟨[0, 1, 12, 13], []⟩ F55_0s ⟨⟨[], []⟩, ⟨[4], []⟩, [(0, ⟨[], []⟩)]⟩ rec K) := by kernel_rfl
theorem F55_0_ok (n : Nat) : FragOK prog G 0 (codeAt F55c [1, 1, 0, 1, 0]) (F55_0z n) :=
  frag_loop (Z := fun R k (x : SSh.den G F55_0s) K => F55_0_it n (fun u0 => K .ret (SSh.enc G F55_0x0 ((u0, ()), ()))) (K (.exit 0) (SSh.enc G F55_0x1 ((), ()))) k x.1.1 x.1.2.1 x.1.2.2.1 x.1.2.2.2.1) laws fnok (E76_ok n).tab (AllF.of (l := []) (by kernel_rfl) AllF.nil) (fun _ _ _ => rfl) (fun R k y K => F55_0_eq n R (fun (x : SSh.den G F55_0s) => F55_0_it n (fun u0 => K .ret (SSh.enc G F55_0x0 ((u0, ()), ()))) (K (.exit 0) (SSh.enc G F55_0x1 ((), ()))) k x.1.1 x.1.2.1 x.1.2.2.1 x.1.2.2.2.1) y K) n
noncomputable def F55 (n : Nat) (a2967 : List ByteArray) (a2968 : List ByteArray) : Option (Bool × Unit) :=
  (bif (((a2967.length) : Int) != ((a2968.length) : Int)) then
  some (false, ())
  else (F55_0 n a2967 a2968 ((a2967.length) : Int) (0 : Int) (fun z2984 =>
  some (z2984, ())) (
  some (true, ()))))
noncomputable def F55e (n : Nat) : Ent G := ⟨55, (.cons (.imm 2) (.cons (.imm 2) .nil)), [], .bool, [], fun x y => F55 n x.1 x.2.1⟩
theorem F55_eq (n : Nat) (x : ShL.den G (.cons (.imm 2) (.cons (.imm 2) .nil))) (y : denO G []) : (F55e n).F x y = runFn prog G (ro G (tabOf (E76 n)) (frOf [F55_0z n]) _) Go.Proofs.Try.f55 (.nd .no (.nd .no (.nd (.nd .no (.nd (.use 0) .no)) .no))) [(0, .fz)] (ShL.enc G (.cons (.imm 2) (.cons (.imm 2) .nil)) x) (encO G [] y) (decR .bool []) := by kernel_rfl
theorem F55_ok (n : Nat) : EntOK prog G (F55e n) :=
  ent_ok (fr := frOf [F55_0z n]) (ann := (.nd .no (.nd .no (.nd (.nd .no (.nd (.use 0) .no)) .no)))) (frm := [(0, .fz)]) laws fnok (E76_ok n).tab (e := F55e n) (fn := Go.Proofs.Try.f55) (by kernel_rfl) (AllF.ofB (cd := F55c) (l := [(0, codeAt F55c [1, 1, 0, 1, 0])]) (by kernel_rfl) (by kernel_rfl) (AllF.cons (F55_0_ok n) AllF.nil)) (F55_eq n)
noncomputable def E77 (n : Nat) : List (Ent G) := F55e n :: E76 n
theorem E77_ok (n : Nat) : AllE prog G (E77 n) := AllE.cons (F55_ok n) (E76_ok n)
abbrev Q39RC : Type := (Int → ByteArray → List ByteArray → List Ex → Int → ByteArray → List ByteArray → List Ex → Option (Bool × Unit)) × (List Ex → List Ex → Option (Bool × Unit)) × Unit
noncomputable def Q39L (n : Nat) (rc : Q39RC) : List (Ent G) := ⟨39, (.cons (.agg (.cons (.int .i64) (.cons .str (.cons (.imm 2) (.cons (.imm 3) .nil))))) (.cons (.agg (.cons (.int .i64) (.cons .str (.cons (.imm 2) (.cons (.imm 3) .nil))))) .nil)), [], .bool, [], fun x y => rc.1 x.1.1 x.1.2.1 x.1.2.2.1 x.1.2.2.2.1 x.2.1.1 x.2.1.2.1 x.2.1.2.2.1 x.2.1.2.2.2.1⟩ :: ⟨56, (.cons (.imm 3) (.cons (.imm 3) (.cons (.clo 39 .nil) .nil))), [], .bool, [], fun x y => rc.2.1 x.1 x.2.1⟩ :: E77 n
-- 39 (loop.example/slowworm/impl.Expr).same
noncomputable def F39bc : Code := bodyOf Go.Proofs.Try.f39
noncomputable def F39b (n : Nat) (rc : Q39RC) (a3044 : Int) (a3045 : ByteArray) (a3046 : List ByteArray) (a3047 : List Ex) (a3048 : Int) (a3049 : ByteArray) (a3050 : List ByteArray) (a3051 : List Ex) : Option (Bool × Unit) :=
  (bif (a3044 == a3048) then
  (bif ((a3045.toList) == (a3049.toList)) then
  (andThen (F55 n a3046 a3050) fun r3054 =>
  (bif r3054.1 then
  (andThen (rc.2.1 a3047 a3051) fun r3055 =>
  some (r3055.1, ()))
  else some (false, ())))
  else some (false, ()))
  else some (false, ()))
noncomputable def F39be (n : Nat) (rc : Q39RC) : Ent G := ⟨39, (.cons (.agg (.cons (.int .i64) (.cons .str (.cons (.imm 2) (.cons (.imm 3) .nil))))) (.cons (.agg (.cons (.int .i64) (.cons .str (.cons (.imm 2) (.cons (.imm 3) .nil))))) .nil)), [], .bool, [], fun x y => F39b n rc x.1.1 x.1.2.1 x.1.2.2.1 x.1.2.2.2.1 x.2.1.1 x.2.1.2.1 x.2.1.2.2.1 x.2.1.2.2.2.1⟩
theorem F39b_eq (n : Nat) (rc : Q39RC) (x : ShL.den G (.cons (.agg (.cons (.int .i64) (.cons .str (.cons (.imm 2) (.cons (.imm 3) .nil))))) (.cons (.agg (.cons (.int .i64) (.cons .str (.cons (.imm 2) (.cons (.imm 3) .nil))))) .nil))) (y : denO G []) : (F39be n rc).F x y = runFn prog G (ro G (tabOf (Q39L n rc)) (frOf []) _) Go.Proofs.Try.f39 .no [(0, .fz)] (ShL.enc G (.cons (.agg (.cons (.int .i64) (.cons .str (.cons (.imm 2) (.cons (.imm 3) .nil))))) (.cons (.agg (.cons (.int .i64) (.cons .str (.cons (.imm 2) (.cons (.imm 3) .nil))))) .nil)) x) (encO G [] y) (decR .bool []) := by kernel_rfl
theorem F39b_ok (n : Nat) (rc : Q39RC) (h : AllE prog G (Q39L n rc)) : EntOK prog G (F39be n rc) :=
  ent_ok (fr := frOf []) (ann := .no) (frm := [(0, .fz)]) laws fnok h.tab (e := F39be n rc) (fn := Go.Proofs.Try.f39) (by kernel_rfl) (AllF.ofB (cd := F39bc) (l := []) (by kernel_rfl) (by kernel_rfl) AllF.nil) (F39b_eq n rc)
-- 56 slices.EqualFunc[[]loop.example/slowworm/impl.Expr,[]loop.example/slowworm/impl.Expr,loop.example/slowworm/impl.Expr,loop.example/slowworm/impl.Expr]
noncomputable def F56bc : Code := bodyOf Go.Proofs.Try.f56
noncomputable def F56b_0x0 : SSh := ⟨32, [(6, .bool)], []⟩
noncomputable def F56b_0x1 : SSh := ⟨32, [], []⟩
noncomputable def F56b_0s : SSh := ⟨32, [(1, (.imm 3)), (2, (.clo 39 .nil)), (15, (.imm 3)), (16, (.int .i64)), (17, (.int .i64))], []⟩
noncomputable def F56b_0_step {R : Type} (n : Nat) (rc : Q39RC) (k0 : Bool → Option R) (k1 : Option R) (rec : List Ex → List Ex → Int → Int → Option R) (x3062 : List Ex) (x3063 : List Ex) (x3064 : Int) (x3065 : Int) : Option R :=
  (bif (decide (x3065 < x3064)) then
  (bif (decide ((0 : Int) ≤ x3065)) then
  (bif (decide (x3065 < ((x3063.length) : Int))) then
  let v3067 := (x3063.getD (x3065.toNat) (Ex.mk (0 : Int) ({ data := #[] } : ByteArray) [] []))
  (bif (decide ((0 : Int) ≤ x3065)) then
  (bif (decide (x3065 < ((x3062.length) : Int))) then
  let v3072 := (x3062.getD (x3065.toNat) (Ex.mk (0 : Int) ({ data := #[] } : ByteArray) [] []))
  (andThen (rc.1 v3067.kind v3067.text v3067.names v3067.kids v3072.kind v3072.text v3072.names v3072.kids) fun r3077 =>
  (bif (!r3077.1) then
  (k0 false)
  else (rec x3062 x3063 x3064 (IntKind.wrap .i64 (x3065 + (1 : Int))))))
  else none)
  else none)
  else none)
  else none)
  else k1)
noncomputable def F56b_0_it {R : Type} (n : Nat) (rc : Q39RC) (k0 : Bool → Option R) (k1 : Option R) : Nat → List Ex → List Ex → Int → Int → Option R
  | 0, _, _, _, _ => none
  | k + 1, x3062, x3063, x3064, x3065 => F56b_0_step n rc k0 k1 (F56b_0_it n rc k0 k1 k) x3062 x3063 x3064 x3065
noncomputable def F56b_0 {R : Type} (n : Nat) (rc : Q39RC) (x3062 : List Ex) (x3063 : List Ex) (x3064 : Int) (x3065 : Int) (k0 : Bool → Option R) (k1 : Option R) : Option R := F56b_0_it n rc k0 k1 n x3062 x3063 x3064 x3065
noncomputable def F56b_0z (n : Nat) (rc : Q39RC) : Sm G := inZ G 0 ⟨[1, 2, 15, 16, 17], []⟩ F56b_0s fun R x K => F56b_0_it n rc (fun u0 => K .ret (SSh.enc G F56b_0x0 ((u0, ()), ()))) (K (.exit 0) (SSh.enc G F56b_0x1 ((), ()))) n x.1.1 x.1.2.2.1 x.1.2.2.2.1 x.1.2.2.2.2.1
theorem F56b_0_eq (n : Nat) (rc : Q39RC) (R : Type) (rec : SSh.den G F56b_0s → Option R) (x : SSh.den G F56b_0s) (K : AE → St G → Option R) :
  F56b_0_step n rc (fun u0 => K .ret (SSh.enc G F56b_0x0 ((u0, ()), ()))) (K (.exit 0) (SSh.enc G F56b_0x1 ((), ()))) (fun x3062 x3063 x3064 x3065 => rec ((x3062, ((), (x3063, (x3064, (x3065, ()))))), ())) x.1.1 x.1.2.2.1 x.1.2.2.2.1 x.1.2.2.2.2.1 = exec prog G (ro G (tabOf (Q39L n rc)) (frOf []) R) 0 (codeAt F56bc [1, 1, 0, 1, 0, 0]) .no (SSh.enc G F56b_0s x) (kLoop G (ro G (tabOf (Q39L n rc)) (frOf []) R) 0 ⟨[1, 2, 15, 16, 17], []⟩ F56b_0s ⟨⟨[], []⟩, ⟨[6], []⟩, [(0, ⟨[], []⟩)]⟩ rec K) := by kernel_rfl
theorem F56b_0_ok (n : Nat) (rc : Q39RC) (h : AllE prog G (Q39L n rc)) : FragOK prog G 0 (codeAt F56bc [1, 1, 0, 1, 0]) (F56b_0z n rc) :=
  frag_loop (Z := fun R k (x : SSh.den G F56b_0s) K => F56b_0_it n rc (fun u0 => K .ret (SSh.enc G F56b_0x0 ((u0, ()), ()))) (K (.exit 0) (SSh.enc G F56b_0x1 ((), ()))) k x.1.1 x.1.2.2.1 x.1.2.2.2.1 x.1.2.2.2.2.1) laws fnok h.tab (AllF.of (l := []) (by kernel_rfl) AllF.nil) (fun _ _ _ => rfl) (fun R k y K => F56b_0_eq n rc R (fun (x : SSh.den G F56b_0s) => F56b_0_it n rc (fun u0 => K .ret (SSh.enc G F56b_0x0 ((u0, ()), ()))) (K (.exit 0) (SSh.enc G F56b_0x1 ((), ()))) k x.1.1 x.1.2.2.1 x.1.2.2.2.1 x.1.2.2.2.2.1) y K) n
noncomputable def F56b (n : Nat) (rc : Q39RC) (a3056 : List Ex) (a3057 : List Ex) : Option (Bool × Unit) :=
  (bif (((a3056.length) : Int) != ((a3057.length) : Int)) then
  some (false, ())
  else (F56b_0 n rc a3057 a3056 ((a3056.length) : Int) (0 : Int) (fun z3080 =>
  some (z3080, ())) (
  some (true, ()))))
noncomputable def F56be (n : Nat) (rc : Q39RC) : Ent G := ⟨56, (.cons (.imm 3) (.cons (.imm 3) (.cons (.clo 39 .nil) .nil))), [], .bool, [], fun x y => F56b n rc x.1 x.2.1⟩
theorem F56b_eq (n : Nat) (rc : Q39RC) (x : ShL.den G (.cons (.imm 3) (.cons (.imm 3) (.cons (.clo 39 .nil) .nil)))) (y : denO G []) : (F56be n rc).F x y = runFn prog G (ro G (tabOf (Q39L n rc)) (frOf [F56b_0z n rc]) _) Go.Proofs.Try.f56 (.nd .no (.nd .no (.nd (.nd .no (.nd (.use 0) .no)) .no))) [(0, .fz)] (ShL.enc G (.cons (.imm 3) (.cons (.imm 3) (.cons (.clo 39 .nil) .nil))) x) (encO G [] y) (decR .bool []) := by kernel_rfl
theorem F56b_ok (n : Nat) (rc : Q39RC) (h : AllE prog G (Q39L n rc)) : EntOK prog G (F56be n rc) :=
  ent_ok (fr := frOf [F56b_0z n rc]) (ann := (.nd .no (.nd .no (.nd (.nd .no (.nd (.use 0) .no)) .no)))) (frm := [(0, .fz)]) laws fnok h.tab (e := F56be n rc) (fn := Go.Proofs.Try.f56) (by kernel_rfl) (AllF.ofB (cd := F56bc) (l := [(0, codeAt F56bc [1, 1, 0, 1, 0])]) (by kernel_rfl) (by kernel_rfl) (AllF.cons (F56b_0_ok n rc h) AllF.nil)) (F56b_eq n rc)
noncomputable def Q39it (n : Nat) : Nat → Q39RC
  | 0 => (fun _ _ _ _ _ _ _ _ => none, fun _ _ => none, ())
  | k + 1 => (F39b n (Q39it n k), F56b n (Q39it n k), ())
theorem Q39it_ok (n : Nat) : ∀ k, AllE prog G (Q39L n (Q39it n k))
  | 0 => (AllE.cons (EntOK.none fun _ _ => rfl) (AllE.cons (EntOK.none fun _ _ => rfl) (E77_ok n)))
  | k + 1 => (AllE.cons (F39b_ok n _ (Q39it_ok n k)) (AllE.cons (F56b_ok n _ (Q39it_ok n k)) (E77_ok n)))
noncomputable def F39 (n : Nat) (a0 : Int) (a1 : ByteArray) (a2 : List ByteArray) (a3 : List Ex) (a4 : Int) (a5 : ByteArray) (a6 : List ByteArray) (a7 : List Ex) : Option (Bool × Unit) := (Q39it n n).1 a0 a1 a2 a3 a4 a5 a6 a7
noncomputable def F39e (n : Nat) : Ent G := ⟨39, (.cons (.agg (.cons (.int .i64) (.cons .str (.cons (.imm 2) (.cons (.imm 3) .nil))))) (.cons (.agg (.cons (.int .i64) (.cons .str (.cons (.imm 2) (.cons (.imm 3) .nil))))) .nil)), [], .bool, [], fun x y => F39 n x.1.1 x.1.2.1 x.1.2.2.1 x.1.2.2.2.1 x.2.1.1 x.2.1.2.1 x.2.1.2.2.1 x.2.1.2.2.2.1⟩
noncomputable def F56 (n : Nat) (a0 : List Ex) (a1 : List Ex) : Option (Bool × Unit) := (Q39it n n).2.1 a0 a1
noncomputable def F56e (n : Nat) : Ent G := ⟨56, (.cons (.imm 3) (.cons (.imm 3) (.cons (.clo 39 .nil) .nil))), [], .bool, [], fun x y => F56 n x.1 x.2.1⟩
noncomputable def E78 (n : Nat) : List (Ent G) := F39e n :: F56e n :: E77 n
theorem E78_ok (n : Nat) : AllE prog G (E78 n) := Q39it_ok n n
noncomputable def F17 (n : Nat) (a2947 : Int) (a2948 : ByteArray) (a2949 : List ByteArray) (a2950 : List Ex) (a2951 : Int) (a2952 : ByteArray) (a2953 : List ByteArray) (a2954 : List Ex) : Option (Bool × Unit) :=
  (andThen (F12 n a2947 a2948 a2949 a2950) fun r2955 =>
  (bif r2955.1 then
  (andThen (F12 n a2951 a2952 a2953 a2954) fun r2956 =>
  (bif r2956.1 then
  (andThen (F39 n a2947 a2948 a2949 a2950 a2951 a2952 a2953 a2954) fun r3081 =>
  some (r3081.1, ()))
  else some (false, ())))
  else some (false, ())))
noncomputable def F17e (n : Nat) : Ent G := ⟨17, (.cons (.agg (.cons (.int .i64) (.cons .str (.cons (.imm 2) (.cons (.imm 3) .nil))))) (.cons (.agg (.cons (.int .i64) (.cons .str (.cons (.imm 2) (.cons (.imm 3) .nil))))) .nil)), [], .bool, [], fun x y => F17 n x.1.1 x.1.2.1 x.1.2.2.1 x.1.2.2.2.1 x.2.1.1 x.2.1.2.1 x.2.1.2.2.1 x.2.1.2.2.2.1⟩
theorem F17_eq (n : Nat) (x : ShL.den G (.cons (.agg (.cons (.int .i64) (.cons .str (.cons (.imm 2) (.cons (.imm 3) .nil))))) (.cons (.agg (.cons (.int .i64) (.cons .str (.cons (.imm 2) (.cons (.imm 3) .nil))))) .nil))) (y : denO G []) : (F17e n).F x y = runFn prog G (ro G (tabOf (E78 n)) (frOf []) _) Go.Proofs.Try.f17 .no [(0, .fz)] (ShL.enc G (.cons (.agg (.cons (.int .i64) (.cons .str (.cons (.imm 2) (.cons (.imm 3) .nil))))) (.cons (.agg (.cons (.int .i64) (.cons .str (.cons (.imm 2) (.cons (.imm 3) .nil))))) .nil)) x) (encO G [] y) (decR .bool []) := by kernel_rfl
theorem F17_ok (n : Nat) : EntOK prog G (F17e n) :=
  ent_ok (fr := frOf []) (ann := .no) (frm := [(0, .fz)]) laws fnok (E78_ok n).tab (e := F17e n) (fn := Go.Proofs.Try.f17) (by kernel_rfl) (AllF.ofB (cd := F17c) (l := []) (by kernel_rfl) (by kernel_rfl) AllF.nil) (F17_eq n)
noncomputable def E79 (n : Nat) : List (Ent G) := F17e n :: E78 n
theorem E79_ok (n : Nat) : AllE prog G (E79 n) := AllE.cons (F17_ok n) (E78_ok n)
noncomputable def F5 (n : Nat) (a2803 : Int) (a2804 : ByteArray) (a2805 : List ByteArray) (a2806 : List Ex) (a2807 : Int) (a2808 : ByteArray) (a2809 : List ByteArray) (a2810 : List Ex) : Option (Bool × Unit) :=
  (andThen (F9 n a2803 a2804 a2805 a2806 (1048576 : Int)) fun r2811 =>
  (bif (decide (r2811.1 < (0 : Int))) then
  some (true, ())
  else (andThen (F9 n a2807 a2808 a2809 a2810 r2811.1) fun r2813 =>
  (bif (decide (r2813.1 < (0 : Int))) then
  some (true, ())
  else (andThen (F11 n a2803 a2804 a2805 a2806) fun r2815 =>
  (andThen (F11 n a2807 a2808 a2809 a2810) fun r2816 =>
  (andThen (F16 n r2815.1.1 r2815.1.2.1 r2815.1.2.2.1 r2815.1.2.2.2.1 r2816.1.1 r2816.1.2.1 r2816.1.2.2.1 r2816.1.2.2.2.1) fun r2944 =>
  (andThen (F11 n a2803 a2804 a2805 a2806) fun r2945 =>
  (andThen (F11 n a2807 a2808 a2809 a2810) fun r2946 =>
  (andThen (F17 n r2945.1.1 r2945.1.2.1 r2945.1.2.2.1 r2945.1.2.2.2.1 r2946.1.1 r2946.1.2.1 r2946.1.2.2.1 r2946.1.2.2.2.1) fun r3082 =>
  (bif (!(r3082.1 == r2944.1)) then
  some (false, ())
  else (andThen (F11 n a2803 a2804 a2805 a2806) fun r3084 =>
  (andThen (F13 n r2945.1.1 r2945.1.2.1 r2945.1.2.2.1 r2945.1.2.2.2.1 r3084.1.1 r3084.1.2.1 r3084.1.2.2.1 r3084.1.2.2.2.1) fun r3085 =>
  (bif (!r3085.1) then
  some (false, ())
  else (andThen (F11 n a2807 a2808 a2809 a2810) fun r3087 =>
  (andThen (F13 n r2946.1.1 r2946.1.2.1 r2946.1.2.2.1 r2946.1.2.2.2.1 r3087.1.1 r3087.1.2.1 r3087.1.2.2.1 r3087.1.2.2.2.1) fun r3088 =>
  (bif (!r3088.1) then
  some (false, ())
  else some (true, ()))))))))))))))))))
noncomputable def F5e (n : Nat) : Ent G := ⟨5, (.cons (.agg (.cons (.int .i64) (.cons .str (.cons (.imm 2) (.cons (.imm 4) .nil))))) (.cons (.agg (.cons (.int .i64) (.cons .str (.cons (.imm 2) (.cons (.imm 4) .nil))))) .nil)), [], .bool, [], fun x y => F5 n x.1.1 x.1.2.1 x.1.2.2.1 x.1.2.2.2.1 x.2.1.1 x.2.1.2.1 x.2.1.2.2.1 x.2.1.2.2.2.1⟩
theorem F5_eq (n : Nat) (x : ShL.den G (.cons (.agg (.cons (.int .i64) (.cons .str (.cons (.imm 2) (.cons (.imm 4) .nil))))) (.cons (.agg (.cons (.int .i64) (.cons .str (.cons (.imm 2) (.cons (.imm 4) .nil))))) .nil))) (y : denO G []) : (F5e n).F x y = runFn prog G (ro G (tabOf (E79 n)) (frOf []) _) Go.Proofs.Try.f5 .no [(0, .fz)] (ShL.enc G (.cons (.agg (.cons (.int .i64) (.cons .str (.cons (.imm 2) (.cons (.imm 4) .nil))))) (.cons (.agg (.cons (.int .i64) (.cons .str (.cons (.imm 2) (.cons (.imm 4) .nil))))) .nil)) x) (encO G [] y) (decR .bool []) := by kernel_rfl
theorem F5_ok (n : Nat) : EntOK prog G (F5e n) :=
  ent_ok (fr := frOf []) (ann := .no) (frm := [(0, .fz)]) laws fnok (E79_ok n).tab (e := F5e n) (fn := Go.Proofs.Try.f5) (by kernel_rfl) (AllF.ofB (cd := F5c) (l := []) (by kernel_rfl) (by kernel_rfl) AllF.nil) (F5_eq n)
noncomputable def E80 (n : Nat) : List (Ent G) := F5e n :: E79 n
theorem E80_ok (n : Nat) : AllE prog G (E80 n) := AllE.cons (F5_ok n) (E79_ok n)
end Go.Proofs.Ytdfnlaikelijeaa.Am
