/- The functions of the seat of heaps, printed. -/
import Derived.Test.YtfknenaecihchaaAmHepF
namespace Go.Proofs.Ytfknenaecihchaa.Am
open Go Go.Proofs.Try
set_option autoImplicit false
set_option linter.unusedVariables false
set_option maxRecDepth 100000
noncomputable def F50c : Code := bodyOf Go.Proofs.Try.f50
-- 75 slices.Index[[]loop.example/slowworm/impl.Value,loop.example/slowworm/impl.Value]
noncomputable def F75c : Code := bodyOf Go.Proofs.Try.f75
noncomputable def F75_0x0 : SSh := ⟨19, [(4, (.int .i64))], []⟩
noncomputable def F75_0x1 : SSh := ⟨19, [], []⟩
noncomputable def F75_0s : SSh := ⟨19, [(0, (.old 3)), (3, (.ptr 0 0)), (7, (.int .i64)), (8, (.int .i64))], [(.box 31 (.cons (.int .i64) (.cons .str (.cons (.int .i64) .nil))))]⟩
noncomputable def F75_0_step {R : Type} (n : Nat) (k0 : Int → Option R) (k1 : Option R) (rec : List Val → Int → Int → Int → ByteArray → Int → Option R) (x1510 : List Val) (x1511 : Int) (x1512 : Int) (x1513 : Int) (x1514 : ByteArray) (x1515 : Int) : Option R :=
  (bif (decide (x1512 < x1511)) then
  (bif (decide ((0 : Int) ≤ x1512)) then
  (bif (decide (x1512 < ((x1510.length) : Int))) then
  let v1517 := (x1510.getD (x1512.toNat) (Val.mk (0 : Int) ({ data := #[] } : ByteArray) (0 : Int)))
  (bif ((x1513 == v1517.kind) && ((x1514 == v1517.text) && (x1515 == v1517.ref))) then
  (k0 x1512)
  else (rec x1510 x1511 (IntKind.wrap .i64 (x1512 + (1 : Int))) x1513 x1514 x1515))
  else none)
  else none)
  else k1)
noncomputable def F75_0_it {R : Type} (n : Nat) (k0 : Int → Option R) (k1 : Option R) : Nat → List Val → Int → Int → Int → ByteArray → Int → Option R
  | 0, _, _, _, _, _, _ => none
  | k + 1, x1510, x1511, x1512, x1513, x1514, x1515 => F75_0_step n k0 k1 (F75_0_it n k0 k1 k) x1510 x1511 x1512 x1513 x1514 x1515
noncomputable def F75_0 {R : Type} (n : Nat) (x1510 : List Val) (x1511 : Int) (x1512 : Int) (x1513 : Int) (x1514 : ByteArray) (x1515 : Int) (k0 : Int → Option R) (k1 : Option R) : Option R := F75_0_it n k0 k1 n x1510 x1511 x1512 x1513 x1514 x1515
noncomputable def F75_0z (n : Nat) : Sm G := inZ G 0 ⟨[0, 3, 7, 8], []⟩ F75_0s fun R x K => F75_0_it n (fun u0 => K .ret (SSh.enc G F75_0x0 ((u0, ()), ()))) (K (.exit 0) (SSh.enc G F75_0x1 ((), ()))) n x.1.1 x.1.2.2.1 x.1.2.2.2.1 x.2.1.1 x.2.1.2.1 x.2.1.2.2.1
theorem F75_0_eq (n : Nat) (R : Type) (rec : SSh.den G F75_0s → Option R) (x : SSh.den G F75_0s) (K : AE → St G → Option R) :
  F75_0_step n (fun u0 => K .ret (SSh.enc G F75_0x0 ((u0, ()), ()))) (K (.exit 0) (SSh.enc G F75_0x1 ((), ()))) (fun x1510 x1511 x1512 x1513 x1514 x1515 => rec ((x1510, ((), (x1511, (x1512, ())))), ((x1513, (x1514, (x1515, ()))), ()))) x.1.1 x.1.2.2.1 x.1.2.2.2.1 x.2.1.1 x.2.1.2.1 x.2.1.2.2.1 = exec prog G (ro G (tabOf (E39 n)) (frOf []) R) 0 (codeAt F75c [1, 0, 1, 0, 0]) .no (SSh.enc G F75_0s x) (kLoop G (ro G (tabOf (E39 n)) (frOf []) R) 0 ⟨[0, 3, 7, 8], []⟩ F75_0s ⟨⟨[], []⟩, ⟨[4], []⟩, [(0, ⟨[], []⟩)]⟩ rec K) := by kernel_rfl
theorem F75_0_ok (n : Nat) : FragOK prog G 0 (codeAt F75c [1, 0, 1, 0]) (F75_0z n) :=
  frag_loop (Z := fun R k (x : SSh.den G F75_0s) K => F75_0_it n (fun u0 => K .ret (SSh.enc G F75_0x0 ((u0, ()), ()))) (K (.exit 0) (SSh.enc G F75_0x1 ((), ()))) k x.1.1 x.1.2.2.1 x.1.2.2.2.1 x.2.1.1 x.2.1.2.1 x.2.1.2.2.1) laws fnok (E39_ok n).tab (AllF.of (l := []) (by kernel_rfl) AllF.nil) (fun _ _ _ => rfl) (fun R k y K => F75_0_eq n R (fun (x : SSh.den G F75_0s) => F75_0_it n (fun u0 => K .ret (SSh.enc G F75_0x0 ((u0, ()), ()))) (K (.exit 0) (SSh.enc G F75_0x1 ((), ()))) k x.1.1 x.1.2.2.1 x.1.2.2.2.1 x.2.1.1 x.2.1.2.1 x.2.1.2.2.1) y K) n
noncomputable def F75 (n : Nat) (a1505 : List Val) (a1506 : Int) (a1507 : ByteArray) (a1508 : Int) : Option (Int × Unit) :=
  (F75_0 n a1505 ((a1505.length) : Int) (0 : Int) a1506 a1507 a1508 (fun z1523 =>
  some (z1523, ())) (
  some ((-1 : Int), ())))
noncomputable def F75e (n : Nat) : Ent G := ⟨75, (.cons (.old 3) (.cons (.agg (.cons (.int .i64) (.cons .str (.cons (.int .i64) .nil)))) .nil)), [], (.int .i64), [], fun x y => F75 n x.1 x.2.1.1 x.2.1.2.1 x.2.1.2.2.1⟩
theorem F75_eq (n : Nat) (x : ShL.den G (.cons (.old 3) (.cons (.agg (.cons (.int .i64) (.cons .str (.cons (.int .i64) .nil)))) .nil))) (y : denO G []) : (F75e n).F x y = runFn prog G (ro G (tabOf (E39 n)) (frOf [F75_0z n]) _) Go.Proofs.Try.f75 (.nd .no (.nd (.nd .no (.nd (.use 0) .no)) .no)) [(0, .fz)] (ShL.enc G (.cons (.old 3) (.cons (.agg (.cons (.int .i64) (.cons .str (.cons (.int .i64) .nil)))) .nil)) x) (encO G [] y) (decR (.int .i64) []) := by kernel_rfl
theorem F75_ok (n : Nat) : EntOK prog G (F75e n) :=
  ent_ok (fr := frOf [F75_0z n]) (ann := (.nd .no (.nd (.nd .no (.nd (.use 0) .no)) .no))) (frm := [(0, .fz)]) laws fnok (E39_ok n).tab (e := F75e n) (fn := Go.Proofs.Try.f75) (by kernel_rfl) (AllF.ofB (cd := F75c) (l := [(0, codeAt F75c [1, 0, 1, 0])]) (by kernel_rfl) (by kernel_rfl) (AllF.cons (F75_0_ok n) AllF.nil)) (F75_eq n)
noncomputable def E40 (n : Nat) : List (Ent G) := F75e n :: E39 n
theorem E40_ok (n : Nat) : AllE prog G (E40 n) := AllE.cons (F75_ok n) (E39_ok n)
noncomputable def F50 (n : Nat) (a1501 : List Val) (a1502 : Int) (a1503 : ByteArray) (a1504 : Int) : Option (Bool × Unit) :=
  (andThen (F75 n a1501 a1502 a1503 a1504) fun r1524 =>
  some ((decide (r1524.1 ≥ (0 : Int))), ()))
noncomputable def F50e (n : Nat) : Ent G := ⟨50, (.cons (.old 3) (.cons (.agg (.cons (.int .i64) (.cons .str (.cons (.int .i64) .nil)))) .nil)), [], .bool, [], fun x y => F50 n x.1 x.2.1.1 x.2.1.2.1 x.2.1.2.2.1⟩
theorem F50_eq (n : Nat) (x : ShL.den G (.cons (.old 3) (.cons (.agg (.cons (.int .i64) (.cons .str (.cons (.int .i64) .nil)))) .nil))) (y : denO G []) : (F50e n).F x y = runFn prog G (ro G (tabOf (E40 n)) (frOf []) _) Go.Proofs.Try.f50 .no [(0, .fz)] (ShL.enc G (.cons (.old 3) (.cons (.agg (.cons (.int .i64) (.cons .str (.cons (.int .i64) .nil)))) .nil)) x) (encO G [] y) (decR .bool []) := by kernel_rfl
theorem F50_ok (n : Nat) : EntOK prog G (F50e n) :=
  ent_ok (fr := frOf []) (ann := .no) (frm := [(0, .fz)]) laws fnok (E40_ok n).tab (e := F50e n) (fn := Go.Proofs.Try.f50) (by kernel_rfl) (AllF.ofB (cd := F50c) (l := []) (by kernel_rfl) (by kernel_rfl) AllF.nil) (F50_eq n)
noncomputable def E41 (n : Nat) : List (Ent G) := F50e n :: E40 n
theorem E41_ok (n : Nat) : AllE prog G (E41 n) := AllE.cons (F50_ok n) (E40_ok n)
noncomputable def F27_2x0 : SSh := ⟨224, [(4, .bool)], []⟩
noncomputable def F27_2x1 : SSh := ⟨224, [(3, (.ptr 0 0))], [(.box 51 (.cons (.int .i64) (.cons .str (.cons (.int .i64) (.cons (.imm 3) (.cons (.imm 3) (.cons (.imm 2) (.cons (.imm 3) .nil))))))))]⟩
noncomputable def F27_2s : SSh := ⟨224, [(3, (.ptr 0 0)), (165, (.imm 3)), (166, (.int .i64)), (167, (.int .i64))], [(.box 51 (.cons (.int .i64) (.cons .str (.cons (.int .i64) (.cons (.imm 3) (.cons (.imm 3) (.cons (.imm 2) (.cons (.imm 3) .nil))))))))]⟩
noncomputable def F27_2_step {R : Type} (n : Nat) (k0 : Bool → Option R) (k1 : Int → ByteArray → Int → List Val → List Val → List ByteArray → List Val → Option R) (rec : List Val → Int → Int → Int → ByteArray → Int → List Val → List Val → List ByteArray → List Val → Option R) (x1484 : List Val) (x1485 : Int) (x1486 : Int) (x1487 : Int) (x1488 : ByteArray) (x1489 : Int) (x1490 : List Val) (x1491 : List Val) (x1492 : List ByteArray) (x1493 : List Val) : Option R :=
  (bif (decide (x1486 < x1485)) then
  (bif (decide ((0 : Int) ≤ x1486)) then
  (bif (decide (x1486 < ((x1484.length) : Int))) then
  let v1495 := (x1484.getD (x1486.toNat) (Val.mk (0 : Int) ({ data := #[] } : ByteArray) (0 : Int)))
  let v1496 := v1495.kind
  (bif (v1496 == (4 : Int)) then
  (k0 false)
  else (bif (decide ((0 : Int) ≤ x1486)) then
  (bif (decide (x1486 ≤ ((x1491.length) : Int))) then
  (andThen (F50 n ((x1491.take (x1486.toNat)).drop (0 : Nat)) v1496 v1495.text v1495.ref) fun r1526 =>
  (bif r1526.1 then
  (k0 false)
  else (rec x1484 x1485 (IntKind.wrap .i64 (x1486 + (1 : Int))) x1487 x1488 x1489 x1490 x1491 x1492 x1493)))
  else none)
  else none))
  else none)
  else none)
  else (k1 x1487 x1488 x1489 x1490 x1491 x1492 x1493))
noncomputable def F27_2_it {R : Type} (n : Nat) (k0 : Bool → Option R) (k1 : Int → ByteArray → Int → List Val → List Val → List ByteArray → List Val → Option R) : Nat → List Val → Int → Int → Int → ByteArray → Int → List Val → List Val → List ByteArray → List Val → Option R
  | 0, _, _, _, _, _, _, _, _, _, _ => none
  | k + 1, x1484, x1485, x1486, x1487, x1488, x1489, x1490, x1491, x1492, x1493 => F27_2_step n k0 k1 (F27_2_it n k0 k1 k) x1484 x1485 x1486 x1487 x1488 x1489 x1490 x1491 x1492 x1493
noncomputable def F27_2 {R : Type} (n : Nat) (x1484 : List Val) (x1485 : Int) (x1486 : Int) (x1487 : Int) (x1488 : ByteArray) (x1489 : Int) (x1490 : List Val) (x1491 : List Val) (x1492 : List ByteArray) (x1493 : List Val) (k0 : Bool → Option R) (k1 : Int → ByteArray → Int → List Val → List Val → List ByteArray → List Val → Option R) : Option R := F27_2_it n k0 k1 n x1484 x1485 x1486 x1487 x1488 x1489 x1490 x1491 x1492 x1493
noncomputable def F27_2z (n : Nat) : Sm G := inZ G 0 ⟨[3, 165, 166, 167], []⟩ F27_2s fun R x K => F27_2_it n (fun u0 => K .ret (SSh.enc G F27_2x0 ((u0, ()), ()))) (fun u0 u1 u2 u3 u4 u5 u6 => K (.exit 3) (SSh.enc G F27_2x1 (((), ()), ((u0, (u1, (u2, (u3, (u4, (u5, (u6, ()))))))), ())))) n x.1.2.1 x.1.2.2.1 x.1.2.2.2.1 x.2.1.1 x.2.1.2.1 x.2.1.2.2.1 x.2.1.2.2.2.1 x.2.1.2.2.2.2.1 x.2.1.2.2.2.2.2.1 x.2.1.2.2.2.2.2.2.1
theorem F27_2_eq (n : Nat) (R : Type) (rec : SSh.den G F27_2s → Option R) (x : SSh.den G F27_2s) (K : AE → St G → Option R) :
  F27_2_step n (fun u0 => K .ret (SSh.enc G F27_2x0 ((u0, ()), ()))) (fun u0 u1 u2 u3 u4 u5 u6 => K (.exit 3) (SSh.enc G F27_2x1 (((), ()), ((u0, (u1, (u2, (u3, (u4, (u5, (u6, ()))))))), ())))) (fun x1484 x1485 x1486 x1487 x1488 x1489 x1490 x1491 x1492 x1493 => rec (((), (x1484, (x1485, (x1486, ())))), ((x1487, (x1488, (x1489, (x1490, (x1491, (x1492, (x1493, ()))))))), ()))) x.1.2.1 x.1.2.2.1 x.1.2.2.2.1 x.2.1.1 x.2.1.2.1 x.2.1.2.2.1 x.2.1.2.2.2.1 x.2.1.2.2.2.2.1 x.2.1.2.2.2.2.2.1 x.2.1.2.2.2.2.2.2.1 = exec prog G (ro G (tabOf (E41 n)) (frOf [F27_0z n, F27_1z n]) R) 0 (codeAt F27c [1, 1, 1, 1, 1, 1, 1, 1, 0, 1, 0, 1, 1, 1, 1, 1, 1, 1, 0, 0, 1, 0, 0]) .no (SSh.enc G F27_2s x) (kLoop G (ro G (tabOf (E41 n)) (frOf [F27_0z n, F27_1z n]) R) 0 ⟨[3, 165, 166, 167], []⟩ F27_2s ⟨⟨[3], []⟩, ⟨[4], []⟩, [(3, ⟨[3], []⟩), (2, ⟨[], []⟩)]⟩ rec K) := by kernel_rfl
theorem F27_2_ok (n : Nat) : FragOK prog G 0 (codeAt F27c [1, 1, 1, 1, 1, 1, 1, 1, 0, 1, 0, 1, 1, 1, 1, 1, 1, 1, 0, 0, 1, 0]) (F27_2z n) :=
  frag_loop (Z := fun R k (x : SSh.den G F27_2s) K => F27_2_it n (fun u0 => K .ret (SSh.enc G F27_2x0 ((u0, ()), ()))) (fun u0 u1 u2 u3 u4 u5 u6 => K (.exit 3) (SSh.enc G F27_2x1 (((), ()), ((u0, (u1, (u2, (u3, (u4, (u5, (u6, ()))))))), ())))) k x.1.2.1 x.1.2.2.1 x.1.2.2.2.1 x.2.1.1 x.2.1.2.1 x.2.1.2.2.1 x.2.1.2.2.2.1 x.2.1.2.2.2.2.1 x.2.1.2.2.2.2.2.1 x.2.1.2.2.2.2.2.2.1) laws fnok (E41_ok n).tab (AllF.of (l := []) (by kernel_rfl) AllF.nil) (fun _ _ _ => rfl) (fun R k y K => F27_2_eq n R (fun (x : SSh.den G F27_2s) => F27_2_it n (fun u0 => K .ret (SSh.enc G F27_2x0 ((u0, ()), ()))) (fun u0 u1 u2 u3 u4 u5 u6 => K (.exit 3) (SSh.enc G F27_2x1 (((), ()), ((u0, (u1, (u2, (u3, (u4, (u5, (u6, ()))))))), ())))) k x.1.2.1 x.1.2.2.1 x.1.2.2.2.1 x.2.1.1 x.2.1.2.1 x.2.1.2.2.1 x.2.1.2.2.2.1 x.2.1.2.2.2.2.1 x.2.1.2.2.2.2.2.1 x.2.1.2.2.2.2.2.2.1) y K) n
noncomputable def F27_3x0 : SSh := ⟨224, [(4, .bool)], []⟩
noncomputable def F27_3x1 : SSh := ⟨224, [], []⟩
noncomputable def F27_3s : SSh := ⟨224, [(2, (.ptr 0 0)), (3, (.ptr 1 0)), (8, .bool), (9, .bool)], [(.box 25 (.cons (.imm 4) .nil)), (.box 51 (.cons (.int .i64) (.cons .str (.cons (.int .i64) (.cons (.imm 3) (.cons (.imm 3) (.cons (.imm 2) (.cons (.imm 3) .nil))))))))]⟩
noncomputable def F27_3 {R : Type} (n : Nat) (x1443 : Bool) (x1444 : Bool) (x1445 : List Obj) (x1446 : Int) (x1447 : ByteArray) (x1448 : Int) (x1449 : List Val) (x1450 : List Val) (x1451 : List ByteArray) (x1452 : List Val) (k0 : Bool → Option R) (k1 : Option R) : Option R :=
  (bif (x1446 == (0 : Int)) then
  (bif x1443 then
  (bif x1444 then
  (k0 (x1448 == (0 : Int)))
  else (k0 false))
  else (k0 false))
  else (bif (x1446 == (1 : Int)) then
  (bif x1443 then
  (k0 (x1448 == (0 : Int)))
  else (k0 false))
  else (F27_1 n x1443 x1444 x1446 x1445 x1446 x1447 x1448 x1449 x1450 x1451 x1452 (fun z1470 z1471 z1472 z1473 z1474 z1475 z1476 z1477 z1478 z1479 z1480 z1481 =>
  (bif z1473 then
  (k0 z1470)
  else (bif (z1472 == (2 : Int)) then
  (F27_2 n z1479 ((z1479.length) : Int) (0 : Int) z1475 z1476 z1477 z1478 z1479 z1480 z1481 (fun z1528 =>
  (k0 z1528)) (fun z1529 z1530 z1531 z1532 z1533 z1534 z1535 =>
  (bif (((z1533.length) : Int) == ((z1532.length) : Int)) then
  (k0 (z1531 == (0 : Int)))
  else (k0 false))))
  else (bif (z1472 == (4 : Int)) then
  (bif (decide (((z1478.length) : Int) ≤ (1 : Int))) then
  (bif z1470 then
  (k0 (z1477 == (0 : Int)))
  else (k0 false))
  else (k0 false))
  else (bif (z1472 == (6 : Int)) then
  (bif z1471 then
  (bif z1470 then
  (k0 (decide (z1477 < ((z1474.length) : Int))))
  else (k0 false))
  else (k0 false))
  else k1))))))))
noncomputable def F27_3z (n : Nat) : Sm G := inZ G 0 ⟨[2, 3, 8, 9], []⟩ F27_3s fun R x K => F27_3 n x.1.2.2.1 x.1.2.2.2.1 x.2.1.1 x.2.2.1.1 x.2.2.1.2.1 x.2.2.1.2.2.1 x.2.2.1.2.2.2.1 x.2.2.1.2.2.2.2.1 x.2.2.1.2.2.2.2.2.1 x.2.2.1.2.2.2.2.2.2.1 (fun u0 => K .ret (SSh.enc G F27_3x0 ((u0, ()), ()))) (K .normal (SSh.enc G F27_3x1 ((), ())))
theorem F27_3_eq (n : Nat) (R : Type) (x : SSh.den G F27_3s) (K : AE → St G → Option R) :
  F27_3 n x.1.2.2.1 x.1.2.2.2.1 x.2.1.1 x.2.2.1.1 x.2.2.1.2.1 x.2.2.1.2.2.1 x.2.2.1.2.2.2.1 x.2.2.1.2.2.2.2.1 x.2.2.1.2.2.2.2.2.1 x.2.2.1.2.2.2.2.2.2.1 (fun u0 => K .ret (SSh.enc G F27_3x0 ((u0, ()), ()))) (K .normal (SSh.enc G F27_3x1 ((), ()))) = exec prog G (ro G (tabOf (E41 n)) (frOf [F27_0z n, F27_1z n, F27_2z n]) R) 0 (codeAt F27c [1, 1, 1, 1, 1, 1, 1, 1, 0]) (.nd .no (.nd (.nd .no (.nd .no (.nd .no (.nd .no (.nd (.use 1) (.nd .no (.nd .no (.nd (.nd (.nd .no (.nd (.use 2) .no)) .no) .no)))))))) .no)) (SSh.enc G F27_3s x) (kNrm G (ro G (tabOf (E41 n)) (frOf [F27_0z n, F27_1z n, F27_2z n]) R) 0 ⟨⟨[], []⟩, ⟨[4], []⟩, []⟩ K) := by kernel_rfl
theorem F27_3_ok (n : Nat) : FragOK prog G 0 (codeAt F27c [1, 1, 1, 1, 1, 1, 1, 1, 0]) (F27_3z n) :=
  frag_plain laws fnok (E41_ok n).tab (AllF.of (l := [(1, codeAt F27c [1, 1, 1, 1, 1, 1, 1, 1, 0, 1, 0, 1, 1, 1, 1, 0]), (2, codeAt F27c [1, 1, 1, 1, 1, 1, 1, 1, 0, 1, 0, 1, 1, 1, 1, 1, 1, 1, 0, 0, 1, 0])]) (by kernel_rfl) (AllF.cons (F27_1_ok n) (AllF.cons (F27_2_ok n) AllF.nil))) (F27_3_eq n)
noncomputable def F27 (n : Nat) (a1127 : List Obj) (a1128 : Int) (a1129 : ByteArray) (a1130 : Int) (a1131 : List Val) (a1132 : List Val) (a1133 : List ByteArray) (a1134 : List Val) : Option (Bool × Unit) :=
  (andThen (F47 n a1128 (0 : Int) (10 : Int)) fun r1140 =>
  (bif (!r1140.1) then
  some (false, ())
  else (andThen (F39 n a1127 a1131) fun r1314 =>
  (bif (!r1314.1) then
  some (false, ())
  else (andThen (F39 n a1127 a1132) fun r1316 =>
  (bif (!r1316.1) then
  some (false, ())
  else (andThen (F39 n a1127 a1134) fun r1318 =>
  (bif (!r1318.1) then
  some (false, ())
  else (bif (decide (((a1131.length) : Int) > (60 : Int))) then
  some (false, ())
  else (bif (decide (((a1132.length) : Int) > (60 : Int))) then
  some (false, ())
  else (bif (decide (((a1134.length) : Int) > (60 : Int))) then
  some (false, ())
  else (bif (((a1133.length) : Int) != ((a1134.length) : Int)) then
  some (false, ())
  else (andThen (F47 n a1130 (0 : Int) (1000000 : Int)) fun r1329 =>
  (bif (!r1329.1) then
  some (false, ())
  else (F27_0 n a1133 ((a1133.length) : Int) (0 : Int) a1127 a1128 a1129 a1130 a1131 a1132 a1133 a1134 (fun z1366 =>
  some (z1366, ())) (fun z1367 z1368 z1369 z1370 z1371 z1372 z1373 z1374 =>
  (bif (decide (((z1373.length) : Int) > (0 : Int))) then
  (bif (z1368 != (5 : Int)) then
  (bif (z1368 != (6 : Int)) then
  some (false, ())
  else (bif (z1368 == (3 : Int)) then
  (bif (!(true == (!((z1369.toList) == (({ data := #[] } : ByteArray).toList))))) then
  some (false, ())
  else (andThen (F49 n z1369) fun r1436 =>
  (bif (!r1436.1) then
  (bif (!((z1369.toList) == (({ data := #[108, 97, 109, 98, 100, 97] } : ByteArray).toList))) then
  some (false, ())
  else (F27_3 n (((z1372.length) : Int) == (0 : Int)) (((z1371.length) : Int) == (0 : Int)) z1367 z1368 z1369 z1370 z1371 z1372 z1373 z1374 (fun z1547 =>
  some (z1547, ())) (
  some (true, ()))))
  else (F27_3 n (((z1372.length) : Int) == (0 : Int)) (((z1371.length) : Int) == (0 : Int)) z1367 z1368 z1369 z1370 z1371 z1372 z1373 z1374 (fun z1552 =>
  some (z1552, ())) (
  some (true, ()))))))
  else (bif (z1368 == (5 : Int)) then
  (bif (!(true == (!((z1369.toList) == (({ data := #[] } : ByteArray).toList))))) then
  some (false, ())
  else (andThen (F49 n z1369) fun r1556 =>
  (bif (!r1556.1) then
  (bif (!((z1369.toList) == (({ data := #[108, 97, 109, 98, 100, 97] } : ByteArray).toList))) then
  some (false, ())
  else (F27_3 n (((z1372.length) : Int) == (0 : Int)) (((z1371.length) : Int) == (0 : Int)) z1367 z1368 z1369 z1370 z1371 z1372 z1373 z1374 (fun z1563 =>
  some (z1563, ())) (
  some (true, ()))))
  else (F27_3 n (((z1372.length) : Int) == (0 : Int)) (((z1371.length) : Int) == (0 : Int)) z1367 z1368 z1369 z1370 z1371 z1372 z1373 z1374 (fun z1568 =>
  some (z1568, ())) (
  some (true, ()))))))
  else let v1569 := (z1368 == (10 : Int))
  (bif (!(v1569 == (!((z1369.toList) == (({ data := #[] } : ByteArray).toList))))) then
  some (false, ())
  else (bif v1569 then
  (andThen (F49 n z1369) fun r1572 =>
  (bif (!r1572.1) then
  (bif (!((z1369.toList) == (({ data := #[108, 97, 109, 98, 100, 97] } : ByteArray).toList))) then
  some (false, ())
  else (F27_3 n (((z1372.length) : Int) == (0 : Int)) (((z1371.length) : Int) == (0 : Int)) z1367 z1368 z1369 z1370 z1371 z1372 z1373 z1374 (fun z1579 =>
  some (z1579, ())) (
  some (true, ()))))
  else (F27_3 n (((z1372.length) : Int) == (0 : Int)) (((z1371.length) : Int) == (0 : Int)) z1367 z1368 z1369 z1370 z1371 z1372 z1373 z1374 (fun z1584 =>
  some (z1584, ())) (
  some (true, ())))))
  else (F27_3 n (((z1372.length) : Int) == (0 : Int)) (((z1371.length) : Int) == (0 : Int)) z1367 z1368 z1369 z1370 z1371 z1372 z1373 z1374 (fun z1589 =>
  some (z1589, ())) (
  some (true, ()))))))))
  else (bif (z1368 == (3 : Int)) then
  (bif (!(true == (!((z1369.toList) == (({ data := #[] } : ByteArray).toList))))) then
  some (false, ())
  else (andThen (F49 n z1369) fun r1593 =>
  (bif (!r1593.1) then
  (bif (!((z1369.toList) == (({ data := #[108, 97, 109, 98, 100, 97] } : ByteArray).toList))) then
  some (false, ())
  else (F27_3 n (((z1372.length) : Int) == (0 : Int)) (((z1371.length) : Int) == (0 : Int)) z1367 z1368 z1369 z1370 z1371 z1372 z1373 z1374 (fun z1600 =>
  some (z1600, ())) (
  some (true, ()))))
  else (F27_3 n (((z1372.length) : Int) == (0 : Int)) (((z1371.length) : Int) == (0 : Int)) z1367 z1368 z1369 z1370 z1371 z1372 z1373 z1374 (fun z1605 =>
  some (z1605, ())) (
  some (true, ()))))))
  else (bif (z1368 == (5 : Int)) then
  (bif (!(true == (!((z1369.toList) == (({ data := #[] } : ByteArray).toList))))) then
  some (false, ())
  else (andThen (F49 n z1369) fun r1609 =>
  (bif (!r1609.1) then
  (bif (!((z1369.toList) == (({ data := #[108, 97, 109, 98, 100, 97] } : ByteArray).toList))) then
  some (false, ())
  else (F27_3 n (((z1372.length) : Int) == (0 : Int)) (((z1371.length) : Int) == (0 : Int)) z1367 z1368 z1369 z1370 z1371 z1372 z1373 z1374 (fun z1616 =>
  some (z1616, ())) (
  some (true, ()))))
  else (F27_3 n (((z1372.length) : Int) == (0 : Int)) (((z1371.length) : Int) == (0 : Int)) z1367 z1368 z1369 z1370 z1371 z1372 z1373 z1374 (fun z1621 =>
  some (z1621, ())) (
  some (true, ()))))))
  else let v1622 := (z1368 == (10 : Int))
  (bif (!(v1622 == (!((z1369.toList) == (({ data := #[] } : ByteArray).toList))))) then
  some (false, ())
  else (bif v1622 then
  (andThen (F49 n z1369) fun r1625 =>
  (bif (!r1625.1) then
  (bif (!((z1369.toList) == (({ data := #[108, 97, 109, 98, 100, 97] } : ByteArray).toList))) then
  some (false, ())
  else (F27_3 n (((z1372.length) : Int) == (0 : Int)) (((z1371.length) : Int) == (0 : Int)) z1367 z1368 z1369 z1370 z1371 z1372 z1373 z1374 (fun z1632 =>
  some (z1632, ())) (
  some (true, ()))))
  else (F27_3 n (((z1372.length) : Int) == (0 : Int)) (((z1371.length) : Int) == (0 : Int)) z1367 z1368 z1369 z1370 z1371 z1372 z1373 z1374 (fun z1637 =>
  some (z1637, ())) (
  some (true, ())))))
  else (F27_3 n (((z1372.length) : Int) == (0 : Int)) (((z1371.length) : Int) == (0 : Int)) z1367 z1368 z1369 z1370 z1371 z1372 z1373 z1374 (fun z1642 =>
  some (z1642, ())) (
  some (true, ()))))))))
  else (bif (z1368 == (3 : Int)) then
  (bif (!(true == (!((z1369.toList) == (({ data := #[] } : ByteArray).toList))))) then
  some (false, ())
  else (andThen (F49 n z1369) fun r1646 =>
  (bif (!r1646.1) then
  (bif (!((z1369.toList) == (({ data := #[108, 97, 109, 98, 100, 97] } : ByteArray).toList))) then
  some (false, ())
  else (F27_3 n (((z1372.length) : Int) == (0 : Int)) (((z1371.length) : Int) == (0 : Int)) z1367 z1368 z1369 z1370 z1371 z1372 z1373 z1374 (fun z1653 =>
  some (z1653, ())) (
  some (true, ()))))
  else (F27_3 n (((z1372.length) : Int) == (0 : Int)) (((z1371.length) : Int) == (0 : Int)) z1367 z1368 z1369 z1370 z1371 z1372 z1373 z1374 (fun z1658 =>
  some (z1658, ())) (
  some (true, ()))))))
  else (bif (z1368 == (5 : Int)) then
  (bif (!(true == (!((z1369.toList) == (({ data := #[] } : ByteArray).toList))))) then
  some (false, ())
  else (andThen (F49 n z1369) fun r1662 =>
  (bif (!r1662.1) then
  (bif (!((z1369.toList) == (({ data := #[108, 97, 109, 98, 100, 97] } : ByteArray).toList))) then
  some (false, ())
  else (F27_3 n (((z1372.length) : Int) == (0 : Int)) (((z1371.length) : Int) == (0 : Int)) z1367 z1368 z1369 z1370 z1371 z1372 z1373 z1374 (fun z1669 =>
  some (z1669, ())) (
  some (true, ()))))
  else (F27_3 n (((z1372.length) : Int) == (0 : Int)) (((z1371.length) : Int) == (0 : Int)) z1367 z1368 z1369 z1370 z1371 z1372 z1373 z1374 (fun z1674 =>
  some (z1674, ())) (
  some (true, ()))))))
  else let v1675 := (z1368 == (10 : Int))
  (bif (!(v1675 == (!((z1369.toList) == (({ data := #[] } : ByteArray).toList))))) then
  some (false, ())
  else (bif v1675 then
  (andThen (F49 n z1369) fun r1678 =>
  (bif (!r1678.1) then
  (bif (!((z1369.toList) == (({ data := #[108, 97, 109, 98, 100, 97] } : ByteArray).toList))) then
  some (false, ())
  else (F27_3 n (((z1372.length) : Int) == (0 : Int)) (((z1371.length) : Int) == (0 : Int)) z1367 z1368 z1369 z1370 z1371 z1372 z1373 z1374 (fun z1685 =>
  some (z1685, ())) (
  some (true, ()))))
  else (F27_3 n (((z1372.length) : Int) == (0 : Int)) (((z1371.length) : Int) == (0 : Int)) z1367 z1368 z1369 z1370 z1371 z1372 z1373 z1374 (fun z1690 =>
  some (z1690, ())) (
  some (true, ())))))
  else (F27_3 n (((z1372.length) : Int) == (0 : Int)) (((z1371.length) : Int) == (0 : Int)) z1367 z1368 z1369 z1370 z1371 z1372 z1373 z1374 (fun z1695 =>
  some (z1695, ())) (
  some (true, ()))))))))))))))))))))))))
noncomputable def F27e (n : Nat) : Ent G := ⟨27, (.cons (.agg (.cons (.imm 4) .nil)) (.cons (.agg (.cons (.int .i64) (.cons .str (.cons (.int .i64) (.cons (.imm 3) (.cons (.imm 3) (.cons (.imm 2) (.cons (.imm 3) .nil)))))))) .nil)), [], .bool, [], fun x y => F27 n x.1.1 x.2.1.1 x.2.1.2.1 x.2.1.2.2.1 x.2.1.2.2.2.1 x.2.1.2.2.2.2.1 x.2.1.2.2.2.2.2.1 x.2.1.2.2.2.2.2.2.1⟩
theorem F27_eq (n : Nat) (x : ShL.den G (.cons (.agg (.cons (.imm 4) .nil)) (.cons (.agg (.cons (.int .i64) (.cons .str (.cons (.int .i64) (.cons (.imm 3) (.cons (.imm 3) (.cons (.imm 2) (.cons (.imm 3) .nil)))))))) .nil))) (y : denO G []) : (F27e n).F x y = runFn prog G (ro G (tabOf (E41 n)) (frOf [F27_0z n, F27_1z n, F27_2z n, F27_3z n]) _) Go.Proofs.Try.f27 (.nd .no (.nd .no (.nd .no (.nd (.nd .no (.nd (.use 0) .no)) (.nd .no (.nd .no (.nd .no (.nd .no (.nd (.use 3) .no))))))))) [(0, .fz)] (ShL.enc G (.cons (.agg (.cons (.imm 4) .nil)) (.cons (.agg (.cons (.int .i64) (.cons .str (.cons (.int .i64) (.cons (.imm 3) (.cons (.imm 3) (.cons (.imm 2) (.cons (.imm 3) .nil)))))))) .nil)) x) (encO G [] y) (decR .bool []) := by kernel_rfl
theorem F27_ok (n : Nat) : EntOK prog G (F27e n) :=
  ent_ok (fr := frOf [F27_0z n, F27_1z n, F27_2z n, F27_3z n]) (ann := (.nd .no (.nd .no (.nd .no (.nd (.nd .no (.nd (.use 0) .no)) (.nd .no (.nd .no (.nd .no (.nd .no (.nd (.use 3) .no)))))))))) (frm := [(0, .fz)]) laws fnok (E41_ok n).tab (e := F27e n) (fn := Go.Proofs.Try.f27) (by kernel_rfl) (AllF.ofB (cd := F27c) (l := [(0, codeAt F27c [1, 1, 1, 0, 1, 0]), (3, codeAt F27c [1, 1, 1, 1, 1, 1, 1, 1, 0])]) (by kernel_rfl) (by kernel_rfl) (AllF.cons (F27_0_ok n) (AllF.cons (F27_3_ok n) AllF.nil))) (F27_eq n)
noncomputable def E42 (n : Nat) : List (Ent G) := F27e n :: E41 n
theorem E42_ok (n : Nat) : AllE prog G (E42 n) := AllE.cons (F27_ok n) (E41_ok n)
noncomputable def F10_0x0 : SSh := ⟨21, [(2, .bool)], []⟩
noncomputable def F10_0x1 : SSh := ⟨21, [], []⟩
noncomputable def F10_0s : SSh := ⟨21, [(1, (.ptr 0 0)), (10, (.imm 4)), (11, (.int .i64)), (12, (.int .i64))], [(.box 25 (.cons (.imm 4) .nil))]⟩
noncomputable def F10_0_step {R : Type} (n : Nat) (k0 : Bool → Option R) (k1 : Option R) (rec : List Obj → Int → Int → List Obj → Option R) (x1114 : List Obj) (x1115 : Int) (x1116 : Int) (x1117 : List Obj) : Option R :=
  (bif (decide (x1116 < x1115)) then
  (bif (decide ((0 : Int) ≤ x1116)) then
  (bif (decide (x1116 < ((x1114.length) : Int))) then
  let v1119 := (x1114.getD (x1116.toNat) (Obj.mk (0 : Int) ({ data := #[] } : ByteArray) (0 : Int) [] [] [] []))
  (andThen (F27 n x1117 v1119.kind v1119.name v1119.at_ v1119.items v1119.keys v1119.names v1119.vals) fun r1696 =>
  (bif (!r1696.1) then
  (k0 false)
  else (rec x1114 x1115 (IntKind.wrap .i64 (x1116 + (1 : Int))) x1117)))
  else none)
  else none)
  else k1)
noncomputable def F10_0_it {R : Type} (n : Nat) (k0 : Bool → Option R) (k1 : Option R) : Nat → List Obj → Int → Int → List Obj → Option R
  | 0, _, _, _, _ => none
  | k + 1, x1114, x1115, x1116, x1117 => F10_0_step n k0 k1 (F10_0_it n k0 k1 k) x1114 x1115 x1116 x1117
noncomputable def F10_0 {R : Type} (n : Nat) (x1114 : List Obj) (x1115 : Int) (x1116 : Int) (x1117 : List Obj) (k0 : Bool → Option R) (k1 : Option R) : Option R := F10_0_it n k0 k1 n x1114 x1115 x1116 x1117
noncomputable def F10_0z (n : Nat) : Sm G := inZ G 0 ⟨[1, 10, 11, 12], []⟩ F10_0s fun R x K => F10_0_it n (fun u0 => K .ret (SSh.enc G F10_0x0 ((u0, ()), ()))) (K (.exit 0) (SSh.enc G F10_0x1 ((), ()))) n x.1.2.1 x.1.2.2.1 x.1.2.2.2.1 x.2.1.1
theorem F10_0_eq (n : Nat) (R : Type) (rec : SSh.den G F10_0s → Option R) (x : SSh.den G F10_0s) (K : AE → St G → Option R) :
  F10_0_step n (fun u0 => K .ret (SSh.enc G F10_0x0 ((u0, ()), ()))) (K (.exit 0) (SSh.enc G F10_0x1 ((), ()))) (fun x1114 x1115 x1116 x1117 => rec (((), (x1114, (x1115, (x1116, ())))), ((x1117, ()), ()))) x.1.2.1 x.1.2.2.1 x.1.2.2.2.1 x.2.1.1 = exec prog G (ro G (tabOf (E42 n)) (frOf []) R) 0 (codeAt F10c [1, 1, 0, 1, 0, 0]) .no (SSh.enc G F10_0s x) (kLoop G (ro G (tabOf (E42 n)) (frOf []) R) 0 ⟨[1, 10, 11, 12], []⟩ F10_0s ⟨⟨[], []⟩, ⟨[2], []⟩, [(0, ⟨[], []⟩)]⟩ rec K) := by kernel_rfl
theorem F10_0_ok (n : Nat) : FragOK prog G 0 (codeAt F10c [1, 1, 0, 1, 0]) (F10_0z n) :=
  frag_loop (Z := fun R k (x : SSh.den G F10_0s) K => F10_0_it n (fun u0 => K .ret (SSh.enc G F10_0x0 ((u0, ()), ()))) (K (.exit 0) (SSh.enc G F10_0x1 ((), ()))) k x.1.2.1 x.1.2.2.1 x.1.2.2.2.1 x.2.1.1) laws fnok (E42_ok n).tab (AllF.of (l := []) (by kernel_rfl) AllF.nil) (fun _ _ _ => rfl) (fun R k y K => F10_0_eq n R (fun (x : SSh.den G F10_0s) => F10_0_it n (fun u0 => K .ret (SSh.enc G F10_0x0 ((u0, ()), ()))) (K (.exit 0) (SSh.enc G F10_0x1 ((), ()))) k x.1.2.1 x.1.2.2.1 x.1.2.2.2.1 x.2.1.1) y K) n
noncomputable def F10 (n : Nat) (a1110 : List Obj) : Option (Bool × Unit) :=
  (bif (decide (((a1110.length) : Int) > (600 : Int))) then
  some (false, ())
  else (F10_0 n a1110 ((a1110.length) : Int) (0 : Int) a1110 (fun z1699 =>
  some (z1699, ())) (
  some (true, ()))))
noncomputable def F10e (n : Nat) : Ent G := ⟨10, (.cons (.agg (.cons (.imm 4) .nil)) .nil), [], .bool, [], fun x y => F10 n x.1.1⟩
theorem F10_eq (n : Nat) (x : ShL.den G (.cons (.agg (.cons (.imm 4) .nil)) .nil)) (y : denO G []) : (F10e n).F x y = runFn prog G (ro G (tabOf (E42 n)) (frOf [F10_0z n]) _) Go.Proofs.Try.f10 (.nd .no (.nd .no (.nd (.nd .no (.nd (.use 0) .no)) .no))) [(0, .fz)] (ShL.enc G (.cons (.agg (.cons (.imm 4) .nil)) .nil) x) (encO G [] y) (decR .bool []) := by kernel_rfl
theorem F10_ok (n : Nat) : EntOK prog G (F10e n) :=
  ent_ok (fr := frOf [F10_0z n]) (ann := (.nd .no (.nd .no (.nd (.nd .no (.nd (.use 0) .no)) .no)))) (frm := [(0, .fz)]) laws fnok (E42_ok n).tab (e := F10e n) (fn := Go.Proofs.Try.f10) (by kernel_rfl) (AllF.ofB (cd := F10c) (l := [(0, codeAt F10c [1, 1, 0, 1, 0])]) (by kernel_rfl) (by kernel_rfl) (AllF.cons (F10_0_ok n) AllF.nil)) (F10_eq n)
noncomputable def E43 (n : Nat) : List (Ent G) := F10e n :: E42 n
theorem E43_ok (n : Nat) : AllE prog G (E43 n) := AllE.cons (F10_ok n) (E42_ok n)
-- 13 loop.example/slowworm/spec.HeapOk
noncomputable def F13c : Code := bodyOf Go.Proofs.Try.f13
-- 31 loop.example/slowworm/spec.validHeap
noncomputable def F31c : Code := bodyOf Go.Proofs.Try.f31
-- 55 loop.example/slowworm/spec.validObject
noncomputable def F55c : Code := bodyOf Go.Proofs.Try.f55
-- 83 loop.example/slowworm/spec.validValues
noncomputable def F83c : Code := bodyOf Go.Proofs.Try.f83
-- 34 loop.example/slowworm/spec.validValue
noncomputable def F34c : Code := bodyOf Go.Proofs.Try.f34
-- 58 loop.example/slowworm/spec.inRange
noncomputable def F58c : Code := bodyOf Go.Proofs.Try.f58
noncomputable def F58 (n : Nat) (a1744 : Int) (a1745 : Int) (a1746 : Int) : Option (Bool × Unit) :=
  (bif (decide (a1744 ≥ a1745)) then
  some ((decide (a1744 ≤ a1746)), ())
  else some (false, ()))
noncomputable def F58e (n : Nat) : Ent G := ⟨58, (.cons (.int .i64) (.cons (.int .i64) (.cons (.int .i64) .nil))), [], .bool, [], fun x y => F58 n x.1 x.2.1 x.2.2.1⟩
theorem F58_eq (n : Nat) (x : ShL.den G (.cons (.int .i64) (.cons (.int .i64) (.cons (.int .i64) .nil)))) (y : denO G []) : (F58e n).F x y = runFn prog G (ro G (tabOf (E43 n)) (frOf []) _) Go.Proofs.Try.f58 .no [(0, .fz)] (ShL.enc G (.cons (.int .i64) (.cons (.int .i64) (.cons (.int .i64) .nil))) x) (encO G [] y) (decR .bool []) := by kernel_rfl
theorem F58_ok (n : Nat) : EntOK prog G (F58e n) :=
  ent_ok (fr := frOf []) (ann := .no) (frm := [(0, .fz)]) laws fnok (E43_ok n).tab (e := F58e n) (fn := Go.Proofs.Try.f58) (by kernel_rfl) (AllF.ofB (cd := F58c) (l := []) (by kernel_rfl) (by kernel_rfl) AllF.nil) (F58_eq n)
noncomputable def E44 (n : Nat) : List (Ent G) := F58e n :: E43 n
theorem E44_ok (n : Nat) : AllE prog G (E44 n) := AllE.cons (F58_ok n) (E43_ok n)
-- 59 loop.example/slowworm/spec.validInt
noncomputable def F59c : Code := bodyOf Go.Proofs.Try.f59
noncomputable def F59_0x0 : SSh := ⟨44, [(0, .str), (3, .str)], []⟩
noncomputable def F59_0s : SSh := ⟨44, [(0, .str), (3, .str)], []⟩
noncomputable def F59_0 {R : Type} (n : Nat) (x1752 : ByteArray) (x1753 : ByteArray) (k0 : ByteArray → ByteArray → Option R) : Option R :=
  (bif (decide (((x1753.size) : Int) > (0 : Int))) then
  (bif (decide ((0 : Int) < ((x1753.size) : Int))) then
  (bif ((strOf x1753 (0 : Nat)) == (45 : Int)) then
  (bif (decide ((1 : Int) ≤ ((x1753.size) : Int))) then
  (bif (decide (((x1753.size) : Int) ≤ ((x1753.size) : Int))) then
  (k0 x1752 (x1753.extract (1 : Nat) (((x1753.size) : Int).toNat)))
  else none)
  else none)
  else (k0 x1752 x1753))
  else none)
  else (k0 x1752 x1753))
noncomputable def F59_0z (n : Nat) : Sm G := inZ G 0 ⟨[0, 3], []⟩ F59_0s fun R x K => F59_0 n x.1.1 x.1.2.1 (fun u0 u1 => K .normal (SSh.enc G F59_0x0 ((u0, (u1, ())), ())))
theorem F59_0_eq (n : Nat) (R : Type) (x : SSh.den G F59_0s) (K : AE → St G → Option R) :
  F59_0 n x.1.1 x.1.2.1 (fun u0 u1 => K .normal (SSh.enc G F59_0x0 ((u0, (u1, ())), ()))) = exec prog G (ro G (tabOf (E44 n)) (frOf []) R) 0 (codeAt F59c [1, 1, 0]) .no (SSh.enc G F59_0s x) (kNrm G (ro G (tabOf (E44 n)) (frOf []) R) 0 ⟨⟨[0, 3], []⟩, ⟨[2], []⟩, []⟩ K) := by kernel_rfl
theorem F59_0_ok (n : Nat) : FragOK prog G 0 (codeAt F59c [1, 1, 0]) (F59_0z n) :=
  frag_plain laws fnok (E44_ok n).tab (AllF.of (l := []) (by kernel_rfl) AllF.nil) (F59_0_eq n)
noncomputable def F59_1x0 : SSh := ⟨44, [(2, .bool)], []⟩
noncomputable def F59_1x1 : SSh := ⟨44, [(0, .str), (3, .str)], []⟩
noncomputable def F59_1s : SSh := ⟨44, [(0, .str), (3, .str), (4, (.int .i64))], []⟩
noncomputable def F59_1_step {R : Type} (n : Nat) (k0 : Bool → Option R) (k1 : ByteArray → ByteArray → Option R) (rec : ByteArray → ByteArray → Int → Option R) (x1761 : ByteArray) (x1762 : ByteArray) (x1763 : Int) : Option R :=
  (bif (decide (x1763 < ((x1762.size) : Int))) then
  (bif (decide ((0 : Int) ≤ x1763)) then
  (bif (decide (x1763 < ((x1762.size) : Int))) then
  (bif (decide ((strOf x1762 (x1763.toNat)) < (48 : Int))) then
  (k0 false)
  else (bif (decide ((0 : Int) ≤ x1763)) then
  (bif (decide (x1763 < ((x1762.size) : Int))) then
  (bif (decide ((strOf x1762 (x1763.toNat)) > (57 : Int))) then
  (k0 false)
  else (rec x1761 x1762 (IntKind.wrap .i64 (x1763 + (1 : Int)))))
  else none)
  else none))
  else none)
  else none)
  else (k1 x1761 x1762))
noncomputable def F59_1_it {R : Type} (n : Nat) (k0 : Bool → Option R) (k1 : ByteArray → ByteArray → Option R) : Nat → ByteArray → ByteArray → Int → Option R
  | 0, _, _, _ => none
  | k + 1, x1761, x1762, x1763 => F59_1_step n k0 k1 (F59_1_it n k0 k1 k) x1761 x1762 x1763
noncomputable def F59_1 {R : Type} (n : Nat) (x1761 : ByteArray) (x1762 : ByteArray) (x1763 : Int) (k0 : Bool → Option R) (k1 : ByteArray → ByteArray → Option R) : Option R := F59_1_it n k0 k1 n x1761 x1762 x1763
noncomputable def F59_1z (n : Nat) : Sm G := inZ G 0 ⟨[0, 3, 4], []⟩ F59_1s fun R x K => F59_1_it n (fun u0 => K .ret (SSh.enc G F59_1x0 ((u0, ()), ()))) (fun u0 u1 => K (.exit 0) (SSh.enc G F59_1x1 ((u0, (u1, ())), ()))) n x.1.1 x.1.2.1 x.1.2.2.1
theorem F59_1_eq (n : Nat) (R : Type) (rec : SSh.den G F59_1s → Option R) (x : SSh.den G F59_1s) (K : AE → St G → Option R) :
  F59_1_step n (fun u0 => K .ret (SSh.enc G F59_1x0 ((u0, ()), ()))) (fun u0 u1 => K (.exit 0) (SSh.enc G F59_1x1 ((u0, (u1, ())), ()))) (fun x1761 x1762 x1763 => rec ((x1761, (x1762, (x1763, ()))), ())) x.1.1 x.1.2.1 x.1.2.2.1 = exec prog G (ro G (tabOf (E44 n)) (frOf [F59_0z n]) R) 0 (codeAt F59c [1, 1, 1, 0, 1, 0, 0]) .no (SSh.enc G F59_1s x) (kLoop G (ro G (tabOf (E44 n)) (frOf [F59_0z n]) R) 0 ⟨[0, 3, 4], []⟩ F59_1s ⟨⟨[0, 3], []⟩, ⟨[2], []⟩, [(0, ⟨[0, 3], []⟩)]⟩ rec K) := by kernel_rfl
theorem F59_1_ok (n : Nat) : FragOK prog G 0 (codeAt F59c [1, 1, 1, 0, 1, 0]) (F59_1z n) :=
  frag_loop (Z := fun R k (x : SSh.den G F59_1s) K => F59_1_it n (fun u0 => K .ret (SSh.enc G F59_1x0 ((u0, ()), ()))) (fun u0 u1 => K (.exit 0) (SSh.enc G F59_1x1 ((u0, (u1, ())), ()))) k x.1.1 x.1.2.1 x.1.2.2.1) laws fnok (E44_ok n).tab (AllF.of (l := []) (by kernel_rfl) AllF.nil) (fun _ _ _ => rfl) (fun R k y K => F59_1_eq n R (fun (x : SSh.den G F59_1s) => F59_1_it n (fun u0 => K .ret (SSh.enc G F59_1x0 ((u0, ()), ()))) (fun u0 u1 => K (.exit 0) (SSh.enc G F59_1x1 ((u0, (u1, ())), ()))) k x.1.1 x.1.2.1 x.1.2.2.1) y K) n
noncomputable def F59 (n : Nat) (a1751 : ByteArray) : Option (Bool × Unit) :=
  (F59_0 n a1751 a1751 (fun z1759 z1760 =>
  (F59_1 n z1759 z1760 (0 : Int) (fun z1771 =>
  some (z1771, ())) (fun z1772 z1773 =>
  (andThen (F58 n ((z1773.size) : Int) (1 : Int) (40 : Int)) fun r1775 =>
  (bif r1775.1 then
  (bif (decide ((0 : Int) < ((z1773.size) : Int))) then
  (bif ((strOf z1773 (0 : Nat)) != (48 : Int)) then
  some (true, ())
  else some (((z1772.toList) == (({ data := #[48] } : ByteArray).toList)), ()))
  else none)
  else some (false, ())))))))
noncomputable def F59e (n : Nat) : Ent G := ⟨59, (.cons .str .nil), [], .bool, [], fun x y => F59 n x.1⟩
theorem F59_eq (n : Nat) (x : ShL.den G (.cons .str .nil)) (y : denO G []) : (F59e n).F x y = runFn prog G (ro G (tabOf (E44 n)) (frOf [F59_0z n, F59_1z n]) _) Go.Proofs.Try.f59 (.nd .no (.nd .no (.nd (.use 0) (.nd (.nd .no (.nd (.use 1) .no)) .no)))) [(0, .fz)] (ShL.enc G (.cons .str .nil) x) (encO G [] y) (decR .bool []) := by kernel_rfl
theorem F59_ok (n : Nat) : EntOK prog G (F59e n) :=
  ent_ok (fr := frOf [F59_0z n, F59_1z n]) (ann := (.nd .no (.nd .no (.nd (.use 0) (.nd (.nd .no (.nd (.use 1) .no)) .no))))) (frm := [(0, .fz)]) laws fnok (E44_ok n).tab (e := F59e n) (fn := Go.Proofs.Try.f59) (by kernel_rfl) (AllF.ofB (cd := F59c) (l := [(0, codeAt F59c [1, 1, 0]), (1, codeAt F59c [1, 1, 1, 0, 1, 0])]) (by kernel_rfl) (by kernel_rfl) (AllF.cons (F59_0_ok n) (AllF.cons (F59_1_ok n) AllF.nil))) (F59_eq n)
noncomputable def E45 (n : Nat) : List (Ent G) := F59e n :: E44 n
theorem E45_ok (n : Nat) : AllE prog G (E45 n) := AllE.cons (F59_ok n) (E44_ok n)
-- 60 loop.example/slowworm/spec.validText
noncomputable def F60c : Code := bodyOf Go.Proofs.Try.f60
noncomputable def F60 (n : Nat) (a1782 : ByteArray) : Option (Bool × Unit) :=
  some ((decide (((a1782.size) : Int) ≤ (400 : Int))), ())
noncomputable def F60e (n : Nat) : Ent G := ⟨60, (.cons .str .nil), [], .bool, [], fun x y => F60 n x.1⟩
theorem F60_eq (n : Nat) (x : ShL.den G (.cons .str .nil)) (y : denO G []) : (F60e n).F x y = runFn prog G (ro G (tabOf (E45 n)) (frOf []) _) Go.Proofs.Try.f60 .no [(0, .fz)] (ShL.enc G (.cons .str .nil) x) (encO G [] y) (decR .bool []) := by kernel_rfl
theorem F60_ok (n : Nat) : EntOK prog G (F60e n) :=
  ent_ok (fr := frOf []) (ann := .no) (frm := [(0, .fz)]) laws fnok (E45_ok n).tab (e := F60e n) (fn := Go.Proofs.Try.f60) (by kernel_rfl) (AllF.ofB (cd := F60c) (l := []) (by kernel_rfl) (by kernel_rfl) AllF.nil) (F60_eq n)
noncomputable def E46 (n : Nat) : List (Ent G) := F60e n :: E45 n
theorem E46_ok (n : Nat) : AllE prog G (E46 n) := AllE.cons (F60_ok n) (E45_ok n)
noncomputable def F34 (n : Nat) (a1735 : Int) (a1736 : ByteArray) (a1737 : Int) (a1738 : Int) : Option (Bool × Unit) :=
  (bif (a1735 == (0 : Int)) then
  (bif ((a1736.toList) == (({ data := #[] } : ByteArray).toList)) then
  some ((a1737 == (0 : Int)), ())
  else some (false, ()))
  else (bif (a1735 == (1 : Int)) then
  (bif ((a1736.toList) == (({ data := #[] } : ByteArray).toList)) then
  (andThen (F58 n a1737 (0 : Int) (1 : Int)) fun r1749 =>
  some (r1749.1, ()))
  else some (false, ()))
  else (bif (a1735 == (2 : Int)) then
  (andThen (F59 n a1736) fun r1779 =>
  (bif r1779.1 then
  some ((a1737 == (0 : Int)), ())
  else some (false, ())))
  else (bif (a1735 == (3 : Int)) then
  (andThen (F60 n a1736) fun r1785 =>
  (bif r1785.1 then
  some ((a1737 == (0 : Int)), ())
  else some (false, ())))
  else (bif (a1735 == (4 : Int)) then
  (bif ((a1736.toList) == (({ data := #[] } : ByteArray).toList)) then
  (andThen (F58 n a1737 (0 : Int) (IntKind.wrap .i64 (a1738 - (1 : Int)))) fun r1790 =>
  some (r1790.1, ()))
  else some (false, ()))
  else some (false, ()))))))
noncomputable def F34e (n : Nat) : Ent G := ⟨34, (.cons (.agg (.cons (.int .i64) (.cons .str (.cons (.int .i64) .nil)))) (.cons (.int .i64) .nil)), [], .bool, [], fun x y => F34 n x.1.1 x.1.2.1 x.1.2.2.1 x.2.1⟩
theorem F34_eq (n : Nat) (x : ShL.den G (.cons (.agg (.cons (.int .i64) (.cons .str (.cons (.int .i64) .nil)))) (.cons (.int .i64) .nil))) (y : denO G []) : (F34e n).F x y = runFn prog G (ro G (tabOf (E46 n)) (frOf []) _) Go.Proofs.Try.f34 .no [(0, .fz)] (ShL.enc G (.cons (.agg (.cons (.int .i64) (.cons .str (.cons (.int .i64) .nil)))) (.cons (.int .i64) .nil)) x) (encO G [] y) (decR .bool []) := by kernel_rfl
theorem F34_ok (n : Nat) : EntOK prog G (F34e n) :=
  ent_ok (fr := frOf []) (ann := .no) (frm := [(0, .fz)]) laws fnok (E46_ok n).tab (e := F34e n) (fn := Go.Proofs.Try.f34) (by kernel_rfl) (AllF.ofB (cd := F34c) (l := []) (by kernel_rfl) (by kernel_rfl) AllF.nil) (F34_eq n)
noncomputable def E47 (n : Nat) : List (Ent G) := F34e n :: E46 n
theorem E47_ok (n : Nat) : AllE prog G (E47 n) := AllE.cons (F34_ok n) (E46_ok n)
noncomputable def F83_0x0 : SSh := ⟨22, [(4, .bool)], []⟩
noncomputable def F83_0x1 : SSh := ⟨22, [(0, (.imm 3))], []⟩
noncomputable def F83_0s : SSh := ⟨22, [(0, (.imm 3)), (1, (.int .i64)), (5, (.int .i64))], []⟩
noncomputable def F83_0_step {R : Type} (n : Nat) (k0 : Bool → Option R) (k1 : List Val → Option R) (rec : List Val → Int → Int → Option R) (x1726 : List Val) (x1727 : Int) (x1728 : Int) : Option R :=
  (bif (decide (x1728 < ((x1726.length) : Int))) then
  (bif (decide ((0 : Int) ≤ x1728)) then
  (bif (decide (x1728 < ((x1726.length) : Int))) then
  let v1731 := (x1726.getD (x1728.toNat) (Val.mk (0 : Int) ({ data := #[] } : ByteArray) (0 : Int)))
  (andThen (F34 n v1731.kind v1731.text v1731.ref x1727) fun r1791 =>
  (bif (!r1791.1) then
  (k0 false)
  else (rec x1726 x1727 (IntKind.wrap .i64 (x1728 + (1 : Int))))))
  else none)
  else none)
  else (k1 x1726))
noncomputable def F83_0_it {R : Type} (n : Nat) (k0 : Bool → Option R) (k1 : List Val → Option R) : Nat → List Val → Int → Int → Option R
  | 0, _, _, _ => none
  | k + 1, x1726, x1727, x1728 => F83_0_step n k0 k1 (F83_0_it n k0 k1 k) x1726 x1727 x1728
noncomputable def F83_0 {R : Type} (n : Nat) (x1726 : List Val) (x1727 : Int) (x1728 : Int) (k0 : Bool → Option R) (k1 : List Val → Option R) : Option R := F83_0_it n k0 k1 n x1726 x1727 x1728
noncomputable def F83_0z (n : Nat) : Sm G := inZ G 0 ⟨[0, 1, 5], []⟩ F83_0s fun R x K => F83_0_it n (fun u0 => K .ret (SSh.enc G F83_0x0 ((u0, ()), ()))) (fun u0 => K (.exit 0) (SSh.enc G F83_0x1 ((u0, ()), ()))) n x.1.1 x.1.2.1 x.1.2.2.1
theorem F83_0_eq (n : Nat) (R : Type) (rec : SSh.den G F83_0s → Option R) (x : SSh.den G F83_0s) (K : AE → St G → Option R) :
  F83_0_step n (fun u0 => K .ret (SSh.enc G F83_0x0 ((u0, ()), ()))) (fun u0 => K (.exit 0) (SSh.enc G F83_0x1 ((u0, ()), ()))) (fun x1726 x1727 x1728 => rec ((x1726, (x1727, (x1728, ()))), ())) x.1.1 x.1.2.1 x.1.2.2.1 = exec prog G (ro G (tabOf (E47 n)) (frOf []) R) 0 (codeAt F83c [1, 0, 1, 0, 0]) .no (SSh.enc G F83_0s x) (kLoop G (ro G (tabOf (E47 n)) (frOf []) R) 0 ⟨[0, 1, 5], []⟩ F83_0s ⟨⟨[0], []⟩, ⟨[4], []⟩, [(0, ⟨[0], []⟩)]⟩ rec K) := by kernel_rfl
theorem F83_0_ok (n : Nat) : FragOK prog G 0 (codeAt F83c [1, 0, 1, 0]) (F83_0z n) :=
  frag_loop (Z := fun R k (x : SSh.den G F83_0s) K => F83_0_it n (fun u0 => K .ret (SSh.enc G F83_0x0 ((u0, ()), ()))) (fun u0 => K (.exit 0) (SSh.enc G F83_0x1 ((u0, ()), ()))) k x.1.1 x.1.2.1 x.1.2.2.1) laws fnok (E47_ok n).tab (AllF.of (l := []) (by kernel_rfl) AllF.nil) (fun _ _ _ => rfl) (fun R k y K => F83_0_eq n R (fun (x : SSh.den G F83_0s) => F83_0_it n (fun u0 => K .ret (SSh.enc G F83_0x0 ((u0, ()), ()))) (fun u0 => K (.exit 0) (SSh.enc G F83_0x1 ((u0, ()), ()))) k x.1.1 x.1.2.1 x.1.2.2.1) y K) n
noncomputable def F83 (n : Nat) (a1724 : List Val) (a1725 : Int) : Option (Bool × Unit) :=
  (F83_0 n a1724 a1725 (0 : Int) (fun z1794 =>
  some (z1794, ())) (fun z1795 =>
  some ((decide (((z1795.length) : Int) ≤ (60 : Int))), ())))
noncomputable def F83e (n : Nat) : Ent G := ⟨83, (.cons (.imm 3) (.cons (.int .i64) .nil)), [], .bool, [], fun x y => F83 n x.1 x.2.1⟩
theorem F83_eq (n : Nat) (x : ShL.den G (.cons (.imm 3) (.cons (.int .i64) .nil))) (y : denO G []) : (F83e n).F x y = runFn prog G (ro G (tabOf (E47 n)) (frOf [F83_0z n]) _) Go.Proofs.Try.f83 (.nd .no (.nd (.nd .no (.nd (.use 0) .no)) .no)) [(0, .fz)] (ShL.enc G (.cons (.imm 3) (.cons (.int .i64) .nil)) x) (encO G [] y) (decR .bool []) := by kernel_rfl
theorem F83_ok (n : Nat) : EntOK prog G (F83e n) :=
  ent_ok (fr := frOf [F83_0z n]) (ann := (.nd .no (.nd (.nd .no (.nd (.use 0) .no)) .no))) (frm := [(0, .fz)]) laws fnok (E47_ok n).tab (e := F83e n) (fn := Go.Proofs.Try.f83) (by kernel_rfl) (AllF.ofB (cd := F83c) (l := [(0, codeAt F83c [1, 0, 1, 0])]) (by kernel_rfl) (by kernel_rfl) (AllF.cons (F83_0_ok n) AllF.nil)) (F83_eq n)
noncomputable def E48 (n : Nat) : List (Ent G) := F83e n :: E47 n
theorem E48_ok (n : Nat) : AllE prog G (E48 n) := AllE.cons (F83_ok n) (E47_ok n)
-- 84 loop.example/slowworm/spec.onceEach
noncomputable def F84c : Code := bodyOf Go.Proofs.Try.f84
-- 85 loop.example/slowworm/spec.validName
noncomputable def F85c : Code := bodyOf Go.Proofs.Try.f85
-- 105 loop.example/slowworm/spec.letter
noncomputable def F105c : Code := bodyOf Go.Proofs.Try.f105
noncomputable def F105 (n : Nat) (a1820 : Int) : Option (Bool × Unit) :=
  (bif (decide (a1820 ≥ (97 : Int))) then
  (bif (decide (a1820 ≤ (122 : Int))) then
  some (true, ())
  else (bif (decide (a1820 ≥ (65 : Int))) then
  (bif (decide (a1820 ≤ (90 : Int))) then
  some (true, ())
  else some ((a1820 == (95 : Int)), ()))
  else some ((a1820 == (95 : Int)), ())))
  else (bif (decide (a1820 ≥ (65 : Int))) then
  (bif (decide (a1820 ≤ (90 : Int))) then
  some (true, ())
  else some ((a1820 == (95 : Int)), ()))
  else some ((a1820 == (95 : Int)), ())))
noncomputable def F105e (n : Nat) : Ent G := ⟨105, (.cons (.int .u8) .nil), [], .bool, [], fun x y => F105 n x.1⟩
theorem F105_eq (n : Nat) (x : ShL.den G (.cons (.int .u8) .nil)) (y : denO G []) : (F105e n).F x y = runFn prog G (ro G (tabOf (E48 n)) (frOf []) _) Go.Proofs.Try.f105 .no [(0, .fz)] (ShL.enc G (.cons (.int .u8) .nil) x) (encO G [] y) (decR .bool []) := by kernel_rfl
theorem F105_ok (n : Nat) : EntOK prog G (F105e n) :=
  ent_ok (fr := frOf []) (ann := .no) (frm := [(0, .fz)]) laws fnok (E48_ok n).tab (e := F105e n) (fn := Go.Proofs.Try.f105) (by kernel_rfl) (AllF.ofB (cd := F105c) (l := []) (by kernel_rfl) (by kernel_rfl) AllF.nil) (F105_eq n)
noncomputable def E49 (n : Nat) : List (Ent G) := F105e n :: E48 n
theorem E49_ok (n : Nat) : AllE prog G (E49 n) := AllE.cons (F105_ok n) (E48_ok n)
-- 106 loop.example/slowworm/spec.digit
noncomputable def F106c : Code := bodyOf Go.Proofs.Try.f106
noncomputable def F106 (n : Nat) (a1835 : Int) : Option (Bool × Unit) :=
  (bif (decide (a1835 ≥ (48 : Int))) then
  some ((decide (a1835 ≤ (57 : Int))), ())
  else some (false, ()))
noncomputable def F106e (n : Nat) : Ent G := ⟨106, (.cons (.int .u8) .nil), [], .bool, [], fun x y => F106 n x.1⟩
theorem F106_eq (n : Nat) (x : ShL.den G (.cons (.int .u8) .nil)) (y : denO G []) : (F106e n).F x y = runFn prog G (ro G (tabOf (E49 n)) (frOf []) _) Go.Proofs.Try.f106 .no [(0, .fz)] (ShL.enc G (.cons (.int .u8) .nil) x) (encO G [] y) (decR .bool []) := by kernel_rfl
theorem F106_ok (n : Nat) : EntOK prog G (F106e n) :=
  ent_ok (fr := frOf []) (ann := .no) (frm := [(0, .fz)]) laws fnok (E49_ok n).tab (e := F106e n) (fn := Go.Proofs.Try.f106) (by kernel_rfl) (AllF.ofB (cd := F106c) (l := []) (by kernel_rfl) (by kernel_rfl) AllF.nil) (F106_eq n)
noncomputable def E50 (n : Nat) : List (Ent G) := F106e n :: E49 n
theorem E50_ok (n : Nat) : AllE prog G (E50 n) := AllE.cons (F106_ok n) (E49_ok n)
noncomputable def F85_0x0 : SSh := ⟨34, [(2, .bool)], []⟩
noncomputable def F85_0x1 : SSh := ⟨34, [(0, .str)], []⟩
noncomputable def F85_0s : SSh := ⟨34, [(0, .str), (3, (.int .i64))], []⟩
noncomputable def F85_0_step {R : Type} (n : Nat) (k0 : Bool → Option R) (k1 : ByteArray → Option R) (rec : ByteArray → Int → Option R) (x1815 : ByteArray) (x1816 : Int) : Option R :=
  (bif (decide (x1816 < ((x1815.size) : Int))) then
  (bif (decide ((0 : Int) ≤ x1816)) then
  (bif (decide (x1816 < ((x1815.size) : Int))) then
  (andThen (F105 n (strOf x1815 (x1816.toNat))) fun r1831 =>
  (bif (!r1831.1) then
  (bif (x1816 == (0 : Int)) then
  (k0 false)
  else (bif (decide ((0 : Int) ≤ x1816)) then
  (bif (decide (x1816 < ((x1815.size) : Int))) then
  (andThen (F106 n (strOf x1815 (x1816.toNat))) fun r1838 =>
  (bif (!r1838.1) then
  (k0 false)
  else (rec x1815 (IntKind.wrap .i64 (x1816 + (1 : Int))))))
  else none)
  else none))
  else (rec x1815 (IntKind.wrap .i64 (x1816 + (1 : Int))))))
  else none)
  else none)
  else (k1 x1815))
noncomputable def F85_0_it {R : Type} (n : Nat) (k0 : Bool → Option R) (k1 : ByteArray → Option R) : Nat → ByteArray → Int → Option R
  | 0, _, _ => none
  | k + 1, x1815, x1816 => F85_0_step n k0 k1 (F85_0_it n k0 k1 k) x1815 x1816
noncomputable def F85_0 {R : Type} (n : Nat) (x1815 : ByteArray) (x1816 : Int) (k0 : Bool → Option R) (k1 : ByteArray → Option R) : Option R := F85_0_it n k0 k1 n x1815 x1816
noncomputable def F85_0z (n : Nat) : Sm G := inZ G 0 ⟨[0, 3], []⟩ F85_0s fun R x K => F85_0_it n (fun u0 => K .ret (SSh.enc G F85_0x0 ((u0, ()), ()))) (fun u0 => K (.exit 0) (SSh.enc G F85_0x1 ((u0, ()), ()))) n x.1.1 x.1.2.1
theorem F85_0_eq (n : Nat) (R : Type) (rec : SSh.den G F85_0s → Option R) (x : SSh.den G F85_0s) (K : AE → St G → Option R) :
  F85_0_step n (fun u0 => K .ret (SSh.enc G F85_0x0 ((u0, ()), ()))) (fun u0 => K (.exit 0) (SSh.enc G F85_0x1 ((u0, ()), ()))) (fun x1815 x1816 => rec ((x1815, (x1816, ())), ())) x.1.1 x.1.2.1 = exec prog G (ro G (tabOf (E50 n)) (frOf []) R) 0 (codeAt F85c [1, 0, 1, 0, 0]) .no (SSh.enc G F85_0s x) (kLoop G (ro G (tabOf (E50 n)) (frOf []) R) 0 ⟨[0, 3], []⟩ F85_0s ⟨⟨[0], []⟩, ⟨[2], []⟩, [(0, ⟨[0], []⟩)]⟩ rec K) := by kernel_rfl
theorem F85_0_ok (n : Nat) : FragOK prog G 0 (codeAt F85c [1, 0, 1, 0]) (F85_0z n) :=
  frag_loop (Z := fun R k (x : SSh.den G F85_0s) K => F85_0_it n (fun u0 => K .ret (SSh.enc G F85_0x0 ((u0, ()), ()))) (fun u0 => K (.exit 0) (SSh.enc G F85_0x1 ((u0, ()), ()))) k x.1.1 x.1.2.1) laws fnok (E50_ok n).tab (AllF.of (l := []) (by kernel_rfl) AllF.nil) (fun _ _ _ => rfl) (fun R k y K => F85_0_eq n R (fun (x : SSh.den G F85_0s) => F85_0_it n (fun u0 => K .ret (SSh.enc G F85_0x0 ((u0, ()), ()))) (fun u0 => K (.exit 0) (SSh.enc G F85_0x1 ((u0, ()), ()))) k x.1.1 x.1.2.1) y K) n
-- 107 loop.example/slowworm/spec.isKeyword
noncomputable def F107c : Code := bodyOf Go.Proofs.Try.f107
-- 113 loop.example/slowworm/spec.keywords
noncomputable def F113c : Code := bodyOf Go.Proofs.Try.f113
noncomputable def F113 (n : Nat)  : Option (List ByteArray × Unit) :=
  some ((({ data := #[78, 111, 110, 101] } : ByteArray) :: (({ data := #[84, 114, 117, 101] } : ByteArray) :: (({ data := #[70, 97, 108, 115, 101] } : ByteArray) :: (({ data := #[97, 110, 100] } : ByteArray) :: (({ data := #[111, 114] } : ByteArray) :: (({ data := #[110, 111, 116] } : ByteArray) :: (({ data := #[105, 110] } : ByteArray) :: (({ data := #[105, 115] } : ByteArray) :: (({ data := #[105, 102] } : ByteArray) :: (({ data := #[101, 108, 105, 102] } : ByteArray) :: (({ data := #[101, 108, 115, 101] } : ByteArray) :: (({ data := #[119, 104, 105, 108, 101] } : ByteArray) :: (({ data := #[102, 111, 114] } : ByteArray) :: (({ data := #[98, 114, 101, 97, 107] } : ByteArray) :: (({ data := #[99, 111, 110, 116, 105, 110, 117, 101] } : ByteArray) :: (({ data := #[112, 97, 115, 115] } : ByteArray) :: (({ data := #[100, 101, 102] } : ByteArray) :: (({ data := #[114, 101, 116, 117, 114, 110] } : ByteArray) :: (({ data := #[108, 97, 109, 98, 100, 97] } : ByteArray) :: (({ data := #[99, 108, 97, 115, 115] } : ByteArray) :: (({ data := #[116, 114, 121] } : ByteArray) :: (({ data := #[101, 120, 99, 101, 112, 116] } : ByteArray) :: (({ data := #[102, 105, 110, 97, 108, 108, 121] } : ByteArray) :: (({ data := #[114, 97, 105, 115, 101] } : ByteArray) :: (({ data := #[97, 115] } : ByteArray) :: (({ data := #[103, 108, 111, 98, 97, 108] } : ByteArray) :: (({ data := #[110, 111, 110, 108, 111, 99, 97, 108] } : ByteArray) :: (({ data := #[121, 105, 101, 108, 100] } : ByteArray) :: (({ data := #[105, 109, 112, 111, 114, 116] } : ByteArray) :: (({ data := #[100, 101, 108] } : ByteArray) :: (({ data := #[97, 115, 115, 101, 114, 116] } : ByteArray) :: []))))))))))))))))))))))))))))))), ())
noncomputable def F113e (n : Nat) : Ent G := ⟨113, .nil, [], (.imm 2), [], fun x y => F113 n⟩
theorem F113_eq (n : Nat) (x : ShL.den G .nil) (y : denO G []) : (F113e n).F x y = runFn prog G (ro G (tabOf (E50 n)) (frOf []) _) Go.Proofs.Try.f113 .no [(0, .fz)] (ShL.enc G .nil x) (encO G [] y) (decR (.imm 2) []) := by kernel_rfl
theorem F113_ok (n : Nat) : EntOK prog G (F113e n) :=
  ent_ok (fr := frOf []) (ann := .no) (frm := [(0, .fz)]) laws fnok (E50_ok n).tab (e := F113e n) (fn := Go.Proofs.Try.f113) (by kernel_rfl) (AllF.ofB (cd := F113c) (l := []) (by kernel_rfl) (by kernel_rfl) AllF.nil) (F113_eq n)
noncomputable def E51 (n : Nat) : List (Ent G) := F113e n :: E50 n
theorem E51_ok (n : Nat) : AllE prog G (E51 n) := AllE.cons (F113_ok n) (E50_ok n)
noncomputable def F107 (n : Nat) (a1846 : ByteArray) : Option (Bool × Unit) :=
  (andThen (F113 n) fun r1848 =>
  (andThen (F66 n r1848.1 a1846) fun r1849 =>
  some (r1849.1, ())))
noncomputable def F107e (n : Nat) : Ent G := ⟨107, (.cons .str .nil), [], .bool, [], fun x y => F107 n x.1⟩
theorem F107_eq (n : Nat) (x : ShL.den G (.cons .str .nil)) (y : denO G []) : (F107e n).F x y = runFn prog G (ro G (tabOf (E51 n)) (frOf []) _) Go.Proofs.Try.f107 .no [(0, .fz)] (ShL.enc G (.cons .str .nil) x) (encO G [] y) (decR .bool []) := by kernel_rfl
theorem F107_ok (n : Nat) : EntOK prog G (F107e n) :=
  ent_ok (fr := frOf []) (ann := .no) (frm := [(0, .fz)]) laws fnok (E51_ok n).tab (e := F107e n) (fn := Go.Proofs.Try.f107) (by kernel_rfl) (AllF.ofB (cd := F107c) (l := []) (by kernel_rfl) (by kernel_rfl) AllF.nil) (F107_eq n)
noncomputable def E52 (n : Nat) : List (Ent G) := F107e n :: E51 n
theorem E52_ok (n : Nat) : AllE prog G (E52 n) := AllE.cons (F107_ok n) (E51_ok n)
noncomputable def F85 (n : Nat) (a1814 : ByteArray) : Option (Bool × Unit) :=
  (F85_0 n a1814 (0 : Int) (fun z1842 =>
  some (z1842, ())) (fun z1843 =>
  (andThen (F58 n ((z1843.size) : Int) (1 : Int) (12 : Int)) fun r1845 =>
  (bif r1845.1 then
  (andThen (F107 n z1843) fun r1850 =>
  some ((!r1850.1), ()))
  else some (false, ())))))
noncomputable def F85e (n : Nat) : Ent G := ⟨85, (.cons .str .nil), [], .bool, [], fun x y => F85 n x.1⟩
theorem F85_eq (n : Nat) (x : ShL.den G (.cons .str .nil)) (y : denO G []) : (F85e n).F x y = runFn prog G (ro G (tabOf (E52 n)) (frOf [F85_0z n]) _) Go.Proofs.Try.f85 (.nd .no (.nd (.nd .no (.nd (.use 0) .no)) .no)) [(0, .fz)] (ShL.enc G (.cons .str .nil) x) (encO G [] y) (decR .bool []) := by kernel_rfl
theorem F85_ok (n : Nat) : EntOK prog G (F85e n) :=
  ent_ok (fr := frOf [F85_0z n]) (ann := (.nd .no (.nd (.nd .no (.nd (.use 0) .no)) .no))) (frm := [(0, .fz)]) laws fnok (E52_ok n).tab (e := F85e n) (fn := Go.Proofs.Try.f85) (by kernel_rfl) (AllF.ofB (cd := F85c) (l := [(0, codeAt F85c [1, 0, 1, 0])]) (by kernel_rfl) (by kernel_rfl) (AllF.cons (F85_0_ok n) AllF.nil)) (F85_eq n)
noncomputable def E53 (n : Nat) : List (Ent G) := F85e n :: E52 n
theorem E53_ok (n : Nat) : AllE prog G (E53 n) := AllE.cons (F85_ok n) (E52_ok n)
-- 66 loop.example/slowworm/spec.isOne
noncomputable def F66v1c : Code := bodyOf Go.Proofs.Try.f66
noncomputable def F66v1_0x0 : SSh := ⟨18, [(4, .bool)], []⟩
noncomputable def F66v1_0x1 : SSh := ⟨18, [], []⟩
noncomputable def F66v1_0s : SSh := ⟨18, [(0, (.old 2)), (1, .str), (5, (.int .i64))], []⟩
noncomputable def F66v1_0_step {R : Type} (n : Nat) (k0 : Bool → Option R) (k1 : Option R) (rec : List ByteArray → ByteArray → Int → Option R) (x1859 : List ByteArray) (x1860 : ByteArray) (x1861 : Int) : Option R :=
  (bif (decide (x1861 < ((x1859.length) : Int))) then
  (bif (decide ((0 : Int) ≤ x1861)) then
  (bif (decide (x1861 < ((x1859.length) : Int))) then
  (bif (((x1859.getD (x1861.toNat) ({ data := #[] } : ByteArray)).toList) == (x1860.toList)) then
  (k0 true)
  else (rec x1859 x1860 (IntKind.wrap .i64 (x1861 + (1 : Int)))))
  else none)
  else none)
  else k1)
noncomputable def F66v1_0_it {R : Type} (n : Nat) (k0 : Bool → Option R) (k1 : Option R) : Nat → List ByteArray → ByteArray → Int → Option R
  | 0, _, _, _ => none
  | k + 1, x1859, x1860, x1861 => F66v1_0_step n k0 k1 (F66v1_0_it n k0 k1 k) x1859 x1860 x1861
noncomputable def F66v1_0 {R : Type} (n : Nat) (x1859 : List ByteArray) (x1860 : ByteArray) (x1861 : Int) (k0 : Bool → Option R) (k1 : Option R) : Option R := F66v1_0_it n k0 k1 n x1859 x1860 x1861
noncomputable def F66v1_0z (n : Nat) : Sm G := inZ G 0 ⟨[0, 1, 5], []⟩ F66v1_0s fun R x K => F66v1_0_it n (fun u0 => K .ret (SSh.enc G F66v1_0x0 ((u0, ()), ()))) (K (.exit 0) (SSh.enc G F66v1_0x1 ((), ()))) n x.1.1 x.1.2.1 x.1.2.2.1
theorem F66v1_0_eq (n : Nat) (R : Type) (rec : SSh.den G F66v1_0s → Option R) (x : SSh.den G F66v1_0s) (K : AE → St G → Option R) :
  F66v1_0_step n (fun u0 => K .ret (SSh.enc G F66v1_0x0 ((u0, ()), ()))) (K (.exit 0) (SSh.enc G F66v1_0x1 ((), ()))) (fun x1859 x1860 x1861 => rec ((x1859, (x1860, (x1861, ()))), ())) x.1.1 x.1.2.1 x.1.2.2.1 = exec prog G (ro G (tabOf (E53 n)) (frOf []) R) 0 (codeAt F66v1c [1, 0, 1, 0, 0]) .no (SSh.enc G F66v1_0s x) (kLoop G (ro G (tabOf (E53 n)) (frOf []) R) 0 ⟨[0, 1, 5], []⟩ F66v1_0s ⟨⟨[], []⟩, ⟨[4], []⟩, [(0, ⟨[], []⟩)]⟩ rec K) := by kernel_rfl
theorem F66v1_0_ok (n : Nat) : FragOK prog G 0 (codeAt F66v1c [1, 0, 1, 0]) (F66v1_0z n) :=
  frag_loop (Z := fun R k (x : SSh.den G F66v1_0s) K => F66v1_0_it n (fun u0 => K .ret (SSh.enc G F66v1_0x0 ((u0, ()), ()))) (K (.exit 0) (SSh.enc G F66v1_0x1 ((), ()))) k x.1.1 x.1.2.1 x.1.2.2.1) laws fnok (E53_ok n).tab (AllF.of (l := []) (by kernel_rfl) AllF.nil) (fun _ _ _ => rfl) (fun R k y K => F66v1_0_eq n R (fun (x : SSh.den G F66v1_0s) => F66v1_0_it n (fun u0 => K .ret (SSh.enc G F66v1_0x0 ((u0, ()), ()))) (K (.exit 0) (SSh.enc G F66v1_0x1 ((), ()))) k x.1.1 x.1.2.1 x.1.2.2.1) y K) n
noncomputable def F66v1 (n : Nat) (a1857 : List ByteArray) (a1858 : ByteArray) : Option (Bool × Unit) :=
  (F66v1_0 n a1857 a1858 (0 : Int) (fun z1868 =>
  some (z1868, ())) (
  some (false, ())))
noncomputable def F66v1e (n : Nat) : Ent G := ⟨66, (.cons (.old 2) (.cons .str .nil)), [], .bool, [], fun x y => F66v1 n x.1 x.2.1⟩
theorem F66v1_eq (n : Nat) (x : ShL.den G (.cons (.old 2) (.cons .str .nil))) (y : denO G []) : (F66v1e n).F x y = runFn prog G (ro G (tabOf (E53 n)) (frOf [F66v1_0z n]) _) Go.Proofs.Try.f66 (.nd .no (.nd (.nd .no (.nd (.use 0) .no)) .no)) [(0, .fz)] (ShL.enc G (.cons (.old 2) (.cons .str .nil)) x) (encO G [] y) (decR .bool []) := by kernel_rfl
theorem F66v1_ok (n : Nat) : EntOK prog G (F66v1e n) :=
  ent_ok (fr := frOf [F66v1_0z n]) (ann := (.nd .no (.nd (.nd .no (.nd (.use 0) .no)) .no))) (frm := [(0, .fz)]) laws fnok (E53_ok n).tab (e := F66v1e n) (fn := Go.Proofs.Try.f66) (by kernel_rfl) (AllF.ofB (cd := F66v1c) (l := [(0, codeAt F66v1c [1, 0, 1, 0])]) (by kernel_rfl) (by kernel_rfl) (AllF.cons (F66v1_0_ok n) AllF.nil)) (F66v1_eq n)
noncomputable def E54 (n : Nat) : List (Ent G) := F66v1e n :: E53 n
theorem E54_ok (n : Nat) : AllE prog G (E54 n) := AllE.cons (F66v1_ok n) (E53_ok n)
noncomputable def F84_0x0 : SSh := ⟨26, [(2, .bool)], []⟩
noncomputable def F84_0x1 : SSh := ⟨26, [], []⟩
noncomputable def F84_0s : SSh := ⟨26, [(0, (.imm 2)), (3, (.int .i64))], []⟩
noncomputable def F84_0_step {R : Type} (n : Nat) (k0 : Bool → Option R) (k1 : Option R) (rec : List ByteArray → Int → Option R) (x1808 : List ByteArray) (x1809 : Int) : Option R :=
  (bif (decide (x1809 < ((x1808.length) : Int))) then
  (bif (decide ((0 : Int) ≤ x1809)) then
  (bif (decide (x1809 < ((x1808.length) : Int))) then
  (andThen (F85 n (x1808.getD (x1809.toNat) ({ data := #[] } : ByteArray))) fun r1852 =>
  (bif (!r1852.1) then
  (k0 false)
  else (bif (decide ((0 : Int) ≤ x1809)) then
  (bif (decide (x1809 ≤ ((x1808.length) : Int))) then
  (bif (decide ((0 : Int) ≤ x1809)) then
  (bif (decide (x1809 < ((x1808.length) : Int))) then
  (andThen (F66v1 n ((x1808.take (x1809.toNat)).drop (0 : Nat)) (x1808.getD (x1809.toNat) ({ data := #[] } : ByteArray))) fun r1869 =>
  (bif r1869.1 then
  (k0 false)
  else (rec x1808 (IntKind.wrap .i64 (x1809 + (1 : Int))))))
  else none)
  else none)
  else none)
  else none)))
  else none)
  else none)
  else k1)
noncomputable def F84_0_it {R : Type} (n : Nat) (k0 : Bool → Option R) (k1 : Option R) : Nat → List ByteArray → Int → Option R
  | 0, _, _ => none
  | k + 1, x1808, x1809 => F84_0_step n k0 k1 (F84_0_it n k0 k1 k) x1808 x1809
noncomputable def F84_0 {R : Type} (n : Nat) (x1808 : List ByteArray) (x1809 : Int) (k0 : Bool → Option R) (k1 : Option R) : Option R := F84_0_it n k0 k1 n x1808 x1809
noncomputable def F84_0z (n : Nat) : Sm G := inZ G 0 ⟨[0, 3], []⟩ F84_0s fun R x K => F84_0_it n (fun u0 => K .ret (SSh.enc G F84_0x0 ((u0, ()), ()))) (K (.exit 0) (SSh.enc G F84_0x1 ((), ()))) n x.1.1 x.1.2.1
theorem F84_0_eq (n : Nat) (R : Type) (rec : SSh.den G F84_0s → Option R) (x : SSh.den G F84_0s) (K : AE → St G → Option R) :
  F84_0_step n (fun u0 => K .ret (SSh.enc G F84_0x0 ((u0, ()), ()))) (K (.exit 0) (SSh.enc G F84_0x1 ((), ()))) (fun x1808 x1809 => rec ((x1808, (x1809, ())), ())) x.1.1 x.1.2.1 = exec prog G (ro G (tabOf (E54 n)) (frOf []) R) 0 (codeAt F84c [1, 0, 1, 0, 0]) .no (SSh.enc G F84_0s x) (kLoop G (ro G (tabOf (E54 n)) (frOf []) R) 0 ⟨[0, 3], []⟩ F84_0s ⟨⟨[], []⟩, ⟨[2], []⟩, [(0, ⟨[], []⟩)]⟩ rec K) := by kernel_rfl
theorem F84_0_ok (n : Nat) : FragOK prog G 0 (codeAt F84c [1, 0, 1, 0]) (F84_0z n) :=
  frag_loop (Z := fun R k (x : SSh.den G F84_0s) K => F84_0_it n (fun u0 => K .ret (SSh.enc G F84_0x0 ((u0, ()), ()))) (K (.exit 0) (SSh.enc G F84_0x1 ((), ()))) k x.1.1 x.1.2.1) laws fnok (E54_ok n).tab (AllF.of (l := []) (by kernel_rfl) AllF.nil) (fun _ _ _ => rfl) (fun R k y K => F84_0_eq n R (fun (x : SSh.den G F84_0s) => F84_0_it n (fun u0 => K .ret (SSh.enc G F84_0x0 ((u0, ()), ()))) (K (.exit 0) (SSh.enc G F84_0x1 ((), ()))) k x.1.1 x.1.2.1) y K) n
noncomputable def F84 (n : Nat) (a1807 : List ByteArray) : Option (Bool × Unit) :=
  (F84_0 n a1807 (0 : Int) (fun z1871 =>
  some (z1871, ())) (
  some (true, ())))
noncomputable def F84e (n : Nat) : Ent G := ⟨84, (.cons (.imm 2) .nil), [], .bool, [], fun x y => F84 n x.1⟩
theorem F84_eq (n : Nat) (x : ShL.den G (.cons (.imm 2) .nil)) (y : denO G []) : (F84e n).F x y = runFn prog G (ro G (tabOf (E54 n)) (frOf [F84_0z n]) _) Go.Proofs.Try.f84 (.nd .no (.nd (.nd .no (.nd (.use 0) .no)) .no)) [(0, .fz)] (ShL.enc G (.cons (.imm 2) .nil) x) (encO G [] y) (decR .bool []) := by kernel_rfl
theorem F84_ok (n : Nat) : EntOK prog G (F84e n) :=
  ent_ok (fr := frOf [F84_0z n]) (ann := (.nd .no (.nd (.nd .no (.nd (.use 0) .no)) .no))) (frm := [(0, .fz)]) laws fnok (E54_ok n).tab (e := F84e n) (fn := Go.Proofs.Try.f84) (by kernel_rfl) (AllF.ofB (cd := F84c) (l := [(0, codeAt F84c [1, 0, 1, 0])]) (by kernel_rfl) (by kernel_rfl) (AllF.cons (F84_0_ok n) AllF.nil)) (F84_eq n)
noncomputable def E55 (n : Nat) : List (Ent G) := F84e n :: E54 n
theorem E55_ok (n : Nat) : AllE prog G (E55 n) := AllE.cons (F84_ok n) (E54_ok n)
noncomputable def F55_0x0 : SSh := ⟨208, [(1, (.int .i64)), (2, (.ptr 0 0)), (97, (.int .i64)), (113, .bool)], [(.box 51 (.cons (.int .i64) (.cons .str (.cons (.int .i64) (.cons (.imm 3) (.cons (.imm 3) (.cons (.imm 2) (.cons (.imm 3) .nil))))))))]⟩
noncomputable def F55_0s : SSh := ⟨208, [(1, (.int .i64)), (2, (.ptr 0 0)), (97, (.int .i64))], [(.box 51 (.cons (.int .i64) (.cons .str (.cons (.int .i64) (.cons (.imm 3) (.cons (.imm 3) (.cons (.imm 2) (.cons (.imm 3) .nil))))))))]⟩
noncomputable def F55_0 {R : Type} (n : Nat) (x1897 : Int) (x1898 : Int) (x1899 : Int) (x1900 : ByteArray) (x1901 : Int) (x1902 : List Val) (x1903 : List Val) (x1904 : List ByteArray) (x1905 : List Val) (k0 : Int → Int → Bool → Int → ByteArray → Int → List Val → List Val → List ByteArray → List Val → Option R) : Option R :=
  (bif (x1898 == (1 : Int)) then
  (k0 x1897 x1898 true x1899 x1900 x1901 x1902 x1903 x1904 x1905)
  else (bif (x1898 == (8 : Int)) then
  (k0 x1897 x1898 true x1899 x1900 x1901 x1902 x1903 x1904 x1905)
  else (k0 x1897 x1898 (x1898 == (7 : Int)) x1899 x1900 x1901 x1902 x1903 x1904 x1905)))
noncomputable def F55_0z (n : Nat) : Sm G := inZ G 0 ⟨[1, 2, 97], []⟩ F55_0s fun R x K => F55_0 n x.1.1 x.1.2.2.1 x.2.1.1 x.2.1.2.1 x.2.1.2.2.1 x.2.1.2.2.2.1 x.2.1.2.2.2.2.1 x.2.1.2.2.2.2.2.1 x.2.1.2.2.2.2.2.2.1 (fun u0 u1 u2 u3 u4 u5 u6 u7 u8 u9 => K .normal (SSh.enc G F55_0x0 ((u0, ((), (u1, (u2, ())))), ((u3, (u4, (u5, (u6, (u7, (u8, (u9, ()))))))), ()))))
theorem F55_0_eq (n : Nat) (R : Type) (x : SSh.den G F55_0s) (K : AE → St G → Option R) :
  F55_0 n x.1.1 x.1.2.2.1 x.2.1.1 x.2.1.2.1 x.2.1.2.2.1 x.2.1.2.2.2.1 x.2.1.2.2.2.2.1 x.2.1.2.2.2.2.2.1 x.2.1.2.2.2.2.2.2.1 (fun u0 u1 u2 u3 u4 u5 u6 u7 u8 u9 => K .normal (SSh.enc G F55_0x0 ((u0, ((), (u1, (u2, ())))), ((u3, (u4, (u5, (u6, (u7, (u8, (u9, ()))))))), ())))) = exec prog G (ro G (tabOf (E55 n)) (frOf []) R) 0 (codeAt F55c [1, 1, 1, 1, 1, 1, 0, 1, 0, 1, 1, 0]) .no (SSh.enc G F55_0s x) (kNrm G (ro G (tabOf (E55 n)) (frOf []) R) 0 ⟨⟨[1, 2, 97, 113], []⟩, ⟨[4], []⟩, [(0, ⟨[2], []⟩)]⟩ K) := by kernel_rfl
theorem F55_0_ok (n : Nat) : FragOK prog G 0 (codeAt F55c [1, 1, 1, 1, 1, 1, 0, 1, 0, 1, 1, 0]) (F55_0z n) :=
  frag_plain laws fnok (E55_ok n).tab (AllF.of (l := []) (by kernel_rfl) AllF.nil) (F55_0_eq n)
-- 86 loop.example/slowworm/spec.hashable
noncomputable def F86c : Code := bodyOf Go.Proofs.Try.f86
noncomputable def F86 (n : Nat) (a1938 : Int) (a1939 : ByteArray) (a1940 : Int) : Option (Bool × Unit) :=
  some ((a1938 != (4 : Int)), ())
noncomputable def F86e (n : Nat) : Ent G := ⟨86, (.cons (.agg (.cons (.int .i64) (.cons .str (.cons (.int .i64) .nil)))) .nil), [], .bool, [], fun x y => F86 n x.1.1 x.1.2.1 x.1.2.2.1⟩
theorem F86_eq (n : Nat) (x : ShL.den G (.cons (.agg (.cons (.int .i64) (.cons .str (.cons (.int .i64) .nil)))) .nil)) (y : denO G []) : (F86e n).F x y = runFn prog G (ro G (tabOf (E55 n)) (frOf []) _) Go.Proofs.Try.f86 .no [(0, .fz)] (ShL.enc G (.cons (.agg (.cons (.int .i64) (.cons .str (.cons (.int .i64) .nil)))) .nil) x) (encO G [] y) (decR .bool []) := by kernel_rfl
theorem F86_ok (n : Nat) : EntOK prog G (F86e n) :=
  ent_ok (fr := frOf []) (ann := .no) (frm := [(0, .fz)]) laws fnok (E55_ok n).tab (e := F86e n) (fn := Go.Proofs.Try.f86) (by kernel_rfl) (AllF.ofB (cd := F86c) (l := []) (by kernel_rfl) (by kernel_rfl) AllF.nil) (F86_eq n)
noncomputable def E56 (n : Nat) : List (Ent G) := F86e n :: E55 n
theorem E56_ok (n : Nat) : AllE prog G (E56 n) := AllE.cons (F86_ok n) (E55_ok n)
-- 64 loop.example/slowworm/spec.keyAt
noncomputable def F64v1c : Code := bodyOf Go.Proofs.Try.f64
noncomputable def F64v1_0x0 : SSh := ⟨19, [(4, (.int .i64))], []⟩
noncomputable def F64v1_0x1 : SSh := ⟨19, [], []⟩
noncomputable def F64v1_0s : SSh := ⟨19, [(0, (.old 3)), (3, (.ptr 0 0)), (5, (.int .i64))], [(.box 31 (.cons (.int .i64) (.cons .str (.cons (.int .i64) .nil))))]⟩
noncomputable def F64v1_0_step {R : Type} (n : Nat) (k0 : Int → Option R) (k1 : Option R) (rec : List Val → Int → Int → ByteArray → Int → Option R) (x1953 : List Val) (x1954 : Int) (x1955 : Int) (x1956 : ByteArray) (x1957 : Int) : Option R :=
  (bif (decide (x1954 < ((x1953.length) : Int))) then
  (bif (decide ((0 : Int) ≤ x1954)) then
  (bif (decide (x1954 < ((x1953.length) : Int))) then
  let v1960 := (x1953.getD (x1954.toNat) (Val.mk (0 : Int) ({ data := #[] } : ByteArray) (0 : Int)))
  (bif ((v1960.kind == x1955) && ((v1960.text == x1956) && (v1960.ref == x1957))) then
  (k0 x1954)
  else (rec x1953 (IntKind.wrap .i64 (x1954 + (1 : Int))) x1955 x1956 x1957))
  else none)
  else none)
  else k1)
noncomputable def F64v1_0_it {R : Type} (n : Nat) (k0 : Int → Option R) (k1 : Option R) : Nat → List Val → Int → Int → ByteArray → Int → Option R
  | 0, _, _, _, _, _ => none
  | k + 1, x1953, x1954, x1955, x1956, x1957 => F64v1_0_step n k0 k1 (F64v1_0_it n k0 k1 k) x1953 x1954 x1955 x1956 x1957
noncomputable def F64v1_0 {R : Type} (n : Nat) (x1953 : List Val) (x1954 : Int) (x1955 : Int) (x1956 : ByteArray) (x1957 : Int) (k0 : Int → Option R) (k1 : Option R) : Option R := F64v1_0_it n k0 k1 n x1953 x1954 x1955 x1956 x1957
noncomputable def F64v1_0z (n : Nat) : Sm G := inZ G 0 ⟨[0, 3, 5], []⟩ F64v1_0s fun R x K => F64v1_0_it n (fun u0 => K .ret (SSh.enc G F64v1_0x0 ((u0, ()), ()))) (K (.exit 0) (SSh.enc G F64v1_0x1 ((), ()))) n x.1.1 x.1.2.2.1 x.2.1.1 x.2.1.2.1 x.2.1.2.2.1
theorem F64v1_0_eq (n : Nat) (R : Type) (rec : SSh.den G F64v1_0s → Option R) (x : SSh.den G F64v1_0s) (K : AE → St G → Option R) :
  F64v1_0_step n (fun u0 => K .ret (SSh.enc G F64v1_0x0 ((u0, ()), ()))) (K (.exit 0) (SSh.enc G F64v1_0x1 ((), ()))) (fun x1953 x1954 x1955 x1956 x1957 => rec ((x1953, ((), (x1954, ()))), ((x1955, (x1956, (x1957, ()))), ()))) x.1.1 x.1.2.2.1 x.2.1.1 x.2.1.2.1 x.2.1.2.2.1 = exec prog G (ro G (tabOf (E56 n)) (frOf []) R) 0 (codeAt F64v1c [1, 0, 1, 0, 0]) .no (SSh.enc G F64v1_0s x) (kLoop G (ro G (tabOf (E56 n)) (frOf []) R) 0 ⟨[0, 3, 5], []⟩ F64v1_0s ⟨⟨[], []⟩, ⟨[4], []⟩, [(0, ⟨[], []⟩)]⟩ rec K) := by kernel_rfl
theorem F64v1_0_ok (n : Nat) : FragOK prog G 0 (codeAt F64v1c [1, 0, 1, 0]) (F64v1_0z n) :=
  frag_loop (Z := fun R k (x : SSh.den G F64v1_0s) K => F64v1_0_it n (fun u0 => K .ret (SSh.enc G F64v1_0x0 ((u0, ()), ()))) (K (.exit 0) (SSh.enc G F64v1_0x1 ((), ()))) k x.1.1 x.1.2.2.1 x.2.1.1 x.2.1.2.1 x.2.1.2.2.1) laws fnok (E56_ok n).tab (AllF.of (l := []) (by kernel_rfl) AllF.nil) (fun _ _ _ => rfl) (fun R k y K => F64v1_0_eq n R (fun (x : SSh.den G F64v1_0s) => F64v1_0_it n (fun u0 => K .ret (SSh.enc G F64v1_0x0 ((u0, ()), ()))) (K (.exit 0) (SSh.enc G F64v1_0x1 ((), ()))) k x.1.1 x.1.2.2.1 x.2.1.1 x.2.1.2.1 x.2.1.2.2.1) y K) n
noncomputable def F64v1 (n : Nat) (a1949 : List Val) (a1950 : Int) (a1951 : ByteArray) (a1952 : Int) : Option (Int × Unit) :=
  (F64v1_0 n a1949 (0 : Int) a1950 a1951 a1952 (fun z1966 =>
  some (z1966, ())) (
  some ((-1 : Int), ())))
noncomputable def F64v1e (n : Nat) : Ent G := ⟨64, (.cons (.old 3) (.cons (.agg (.cons (.int .i64) (.cons .str (.cons (.int .i64) .nil)))) .nil)), [], (.int .i64), [], fun x y => F64v1 n x.1 x.2.1.1 x.2.1.2.1 x.2.1.2.2.1⟩
theorem F64v1_eq (n : Nat) (x : ShL.den G (.cons (.old 3) (.cons (.agg (.cons (.int .i64) (.cons .str (.cons (.int .i64) .nil)))) .nil))) (y : denO G []) : (F64v1e n).F x y = runFn prog G (ro G (tabOf (E56 n)) (frOf [F64v1_0z n]) _) Go.Proofs.Try.f64 (.nd .no (.nd (.nd .no (.nd (.use 0) .no)) .no)) [(0, .fz)] (ShL.enc G (.cons (.old 3) (.cons (.agg (.cons (.int .i64) (.cons .str (.cons (.int .i64) .nil)))) .nil)) x) (encO G [] y) (decR (.int .i64) []) := by kernel_rfl
theorem F64v1_ok (n : Nat) : EntOK prog G (F64v1e n) :=
  ent_ok (fr := frOf [F64v1_0z n]) (ann := (.nd .no (.nd (.nd .no (.nd (.use 0) .no)) .no))) (frm := [(0, .fz)]) laws fnok (E56_ok n).tab (e := F64v1e n) (fn := Go.Proofs.Try.f64) (by kernel_rfl) (AllF.ofB (cd := F64v1c) (l := [(0, codeAt F64v1c [1, 0, 1, 0])]) (by kernel_rfl) (by kernel_rfl) (AllF.cons (F64v1_0_ok n) AllF.nil)) (F64v1_eq n)
noncomputable def E57 (n : Nat) : List (Ent G) := F64v1e n :: E56 n
theorem E57_ok (n : Nat) : AllE prog G (E57 n) := AllE.cons (F64v1_ok n) (E56_ok n)
noncomputable def F55_1x0 : SSh := ⟨208, [(4, .bool)], []⟩
noncomputable def F55_1x1 : SSh := ⟨208, [(2, (.ptr 0 0))], [(.box 51 (.cons (.int .i64) (.cons .str (.cons (.int .i64) (.cons (.imm 3) (.cons (.imm 3) (.cons (.imm 2) (.cons (.imm 3) .nil))))))))]⟩
noncomputable def F55_1s : SSh := ⟨208, [(2, (.ptr 0 0)), (7, (.int .i64))], [(.box 51 (.cons (.int .i64) (.cons .str (.cons (.int .i64) (.cons (.imm 3) (.cons (.imm 3) (.cons (.imm 2) (.cons (.imm 3) .nil))))))))]⟩
noncomputable def F55_1_step {R : Type} (n : Nat) (k0 : Bool → Option R) (k1 : Int → ByteArray → Int → List Val → List Val → List ByteArray → List Val → Option R) (rec : Int → Int → ByteArray → Int → List Val → List Val → List ByteArray → List Val → Option R) (x1924 : Int) (x1925 : Int) (x1926 : ByteArray) (x1927 : Int) (x1928 : List Val) (x1929 : List Val) (x1930 : List ByteArray) (x1931 : List Val) : Option R :=
  (bif (decide (x1924 < ((x1929.length) : Int))) then
  (bif (decide ((0 : Int) ≤ x1924)) then
  (bif (decide (x1924 < ((x1929.length) : Int))) then
  let v1934 := (x1929.getD (x1924.toNat) (Val.mk (0 : Int) ({ data := #[] } : ByteArray) (0 : Int)))
  (andThen (F86 n v1934.kind v1934.text v1934.ref) fun r1942 =>
  (bif (!r1942.1) then
  (k0 false)
  else (bif (decide ((0 : Int) ≤ x1924)) then
  (bif (decide (x1924 ≤ ((x1929.length) : Int))) then
  (bif (decide ((0 : Int) ≤ x1924)) then
  (bif (decide (x1924 < ((x1929.length) : Int))) then
  let v1945 := (x1929.getD (x1924.toNat) (Val.mk (0 : Int) ({ data := #[] } : ByteArray) (0 : Int)))
  (andThen (F64v1 n ((x1929.take (x1924.toNat)).drop (0 : Nat)) v1945.kind v1945.text v1945.ref) fun r1967 =>
  (bif (decide (r1967.1 ≥ (0 : Int))) then
  (k0 false)
  else (rec (IntKind.wrap .i64 (x1924 + (1 : Int))) x1925 x1926 x1927 x1928 x1929 x1930 x1931)))
  else none)
  else none)
  else none)
  else none)))
  else none)
  else none)
  else (k1 x1925 x1926 x1927 x1928 x1929 x1930 x1931))
noncomputable def F55_1_it {R : Type} (n : Nat) (k0 : Bool → Option R) (k1 : Int → ByteArray → Int → List Val → List Val → List ByteArray → List Val → Option R) : Nat → Int → Int → ByteArray → Int → List Val → List Val → List ByteArray → List Val → Option R
  | 0, _, _, _, _, _, _, _, _ => none
  | k + 1, x1924, x1925, x1926, x1927, x1928, x1929, x1930, x1931 => F55_1_step n k0 k1 (F55_1_it n k0 k1 k) x1924 x1925 x1926 x1927 x1928 x1929 x1930 x1931
noncomputable def F55_1 {R : Type} (n : Nat) (x1924 : Int) (x1925 : Int) (x1926 : ByteArray) (x1927 : Int) (x1928 : List Val) (x1929 : List Val) (x1930 : List ByteArray) (x1931 : List Val) (k0 : Bool → Option R) (k1 : Int → ByteArray → Int → List Val → List Val → List ByteArray → List Val → Option R) : Option R := F55_1_it n k0 k1 n x1924 x1925 x1926 x1927 x1928 x1929 x1930 x1931
noncomputable def F55_1z (n : Nat) : Sm G := inZ G 0 ⟨[2, 7], []⟩ F55_1s fun R x K => F55_1_it n (fun u0 => K .ret (SSh.enc G F55_1x0 ((u0, ()), ()))) (fun u0 u1 u2 u3 u4 u5 u6 => K (.exit 1) (SSh.enc G F55_1x1 (((), ()), ((u0, (u1, (u2, (u3, (u4, (u5, (u6, ()))))))), ())))) n x.1.2.1 x.2.1.1 x.2.1.2.1 x.2.1.2.2.1 x.2.1.2.2.2.1 x.2.1.2.2.2.2.1 x.2.1.2.2.2.2.2.1 x.2.1.2.2.2.2.2.2.1
theorem F55_1_eq (n : Nat) (R : Type) (rec : SSh.den G F55_1s → Option R) (x : SSh.den G F55_1s) (K : AE → St G → Option R) :
  F55_1_step n (fun u0 => K .ret (SSh.enc G F55_1x0 ((u0, ()), ()))) (fun u0 u1 u2 u3 u4 u5 u6 => K (.exit 1) (SSh.enc G F55_1x1 (((), ()), ((u0, (u1, (u2, (u3, (u4, (u5, (u6, ()))))))), ())))) (fun x1924 x1925 x1926 x1927 x1928 x1929 x1930 x1931 => rec (((), (x1924, ())), ((x1925, (x1926, (x1927, (x1928, (x1929, (x1930, (x1931, ()))))))), ()))) x.1.2.1 x.2.1.1 x.2.1.2.1 x.2.1.2.2.1 x.2.1.2.2.2.1 x.2.1.2.2.2.2.1 x.2.1.2.2.2.2.2.1 x.2.1.2.2.2.2.2.2.1 = exec prog G (ro G (tabOf (E57 n)) (frOf [F55_0z n]) R) 0 (codeAt F55c [1, 1, 1, 1, 1, 1, 0, 1, 0, 1, 1, 1, 1, 1, 0, 0, 1, 0, 0]) .no (SSh.enc G F55_1s x) (kLoop G (ro G (tabOf (E57 n)) (frOf [F55_0z n]) R) 0 ⟨[2, 7], []⟩ F55_1s ⟨⟨[2], []⟩, ⟨[4], []⟩, [(1, ⟨[2], []⟩), (0, ⟨[2], []⟩)]⟩ rec K) := by kernel_rfl
theorem F55_1_ok (n : Nat) : FragOK prog G 0 (codeAt F55c [1, 1, 1, 1, 1, 1, 0, 1, 0, 1, 1, 1, 1, 1, 0, 0, 1, 0]) (F55_1z n) :=
  frag_loop (Z := fun R k (x : SSh.den G F55_1s) K => F55_1_it n (fun u0 => K .ret (SSh.enc G F55_1x0 ((u0, ()), ()))) (fun u0 u1 u2 u3 u4 u5 u6 => K (.exit 1) (SSh.enc G F55_1x1 (((), ()), ((u0, (u1, (u2, (u3, (u4, (u5, (u6, ()))))))), ())))) k x.1.2.1 x.2.1.1 x.2.1.2.1 x.2.1.2.2.1 x.2.1.2.2.2.1 x.2.1.2.2.2.2.1 x.2.1.2.2.2.2.2.1 x.2.1.2.2.2.2.2.2.1) laws fnok (E57_ok n).tab (AllF.of (l := []) (by kernel_rfl) AllF.nil) (fun _ _ _ => rfl) (fun R k y K => F55_1_eq n R (fun (x : SSh.den G F55_1s) => F55_1_it n (fun u0 => K .ret (SSh.enc G F55_1x0 ((u0, ()), ()))) (fun u0 u1 u2 u3 u4 u5 u6 => K (.exit 1) (SSh.enc G F55_1x1 (((), ()), ((u0, (u1, (u2, (u3, (u4, (u5, (u6, ()))))))), ())))) k x.1.2.1 x.2.1.1 x.2.1.2.1 x.2.1.2.2.1 x.2.1.2.2.2.1 x.2.1.2.2.2.2.1 x.2.1.2.2.2.2.2.1 x.2.1.2.2.2.2.2.2.1) y K) n
noncomputable def F55_2x0 : SSh := ⟨208, [(4, .bool)], []⟩
noncomputable def F55_2x1 : SSh := ⟨208, [(2, (.ptr 0 0))], [(.box 51 (.cons (.int .i64) (.cons .str (.cons (.int .i64) (.cons (.imm 3) (.cons (.imm 3) (.cons (.imm 2) (.cons (.imm 3) .nil))))))))]⟩
noncomputable def F55_2s : SSh := ⟨208, [(1, (.int .i64)), (2, (.ptr 0 0))], [(.box 51 (.cons (.int .i64) (.cons .str (.cons (.int .i64) (.cons (.imm 3) (.cons (.imm 3) (.cons (.imm 2) (.cons (.imm 3) .nil))))))))]⟩
noncomputable def F55_2 {R : Type} (n : Nat) (x1883 : Int) (x1884 : Int) (x1885 : ByteArray) (x1886 : Int) (x1887 : List Val) (x1888 : List Val) (x1889 : List ByteArray) (x1890 : List Val) (k0 : Bool → Option R) (k1 : Int → ByteArray → Int → List Val → List Val → List ByteArray → List Val → Option R) : Option R :=
  (bif (x1884 == (0 : Int)) then
  (bif ((IntKind.wrap .i64 (((x1887.length) : Int) + ((x1888.length) : Int))) == (0 : Int)) then
  (k0 (x1886 == (0 : Int)))
  else (k0 false))
  else (F55_0 n x1883 x1884 x1884 x1885 x1886 x1887 x1888 x1889 x1890 (fun z1909 z1910 z1911 z1912 z1913 z1914 z1915 z1916 z1917 z1918 =>
  (bif z1911 then
  (bif (((z1916.length) : Int) == (0 : Int)) then
  (bif (z1912 != (1 : Int)) then
  (k0 true)
  else (k0 (z1914 == (0 : Int))))
  else (k0 false))
  else (bif (z1910 == (2 : Int)) then
  (F55_1 n (0 : Int) z1912 z1913 z1914 z1915 z1916 z1917 z1918 (fun z1970 =>
  (k0 z1970)) (fun z1971 z1972 z1973 z1974 z1975 z1976 z1977 =>
  (bif (((z1975.length) : Int) == ((z1974.length) : Int)) then
  (k0 (z1973 == (0 : Int)))
  else (k0 false))))
  else (bif (z1910 == (4 : Int)) then
  (bif (decide (((z1915.length) : Int) ≤ (1 : Int))) then
  (bif (((z1916.length) : Int) == (0 : Int)) then
  (k0 (z1914 == (0 : Int)))
  else (k0 false))
  else (k0 false))
  else (bif (z1910 == (6 : Int)) then
  (bif ((IntKind.wrap .i64 (((z1915.length) : Int) + ((z1916.length) : Int))) == (0 : Int)) then
  (k0 (decide (z1914 < z1909)))
  else (k0 false))
  else (k1 z1912 z1913 z1914 z1915 z1916 z1917 z1918))))))))
noncomputable def F55_2z (n : Nat) : Sm G := inZ G 0 ⟨[1, 2], []⟩ F55_2s fun R x K => F55_2 n x.1.1 x.2.1.1 x.2.1.2.1 x.2.1.2.2.1 x.2.1.2.2.2.1 x.2.1.2.2.2.2.1 x.2.1.2.2.2.2.2.1 x.2.1.2.2.2.2.2.2.1 (fun u0 => K .ret (SSh.enc G F55_2x0 ((u0, ()), ()))) (fun u0 u1 u2 u3 u4 u5 u6 => K .normal (SSh.enc G F55_2x1 (((), ()), ((u0, (u1, (u2, (u3, (u4, (u5, (u6, ()))))))), ()))))
theorem F55_2_eq (n : Nat) (R : Type) (x : SSh.den G F55_2s) (K : AE → St G → Option R) :
  F55_2 n x.1.1 x.2.1.1 x.2.1.2.1 x.2.1.2.2.1 x.2.1.2.2.2.1 x.2.1.2.2.2.2.1 x.2.1.2.2.2.2.2.1 x.2.1.2.2.2.2.2.2.1 (fun u0 => K .ret (SSh.enc G F55_2x0 ((u0, ()), ()))) (fun u0 u1 u2 u3 u4 u5 u6 => K .normal (SSh.enc G F55_2x1 (((), ()), ((u0, (u1, (u2, (u3, (u4, (u5, (u6, ()))))))), ())))) = exec prog G (ro G (tabOf (E57 n)) (frOf [F55_0z n, F55_1z n]) R) 0 (codeAt F55c [1, 1, 1, 1, 1, 1, 0]) (.nd .no (.nd (.nd .no (.nd .no (.nd (.use 0) (.nd .no (.nd .no (.nd (.nd (.nd .no (.nd (.use 1) .no)) .no) .no)))))) .no)) (SSh.enc G F55_2s x) (kNrm G (ro G (tabOf (E57 n)) (frOf [F55_0z n, F55_1z n]) R) 0 ⟨⟨[2], []⟩, ⟨[4], []⟩, []⟩ K) := by kernel_rfl
theorem F55_2_ok (n : Nat) : FragOK prog G 0 (codeAt F55c [1, 1, 1, 1, 1, 1, 0]) (F55_2z n) :=
  frag_plain laws fnok (E57_ok n).tab (AllF.of (l := [(0, codeAt F55c [1, 1, 1, 1, 1, 1, 0, 1, 0, 1, 1, 0]), (1, codeAt F55c [1, 1, 1, 1, 1, 1, 0, 1, 0, 1, 1, 1, 1, 1, 0, 0, 1, 0])]) (by kernel_rfl) (AllF.cons (F55_0_ok n) (AllF.cons (F55_1_ok n) AllF.nil))) (F55_2_eq n)
noncomputable def F55 (n : Nat) (a1716 : Int) (a1717 : ByteArray) (a1718 : Int) (a1719 : List Val) (a1720 : List Val) (a1721 : List ByteArray) (a1722 : List Val) (a1723 : Int) : Option (Bool × Unit) :=
  (andThen (F83 n a1719 a1723) fun r1798 =>
  (bif (!r1798.1) then
  some (false, ())
  else (andThen (F83 n a1720 a1723) fun r1800 =>
  (bif (!r1800.1) then
  some (false, ())
  else (andThen (F83 n a1722 a1723) fun r1802 =>
  (bif (!r1802.1) then
  some (false, ())
  else (bif (((a1721.length) : Int) != ((a1722.length) : Int)) then
  some (false, ())
  else (andThen (F84 n a1721) fun r1872 =>
  (bif (!r1872.1) then
  some (false, ())
  else (bif (a1716 == (3 : Int)) then
  (bif (!(true == (!((a1717.toList) == (({ data := #[] } : ByteArray).toList))))) then
  some (false, ())
  else (andThen (F85 n a1717) fun r1877 =>
  (bif (!r1877.1) then
  (bif (!((a1717.toList) == (({ data := #[108, 97, 109, 98, 100, 97] } : ByteArray).toList))) then
  some (false, ())
  else (bif (a1716 == (5 : Int)) then
  (andThen (F58 n a1718 (0 : Int) (1000000 : Int)) fun r1881 =>
  (bif (!r1881.1) then
  some (false, ())
  else (F55_2 n a1723 a1716 a1717 a1718 a1719 a1720 a1721 a1722 (fun z1994 =>
  some (z1994, ())) (fun z1995 z1996 z1997 z1998 z1999 z2000 z2001 =>
  (andThen (F58 n z1995 (0 : Int) (10 : Int)) fun r2002 =>
  some (r2002.1, ()))))))
  else (bif (!(a1716 == (6 : Int))) then
  (bif (decide (((a1721.length) : Int) > (0 : Int))) then
  some (false, ())
  else (andThen (F58 n a1718 (0 : Int) (1000000 : Int)) fun r2007 =>
  (bif (!r2007.1) then
  some (false, ())
  else (F55_2 n a1723 a1716 a1717 a1718 a1719 a1720 a1721 a1722 (fun z2009 =>
  some (z2009, ())) (fun z2010 z2011 z2012 z2013 z2014 z2015 z2016 =>
  (andThen (F58 n z2010 (0 : Int) (10 : Int)) fun r2017 =>
  some (r2017.1, ())))))))
  else (andThen (F58 n a1718 (0 : Int) (1000000 : Int)) fun r2018 =>
  (bif (!r2018.1) then
  some (false, ())
  else (F55_2 n a1723 a1716 a1717 a1718 a1719 a1720 a1721 a1722 (fun z2020 =>
  some (z2020, ())) (fun z2021 z2022 z2023 z2024 z2025 z2026 z2027 =>
  (andThen (F58 n z2021 (0 : Int) (10 : Int)) fun r2028 =>
  some (r2028.1, ())))))))))
  else (bif (a1716 == (5 : Int)) then
  (andThen (F58 n a1718 (0 : Int) (1000000 : Int)) fun r2030 =>
  (bif (!r2030.1) then
  some (false, ())
  else (F55_2 n a1723 a1716 a1717 a1718 a1719 a1720 a1721 a1722 (fun z2032 =>
  some (z2032, ())) (fun z2033 z2034 z2035 z2036 z2037 z2038 z2039 =>
  (andThen (F58 n z2033 (0 : Int) (10 : Int)) fun r2040 =>
  some (r2040.1, ()))))))
  else (bif (!(a1716 == (6 : Int))) then
  (bif (decide (((a1721.length) : Int) > (0 : Int))) then
  some (false, ())
  else (andThen (F58 n a1718 (0 : Int) (1000000 : Int)) fun r2045 =>
  (bif (!r2045.1) then
  some (false, ())
  else (F55_2 n a1723 a1716 a1717 a1718 a1719 a1720 a1721 a1722 (fun z2047 =>
  some (z2047, ())) (fun z2048 z2049 z2050 z2051 z2052 z2053 z2054 =>
  (andThen (F58 n z2048 (0 : Int) (10 : Int)) fun r2055 =>
  some (r2055.1, ())))))))
  else (andThen (F58 n a1718 (0 : Int) (1000000 : Int)) fun r2056 =>
  (bif (!r2056.1) then
  some (false, ())
  else (F55_2 n a1723 a1716 a1717 a1718 a1719 a1720 a1721 a1722 (fun z2058 =>
  some (z2058, ())) (fun z2059 z2060 z2061 z2062 z2063 z2064 z2065 =>
  (andThen (F58 n z2059 (0 : Int) (10 : Int)) fun r2066 =>
  some (r2066.1, ())))))))))))
  else (bif (a1716 == (5 : Int)) then
  (bif (!(true == (!((a1717.toList) == (({ data := #[] } : ByteArray).toList))))) then
  some (false, ())
  else (andThen (F85 n a1717) fun r2070 =>
  (bif (!r2070.1) then
  (bif (!((a1717.toList) == (({ data := #[108, 97, 109, 98, 100, 97] } : ByteArray).toList))) then
  some (false, ())
  else (bif (a1716 == (5 : Int)) then
  (andThen (F58 n a1718 (0 : Int) (1000000 : Int)) fun r2074 =>
  (bif (!r2074.1) then
  some (false, ())
  else (F55_2 n a1723 a1716 a1717 a1718 a1719 a1720 a1721 a1722 (fun z2076 =>
  some (z2076, ())) (fun z2077 z2078 z2079 z2080 z2081 z2082 z2083 =>
  (andThen (F58 n z2077 (0 : Int) (10 : Int)) fun r2084 =>
  some (r2084.1, ()))))))
  else (bif (!(a1716 == (6 : Int))) then
  (bif (decide (((a1721.length) : Int) > (0 : Int))) then
  some (false, ())
  else (andThen (F58 n a1718 (0 : Int) (1000000 : Int)) fun r2089 =>
  (bif (!r2089.1) then
  some (false, ())
  else (F55_2 n a1723 a1716 a1717 a1718 a1719 a1720 a1721 a1722 (fun z2091 =>
  some (z2091, ())) (fun z2092 z2093 z2094 z2095 z2096 z2097 z2098 =>
  (andThen (F58 n z2092 (0 : Int) (10 : Int)) fun r2099 =>
  some (r2099.1, ())))))))
  else (andThen (F58 n a1718 (0 : Int) (1000000 : Int)) fun r2100 =>
  (bif (!r2100.1) then
  some (false, ())
  else (F55_2 n a1723 a1716 a1717 a1718 a1719 a1720 a1721 a1722 (fun z2102 =>
  some (z2102, ())) (fun z2103 z2104 z2105 z2106 z2107 z2108 z2109 =>
  (andThen (F58 n z2103 (0 : Int) (10 : Int)) fun r2110 =>
  some (r2110.1, ())))))))))
  else (bif (a1716 == (5 : Int)) then
  (andThen (F58 n a1718 (0 : Int) (1000000 : Int)) fun r2112 =>
  (bif (!r2112.1) then
  some (false, ())
  else (F55_2 n a1723 a1716 a1717 a1718 a1719 a1720 a1721 a1722 (fun z2114 =>
  some (z2114, ())) (fun z2115 z2116 z2117 z2118 z2119 z2120 z2121 =>
  (andThen (F58 n z2115 (0 : Int) (10 : Int)) fun r2122 =>
  some (r2122.1, ()))))))
  else (bif (!(a1716 == (6 : Int))) then
  (bif (decide (((a1721.length) : Int) > (0 : Int))) then
  some (false, ())
  else (andThen (F58 n a1718 (0 : Int) (1000000 : Int)) fun r2127 =>
  (bif (!r2127.1) then
  some (false, ())
  else (F55_2 n a1723 a1716 a1717 a1718 a1719 a1720 a1721 a1722 (fun z2129 =>
  some (z2129, ())) (fun z2130 z2131 z2132 z2133 z2134 z2135 z2136 =>
  (andThen (F58 n z2130 (0 : Int) (10 : Int)) fun r2137 =>
  some (r2137.1, ())))))))
  else (andThen (F58 n a1718 (0 : Int) (1000000 : Int)) fun r2138 =>
  (bif (!r2138.1) then
  some (false, ())
  else (F55_2 n a1723 a1716 a1717 a1718 a1719 a1720 a1721 a1722 (fun z2140 =>
  some (z2140, ())) (fun z2141 z2142 z2143 z2144 z2145 z2146 z2147 =>
  (andThen (F58 n z2141 (0 : Int) (10 : Int)) fun r2148 =>
  some (r2148.1, ())))))))))))
  else let v2149 := (a1716 == (10 : Int))
  (bif (!(v2149 == (!((a1717.toList) == (({ data := #[] } : ByteArray).toList))))) then
  some (false, ())
  else (bif v2149 then
  (andThen (F85 n a1717) fun r2152 =>
  (bif (!r2152.1) then
  (bif (!((a1717.toList) == (({ data := #[108, 97, 109, 98, 100, 97] } : ByteArray).toList))) then
  some (false, ())
  else (bif (a1716 == (5 : Int)) then
  (andThen (F58 n a1718 (0 : Int) (1000000 : Int)) fun r2156 =>
  (bif (!r2156.1) then
  some (false, ())
  else (F55_2 n a1723 a1716 a1717 a1718 a1719 a1720 a1721 a1722 (fun z2158 =>
  some (z2158, ())) (fun z2159 z2160 z2161 z2162 z2163 z2164 z2165 =>
  (andThen (F58 n z2159 (0 : Int) (10 : Int)) fun r2166 =>
  some (r2166.1, ()))))))
  else (bif (!(a1716 == (6 : Int))) then
  (bif (decide (((a1721.length) : Int) > (0 : Int))) then
  some (false, ())
  else (andThen (F58 n a1718 (0 : Int) (1000000 : Int)) fun r2171 =>
  (bif (!r2171.1) then
  some (false, ())
  else (F55_2 n a1723 a1716 a1717 a1718 a1719 a1720 a1721 a1722 (fun z2173 =>
  some (z2173, ())) (fun z2174 z2175 z2176 z2177 z2178 z2179 z2180 =>
  (andThen (F58 n z2174 (0 : Int) (10 : Int)) fun r2181 =>
  some (r2181.1, ())))))))
  else (andThen (F58 n a1718 (0 : Int) (1000000 : Int)) fun r2182 =>
  (bif (!r2182.1) then
  some (false, ())
  else (F55_2 n a1723 a1716 a1717 a1718 a1719 a1720 a1721 a1722 (fun z2184 =>
  some (z2184, ())) (fun z2185 z2186 z2187 z2188 z2189 z2190 z2191 =>
  (andThen (F58 n z2185 (0 : Int) (10 : Int)) fun r2192 =>
  some (r2192.1, ())))))))))
  else (bif (a1716 == (5 : Int)) then
  (andThen (F58 n a1718 (0 : Int) (1000000 : Int)) fun r2194 =>
  (bif (!r2194.1) then
  some (false, ())
  else (F55_2 n a1723 a1716 a1717 a1718 a1719 a1720 a1721 a1722 (fun z2196 =>
  some (z2196, ())) (fun z2197 z2198 z2199 z2200 z2201 z2202 z2203 =>
  (andThen (F58 n z2197 (0 : Int) (10 : Int)) fun r2204 =>
  some (r2204.1, ()))))))
  else (bif (!(a1716 == (6 : Int))) then
  (bif (decide (((a1721.length) : Int) > (0 : Int))) then
  some (false, ())
  else (andThen (F58 n a1718 (0 : Int) (1000000 : Int)) fun r2209 =>
  (bif (!r2209.1) then
  some (false, ())
  else (F55_2 n a1723 a1716 a1717 a1718 a1719 a1720 a1721 a1722 (fun z2211 =>
  some (z2211, ())) (fun z2212 z2213 z2214 z2215 z2216 z2217 z2218 =>
  (andThen (F58 n z2212 (0 : Int) (10 : Int)) fun r2219 =>
  some (r2219.1, ())))))))
  else (andThen (F58 n a1718 (0 : Int) (1000000 : Int)) fun r2220 =>
  (bif (!r2220.1) then
  some (false, ())
  else (F55_2 n a1723 a1716 a1717 a1718 a1719 a1720 a1721 a1722 (fun z2222 =>
  some (z2222, ())) (fun z2223 z2224 z2225 z2226 z2227 z2228 z2229 =>
  (andThen (F58 n z2223 (0 : Int) (10 : Int)) fun r2230 =>
  some (r2230.1, ()))))))))))
  else (bif (a1716 == (5 : Int)) then
  (andThen (F58 n a1718 (0 : Int) (1000000 : Int)) fun r2232 =>
  (bif (!r2232.1) then
  some (false, ())
  else (F55_2 n a1723 a1716 a1717 a1718 a1719 a1720 a1721 a1722 (fun z2234 =>
  some (z2234, ())) (fun z2235 z2236 z2237 z2238 z2239 z2240 z2241 =>
  (andThen (F58 n z2235 (0 : Int) (10 : Int)) fun r2242 =>
  some (r2242.1, ()))))))
  else (bif (!(a1716 == (6 : Int))) then
  (bif (decide (((a1721.length) : Int) > (0 : Int))) then
  some (false, ())
  else (andThen (F58 n a1718 (0 : Int) (1000000 : Int)) fun r2247 =>
  (bif (!r2247.1) then
  some (false, ())
  else (F55_2 n a1723 a1716 a1717 a1718 a1719 a1720 a1721 a1722 (fun z2249 =>
  some (z2249, ())) (fun z2250 z2251 z2252 z2253 z2254 z2255 z2256 =>
  (andThen (F58 n z2250 (0 : Int) (10 : Int)) fun r2257 =>
  some (r2257.1, ())))))))
  else (andThen (F58 n a1718 (0 : Int) (1000000 : Int)) fun r2258 =>
  (bif (!r2258.1) then
  some (false, ())
  else (F55_2 n a1723 a1716 a1717 a1718 a1719 a1720 a1721 a1722 (fun z2260 =>
  some (z2260, ())) (fun z2261 z2262 z2263 z2264 z2265 z2266 z2267 =>
  (andThen (F58 n z2261 (0 : Int) (10 : Int)) fun r2268 =>
  some (r2268.1, ())))))))))))))))))))))
noncomputable def F55e (n : Nat) : Ent G := ⟨55, (.cons (.agg (.cons (.int .i64) (.cons .str (.cons (.int .i64) (.cons (.imm 3) (.cons (.imm 3) (.cons (.imm 2) (.cons (.imm 3) .nil)))))))) (.cons (.int .i64) .nil)), [], .bool, [], fun x y => F55 n x.1.1 x.1.2.1 x.1.2.2.1 x.1.2.2.2.1 x.1.2.2.2.2.1 x.1.2.2.2.2.2.1 x.1.2.2.2.2.2.2.1 x.2.1⟩
theorem F55_eq (n : Nat) (x : ShL.den G (.cons (.agg (.cons (.int .i64) (.cons .str (.cons (.int .i64) (.cons (.imm 3) (.cons (.imm 3) (.cons (.imm 2) (.cons (.imm 3) .nil)))))))) (.cons (.int .i64) .nil))) (y : denO G []) : (F55e n).F x y = runFn prog G (ro G (tabOf (E57 n)) (frOf [F55_0z n, F55_1z n, F55_2z n]) _) Go.Proofs.Try.f55 (.nd .no (.nd .no (.nd .no (.nd .no (.nd .no (.nd .no (.nd (.use 2) .no))))))) [(0, .fz)] (ShL.enc G (.cons (.agg (.cons (.int .i64) (.cons .str (.cons (.int .i64) (.cons (.imm 3) (.cons (.imm 3) (.cons (.imm 2) (.cons (.imm 3) .nil)))))))) (.cons (.int .i64) .nil)) x) (encO G [] y) (decR .bool []) := by kernel_rfl
theorem F55_ok (n : Nat) : EntOK prog G (F55e n) :=
  ent_ok (fr := frOf [F55_0z n, F55_1z n, F55_2z n]) (ann := (.nd .no (.nd .no (.nd .no (.nd .no (.nd .no (.nd .no (.nd (.use 2) .no)))))))) (frm := [(0, .fz)]) laws fnok (E57_ok n).tab (e := F55e n) (fn := Go.Proofs.Try.f55) (by kernel_rfl) (AllF.ofB (cd := F55c) (l := [(2, codeAt F55c [1, 1, 1, 1, 1, 1, 0])]) (by kernel_rfl) (by kernel_rfl) (AllF.cons (F55_2_ok n) AllF.nil)) (F55_eq n)
noncomputable def E58 (n : Nat) : List (Ent G) := F55e n :: E57 n
theorem E58_ok (n : Nat) : AllE prog G (E58 n) := AllE.cons (F55_ok n) (E57_ok n)
noncomputable def F31_0x0 : SSh := ⟨25, [(2, .bool)], []⟩
noncomputable def F31_0x1 : SSh := ⟨25, [(1, (.ptr 0 0))], [(.box 25 (.cons (.imm 4) .nil))]⟩
noncomputable def F31_0s : SSh := ⟨25, [(1, (.ptr 0 0)), (3, (.int .i64))], [(.box 25 (.cons (.imm 4) .nil))]⟩
noncomputable def F31_0_step {R : Type} (n : Nat) (k0 : Bool → Option R) (k1 : List Obj → Option R) (rec : Int → List Obj → Option R) (x1703 : Int) (x1704 : List Obj) : Option R :=
  (bif (decide (x1703 < ((x1704.length) : Int))) then
  (bif (decide ((0 : Int) ≤ x1703)) then
  (bif (decide (x1703 < ((x1704.length) : Int))) then
  let v1707 := (x1704.getD (x1703.toNat) (Obj.mk (0 : Int) ({ data := #[] } : ByteArray) (0 : Int) [] [] [] []))
  (andThen (F55 n v1707.kind v1707.name v1707.at_ v1707.items v1707.keys v1707.names v1707.vals ((x1704.length) : Int)) fun r2269 =>
  (bif (!r2269.1) then
  (k0 false)
  else (rec (IntKind.wrap .i64 (x1703 + (1 : Int))) x1704)))
  else none)
  else none)
  else (k1 x1704))
noncomputable def F31_0_it {R : Type} (n : Nat) (k0 : Bool → Option R) (k1 : List Obj → Option R) : Nat → Int → List Obj → Option R
  | 0, _, _ => none
  | k + 1, x1703, x1704 => F31_0_step n k0 k1 (F31_0_it n k0 k1 k) x1703 x1704
noncomputable def F31_0 {R : Type} (n : Nat) (x1703 : Int) (x1704 : List Obj) (k0 : Bool → Option R) (k1 : List Obj → Option R) : Option R := F31_0_it n k0 k1 n x1703 x1704
noncomputable def F31_0z (n : Nat) : Sm G := inZ G 0 ⟨[1, 3], []⟩ F31_0s fun R x K => F31_0_it n (fun u0 => K .ret (SSh.enc G F31_0x0 ((u0, ()), ()))) (fun u0 => K (.exit 0) (SSh.enc G F31_0x1 (((), ()), ((u0, ()), ())))) n x.1.2.1 x.2.1.1
theorem F31_0_eq (n : Nat) (R : Type) (rec : SSh.den G F31_0s → Option R) (x : SSh.den G F31_0s) (K : AE → St G → Option R) :
  F31_0_step n (fun u0 => K .ret (SSh.enc G F31_0x0 ((u0, ()), ()))) (fun u0 => K (.exit 0) (SSh.enc G F31_0x1 (((), ()), ((u0, ()), ())))) (fun x1703 x1704 => rec (((), (x1703, ())), ((x1704, ()), ()))) x.1.2.1 x.2.1.1 = exec prog G (ro G (tabOf (E58 n)) (frOf []) R) 0 (codeAt F31c [1, 0, 1, 0, 0]) .no (SSh.enc G F31_0s x) (kLoop G (ro G (tabOf (E58 n)) (frOf []) R) 0 ⟨[1, 3], []⟩ F31_0s ⟨⟨[1], []⟩, ⟨[2], []⟩, [(0, ⟨[1], []⟩)]⟩ rec K) := by kernel_rfl
theorem F31_0_ok (n : Nat) : FragOK prog G 0 (codeAt F31c [1, 0, 1, 0]) (F31_0z n) :=
  frag_loop (Z := fun R k (x : SSh.den G F31_0s) K => F31_0_it n (fun u0 => K .ret (SSh.enc G F31_0x0 ((u0, ()), ()))) (fun u0 => K (.exit 0) (SSh.enc G F31_0x1 (((), ()), ((u0, ()), ())))) k x.1.2.1 x.2.1.1) laws fnok (E58_ok n).tab (AllF.of (l := []) (by kernel_rfl) AllF.nil) (fun _ _ _ => rfl) (fun R k y K => F31_0_eq n R (fun (x : SSh.den G F31_0s) => F31_0_it n (fun u0 => K .ret (SSh.enc G F31_0x0 ((u0, ()), ()))) (fun u0 => K (.exit 0) (SSh.enc G F31_0x1 (((), ()), ((u0, ()), ())))) k x.1.2.1 x.2.1.1) y K) n
noncomputable def F31 (n : Nat) (a1702 : List Obj) : Option (Bool × Unit) :=
  (F31_0 n (0 : Int) a1702 (fun z2272 =>
  some (z2272, ())) (fun z2273 =>
  some ((decide (((z2273.length) : Int) ≤ (600 : Int))), ())))
noncomputable def F31e (n : Nat) : Ent G := ⟨31, (.cons (.agg (.cons (.imm 4) .nil)) .nil), [], .bool, [], fun x y => F31 n x.1.1⟩
theorem F31_eq (n : Nat) (x : ShL.den G (.cons (.agg (.cons (.imm 4) .nil)) .nil)) (y : denO G []) : (F31e n).F x y = runFn prog G (ro G (tabOf (E58 n)) (frOf [F31_0z n]) _) Go.Proofs.Try.f31 (.nd .no (.nd (.nd .no (.nd (.use 0) .no)) .no)) [(0, .fz)] (ShL.enc G (.cons (.agg (.cons (.imm 4) .nil)) .nil) x) (encO G [] y) (decR .bool []) := by kernel_rfl
theorem F31_ok (n : Nat) : EntOK prog G (F31e n) :=
  ent_ok (fr := frOf [F31_0z n]) (ann := (.nd .no (.nd (.nd .no (.nd (.use 0) .no)) .no))) (frm := [(0, .fz)]) laws fnok (E58_ok n).tab (e := F31e n) (fn := Go.Proofs.Try.f31) (by kernel_rfl) (AllF.ofB (cd := F31c) (l := [(0, codeAt F31c [1, 0, 1, 0])]) (by kernel_rfl) (by kernel_rfl) (AllF.cons (F31_0_ok n) AllF.nil)) (F31_eq n)
noncomputable def E59 (n : Nat) : List (Ent G) := F31e n :: E58 n
theorem E59_ok (n : Nat) : AllE prog G (E59 n) := AllE.cons (F31_ok n) (E58_ok n)
noncomputable def F13 (n : Nat) (a1701 : List Obj) : Option (Bool × Unit) :=
  (andThen (F31 n a1701) fun r2276 =>
  some (r2276.1, ()))
noncomputable def F13e (n : Nat) : Ent G := ⟨13, (.cons (.agg (.cons (.imm 4) .nil)) .nil), [], .bool, [], fun x y => F13 n x.1.1⟩
theorem F13_eq (n : Nat) (x : ShL.den G (.cons (.agg (.cons (.imm 4) .nil)) .nil)) (y : denO G []) : (F13e n).F x y = runFn prog G (ro G (tabOf (E59 n)) (frOf []) _) Go.Proofs.Try.f13 .no [(0, .fz)] (ShL.enc G (.cons (.agg (.cons (.imm 4) .nil)) .nil) x) (encO G [] y) (decR .bool []) := by kernel_rfl
theorem F13_ok (n : Nat) : EntOK prog G (F13e n) :=
  ent_ok (fr := frOf []) (ann := .no) (frm := [(0, .fz)]) laws fnok (E59_ok n).tab (e := F13e n) (fn := Go.Proofs.Try.f13) (by kernel_rfl) (AllF.ofB (cd := F13c) (l := []) (by kernel_rfl) (by kernel_rfl) AllF.nil) (F13_eq n)
noncomputable def E60 (n : Nat) : List (Ent G) := F13e n :: E59 n
theorem E60_ok (n : Nat) : AllE prog G (E60 n) := AllE.cons (F13_ok n) (E59_ok n)
-- 69 (loop.example/slowworm/impl.Object).clone
noncomputable def F69c : Code := bodyOf Go.Proofs.Try.f69
-- 96 slices.Clone[[]loop.example/slowworm/impl.Value,loop.example/slowworm/impl.Value]
noncomputable def F96c : Code := bodyOf Go.Proofs.Try.f96
noncomputable def F96 (n : Nat) (a2311 : List Val) : Option (Unit × (List Val × Unit)) :=
  (bif (decide ((a2311.length) ≤ (0 : Nat))) then
  (both
  (some ((), ([], ())))
  (let v2313 := []
  (bif (decide (((v2313.length) + (a2311.length)) ≤ (68719476736 : Nat))) then
  some ((), ((v2313 ++ a2311), ()))
  else none)))
  else let v2315 := []
  (bif (decide (((v2315.length) + (a2311.length)) ≤ (68719476736 : Nat))) then
  some ((), ((v2315 ++ a2311), ()))
  else none))
noncomputable def F96e (n : Nat) : Ent G := ⟨96, (.cons (.imm 3) .nil), [], (.own 0), [(.arr 3 true)], fun x y => F96 n x.1⟩
theorem F96_eq (n : Nat) (x : ShL.den G (.cons (.imm 3) .nil)) (y : denO G []) : (F96e n).F x y = runFn prog G (ro G (tabOf (E60 n)) (frOf []) _) Go.Proofs.Try.f96 .no [(0, (.own 3))] (ShL.enc G (.cons (.imm 3) .nil) x) (encO G [] y) (decR (.own 0) [(.arr 3 true)]) := by kernel_rfl
theorem F96_ok (n : Nat) : EntOK prog G (F96e n) :=
  ent_ok (fr := frOf []) (ann := .no) (frm := [(0, (.own 3))]) laws fnok (E60_ok n).tab (e := F96e n) (fn := Go.Proofs.Try.f96) (by kernel_rfl) (AllF.ofB (cd := F96c) (l := []) (by kernel_rfl) (by kernel_rfl) AllF.nil) (F96_eq n)
noncomputable def E61 (n : Nat) : List (Ent G) := F96e n :: E60 n
theorem E61_ok (n : Nat) : AllE prog G (E61 n) := AllE.cons (F96_ok n) (E60_ok n)
-- 97 slices.Clone[[]string,string]
noncomputable def F97c : Code := bodyOf Go.Proofs.Try.f97
noncomputable def F97 (n : Nat) (a2319 : List ByteArray) : Option (Unit × (List ByteArray × Unit)) :=
  (bif (decide ((a2319.length) ≤ (0 : Nat))) then
  (both
  (some ((), ([], ())))
  (let v2321 := []
  (bif (decide (((v2321.length) + (a2319.length)) ≤ (68719476736 : Nat))) then
  some ((), ((v2321 ++ a2319), ()))
  else none)))
  else let v2323 := []
  (bif (decide (((v2323.length) + (a2319.length)) ≤ (68719476736 : Nat))) then
  some ((), ((v2323 ++ a2319), ()))
  else none))
noncomputable def F97e (n : Nat) : Ent G := ⟨97, (.cons (.imm 2) .nil), [], (.own 0), [(.arr 2 true)], fun x y => F97 n x.1⟩
theorem F97_eq (n : Nat) (x : ShL.den G (.cons (.imm 2) .nil)) (y : denO G []) : (F97e n).F x y = runFn prog G (ro G (tabOf (E61 n)) (frOf []) _) Go.Proofs.Try.f97 .no [(0, (.own 2))] (ShL.enc G (.cons (.imm 2) .nil) x) (encO G [] y) (decR (.own 0) [(.arr 2 true)]) := by kernel_rfl
theorem F97_ok (n : Nat) : EntOK prog G (F97e n) :=
  ent_ok (fr := frOf []) (ann := .no) (frm := [(0, (.own 2))]) laws fnok (E61_ok n).tab (e := F97e n) (fn := Go.Proofs.Try.f97) (by kernel_rfl) (AllF.ofB (cd := F97c) (l := []) (by kernel_rfl) (by kernel_rfl) AllF.nil) (F97_eq n)
noncomputable def E62 (n : Nat) : List (Ent G) := F97e n :: E61 n
theorem E62_ok (n : Nat) : AllE prog G (E62 n) := AllE.cons (F97_ok n) (E61_ok n)
noncomputable def F69 (n : Nat) (a2304 : Int) (a2305 : ByteArray) (a2306 : Int) (a2307 : List Val) (a2308 : List Val) (a2309 : List ByteArray) (a2310 : List Val) : Option ((Int × (ByteArray × (Int × (List Val × (List Val × (List ByteArray × (List Val × Unit))))))) × Unit) :=
  (andThen (F96 n a2307) fun r2317 =>
  (andThen (F96 n a2308) fun r2318 =>
  (andThen (F97 n a2309) fun r2325 =>
  (andThen (F96 n a2310) fun r2326 =>
  some ((a2304, (a2305, (a2306, (r2317.2.1, (r2318.2.1, (r2325.2.1, (r2326.2.1, ()))))))), ())))))
noncomputable def F69e (n : Nat) : Ent G := ⟨69, (.cons (.agg (.cons (.int .i64) (.cons .str (.cons (.int .i64) (.cons (.imm 3) (.cons (.imm 3) (.cons (.imm 2) (.cons (.imm 3) .nil)))))))) .nil), [], (.agg (.cons (.int .i64) (.cons .str (.cons (.int .i64) (.cons (.imm 3) (.cons (.imm 3) (.cons (.imm 2) (.cons (.imm 3) .nil)))))))), [], fun x y => F69 n x.1.1 x.1.2.1 x.1.2.2.1 x.1.2.2.2.1 x.1.2.2.2.2.1 x.1.2.2.2.2.2.1 x.1.2.2.2.2.2.2.1⟩
theorem F69_eq (n : Nat) (x : ShL.den G (.cons (.agg (.cons (.int .i64) (.cons .str (.cons (.int .i64) (.cons (.imm 3) (.cons (.imm 3) (.cons (.imm 2) (.cons (.imm 3) .nil)))))))) .nil)) (y : denO G []) : (F69e n).F x y = runFn prog G (ro G (tabOf (E62 n)) (frOf []) _) Go.Proofs.Try.f69 .no [(0, .fz)] (ShL.enc G (.cons (.agg (.cons (.int .i64) (.cons .str (.cons (.int .i64) (.cons (.imm 3) (.cons (.imm 3) (.cons (.imm 2) (.cons (.imm 3) .nil)))))))) .nil) x) (encO G [] y) (decR (.agg (.cons (.int .i64) (.cons .str (.cons (.int .i64) (.cons (.imm 3) (.cons (.imm 3) (.cons (.imm 2) (.cons (.imm 3) .nil)))))))) []) := by kernel_rfl
theorem F69_ok (n : Nat) : EntOK prog G (F69e n) :=
  ent_ok (fr := frOf []) (ann := .no) (frm := [(0, .fz)]) laws fnok (E62_ok n).tab (e := F69e n) (fn := Go.Proofs.Try.f69) (by kernel_rfl) (AllF.ofB (cd := F69c) (l := []) (by kernel_rfl) (by kernel_rfl) AllF.nil) (F69_eq n)
noncomputable def E63 (n : Nat) : List (Ent G) := F69e n :: E62 n
theorem E63_ok (n : Nat) : AllE prog G (E63 n) := AllE.cons (F69_ok n) (E62_ok n)
-- 40 (loop.example/slowworm/impl.Heap).clone
noncomputable def F40c : Code := bodyOf Go.Proofs.Try.f40
noncomputable def F40_0x0 : SSh := ⟨23, [(2, (.ptr 0 0)), (3, (.ptr 1 0))], [(.box 25 (.cons (.own 2) .nil)), (.box 25 (.cons (.own 3) .nil)), (.arr 4 true), (.arr 4 true)]⟩
noncomputable def F40_0s : SSh := ⟨23, [(2, (.ptr 0 0)), (3, (.ptr 1 0)), (8, (.imm 4)), (9, (.int .i64)), (10, (.int .i64))], [(.box 25 (.cons (.own 2) .nil)), (.box 25 (.cons (.own 3) .nil)), (.arr 4 true), (.arr 4 true)]⟩
noncomputable def F40_0_step {R : Type} (n : Nat) (k0 : List Obj → List Obj → Option R) (rec : List Obj → Int → Int → List Obj → List Obj → Option R) (x2333 : List Obj) (x2334 : Int) (x2335 : Int) (x2336 : List Obj) (x2337 : List Obj) : Option R :=
  (bif (decide (x2335 < x2334)) then
  (bif (decide ((0 : Int) ≤ x2335)) then
  (bif (decide (x2335 < ((x2333.length) : Int))) then
  let v2339 := (x2333.getD (x2335.toNat) (Obj.mk (0 : Int) ({ data := #[] } : ByteArray) (0 : Int) [] [] [] []))
  (andThen (F69 n v2339.kind v2339.name v2339.at_ v2339.items v2339.keys v2339.names v2339.vals) fun r2347 =>
  let v2348 := ((Obj.mk r2347.1.1 r2347.1.2.1 r2347.1.2.2.1 r2347.1.2.2.2.1 r2347.1.2.2.2.2.1 r2347.1.2.2.2.2.2.1 r2347.1.2.2.2.2.2.2.1) :: [])
  (bif (decide (((x2337.length) + (v2348.length)) ≤ (68719476736 : Nat))) then
  (rec x2333 x2334 (IntKind.wrap .i64 (x2335 + (1 : Int))) x2336 (x2337 ++ v2348))
  else none))
  else none)
  else none)
  else (k0 x2336 x2337))
noncomputable def F40_0_it {R : Type} (n : Nat) (k0 : List Obj → List Obj → Option R) : Nat → List Obj → Int → Int → List Obj → List Obj → Option R
  | 0, _, _, _, _, _ => none
  | k + 1, x2333, x2334, x2335, x2336, x2337 => F40_0_step n k0 (F40_0_it n k0 k) x2333 x2334 x2335 x2336 x2337
noncomputable def F40_0 {R : Type} (n : Nat) (x2333 : List Obj) (x2334 : Int) (x2335 : Int) (x2336 : List Obj) (x2337 : List Obj) (k0 : List Obj → List Obj → Option R) : Option R := F40_0_it n k0 n x2333 x2334 x2335 x2336 x2337
noncomputable def F40_0z (n : Nat) : Sm G := inZ G 0 ⟨[2, 3, 8, 9, 10], [(3, (.cell 0 (.own 4)))]⟩ F40_0s fun R x K => F40_0_it n (fun u0 u1 => K (.exit 0) (SSh.enc G F40_0x0 (((), ((), ())), (((), ()), (((), ()), (u0, (u1, ()))))))) n x.1.2.2.1 x.1.2.2.2.1 x.1.2.2.2.2.1 x.2.2.2.1 x.2.2.2.2.1
theorem F40_0_eq (n : Nat) (R : Type) (rec : SSh.den G F40_0s → Option R) (x : SSh.den G F40_0s) (K : AE → St G → Option R) :
  F40_0_step n (fun u0 u1 => K (.exit 0) (SSh.enc G F40_0x0 (((), ((), ())), (((), ()), (((), ()), (u0, (u1, ()))))))) (fun x2333 x2334 x2335 x2336 x2337 => rec (((), ((), (x2333, (x2334, (x2335, ()))))), (((), ()), (((), ()), (x2336, (x2337, ())))))) x.1.2.2.1 x.1.2.2.2.1 x.1.2.2.2.2.1 x.2.2.2.1 x.2.2.2.2.1 = exec prog G (ro G (tabOf (E63 n)) (frOf []) R) 0 (codeAt F40c [1, 1, 0, 1, 0, 0]) .no (SSh.enc G F40_0s x) (kLoop G (ro G (tabOf (E63 n)) (frOf []) R) 0 ⟨[2, 3, 8, 9, 10], [(3, (.cell 0 (.own 4)))]⟩ F40_0s ⟨⟨[2, 3], []⟩, ⟨[2], []⟩, [(0, ⟨[2, 3], []⟩)]⟩ rec K) := by kernel_rfl
theorem F40_0_ok (n : Nat) : FragOK prog G 0 (codeAt F40c [1, 1, 0, 1, 0]) (F40_0z n) :=
  frag_loop (Z := fun R k (x : SSh.den G F40_0s) K => F40_0_it n (fun u0 u1 => K (.exit 0) (SSh.enc G F40_0x0 (((), ((), ())), (((), ()), (((), ()), (u0, (u1, ()))))))) k x.1.2.2.1 x.1.2.2.2.1 x.1.2.2.2.2.1 x.2.2.2.1 x.2.2.2.2.1) laws fnok (E63_ok n).tab (AllF.of (l := []) (by kernel_rfl) AllF.nil) (fun _ _ _ => rfl) (fun R k y K => F40_0_eq n R (fun (x : SSh.den G F40_0s) => F40_0_it n (fun u0 u1 => K (.exit 0) (SSh.enc G F40_0x0 (((), ((), ())), (((), ()), (((), ()), (u0, (u1, ()))))))) k x.1.2.2.1 x.1.2.2.2.1 x.1.2.2.2.2.1 x.2.2.2.1 x.2.2.2.2.1) y K) n
noncomputable def F40 (n : Nat) (a2331 : List Obj) : Option ((Unit × Unit) × (List Obj × Unit)) :=
  (F40_0 n a2331 ((a2331.length) : Int) (0 : Int) [] [] (fun z2351 z2352 =>
  some (((), ()), (z2352, ()))))
noncomputable def F40e (n : Nat) : Ent G := ⟨40, (.cons (.agg (.cons (.imm 4) .nil)) .nil), [], (.agg (.cons (.own 0) .nil)), [(.arr 4 true)], fun x y => F40 n x.1.1⟩
theorem F40_eq (n : Nat) (x : ShL.den G (.cons (.agg (.cons (.imm 4) .nil)) .nil)) (y : denO G []) : (F40e n).F x y = runFn prog G (ro G (tabOf (E63 n)) (frOf [F40_0z n]) _) Go.Proofs.Try.f40 (.nd .no (.nd .no (.nd (.nd .no (.nd (.use 0) .no)) .no))) [(0, (.fld 0 (.own 4)))] (ShL.enc G (.cons (.agg (.cons (.imm 4) .nil)) .nil) x) (encO G [] y) (decR (.agg (.cons (.own 0) .nil)) [(.arr 4 true)]) := by kernel_rfl
theorem F40_ok (n : Nat) : EntOK prog G (F40e n) :=
  ent_ok (fr := frOf [F40_0z n]) (ann := (.nd .no (.nd .no (.nd (.nd .no (.nd (.use 0) .no)) .no)))) (frm := [(0, (.fld 0 (.own 4)))]) laws fnok (E63_ok n).tab (e := F40e n) (fn := Go.Proofs.Try.f40) (by kernel_rfl) (AllF.ofB (cd := F40c) (l := [(0, codeAt F40c [1, 1, 0, 1, 0])]) (by kernel_rfl) (by kernel_rfl) (AllF.cons (F40_0_ok n) AllF.nil)) (F40_eq n)
noncomputable def E64 (n : Nat) : List (Ent G) := F40e n :: E63 n
theorem E64_ok (n : Nat) : AllE prog G (E64 n) := AllE.cons (F40_ok n) (E63_ok n)
-- 41 (loop.example/slowworm/impl.Heap).sweep
noncomputable def F41c : Code := bodyOf Go.Proofs.Try.f41
-- 98 (loop.example/slowworm/impl.Heap).reach$1
noncomputable def F98c : Code := bodyOf Go.Proofs.Try.f98
noncomputable def F98 (n : Nat) (a2372 : Int) (a2373 : ByteArray) (a2374 : Int) (a2375 : List Bool) (a2376 : List Int) : Option (Unit × ((Unit × Unit) × ((Unit × Unit) × (List Bool × (Unit × (List Int × Unit)))))) :=
  (bif (a2372 == (4 : Int)) then
  (bif (decide ((0 : Int) ≤ a2374)) then
  (bif (decide (a2374 < ((a2375.length) : Int))) then
  (bif (!(a2375.getD (a2374.toNat) false)) then
  (bif (decide ((0 : Int) ≤ a2374)) then
  (bif (decide (a2374 < ((a2375.length) : Int))) then
  let v2383 := (a2374 :: [])
  (bif (decide (((a2376.length) + (v2383.length)) ≤ (68719476736 : Nat))) then
  some ((), (((), ()), (((), ()), ((a2375.set (a2374.toNat) true), ((), ((a2376 ++ v2383), ()))))))
  else none)
  else none)
  else none)
  else some ((), (((), ()), (((), ()), (a2375, ((), (a2376, ())))))))
  else none)
  else none)
  else some ((), (((), ()), (((), ()), (a2375, ((), (a2376, ())))))))
noncomputable def F98e (n : Nat) : Ent G := ⟨98, (.cons (.agg (.cons (.int .i64) (.cons .str (.cons (.int .i64) .nil)))) (.cons (.ptr 0 0) (.cons (.ptr 1 0) .nil))), [(.box 95 (.cons (.own 2) .nil)), (.box 76 (.cons (.own 3) .nil)), (.arr 5 true), (.arr 0 true)], (.tup .nil), [(.box 95 (.cons (.own 2) .nil)), (.box 76 (.cons (.own 4) .nil)), (.arr 5 true), .dead, (.arr 0 true)], fun x y => F98 n x.1.1 x.1.2.1 x.1.2.2.1 y.2.2.1 y.2.2.2.1⟩
theorem F98_eq (n : Nat) (x : ShL.den G (.cons (.agg (.cons (.int .i64) (.cons .str (.cons (.int .i64) .nil)))) (.cons (.ptr 0 0) (.cons (.ptr 1 0) .nil)))) (y : denO G [(.box 95 (.cons (.own 2) .nil)), (.box 76 (.cons (.own 3) .nil)), (.arr 5 true), (.arr 0 true)]) : (F98e n).F x y = runFn prog G (ro G (tabOf (E64 n)) (frOf []) _) Go.Proofs.Try.f98 .no [(0, (.obj 1 0 (.mv 0)))] (ShL.enc G (.cons (.agg (.cons (.int .i64) (.cons .str (.cons (.int .i64) .nil)))) (.cons (.ptr 0 0) (.cons (.ptr 1 0) .nil))) x) (encO G [(.box 95 (.cons (.own 2) .nil)), (.box 76 (.cons (.own 3) .nil)), (.arr 5 true), (.arr 0 true)] y) (decR (.tup .nil) [(.box 95 (.cons (.own 2) .nil)), (.box 76 (.cons (.own 4) .nil)), (.arr 5 true), .dead, (.arr 0 true)]) := by kernel_rfl
theorem F98_ok (n : Nat) : EntOK prog G (F98e n) :=
  ent_ok (fr := frOf []) (ann := .no) (frm := [(0, (.obj 1 0 (.mv 0)))]) laws fnok (E64_ok n).tab (e := F98e n) (fn := Go.Proofs.Try.f98) (by kernel_rfl) (AllF.ofB (cd := F98c) (l := []) (by kernel_rfl) (by kernel_rfl) AllF.nil) (F98_eq n)
noncomputable def E65 (n : Nat) : List (Ent G) := F98e n :: E64 n
theorem E65_ok (n : Nat) : AllE prog G (E65 n) := AllE.cons (F98_ok n) (E64_ok n)
-- 98 (loop.example/slowworm/impl.Heap).reach$1
noncomputable def F98v1c : Code := bodyOf Go.Proofs.Try.f98
noncomputable def F98v1 (n : Nat) (a2452 : Int) (a2453 : ByteArray) (a2454 : Int) (a2455 : Nat) (a2456 : List Bool) (a2457 : List Int) : Option (Unit × ((Unit × Unit) × ((Unit × Unit) × (List Bool × (Unit × (List Int × Unit)))))) :=
  (bif (a2452 == (4 : Int)) then
  (bif (decide ((0 : Int) ≤ a2454)) then
  (bif (decide (a2454 < ((a2456.length) : Int))) then
  (bif (!(a2456.getD (a2454.toNat) false)) then
  (bif (decide ((0 : Int) ≤ a2454)) then
  (bif (decide (a2454 < ((a2456.length) : Int))) then
  let v2464 := (a2454 :: [])
  (bif (decide ((((a2457.take a2455).length) + (v2464.length)) ≤ (68719476736 : Nat))) then
  some ((), (((), ()), (((), ()), ((a2456.set (a2454.toNat) true), ((), (((a2457.take a2455) ++ v2464), ()))))))
  else none)
  else none)
  else none)
  else some ((), (((), ()), (((), ()), (a2456, ((), ((a2457.take a2455), ())))))))
  else none)
  else none)
  else some ((), (((), ()), (((), ()), (a2456, ((), ((a2457.take a2455), ())))))))
noncomputable def F98v1e (n : Nat) : Ent G := ⟨98, (.cons (.agg (.cons (.int .i64) (.cons .str (.cons (.int .i64) .nil)))) (.cons (.ptr 0 0) (.cons (.ptr 1 0) .nil))), [(.box 95 (.cons (.own 2) .nil)), (.box 76 (.cons (.pre 3) .nil)), (.arr 5 true), (.arr 0 true)], (.tup .nil), [(.box 95 (.cons (.own 2) .nil)), (.box 76 (.cons (.own 4) .nil)), (.arr 5 true), .dead, (.arr 0 true)], fun x y => F98v1 n x.1.1 x.1.2.1 x.1.2.2.1 y.2.1.1 y.2.2.1 y.2.2.2.1⟩
theorem F98v1_eq (n : Nat) (x : ShL.den G (.cons (.agg (.cons (.int .i64) (.cons .str (.cons (.int .i64) .nil)))) (.cons (.ptr 0 0) (.cons (.ptr 1 0) .nil)))) (y : denO G [(.box 95 (.cons (.own 2) .nil)), (.box 76 (.cons (.pre 3) .nil)), (.arr 5 true), (.arr 0 true)]) : (F98v1e n).F x y = runFn prog G (ro G (tabOf (E65 n)) (frOf []) _) Go.Proofs.Try.f98 .no [(0, (.obj 1 0 (.mv 0)))] (ShL.enc G (.cons (.agg (.cons (.int .i64) (.cons .str (.cons (.int .i64) .nil)))) (.cons (.ptr 0 0) (.cons (.ptr 1 0) .nil))) x) (encO G [(.box 95 (.cons (.own 2) .nil)), (.box 76 (.cons (.pre 3) .nil)), (.arr 5 true), (.arr 0 true)] y) (decR (.tup .nil) [(.box 95 (.cons (.own 2) .nil)), (.box 76 (.cons (.own 4) .nil)), (.arr 5 true), .dead, (.arr 0 true)]) := by kernel_rfl
theorem F98v1_ok (n : Nat) : EntOK prog G (F98v1e n) :=
  ent_ok (fr := frOf []) (ann := .no) (frm := [(0, (.obj 1 0 (.mv 0)))]) laws fnok (E65_ok n).tab (e := F98v1e n) (fn := Go.Proofs.Try.f98) (by kernel_rfl) (AllF.ofB (cd := F98v1c) (l := []) (by kernel_rfl) (by kernel_rfl) AllF.nil) (F98v1_eq n)
noncomputable def E66 (n : Nat) : List (Ent G) := F98v1e n :: E65 n
theorem E66_ok (n : Nat) : AllE prog G (E66 n) := AllE.cons (F98v1_ok n) (E65_ok n)
-- 70 (loop.example/slowworm/impl.Heap).reach
noncomputable def F70c : Code := bodyOf Go.Proofs.Try.f70
noncomputable def F70_0x0 : SSh := ⟨80, [(2, (.ptr 0 0)), (5, (.ptr 1 0)), (6, (.ptr 2 0)), (7, (.clo 98 (.cons (.ptr 1 0) (.cons (.ptr 2 0) .nil))))], [(.box 25 (.cons (.imm 4) .nil)), (.box 95 (.cons (.own 3) .nil)), (.box 76 (.cons (.own 4) .nil)), (.arr 5 true), (.arr 0 true)]⟩
noncomputable def F70_0s : SSh := ⟨80, [(2, (.ptr 0 0)), (5, (.ptr 1 0)), (6, (.ptr 2 0)), (7, (.clo 98 (.cons (.ptr 1 0) (.cons (.ptr 2 0) .nil)))), (20, (.imm 3)), (21, (.int .i64)), (22, (.int .i64))], [(.box 25 (.cons (.imm 4) .nil)), (.box 95 (.cons (.own 3) .nil)), (.box 76 (.cons (.own 4) .nil)), (.arr 5 true), (.arr 0 true)]⟩
noncomputable def F70_0_step {R : Type} (n : Nat) (k0 : List Obj → List Bool → List Int → Option R) (rec : List Val → Int → Int → List Obj → List Bool → List Int → Option R) (x2574 : List Val) (x2575 : Int) (x2576 : Int) (x2577 : List Obj) (x2578 : List Bool) (x2579 : List Int) : Option R :=
  (bif (decide (x2576 < x2575)) then
  (bif (decide ((0 : Int) ≤ x2576)) then
  (bif (decide (x2576 < ((x2574.length) : Int))) then
  let v2581 := (x2574.getD (x2576.toNat) (Val.mk (0 : Int) ({ data := #[] } : ByteArray) (0 : Int)))
  (andThen (F98 n v2581.kind v2581.text v2581.ref x2578 x2579) fun r2585 =>
  (rec x2574 x2575 (IntKind.wrap .i64 (x2576 + (1 : Int))) x2577 r2585.2.2.2.1 r2585.2.2.2.2.2.1))
  else none)
  else none)
  else (k0 x2577 x2578 x2579))
noncomputable def F70_0_it {R : Type} (n : Nat) (k0 : List Obj → List Bool → List Int → Option R) : Nat → List Val → Int → Int → List Obj → List Bool → List Int → Option R
  | 0, _, _, _, _, _, _ => none
  | k + 1, x2574, x2575, x2576, x2577, x2578, x2579 => F70_0_step n k0 (F70_0_it n k0 k) x2574 x2575 x2576 x2577 x2578 x2579
noncomputable def F70_0 {R : Type} (n : Nat) (x2574 : List Val) (x2575 : Int) (x2576 : Int) (x2577 : List Obj) (x2578 : List Bool) (x2579 : List Int) (k0 : List Obj → List Bool → List Int → Option R) : Option R := F70_0_it n k0 n x2574 x2575 x2576 x2577 x2578 x2579
noncomputable def F70_0z (n : Nat) : Sm G := inZ G 0 ⟨[2, 5, 6, 7, 20, 21, 22], []⟩ F70_0s fun R x K => F70_0_it n (fun u0 u1 u2 => K (.exit 0) (SSh.enc G F70_0x0 (((), ((), ((), (((), ((), ())), ())))), ((u0, ()), (((), ()), (((), ()), (u1, (u2, ())))))))) n x.1.2.2.2.2.1 x.1.2.2.2.2.2.1 x.1.2.2.2.2.2.2.1 x.2.1.1 x.2.2.2.2.1 x.2.2.2.2.2.1
theorem F70_0_eq (n : Nat) (R : Type) (rec : SSh.den G F70_0s → Option R) (x : SSh.den G F70_0s) (K : AE → St G → Option R) :
  F70_0_step n (fun u0 u1 u2 => K (.exit 0) (SSh.enc G F70_0x0 (((), ((), ((), (((), ((), ())), ())))), ((u0, ()), (((), ()), (((), ()), (u1, (u2, ())))))))) (fun x2574 x2575 x2576 x2577 x2578 x2579 => rec (((), ((), ((), (((), ((), ())), (x2574, (x2575, (x2576, ()))))))), ((x2577, ()), (((), ()), (((), ()), (x2578, (x2579, ()))))))) x.1.2.2.2.2.1 x.1.2.2.2.2.2.1 x.1.2.2.2.2.2.2.1 x.2.1.1 x.2.2.2.2.1 x.2.2.2.2.2.1 = exec prog G (ro G (tabOf (E66 n)) (frOf []) R) 0 (codeAt F70c [1, 1, 1, 1, 0, 1, 0, 0]) .no (SSh.enc G F70_0s x) (kLoop G (ro G (tabOf (E66 n)) (frOf []) R) 0 ⟨[2, 5, 6, 7, 20, 21, 22], []⟩ F70_0s ⟨⟨[2, 5, 6, 7], []⟩, ⟨[4], []⟩, [(0, ⟨[2, 5, 6, 7], []⟩)]⟩ rec K) := by kernel_rfl
theorem F70_0_ok (n : Nat) : FragOK prog G 0 (codeAt F70c [1, 1, 1, 1, 0, 1, 0]) (F70_0z n) :=
  frag_loop (Z := fun R k (x : SSh.den G F70_0s) K => F70_0_it n (fun u0 u1 u2 => K (.exit 0) (SSh.enc G F70_0x0 (((), ((), ((), (((), ((), ())), ())))), ((u0, ()), (((), ()), (((), ()), (u1, (u2, ())))))))) k x.1.2.2.2.2.1 x.1.2.2.2.2.2.1 x.1.2.2.2.2.2.2.1 x.2.1.1 x.2.2.2.2.1 x.2.2.2.2.2.1) laws fnok (E66_ok n).tab (AllF.of (l := []) (by kernel_rfl) AllF.nil) (fun _ _ _ => rfl) (fun R k y K => F70_0_eq n R (fun (x : SSh.den G F70_0s) => F70_0_it n (fun u0 u1 u2 => K (.exit 0) (SSh.enc G F70_0x0 (((), ((), ((), (((), ((), ())), ())))), ((u0, ()), (((), ()), (((), ()), (u1, (u2, ())))))))) k x.1.2.2.2.2.1 x.1.2.2.2.2.2.1 x.1.2.2.2.2.2.2.1 x.2.1.1 x.2.2.2.2.1 x.2.2.2.2.2.1) y K) n
noncomputable def F70_1x0 : SSh := ⟨80, [(2, (.ptr 0 0)), (5, (.ptr 1 0)), (6, (.ptr 2 0)), (7, (.clo 98 (.cons (.ptr 1 0) (.cons (.ptr 2 0) .nil)))), (10, (.ptr 3 0)), (54, (.own 4)), (55, (.int .i64)), (56, (.int .i64))], [(.box 25 (.cons (.imm 4) .nil)), (.box 95 (.cons (.own 5) .nil)), (.box 76 (.cons (.own 6) .nil)), (.box 51 (.cons (.int .i64) (.cons .str (.cons (.int .i64) (.cons (.imm 3) (.cons (.imm 3) (.cons (.imm 2) (.cons (.imm 3) .nil)))))))), (.arr 6 true), (.arr 5 true), (.arr 0 true)]⟩
noncomputable def F70_1s : SSh := ⟨80, [(2, (.ptr 0 0)), (5, (.ptr 1 0)), (6, (.ptr 2 0)), (7, (.clo 98 (.cons (.ptr 1 0) (.cons (.ptr 2 0) .nil)))), (10, (.ptr 3 0)), (54, (.own 4)), (55, (.int .i64)), (56, (.int .i64)), (60, (.imm 3)), (61, (.int .i64)), (62, (.int .i64))], [(.box 25 (.cons (.imm 4) .nil)), (.box 95 (.cons (.own 5) .nil)), (.box 76 (.cons (.own 6) .nil)), (.box 51 (.cons (.int .i64) (.cons .str (.cons (.int .i64) (.cons (.imm 3) (.cons (.imm 3) (.cons (.imm 2) (.cons (.imm 3) .nil)))))))), (.arr 6 true), (.arr 5 true), (.arr 0 true)]⟩
noncomputable def F70_1_step {R : Type} (n : Nat) (k0 : Int → Int → List Obj → Int → ByteArray → Int → List Val → List Val → List ByteArray → List Val → List (List Val) → List Bool → List Int → Option R) (rec : Int → Int → List Val → Int → Int → List Obj → Int → ByteArray → Int → List Val → List Val → List ByteArray → List Val → List (List Val) → List Bool → List Int → Option R) (x2630 : Int) (x2631 : Int) (x2632 : List Val) (x2633 : Int) (x2634 : Int) (x2635 : List Obj) (x2636 : Int) (x2637 : ByteArray) (x2638 : Int) (x2639 : List Val) (x2640 : List Val) (x2641 : List ByteArray) (x2642 : List Val) (x2643 : List (List Val)) (x2644 : List Bool) (x2645 : List Int) : Option R :=
  (bif (decide (x2634 < x2633)) then
  (bif (decide ((0 : Int) ≤ x2634)) then
  (bif (decide (x2634 < ((x2632.length) : Int))) then
  let v2647 := (x2632.getD (x2634.toNat) (Val.mk (0 : Int) ({ data := #[] } : ByteArray) (0 : Int)))
  (andThen (F98 n v2647.kind v2647.text v2647.ref x2644 x2645) fun r2651 =>
  (rec x2630 x2631 x2632 x2633 (IntKind.wrap .i64 (x2634 + (1 : Int))) x2635 x2636 x2637 x2638 x2639 x2640 x2641 x2642 x2643 r2651.2.2.2.1 r2651.2.2.2.2.2.1))
  else none)
  else none)
  else (k0 x2630 x2631 x2635 x2636 x2637 x2638 x2639 x2640 x2641 x2642 x2643 x2644 x2645))
noncomputable def F70_1_it {R : Type} (n : Nat) (k0 : Int → Int → List Obj → Int → ByteArray → Int → List Val → List Val → List ByteArray → List Val → List (List Val) → List Bool → List Int → Option R) : Nat → Int → Int → List Val → Int → Int → List Obj → Int → ByteArray → Int → List Val → List Val → List ByteArray → List Val → List (List Val) → List Bool → List Int → Option R
  | 0, _, _, _, _, _, _, _, _, _, _, _, _, _, _, _, _ => none
  | k + 1, x2630, x2631, x2632, x2633, x2634, x2635, x2636, x2637, x2638, x2639, x2640, x2641, x2642, x2643, x2644, x2645 => F70_1_step n k0 (F70_1_it n k0 k) x2630 x2631 x2632 x2633 x2634 x2635 x2636 x2637 x2638 x2639 x2640 x2641 x2642 x2643 x2644 x2645
noncomputable def F70_1 {R : Type} (n : Nat) (x2630 : Int) (x2631 : Int) (x2632 : List Val) (x2633 : Int) (x2634 : Int) (x2635 : List Obj) (x2636 : Int) (x2637 : ByteArray) (x2638 : Int) (x2639 : List Val) (x2640 : List Val) (x2641 : List ByteArray) (x2642 : List Val) (x2643 : List (List Val)) (x2644 : List Bool) (x2645 : List Int) (k0 : Int → Int → List Obj → Int → ByteArray → Int → List Val → List Val → List ByteArray → List Val → List (List Val) → List Bool → List Int → Option R) : Option R := F70_1_it n k0 n x2630 x2631 x2632 x2633 x2634 x2635 x2636 x2637 x2638 x2639 x2640 x2641 x2642 x2643 x2644 x2645
noncomputable def F70_1z (n : Nat) : Sm G := inZ G 0 ⟨[2, 5, 6, 7, 10, 54, 55, 56, 60, 61, 62], [(6, (.cell 0 (.mv 0)))]⟩ F70_1s fun R x K => F70_1_it n (fun u0 u1 u2 u3 u4 u5 u6 u7 u8 u9 u10 u11 u12 => K (.exit 6) (SSh.enc G F70_1x0 (((), ((), ((), (((), ((), ())), ((), ((), (u0, (u1, ())))))))), ((u2, ()), (((), ()), (((), ()), ((u3, (u4, (u5, (u6, (u7, (u8, (u9, ()))))))), (u10, (u11, (u12, ())))))))))) n x.1.2.2.2.2.2.2.1 x.1.2.2.2.2.2.2.2.1 x.1.2.2.2.2.2.2.2.2.1 x.1.2.2.2.2.2.2.2.2.2.1 x.1.2.2.2.2.2.2.2.2.2.2.1 x.2.1.1 x.2.2.2.2.1.1 x.2.2.2.2.1.2.1 x.2.2.2.2.1.2.2.1 x.2.2.2.2.1.2.2.2.1 x.2.2.2.2.1.2.2.2.2.1 x.2.2.2.2.1.2.2.2.2.2.1 x.2.2.2.2.1.2.2.2.2.2.2.1 x.2.2.2.2.2.1 x.2.2.2.2.2.2.1 x.2.2.2.2.2.2.2.1
theorem F70_1_eq (n : Nat) (R : Type) (rec : SSh.den G F70_1s → Option R) (x : SSh.den G F70_1s) (K : AE → St G → Option R) :
  F70_1_step n (fun u0 u1 u2 u3 u4 u5 u6 u7 u8 u9 u10 u11 u12 => K (.exit 6) (SSh.enc G F70_1x0 (((), ((), ((), (((), ((), ())), ((), ((), (u0, (u1, ())))))))), ((u2, ()), (((), ()), (((), ()), ((u3, (u4, (u5, (u6, (u7, (u8, (u9, ()))))))), (u10, (u11, (u12, ())))))))))) (fun x2630 x2631 x2632 x2633 x2634 x2635 x2636 x2637 x2638 x2639 x2640 x2641 x2642 x2643 x2644 x2645 => rec (((), ((), ((), (((), ((), ())), ((), ((), (x2630, (x2631, (x2632, (x2633, (x2634, ()))))))))))), ((x2635, ()), (((), ()), (((), ()), ((x2636, (x2637, (x2638, (x2639, (x2640, (x2641, (x2642, ()))))))), (x2643, (x2644, (x2645, ()))))))))) x.1.2.2.2.2.2.2.1 x.1.2.2.2.2.2.2.2.1 x.1.2.2.2.2.2.2.2.2.1 x.1.2.2.2.2.2.2.2.2.2.1 x.1.2.2.2.2.2.2.2.2.2.2.1 x.2.1.1 x.2.2.2.2.1.1 x.2.2.2.2.1.2.1 x.2.2.2.2.1.2.2.1 x.2.2.2.2.1.2.2.2.1 x.2.2.2.2.1.2.2.2.2.1 x.2.2.2.2.1.2.2.2.2.2.1 x.2.2.2.2.1.2.2.2.2.2.2.1 x.2.2.2.2.2.1 x.2.2.2.2.2.2.1 x.2.2.2.2.2.2.2.1 = exec prog G (ro G (tabOf (E66 n)) (frOf [F70_0z n]) R) 0 (codeAt F70c [1, 1, 1, 1, 1, 0, 0, 0, 1, 0, 1, 1, 0, 1, 0, 0, 1, 1, 0, 0, 1, 1, 0, 0]) .no (SSh.enc G F70_1s x) (kLoop G (ro G (tabOf (E66 n)) (frOf [F70_0z n]) R) 0 ⟨[2, 5, 6, 7, 10, 54, 55, 56, 60, 61, 62], [(6, (.cell 0 (.mv 0)))]⟩ F70_1s ⟨⟨[2, 5, 6, 7, 10, 54, 55, 56], []⟩, ⟨[4], []⟩, [(6, ⟨[2, 5, 6, 7, 10, 54, 55, 56], []⟩), (5, ⟨[2, 5, 6, 7, 10, 54, 55, 56], []⟩), (4, ⟨[2, 5, 6, 7, 10], []⟩), (3, ⟨[2, 5, 6, 7], []⟩), (2, ⟨[5], []⟩)]⟩ rec K) := by kernel_rfl
theorem F70_1_ok (n : Nat) : FragOK prog G 0 (codeAt F70c [1, 1, 1, 1, 1, 0, 0, 0, 1, 0, 1, 1, 0, 1, 0, 0, 1, 1, 0, 0, 1, 1, 0]) (F70_1z n) :=
  frag_loop (Z := fun R k (x : SSh.den G F70_1s) K => F70_1_it n (fun u0 u1 u2 u3 u4 u5 u6 u7 u8 u9 u10 u11 u12 => K (.exit 6) (SSh.enc G F70_1x0 (((), ((), ((), (((), ((), ())), ((), ((), (u0, (u1, ())))))))), ((u2, ()), (((), ()), (((), ()), ((u3, (u4, (u5, (u6, (u7, (u8, (u9, ()))))))), (u10, (u11, (u12, ())))))))))) k x.1.2.2.2.2.2.2.1 x.1.2.2.2.2.2.2.2.1 x.1.2.2.2.2.2.2.2.2.1 x.1.2.2.2.2.2.2.2.2.2.1 x.1.2.2.2.2.2.2.2.2.2.2.1 x.2.1.1 x.2.2.2.2.1.1 x.2.2.2.2.1.2.1 x.2.2.2.2.1.2.2.1 x.2.2.2.2.1.2.2.2.1 x.2.2.2.2.1.2.2.2.2.1 x.2.2.2.2.1.2.2.2.2.2.1 x.2.2.2.2.1.2.2.2.2.2.2.1 x.2.2.2.2.2.1 x.2.2.2.2.2.2.1 x.2.2.2.2.2.2.2.1) laws fnok (E66_ok n).tab (AllF.of (l := []) (by kernel_rfl) AllF.nil) (fun _ _ _ => rfl) (fun R k y K => F70_1_eq n R (fun (x : SSh.den G F70_1s) => F70_1_it n (fun u0 u1 u2 u3 u4 u5 u6 u7 u8 u9 u10 u11 u12 => K (.exit 6) (SSh.enc G F70_1x0 (((), ((), ((), (((), ((), ())), ((), ((), (u0, (u1, ())))))))), ((u2, ()), (((), ()), (((), ()), ((u3, (u4, (u5, (u6, (u7, (u8, (u9, ()))))))), (u10, (u11, (u12, ())))))))))) k x.1.2.2.2.2.2.2.1 x.1.2.2.2.2.2.2.2.1 x.1.2.2.2.2.2.2.2.2.1 x.1.2.2.2.2.2.2.2.2.2.1 x.1.2.2.2.2.2.2.2.2.2.2.1 x.2.1.1 x.2.2.2.2.1.1 x.2.2.2.2.1.2.1 x.2.2.2.2.1.2.2.1 x.2.2.2.2.1.2.2.2.1 x.2.2.2.2.1.2.2.2.2.1 x.2.2.2.2.1.2.2.2.2.2.1 x.2.2.2.2.1.2.2.2.2.2.2.1 x.2.2.2.2.2.1 x.2.2.2.2.2.2.1 x.2.2.2.2.2.2.2.1) y K) n
noncomputable def F70_2x0 : SSh := ⟨80, [(2, (.ptr 0 0)), (5, (.ptr 1 0)), (6, (.ptr 2 0)), (7, (.clo 98 (.cons (.ptr 1 0) (.cons (.ptr 2 0) .nil)))), (10, (.ptr 3 0))], [(.box 25 (.cons (.imm 4) .nil)), (.box 95 (.cons (.own 4) .nil)), (.box 76 (.cons (.own 5) .nil)), (.box 51 (.cons (.int .i64) (.cons .str (.cons (.int .i64) (.cons (.imm 3) (.cons (.imm 3) (.cons (.imm 2) (.cons (.imm 3) .nil)))))))), (.arr 5 true), (.arr 0 true)]⟩
noncomputable def F70_2s : SSh := ⟨80, [(2, (.ptr 0 0)), (5, (.ptr 1 0)), (6, (.ptr 2 0)), (7, (.clo 98 (.cons (.ptr 1 0) (.cons (.ptr 2 0) .nil)))), (10, (.ptr 3 0)), (54, (.own 4)), (55, (.int .i64)), (56, (.int .i64))], [(.box 25 (.cons (.imm 4) .nil)), (.box 95 (.cons (.own 5) .nil)), (.box 76 (.cons (.own 6) .nil)), (.box 51 (.cons (.int .i64) (.cons .str (.cons (.int .i64) (.cons (.imm 3) (.cons (.imm 3) (.cons (.imm 2) (.cons (.imm 3) .nil)))))))), (.arr 6 true), (.arr 5 true), (.arr 0 true)]⟩
noncomputable def F70_2_step {R : Type} (n : Nat) (k0 : List Obj → Int → ByteArray → Int → List Val → List Val → List ByteArray → List Val → List Bool → List Int → Option R) (rec : Int → Int → List Obj → Int → ByteArray → Int → List Val → List Val → List ByteArray → List Val → List (List Val) → List Bool → List Int → Option R) (x2613 : Int) (x2614 : Int) (x2615 : List Obj) (x2616 : Int) (x2617 : ByteArray) (x2618 : Int) (x2619 : List Val) (x2620 : List Val) (x2621 : List ByteArray) (x2622 : List Val) (x2623 : List (List Val)) (x2624 : List Bool) (x2625 : List Int) : Option R :=
  (bif (decide (x2614 < x2613)) then
  (bif (decide ((0 : Int) ≤ x2614)) then
  (bif (decide (x2614 < ((x2623.length) : Int))) then
  let v2628 := (x2623.getD (x2614.toNat) [])
  (F70_1 n x2613 x2614 v2628 ((v2628.length) : Int) (0 : Int) x2615 x2616 x2617 x2618 x2619 x2620 x2621 x2622 x2623 x2624 x2625 (fun z2653 z2654 z2655 z2656 z2657 z2658 z2659 z2660 z2661 z2662 z2663 z2664 z2665 =>
  (rec z2653 (IntKind.wrap .i64 (z2654 + (1 : Int))) z2655 z2656 z2657 z2658 z2659 z2660 z2661 z2662 z2663 z2664 z2665)))
  else none)
  else none)
  else (k0 x2615 x2616 x2617 x2618 x2619 x2620 x2621 x2622 x2624 x2625))
noncomputable def F70_2_it {R : Type} (n : Nat) (k0 : List Obj → Int → ByteArray → Int → List Val → List Val → List ByteArray → List Val → List Bool → List Int → Option R) : Nat → Int → Int → List Obj → Int → ByteArray → Int → List Val → List Val → List ByteArray → List Val → List (List Val) → List Bool → List Int → Option R
  | 0, _, _, _, _, _, _, _, _, _, _, _, _, _ => none
  | k + 1, x2613, x2614, x2615, x2616, x2617, x2618, x2619, x2620, x2621, x2622, x2623, x2624, x2625 => F70_2_step n k0 (F70_2_it n k0 k) x2613 x2614 x2615 x2616 x2617 x2618 x2619 x2620 x2621 x2622 x2623 x2624 x2625
noncomputable def F70_2 {R : Type} (n : Nat) (x2613 : Int) (x2614 : Int) (x2615 : List Obj) (x2616 : Int) (x2617 : ByteArray) (x2618 : Int) (x2619 : List Val) (x2620 : List Val) (x2621 : List ByteArray) (x2622 : List Val) (x2623 : List (List Val)) (x2624 : List Bool) (x2625 : List Int) (k0 : List Obj → Int → ByteArray → Int → List Val → List Val → List ByteArray → List Val → List Bool → List Int → Option R) : Option R := F70_2_it n k0 n x2613 x2614 x2615 x2616 x2617 x2618 x2619 x2620 x2621 x2622 x2623 x2624 x2625
noncomputable def F70_2z (n : Nat) : Sm G := inZ G 0 ⟨[2, 5, 6, 7, 10, 54, 55, 56], [(6, (.cell 0 (.mv 0)))]⟩ F70_2s fun R x K => F70_2_it n (fun u0 u1 u2 u3 u4 u5 u6 u7 u8 u9 => K (.exit 4) (SSh.enc G F70_2x0 (((), ((), ((), (((), ((), ())), ((), ()))))), ((u0, ()), (((), ()), (((), ()), ((u1, (u2, (u3, (u4, (u5, (u6, (u7, ()))))))), (u8, (u9, ()))))))))) n x.1.2.2.2.2.2.2.1 x.1.2.2.2.2.2.2.2.1 x.2.1.1 x.2.2.2.2.1.1 x.2.2.2.2.1.2.1 x.2.2.2.2.1.2.2.1 x.2.2.2.2.1.2.2.2.1 x.2.2.2.2.1.2.2.2.2.1 x.2.2.2.2.1.2.2.2.2.2.1 x.2.2.2.2.1.2.2.2.2.2.2.1 x.2.2.2.2.2.1 x.2.2.2.2.2.2.1 x.2.2.2.2.2.2.2.1
theorem F70_2_eq (n : Nat) (R : Type) (rec : SSh.den G F70_2s → Option R) (x : SSh.den G F70_2s) (K : AE → St G → Option R) :
  F70_2_step n (fun u0 u1 u2 u3 u4 u5 u6 u7 u8 u9 => K (.exit 4) (SSh.enc G F70_2x0 (((), ((), ((), (((), ((), ())), ((), ()))))), ((u0, ()), (((), ()), (((), ()), ((u1, (u2, (u3, (u4, (u5, (u6, (u7, ()))))))), (u8, (u9, ()))))))))) (fun x2613 x2614 x2615 x2616 x2617 x2618 x2619 x2620 x2621 x2622 x2623 x2624 x2625 => rec (((), ((), ((), (((), ((), ())), ((), ((), (x2613, (x2614, ())))))))), ((x2615, ()), (((), ()), (((), ()), ((x2616, (x2617, (x2618, (x2619, (x2620, (x2621, (x2622, ()))))))), (x2623, (x2624, (x2625, ()))))))))) x.1.2.2.2.2.2.2.1 x.1.2.2.2.2.2.2.2.1 x.2.1.1 x.2.2.2.2.1.1 x.2.2.2.2.1.2.1 x.2.2.2.2.1.2.2.1 x.2.2.2.2.1.2.2.2.1 x.2.2.2.2.1.2.2.2.2.1 x.2.2.2.2.1.2.2.2.2.2.1 x.2.2.2.2.1.2.2.2.2.2.2.1 x.2.2.2.2.2.1 x.2.2.2.2.2.2.1 x.2.2.2.2.2.2.2.1 = exec prog G (ro G (tabOf (E66 n)) (frOf [F70_0z n, F70_1z n]) R) 0 (codeAt F70c [1, 1, 1, 1, 1, 0, 0, 0, 1, 0, 1, 1, 0, 1, 0, 0]) (.nd .no (.nd .no (.nd (.nd (.nd .no (.nd .no (.nd (.use 1) .no))) .no) .no))) (SSh.enc G F70_2s x) (kLoop G (ro G (tabOf (E66 n)) (frOf [F70_0z n, F70_1z n]) R) 0 ⟨[2, 5, 6, 7, 10, 54, 55, 56], [(6, (.cell 0 (.mv 0)))]⟩ F70_2s ⟨⟨[2, 5, 6, 7, 10], []⟩, ⟨[4], []⟩, [(4, ⟨[2, 5, 6, 7, 10], []⟩), (3, ⟨[2, 5, 6, 7], []⟩), (2, ⟨[5], []⟩)]⟩ rec K) := by kernel_rfl
theorem F70_2_ok (n : Nat) : FragOK prog G 0 (codeAt F70c [1, 1, 1, 1, 1, 0, 0, 0, 1, 0, 1, 1, 0, 1, 0]) (F70_2z n) :=
  frag_loop (Z := fun R k (x : SSh.den G F70_2s) K => F70_2_it n (fun u0 u1 u2 u3 u4 u5 u6 u7 u8 u9 => K (.exit 4) (SSh.enc G F70_2x0 (((), ((), ((), (((), ((), ())), ((), ()))))), ((u0, ()), (((), ()), (((), ()), ((u1, (u2, (u3, (u4, (u5, (u6, (u7, ()))))))), (u8, (u9, ()))))))))) k x.1.2.2.2.2.2.2.1 x.1.2.2.2.2.2.2.2.1 x.2.1.1 x.2.2.2.2.1.1 x.2.2.2.2.1.2.1 x.2.2.2.2.1.2.2.1 x.2.2.2.2.1.2.2.2.1 x.2.2.2.2.1.2.2.2.2.1 x.2.2.2.2.1.2.2.2.2.2.1 x.2.2.2.2.1.2.2.2.2.2.2.1 x.2.2.2.2.2.1 x.2.2.2.2.2.2.1 x.2.2.2.2.2.2.2.1) laws fnok (E66_ok n).tab (AllF.of (l := [(1, codeAt F70c [1, 1, 1, 1, 1, 0, 0, 0, 1, 0, 1, 1, 0, 1, 0, 0, 1, 1, 0, 0, 1, 1, 0])]) (by kernel_rfl) (AllF.cons (F70_1_ok n) AllF.nil)) (fun _ _ _ => rfl) (fun R k y K => F70_2_eq n R (fun (x : SSh.den G F70_2s) => F70_2_it n (fun u0 u1 u2 u3 u4 u5 u6 u7 u8 u9 => K (.exit 4) (SSh.enc G F70_2x0 (((), ((), ((), (((), ((), ())), ((), ()))))), ((u0, ()), (((), ()), (((), ()), ((u1, (u2, (u3, (u4, (u5, (u6, (u7, ()))))))), (u8, (u9, ()))))))))) k x.1.2.2.2.2.2.2.1 x.1.2.2.2.2.2.2.2.1 x.2.1.1 x.2.2.2.2.1.1 x.2.2.2.2.1.2.1 x.2.2.2.2.1.2.2.1 x.2.2.2.2.1.2.2.2.1 x.2.2.2.2.1.2.2.2.2.1 x.2.2.2.2.1.2.2.2.2.2.1 x.2.2.2.2.1.2.2.2.2.2.2.1 x.2.2.2.2.2.1 x.2.2.2.2.2.2.1 x.2.2.2.2.2.2.2.1) y K) n
-- 23 loop.example/slowworm/impl.refTo
noncomputable def F23c : Code := bodyOf Go.Proofs.Try.f23
noncomputable def F23 (n : Nat) (a2678 : Int) : Option ((Int × (ByteArray × (Int × Unit))) × Unit) :=
  some (((4 : Int), (({ data := #[] } : ByteArray), (a2678, ()))), ())
noncomputable def F23e (n : Nat) : Ent G := ⟨23, (.cons (.int .i64) .nil), [], (.agg (.cons (.int .i64) (.cons .str (.cons (.int .i64) .nil)))), [], fun x y => F23 n x.1⟩
theorem F23_eq (n : Nat) (x : ShL.den G (.cons (.int .i64) .nil)) (y : denO G []) : (F23e n).F x y = runFn prog G (ro G (tabOf (E66 n)) (frOf []) _) Go.Proofs.Try.f23 .no [(0, .fz)] (ShL.enc G (.cons (.int .i64) .nil) x) (encO G [] y) (decR (.agg (.cons (.int .i64) (.cons .str (.cons (.int .i64) .nil)))) []) := by kernel_rfl
theorem F23_ok (n : Nat) : EntOK prog G (F23e n) :=
  ent_ok (fr := frOf []) (ann := .no) (frm := [(0, .fz)]) laws fnok (E66_ok n).tab (e := F23e n) (fn := Go.Proofs.Try.f23) (by kernel_rfl) (AllF.ofB (cd := F23c) (l := []) (by kernel_rfl) (by kernel_rfl) AllF.nil) (F23_eq n)
noncomputable def E67 (n : Nat) : List (Ent G) := F23e n :: E66 n
theorem E67_ok (n : Nat) : AllE prog G (E67 n) := AllE.cons (F23_ok n) (E66_ok n)
noncomputable def F70_3x0 : SSh := ⟨80, [(5, (.ptr 0 0))], [(.box 95 (.cons (.own 1) .nil)), (.arr 5 true)]⟩
noncomputable def F70_3s : SSh := ⟨80, [(2, (.ptr 0 0)), (5, (.ptr 1 0)), (6, (.ptr 2 0)), (7, (.clo 98 (.cons (.ptr 1 0) (.cons (.ptr 2 0) .nil))))], [(.box 25 (.cons (.imm 4) .nil)), (.box 95 (.cons (.own 3) .nil)), (.box 76 (.cons (.own 4) .nil)), (.arr 5 true), (.arr 0 true)]⟩
noncomputable def F70_3_step {R : Type} (n : Nat) (k0 : List Bool → Option R) (rec : List Obj → List Bool → List Int → Option R) (x2590 : List Obj) (x2591 : List Bool) (x2592 : List Int) : Option R :=
  (bif (decide (((x2592.length) : Int) > (0 : Int))) then
  let v2596 := (IntKind.wrap .i64 (((x2592.length) : Int) - (1 : Int)))
  (bif (decide ((0 : Int) ≤ v2596)) then
  (bif (decide (v2596 < ((x2592.length) : Int))) then
  let v2598 := (x2592.getD (v2596.toNat) (0 : Int))
  (bif (decide ((0 : Int) ≤ v2598)) then
  (bif (decide (v2598 < ((x2590.length) : Int))) then
  let v2599 := (x2590.getD (v2598.toNat) (Obj.mk (0 : Int) ({ data := #[] } : ByteArray) (0 : Int) [] [] [] []))
  let v2603 := v2599.items
  let v2604 := v2599.keys
  let v2606 := v2599.vals
  let v2608 := (IntKind.wrap .i64 (((x2592.length) : Int) - (1 : Int)))
  (bif (decide ((0 : Int) ≤ v2608)) then
  (bif (decide (v2608 ≤ ((x2592.length) : Int))) then
  let v2610 := (v2604 :: (v2603 :: (v2606 :: [])))
  (F70_2 n ((v2610.length) : Int) (0 : Int) x2590 v2599.kind v2599.name v2599.at_ v2603 v2604 v2599.names v2606 v2610 x2591 (x2592.take (v2608.toNat)) (fun z2667 z2668 z2669 z2670 z2671 z2672 z2673 z2674 z2675 z2676 =>
  (bif (z2668 == (6 : Int)) then
  (andThen (F23 n z2670) fun r2679 =>
  (andThen (F98 n r2679.1.1 r2679.1.2.1 r2679.1.2.2.1 z2675 z2676) fun r2680 =>
  (rec z2667 r2680.2.2.2.1 r2680.2.2.2.2.2.1)))
  else (rec z2667 z2675 z2676))))
  else none)
  else none)
  else none)
  else none)
  else none)
  else none)
  else (k0 x2591))
noncomputable def F70_3_it {R : Type} (n : Nat) (k0 : List Bool → Option R) : Nat → List Obj → List Bool → List Int → Option R
  | 0, _, _, _ => none
  | k + 1, x2590, x2591, x2592 => F70_3_step n k0 (F70_3_it n k0 k) x2590 x2591 x2592
noncomputable def F70_3 {R : Type} (n : Nat) (x2590 : List Obj) (x2591 : List Bool) (x2592 : List Int) (k0 : List Bool → Option R) : Option R := F70_3_it n k0 n x2590 x2591 x2592
noncomputable def F70_3z (n : Nat) : Sm G := inZ G 0 ⟨[2, 5, 6, 7], []⟩ F70_3s fun R x K => F70_3_it n (fun u0 => K (.exit 2) (SSh.enc G F70_3x0 (((), ()), (((), ()), (u0, ()))))) n x.2.1.1 x.2.2.2.2.1 x.2.2.2.2.2.1
theorem F70_3_eq (n : Nat) (R : Type) (rec : SSh.den G F70_3s → Option R) (x : SSh.den G F70_3s) (K : AE → St G → Option R) :
  F70_3_step n (fun u0 => K (.exit 2) (SSh.enc G F70_3x0 (((), ()), (((), ()), (u0, ()))))) (fun x2590 x2591 x2592 => rec (((), ((), ((), (((), ((), ())), ())))), ((x2590, ()), (((), ()), (((), ()), (x2591, (x2592, ()))))))) x.2.1.1 x.2.2.2.2.1 x.2.2.2.2.2.1 = exec prog G (ro G (tabOf (E67 n)) (frOf [F70_0z n, F70_1z n, F70_2z n]) R) 0 (codeAt F70c [1, 1, 1, 1, 1, 0, 0, 0]) (.nd .no (.nd (.nd .no (.nd .no (.nd (.nd .no (.nd (.use 2) .no)) .no))) .no)) (SSh.enc G F70_3s x) (kLoop G (ro G (tabOf (E67 n)) (frOf [F70_0z n, F70_1z n, F70_2z n]) R) 0 ⟨[2, 5, 6, 7], []⟩ F70_3s ⟨⟨[5], []⟩, ⟨[4], []⟩, [(2, ⟨[5], []⟩)]⟩ rec K) := by kernel_rfl
theorem F70_3_ok (n : Nat) : FragOK prog G 0 (codeAt F70c [1, 1, 1, 1, 1, 0, 0]) (F70_3z n) :=
  frag_loop (Z := fun R k (x : SSh.den G F70_3s) K => F70_3_it n (fun u0 => K (.exit 2) (SSh.enc G F70_3x0 (((), ()), (((), ()), (u0, ()))))) k x.2.1.1 x.2.2.2.2.1 x.2.2.2.2.2.1) laws fnok (E67_ok n).tab (AllF.of (l := [(2, codeAt F70c [1, 1, 1, 1, 1, 0, 0, 0, 1, 0, 1, 1, 0, 1, 0])]) (by kernel_rfl) (AllF.cons (F70_2_ok n) AllF.nil)) (fun _ _ _ => rfl) (fun R k y K => F70_3_eq n R (fun (x : SSh.den G F70_3s) => F70_3_it n (fun u0 => K (.exit 2) (SSh.enc G F70_3x0 (((), ()), (((), ()), (u0, ()))))) k x.2.1.1 x.2.2.2.2.1 x.2.2.2.2.2.1) y K) n
noncomputable def F70 (n : Nat) (a2569 : List Obj) (a2570 : List Val) : Option (Unit × (List Bool × Unit)) :=
  let v2571 := ((a2569.length) : Int)
  (bif (decide ((0 : Int) ≤ v2571)) then
  (bif (decide (v2571 ≤ v2571)) then
  (bif (decide (v2571 ≤ ((68719476736 : Nat) : Int))) then
  (F70_0 n a2570 ((a2570.length) : Int) (0 : Int) a2569 (List.replicate (v2571.toNat) false) [] (fun z2587 z2588 z2589 =>
  (F70_3 n z2587 z2588 z2589 (fun z2681 =>
  some ((), (z2681, ()))))))
  else none)
  else none)
  else none)
noncomputable def F70e (n : Nat) : Ent G := ⟨70, (.cons (.agg (.cons (.imm 4) .nil)) (.cons (.imm 3) .nil)), [], (.own 0), [(.arr 5 true)], fun x y => F70 n x.1.1 x.2.1⟩
theorem F70_eq (n : Nat) (x : ShL.den G (.cons (.agg (.cons (.imm 4) .nil)) (.cons (.imm 3) .nil))) (y : denO G []) : (F70e n).F x y = runFn prog G (ro G (tabOf (E67 n)) (frOf [F70_0z n, F70_1z n, F70_2z n, F70_3z n]) _) Go.Proofs.Try.f70 (.nd .no (.nd .no (.nd .no (.nd .no (.nd (.nd .no (.nd (.use 0) .no)) (.nd (.nd (.use 3) .no) .no)))))) [(0, (.own 5))] (ShL.enc G (.cons (.agg (.cons (.imm 4) .nil)) (.cons (.imm 3) .nil)) x) (encO G [] y) (decR (.own 0) [(.arr 5 true)]) := by kernel_rfl
theorem F70_ok (n : Nat) : EntOK prog G (F70e n) :=
  ent_ok (fr := frOf [F70_0z n, F70_1z n, F70_2z n, F70_3z n]) (ann := (.nd .no (.nd .no (.nd .no (.nd .no (.nd (.nd .no (.nd (.use 0) .no)) (.nd (.nd (.use 3) .no) .no))))))) (frm := [(0, (.own 5))]) laws fnok (E67_ok n).tab (e := F70e n) (fn := Go.Proofs.Try.f70) (by kernel_rfl) (AllF.ofB (cd := F70c) (l := [(0, codeAt F70c [1, 1, 1, 1, 0, 1, 0]), (3, codeAt F70c [1, 1, 1, 1, 1, 0, 0])]) (by kernel_rfl) (by kernel_rfl) (AllF.cons (F70_0_ok n) (AllF.cons (F70_3_ok n) AllF.nil))) (F70_eq n)
noncomputable def E68 (n : Nat) : List (Ent G) := F70e n :: E67 n
theorem E68_ok (n : Nat) : AllE prog G (E68 n) := AllE.cons (F70_ok n) (E67_ok n)
noncomputable def F41_0x0 : SSh := ⟨27, [(2, (.ptr 1 0)), (8, (.own 2)), (9, (.int .i64)), (10, (.int .i64))], [(.arr 4 true), (.box 25 (.cons (.own 0) .nil)), (.arr 5 true)]⟩
noncomputable def F41_0s : SSh := ⟨27, [(2, (.ptr 1 0)), (8, (.own 2)), (9, (.int .i64)), (10, (.int .i64))], [(.arr 4 true), (.box 25 (.cons (.own 0) .nil)), (.arr 5 true)]⟩
noncomputable def F41_0 {R : Type} (n : Nat) (x2689 : Int) (x2690 : Int) (x2691 : List Obj) (x2692 : List Bool) (k0 : Int → Int → List Obj → List Bool → Option R) : Option R :=
  (bif (decide ((0 : Int) ≤ x2690)) then
  (bif (decide (x2690 < ((x2692.length) : Int))) then
  (bif (!(x2692.getD (x2690.toNat) false)) then
  (bif (decide (x2690 ≥ (19 : Int))) then
  (bif (decide ((0 : Int) ≤ x2690)) then
  (bif (decide (x2690 < ((x2691.length) : Int))) then
  (k0 x2689 x2690 (x2691.set (x2690.toNat) (Obj.mk (0 : Int) ({ data := #[] } : ByteArray) (0 : Int) [] [] [] [])) x2692)
  else none)
  else none)
  else (k0 x2689 x2690 x2691 x2692))
  else (k0 x2689 x2690 x2691 x2692))
  else none)
  else none)
noncomputable def F41_0z (n : Nat) : Sm G := inZ G 1 ⟨[2, 8, 9, 10], []⟩ F41_0s fun R x K => F41_0 n x.1.2.2.1 x.1.2.2.2.1 x.2.1 x.2.2.2.1 (fun u0 u1 u2 u3 => K .normal (SSh.enc G F41_0x0 (((), ((), (u0, (u1, ())))), (u2, (((), ()), (u3, ()))))))
theorem F41_0_eq (n : Nat) (R : Type) (x : SSh.den G F41_0s) (K : AE → St G → Option R) :
  F41_0 n x.1.2.2.1 x.1.2.2.2.1 x.2.1 x.2.2.2.1 (fun u0 u1 u2 u3 => K .normal (SSh.enc G F41_0x0 (((), ((), (u0, (u1, ())))), (u2, (((), ()), (u3, ())))))) = exec prog G (ro G (tabOf (E68 n)) (frOf []) R) 1 (codeAt F41c [1, 1, 0, 0, 1, 1, 0]) .no (SSh.enc G F41_0s x) (kNrm G (ro G (tabOf (E68 n)) (frOf []) R) 1 ⟨⟨[2, 8, 9, 10], []⟩, ⟨[], []⟩, [(0, ⟨[], []⟩)]⟩ K) := by kernel_rfl
theorem F41_0_ok (n : Nat) : FragOK prog G 1 (codeAt F41c [1, 1, 0, 0, 1, 1, 0]) (F41_0z n) :=
  frag_plain laws fnok (E68_ok n).tab (AllF.of (l := []) (by kernel_rfl) AllF.nil) (F41_0_eq n)
noncomputable def F41_1x0 : SSh := ⟨27, [], [(.arr 4 true)]⟩
noncomputable def F41_1s : SSh := ⟨27, [(2, (.ptr 1 0)), (8, (.own 2)), (9, (.int .i64)), (10, (.int .i64))], [(.arr 4 true), (.box 25 (.cons (.own 0) .nil)), (.arr 5 true)]⟩
noncomputable def F41_1_step {R : Type} (n : Nat) (k0 : List Obj → Option R) (rec : Int → Int → List Obj → List Bool → Option R) (x2684 : Int) (x2685 : Int) (x2686 : List Obj) (x2687 : List Bool) : Option R :=
  (bif (decide (x2685 < x2684)) then
  (F41_0 n x2684 x2685 x2686 x2687 (fun z2699 z2700 z2701 z2702 =>
  (rec z2699 (IntKind.wrap .i64 (z2700 + (1 : Int))) z2701 z2702)))
  else (k0 x2686))
noncomputable def F41_1_it {R : Type} (n : Nat) (k0 : List Obj → Option R) : Nat → Int → Int → List Obj → List Bool → Option R
  | 0, _, _, _, _ => none
  | k + 1, x2684, x2685, x2686, x2687 => F41_1_step n k0 (F41_1_it n k0 k) x2684 x2685 x2686 x2687
noncomputable def F41_1 {R : Type} (n : Nat) (x2684 : Int) (x2685 : Int) (x2686 : List Obj) (x2687 : List Bool) (k0 : List Obj → Option R) : Option R := F41_1_it n k0 n x2684 x2685 x2686 x2687
noncomputable def F41_1z (n : Nat) : Sm G := inZ G 1 ⟨[2, 8, 9, 10], []⟩ F41_1s fun R x K => F41_1_it n (fun u0 => K (.exit 0) (SSh.enc G F41_1x0 ((), (u0, ())))) n x.1.2.2.1 x.1.2.2.2.1 x.2.1 x.2.2.2.1
theorem F41_1_eq (n : Nat) (R : Type) (rec : SSh.den G F41_1s → Option R) (x : SSh.den G F41_1s) (K : AE → St G → Option R) :
  F41_1_step n (fun u0 => K (.exit 0) (SSh.enc G F41_1x0 ((), (u0, ())))) (fun x2684 x2685 x2686 x2687 => rec (((), ((), (x2684, (x2685, ())))), (x2686, (((), ()), (x2687, ()))))) x.1.2.2.1 x.1.2.2.2.1 x.2.1 x.2.2.2.1 = exec prog G (ro G (tabOf (E68 n)) (frOf [F41_0z n]) R) 1 (codeAt F41c [1, 1, 0, 0]) (.nd .no (.nd .no (.nd (.use 0) .no))) (SSh.enc G F41_1s x) (kLoop G (ro G (tabOf (E68 n)) (frOf [F41_0z n]) R) 1 ⟨[2, 8, 9, 10], []⟩ F41_1s ⟨⟨[], []⟩, ⟨[], []⟩, [(0, ⟨[], []⟩)]⟩ rec K) := by kernel_rfl
theorem F41_1_ok (n : Nat) : FragOK prog G 1 (codeAt F41c [1, 1, 0]) (F41_1z n) :=
  frag_loop (Z := fun R k (x : SSh.den G F41_1s) K => F41_1_it n (fun u0 => K (.exit 0) (SSh.enc G F41_1x0 ((), (u0, ())))) k x.1.2.2.1 x.1.2.2.2.1 x.2.1 x.2.2.2.1) laws fnok (E68_ok n).tab (AllF.of (l := [(0, codeAt F41c [1, 1, 0, 0, 1, 1, 0])]) (by kernel_rfl) (AllF.cons (F41_0_ok n) AllF.nil)) (fun _ _ _ => rfl) (fun R k y K => F41_1_eq n R (fun (x : SSh.den G F41_1s) => F41_1_it n (fun u0 => K (.exit 0) (SSh.enc G F41_1x0 ((), (u0, ())))) k x.1.2.2.1 x.1.2.2.2.1 x.2.1 x.2.2.2.1) y K) n
noncomputable def F41 (n : Nat) (a2354 : List Val) (a2355 : List Obj) : Option (Unit × (List Obj × Unit)) :=
  (andThen (F70 n a2355 a2354) fun r2682 =>
  (F41_1 n ((r2682.2.1.length) : Int) (0 : Int) a2355 r2682.2.1 (fun z2704 =>
  some ((), (z2704, ())))))
noncomputable def F41e (n : Nat) : Ent G := ⟨41, (.cons (.agg (.cons (.own 0) .nil)) (.cons (.imm 3) .nil)), [(.arr 4 true)], (.tup .nil), [(.arr 4 true)], fun x y => F41 n x.2.1 y.1⟩
theorem F41_eq (n : Nat) (x : ShL.den G (.cons (.agg (.cons (.own 0) .nil)) (.cons (.imm 3) .nil))) (y : denO G [(.arr 4 true)]) : (F41e n).F x y = runFn prog G (ro G (tabOf (E68 n)) (frOf [F41_0z n, F41_1z n]) _) Go.Proofs.Try.f41 (.nd .no (.nd .no (.nd (.use 1) .no))) [] (ShL.enc G (.cons (.agg (.cons (.own 0) .nil)) (.cons (.imm 3) .nil)) x) (encO G [(.arr 4 true)] y) (decR (.tup .nil) [(.arr 4 true)]) := by kernel_rfl
theorem F41_ok (n : Nat) : EntOK prog G (F41e n) :=
  ent_ok (fr := frOf [F41_0z n, F41_1z n]) (ann := (.nd .no (.nd .no (.nd (.use 1) .no)))) (frm := []) laws fnok (E68_ok n).tab (e := F41e n) (fn := Go.Proofs.Try.f41) (by kernel_rfl) (AllF.ofB (cd := F41c) (l := [(1, codeAt F41c [1, 1, 0])]) (by kernel_rfl) (by kernel_rfl) (AllF.cons (F41_1_ok n) AllF.nil)) (F41_eq n)
noncomputable def E69 (n : Nat) : List (Ent G) := F41e n :: E68 n
theorem E69_ok (n : Nat) : AllE prog G (E69 n) := AllE.cons (F41_ok n) (E68_ok n)
-- 21 loop.example/slowworm/impl.HeapSweep
noncomputable def F21c : Code := bodyOf Go.Proofs.Try.f21
noncomputable def F21 (n : Nat) (a2706 : List Obj) (a2707 : List Val) : Option ((List Obj × Unit) × Unit) :=
  (andThen (F10 n a2706) fun r2708 =>
  (bif (!r2708.1) then
  some (([], ()), ())
  else (bif (decide (((a2707.length) : Int) > (60 : Int))) then
  some (([], ()), ())
  else (andThen (F39 n a2706 a2707) fun r2712 =>
  (bif (!r2712.1) then
  some (([], ()), ())
  else (andThen (F40 n a2706) fun r2714 =>
  (andThen (F41 n a2707 r2714.2.1) fun r2715 =>
  some ((r2715.2.1, ()), ()))))))))
noncomputable def F21e (n : Nat) : Ent G := ⟨21, (.cons (.agg (.cons (.imm 4) .nil)) (.cons (.imm 3) .nil)), [], (.agg (.cons (.imm 4) .nil)), [], fun x y => F21 n x.1.1 x.2.1⟩
theorem F21_eq (n : Nat) (x : ShL.den G (.cons (.agg (.cons (.imm 4) .nil)) (.cons (.imm 3) .nil))) (y : denO G []) : (F21e n).F x y = runFn prog G (ro G (tabOf (E69 n)) (frOf []) _) Go.Proofs.Try.f21 .no [(0, .fz)] (ShL.enc G (.cons (.agg (.cons (.imm 4) .nil)) (.cons (.imm 3) .nil)) x) (encO G [] y) (decR (.agg (.cons (.imm 4) .nil)) []) := by kernel_rfl
theorem F21_ok (n : Nat) : EntOK prog G (F21e n) :=
  ent_ok (fr := frOf []) (ann := .no) (frm := [(0, .fz)]) laws fnok (E69_ok n).tab (e := F21e n) (fn := Go.Proofs.Try.f21) (by kernel_rfl) (AllF.ofB (cd := F21c) (l := []) (by kernel_rfl) (by kernel_rfl) AllF.nil) (F21_eq n)
noncomputable def E70 (n : Nat) : List (Ent G) := F21e n :: E69 n
theorem E70_ok (n : Nat) : AllE prog G (E70 n) := AllE.cons (F21_ok n) (E69_ok n)
noncomputable def F6 (n : Nat) (a0 : List Int) : Option (Bool × Unit) :=
  (bif (decide (((a0.length) : Int) > (1048576 : Int))) then
  some (true, ())
  else (andThen (F20 n a0) fun r1109 =>
  (andThen (F10 n r1109.1.1) fun r1700 =>
  (andThen (F13 n r1109.1.1) fun r2277 =>
  let v2278 := (r1700.1 == r2277.1)
  (bif (!v2278) then
  some (v2278, ())
  else (bif (!r1700.1) then
  some (v2278, ())
  else (andThen (F21 n r1109.1.1 []) fun r2716 =>
  (andThen (F10 n r2716.1.1) fun r2717 =>
  (bif r2717.1 then
  (andThen (F21 n r1109.1.1 []) fun r2718 =>
  some ((((r2718.1.1.length) : Int) == ((r1109.1.1.length) : Int)), ()))
  else some (false, ()))))))))))
noncomputable def F6e (n : Nat) : Ent G := ⟨6, (.cons (.imm 1) .nil), [], .bool, [], fun x y => F6 n x.1⟩
theorem F6_eq (n : Nat) (x : ShL.den G (.cons (.imm 1) .nil)) (y : denO G []) : (F6e n).F x y = runFn prog G (ro G (tabOf (E70 n)) (frOf []) _) Go.Proofs.Try.f6 .no [(0, .fz)] (ShL.enc G (.cons (.imm 1) .nil) x) (encO G [] y) (decR .bool []) := by kernel_rfl
theorem F6_ok (n : Nat) : EntOK prog G (F6e n) :=
  ent_ok (fr := frOf []) (ann := .no) (frm := [(0, .fz)]) laws fnok (E70_ok n).tab (e := F6e n) (fn := Go.Proofs.Try.f6) (by kernel_rfl) (AllF.ofB (cd := F6c) (l := []) (by kernel_rfl) (by kernel_rfl) AllF.nil) (F6_eq n)
noncomputable def E71 (n : Nat) : List (Ent G) := F6e n :: E70 n
theorem E71_ok (n : Nat) : AllE prog G (E71 n) := AllE.cons (F6_ok n) (E70_ok n)
end Go.Proofs.Ytfknenaecihchaa.Am
