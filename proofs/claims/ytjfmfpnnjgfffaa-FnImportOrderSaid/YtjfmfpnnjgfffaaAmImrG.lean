/- The functions of the seat of imports, printed. -/
import Derived.Test.YtjfmfpnnjgfffaaAmImrF
namespace Go.Proofs.Ytjfmfpnnjgfffaa.Am
open Go Go.Proofs.Try
set_option autoImplicit false
set_option linter.unusedVariables false
set_option maxRecDepth 100000
noncomputable def F19c : Code := bodyOf Go.Proofs.Try.f19
noncomputable def F19 (n : Nat) (a1476 : List (List Stp)) (a1477 : List Int) : Option ((List Int × (List Int × (List Int × (List ByteArray × (List Int × Unit))))) × Unit) :=
  (andThen (F24 n a1476) fun r1478 =>
  (bif (!r1478.1) then
  some (([], ([], ([], ([], ([], ()))))), ())
  else (andThen (F43 n a1477 ((a1476.length) : Int)) fun r1481 =>
  (bif (!r1481.1) then
  some (([], ([], ([], ([], ([], ()))))), ())
  else (andThen (F44 n a1476 a1477) fun r1483 =>
  some ((r1483.1.1, (r1483.1.2.1, (r1483.1.2.2.1, (r1483.1.2.2.2.1, (r1483.1.2.2.2.2.1, ()))))), ()))))))
noncomputable def F19e (n : Nat) : Ent G := ⟨19, (.cons (.imm 5) (.cons (.imm 0) .nil)), [], (.agg (.cons (.imm 0) (.cons (.imm 0) (.cons (.imm 0) (.cons (.imm 6) (.cons (.imm 0) .nil)))))), [], fun x y => F19 n x.1 x.2.1⟩
theorem F19_eq (n : Nat) (x : ShL.den G (.cons (.imm 5) (.cons (.imm 0) .nil))) (y : denO G []) : (F19e n).F x y = runFn prog G (ro G (tabOf (E29 n)) (frOf []) _) Go.Proofs.Try.f19 .no [(0, .fz)] (ShL.enc G (.cons (.imm 5) (.cons (.imm 0) .nil)) x) (encO G [] y) (decR (.agg (.cons (.imm 0) (.cons (.imm 0) (.cons (.imm 0) (.cons (.imm 6) (.cons (.imm 0) .nil)))))) []) := by kernel_rfl
theorem F19_ok (n : Nat) : EntOK prog G (F19e n) :=
  ent_ok (fr := frOf []) (ann := .no) (frm := [(0, .fz)]) laws fnok (E29_ok n).tab (e := F19e n) (fn := Go.Proofs.Try.f19) (by kernel_rfl) (AllF.ofB (cd := F19c) (l := []) (by kernel_rfl) (by kernel_rfl) AllF.nil) (F19_eq n)
noncomputable def E30 (n : Nat) : List (Ent G) := F19e n :: E29 n
theorem E30_ok (n : Nat) : AllE prog G (E30 n) := AllE.cons (F19_ok n) (E29_ok n)
-- 4 loop.example/slowworm/laws.FnImportTwice
noncomputable def F4c : Code := bodyOf Go.Proofs.Try.f4
-- 16 loop.example/slowworm/spec.DrawImportRun
noncomputable def F16c : Code := bodyOf Go.Proofs.Try.f16
-- 36 loop.example/slowworm/spec.newRnd
noncomputable def F36c : Code := bodyOf Go.Proofs.Try.f36
noncomputable def F36 (n : Nat) (a1488 : List Int) : Option (Unit × ((List Int × (Int × Unit)) × Unit)) :=
  let v1489 := ((a1488.length) : Int)
  let v1490 := (if ((4000 : Int) < v1489) then (4000 : Int) else v1489)
  (bif (decide ((0 : Int) ≤ v1490)) then
  (bif (decide (v1490 ≤ ((a1488.length) : Int))) then
  some ((), ((((a1488.take (v1490.toNat)).drop (0 : Nat)), ((0 : Int), ())), ()))
  else none)
  else none)
noncomputable def F36e (n : Nat) : Ent G := ⟨36, (.cons (.imm 4) .nil), [], (.ptr 0 0), [(.box 80 (.cons (.imm 4) (.cons (.int .i64) .nil)))], fun x y => F36 n x.1⟩
theorem F36_eq (n : Nat) (x : ShL.den G (.cons (.imm 4) .nil)) (y : denO G []) : (F36e n).F x y = runFn prog G (ro G (tabOf (E30 n)) (frOf []) _) Go.Proofs.Try.f36 .no [(0, .fz)] (ShL.enc G (.cons (.imm 4) .nil) x) (encO G [] y) (decR (.ptr 0 0) [(.box 80 (.cons (.imm 4) (.cons (.int .i64) .nil)))]) := by kernel_rfl
theorem F36_ok (n : Nat) : EntOK prog G (F36e n) :=
  ent_ok (fr := frOf []) (ann := .no) (frm := [(0, .fz)]) laws fnok (E30_ok n).tab (e := F36e n) (fn := Go.Proofs.Try.f36) (by kernel_rfl) (AllF.ofB (cd := F36c) (l := []) (by kernel_rfl) (by kernel_rfl) AllF.nil) (F36_eq n)
noncomputable def E31 (n : Nat) : List (Ent G) := F36e n :: E30 n
theorem E31_ok (n : Nat) : AllE prog G (E31 n) := AllE.cons (F36_ok n) (E30_ok n)
-- 37 (*loop.example/slowworm/spec.rnd).mods
noncomputable def F37c : Code := bodyOf Go.Proofs.Try.f37
-- 54 (*loop.example/slowworm/spec.rnd).pick
noncomputable def F54c : Code := bodyOf Go.Proofs.Try.f54
noncomputable def F54_0x0 : SSh := ⟨101, [(0, (.ptr 0 0)), (1, (.int .i64)), (5, (.int .i64))], [(.box 80 (.cons (.imm 4) (.cons (.int .i64) .nil)))]⟩
noncomputable def F54_0s : SSh := ⟨101, [(0, (.ptr 0 0)), (1, (.int .i64)), (5, (.int .i64))], [(.box 80 (.cons (.imm 4) (.cons (.int .i64) .nil)))]⟩
noncomputable def F54_0 {R : Type} (n : Nat) (x1500 : Int) (x1501 : Int) (x1502 : List Int) (x1503 : Int) (k0 : Int → Int → List Int → Int → Option R) : Option R :=
  (bif (decide (((x1502.length) : Int) > (0 : Int))) then
  let v1506 := ((x1502.length) : Int)
  (bif (!(decide (v1506 = (0 : Int)))) then
  let v1507 := (x1503.tmod v1506)
  (bif (decide ((0 : Int) ≤ v1507)) then
  (bif (decide (v1507 < ((x1502.length) : Int))) then
  let v1510 := (IntKind.wrap .i64 (x1502.getD (v1507.toNat) (0 : Int)))
  (bif (decide (x1500 > (256 : Int))) then
  let v1515 := ((x1502.length) : Int)
  (bif (!(decide (v1515 = (0 : Int)))) then
  let v1516 := ((IntKind.wrap .i64 ((IntKind.wrap .i64 (x1503 * (7 : Int))) + (3 : Int))).tmod v1515)
  (bif (decide ((0 : Int) ≤ v1516)) then
  (bif (decide (v1516 < ((x1502.length) : Int))) then
  let v1524 := ((x1502.length) : Int)
  (bif (!(decide (v1524 = (0 : Int)))) then
  let v1527 := (IntKind.wrap .i64 ((IntKind.wrap .i64 ((IntKind.wrap .i64 ((IntKind.wrap .i64 (v1510 * (131 : Int))) + (IntKind.wrap .i64 ((IntKind.wrap .i64 (x1502.getD (v1516.toNat) (0 : Int))) * (1117 : Int))))) + (IntKind.wrap .i64 (x1503 * (29 : Int))))) + (IntKind.wrap .i64 ((IntKind.wrap .i64 (x1503.tdiv v1524)) * (53 : Int)))))
  (k0 x1500 (IntKind.wrap .i64 ((((BitVec.ofInt (64 : Nat) v1527) ^^^ (BitVec.ofInt (64 : Nat) (IntKind.wrap .i64 (v1527.tdiv (64 : Int))))).toNat) : Int)) x1502 x1503)
  else none)
  else none)
  else none)
  else none)
  else (bif (decide (x1503 ≥ ((x1502.length) : Int))) then
  let v1535 := ((x1502.length) : Int)
  (bif (!(decide (v1535 = (0 : Int)))) then
  let v1536 := ((IntKind.wrap .i64 ((IntKind.wrap .i64 (x1503 * (7 : Int))) + (3 : Int))).tmod v1535)
  (bif (decide ((0 : Int) ≤ v1536)) then
  (bif (decide (v1536 < ((x1502.length) : Int))) then
  let v1544 := ((x1502.length) : Int)
  (bif (!(decide (v1544 = (0 : Int)))) then
  let v1547 := (IntKind.wrap .i64 ((IntKind.wrap .i64 ((IntKind.wrap .i64 ((IntKind.wrap .i64 (v1510 * (131 : Int))) + (IntKind.wrap .i64 ((IntKind.wrap .i64 (x1502.getD (v1536.toNat) (0 : Int))) * (1117 : Int))))) + (IntKind.wrap .i64 (x1503 * (29 : Int))))) + (IntKind.wrap .i64 ((IntKind.wrap .i64 (x1503.tdiv v1544)) * (53 : Int)))))
  (k0 x1500 (IntKind.wrap .i64 ((((BitVec.ofInt (64 : Nat) v1547) ^^^ (BitVec.ofInt (64 : Nat) (IntKind.wrap .i64 (v1547.tdiv (64 : Int))))).toNat) : Int)) x1502 x1503)
  else none)
  else none)
  else none)
  else none)
  else (k0 x1500 v1510 x1502 x1503)))
  else none)
  else none)
  else none)
  else (k0 x1500 x1501 x1502 x1503))
noncomputable def F54_0z (n : Nat) : Sm G := inZ G 1 ⟨[0, 1, 5], []⟩ F54_0s fun R x K => F54_0 n x.1.2.1 x.1.2.2.1 x.2.1.1 x.2.1.2.1 (fun u0 u1 u2 u3 => K .normal (SSh.enc G F54_0x0 (((), (u0, (u1, ()))), ((u2, (u3, ())), ()))))
theorem F54_0_eq (n : Nat) (R : Type) (x : SSh.den G F54_0s) (K : AE → St G → Option R) :
  F54_0 n x.1.2.1 x.1.2.2.1 x.2.1.1 x.2.1.2.1 (fun u0 u1 u2 u3 => K .normal (SSh.enc G F54_0x0 (((), (u0, (u1, ()))), ((u2, (u3, ())), ())))) = exec prog G (ro G (tabOf (E31 n)) (frOf []) R) 1 (codeAt F54c [1, 1, 1, 0]) .no (SSh.enc G F54_0s x) (kNrm G (ro G (tabOf (E31 n)) (frOf []) R) 1 ⟨⟨[0, 1, 5], []⟩, ⟨[4], []⟩, []⟩ K) := by kernel_rfl
theorem F54_0_ok (n : Nat) : FragOK prog G 1 (codeAt F54c [1, 1, 1, 0]) (F54_0z n) :=
  frag_plain laws fnok (E31_ok n).tab (AllF.of (l := []) (by kernel_rfl) AllF.nil) (F54_0_eq n)
noncomputable def F54 (n : Nat) (a1496 : Int) (a1497 : List Int) (a1498 : Int) : Option (Int × ((List Int × (Int × Unit)) × Unit)) :=
  (bif (decide (a1496 < (2 : Int))) then
  some ((0 : Int), ((a1497, (a1498, ())), ()))
  else (F54_0 n a1496 (0 : Int) a1497 a1498 (fun z1550 z1551 z1552 z1553 =>
  (bif (!(decide (z1550 = (0 : Int)))) then
  some ((z1551.tmod z1550), ((z1552, ((IntKind.wrap .i64 (z1553 + (1 : Int))), ())), ()))
  else none))))
noncomputable def F54e (n : Nat) : Ent G := ⟨54, (.cons (.ptr 0 0) (.cons (.int .i64) .nil)), [(.box 80 (.cons (.imm 4) (.cons (.int .i64) .nil)))], (.int .i64), [(.box 80 (.cons (.imm 4) (.cons (.int .i64) .nil)))], fun x y => F54 n x.2.1 y.1.1 y.1.2.1⟩
theorem F54_eq (n : Nat) (x : ShL.den G (.cons (.ptr 0 0) (.cons (.int .i64) .nil))) (y : denO G [(.box 80 (.cons (.imm 4) (.cons (.int .i64) .nil)))]) : (F54e n).F x y = runFn prog G (ro G (tabOf (E31 n)) (frOf [F54_0z n]) _) Go.Proofs.Try.f54 (.nd .no (.nd .no (.nd .no (.nd (.use 0) .no)))) [(0, .fz)] (ShL.enc G (.cons (.ptr 0 0) (.cons (.int .i64) .nil)) x) (encO G [(.box 80 (.cons (.imm 4) (.cons (.int .i64) .nil)))] y) (decR (.int .i64) [(.box 80 (.cons (.imm 4) (.cons (.int .i64) .nil)))]) := by kernel_rfl
theorem F54_ok (n : Nat) : EntOK prog G (F54e n) :=
  ent_ok (fr := frOf [F54_0z n]) (ann := (.nd .no (.nd .no (.nd .no (.nd (.use 0) .no))))) (frm := [(0, .fz)]) laws fnok (E31_ok n).tab (e := F54e n) (fn := Go.Proofs.Try.f54) (by kernel_rfl) (AllF.ofB (cd := F54c) (l := [(0, codeAt F54c [1, 1, 1, 0])]) (by kernel_rfl) (by kernel_rfl) (AllF.cons (F54_0_ok n) AllF.nil)) (F54_eq n)
noncomputable def E32 (n : Nat) : List (Ent G) := F54e n :: E31 n
theorem E32_ok (n : Nat) : AllE prog G (E32 n) := AllE.cons (F54_ok n) (E31_ok n)
-- 55 (*loop.example/slowworm/spec.rnd).one
noncomputable def F55c : Code := bodyOf Go.Proofs.Try.f55
noncomputable def F55 (n : Nat) (a1582 : List Int) (a1583 : List Int) (a1584 : Int) : Option (Int × ((List Int × (Int × Unit)) × Unit)) :=
  (andThen (F54 n ((a1582.length) : Int) a1583 a1584) fun r1586 =>
  (bif (decide ((0 : Int) ≤ r1586.1)) then
  (bif (decide (r1586.1 < ((a1582.length) : Int))) then
  some ((a1582.getD (r1586.1.toNat) (0 : Int)), ((r1586.2.1.1, (r1586.2.1.2.1, ())), ()))
  else none)
  else none))
noncomputable def F55e (n : Nat) : Ent G := ⟨55, (.cons (.ptr 0 0) (.cons (.imm 0) .nil)), [(.box 80 (.cons (.imm 4) (.cons (.int .i64) .nil)))], (.int .i64), [(.box 80 (.cons (.imm 4) (.cons (.int .i64) .nil)))], fun x y => F55 n x.2.1 y.1.1 y.1.2.1⟩
theorem F55_eq (n : Nat) (x : ShL.den G (.cons (.ptr 0 0) (.cons (.imm 0) .nil))) (y : denO G [(.box 80 (.cons (.imm 4) (.cons (.int .i64) .nil)))]) : (F55e n).F x y = runFn prog G (ro G (tabOf (E32 n)) (frOf []) _) Go.Proofs.Try.f55 .no [(0, .fz)] (ShL.enc G (.cons (.ptr 0 0) (.cons (.imm 0) .nil)) x) (encO G [(.box 80 (.cons (.imm 4) (.cons (.int .i64) .nil)))] y) (decR (.int .i64) [(.box 80 (.cons (.imm 4) (.cons (.int .i64) .nil)))]) := by kernel_rfl
theorem F55_ok (n : Nat) : EntOK prog G (F55e n) :=
  ent_ok (fr := frOf []) (ann := .no) (frm := [(0, .fz)]) laws fnok (E32_ok n).tab (e := F55e n) (fn := Go.Proofs.Try.f55) (by kernel_rfl) (AllF.ofB (cd := F55c) (l := []) (by kernel_rfl) (by kernel_rfl) AllF.nil) (F55_eq n)
noncomputable def E33 (n : Nat) : List (Ent G) := F55e n :: E32 n
theorem E33_ok (n : Nat) : AllE prog G (E33 n) := AllE.cons (F55_ok n) (E32_ok n)
-- 56 (*loop.example/slowworm/spec.rnd).often
noncomputable def F56c : Code := bodyOf Go.Proofs.Try.f56
-- 70 (*loop.example/slowworm/spec.rnd).odd
noncomputable def F70c : Code := bodyOf Go.Proofs.Try.f70
noncomputable def F70 (n : Nat) (a1596 : List Int) (a1597 : Int) : Option (Int × ((List Int × (Int × Unit)) × Unit)) :=
  (andThen (F55 n ((-1 : Int) :: ((4611686018427387904 : Int) :: ((-4611686018427387904 : Int) :: ((1001 : Int) :: ((7 : Int) :: ((1000001 : Int) :: ((-9223372036854775808 : Int) :: ((9223372036854775807 : Int) :: [])))))))) a1596 a1597) fun r1599 =>
  some (r1599.1, ((r1599.2.1.1, (r1599.2.1.2.1, ())), ())))
noncomputable def F70e (n : Nat) : Ent G := ⟨70, (.cons (.ptr 0 0) .nil), [(.box 80 (.cons (.imm 4) (.cons (.int .i64) .nil)))], (.int .i64), [(.box 80 (.cons (.imm 4) (.cons (.int .i64) .nil)))], fun x y => F70 n y.1.1 y.1.2.1⟩
theorem F70_eq (n : Nat) (x : ShL.den G (.cons (.ptr 0 0) .nil)) (y : denO G [(.box 80 (.cons (.imm 4) (.cons (.int .i64) .nil)))]) : (F70e n).F x y = runFn prog G (ro G (tabOf (E33 n)) (frOf []) _) Go.Proofs.Try.f70 .no [(0, .fz)] (ShL.enc G (.cons (.ptr 0 0) .nil) x) (encO G [(.box 80 (.cons (.imm 4) (.cons (.int .i64) .nil)))] y) (decR (.int .i64) [(.box 80 (.cons (.imm 4) (.cons (.int .i64) .nil)))]) := by kernel_rfl
theorem F70_ok (n : Nat) : EntOK prog G (F70e n) :=
  ent_ok (fr := frOf []) (ann := .no) (frm := [(0, .fz)]) laws fnok (E33_ok n).tab (e := F70e n) (fn := Go.Proofs.Try.f70) (by kernel_rfl) (AllF.ofB (cd := F70c) (l := []) (by kernel_rfl) (by kernel_rfl) AllF.nil) (F70_eq n)
noncomputable def E34 (n : Nat) : List (Ent G) := F70e n :: E33 n
theorem E34_ok (n : Nat) : AllE prog G (E34 n) := AllE.cons (F70_ok n) (E33_ok n)
noncomputable def F56 (n : Nat) (a1591 : Int) (a1592 : List Int) (a1593 : Int) : Option (Int × ((List Int × (Int × Unit)) × Unit)) :=
  (andThen (F54 n (16 : Int) a1592 a1593) fun r1594 =>
  (bif (r1594.1 == (0 : Int)) then
  (andThen (F70 n r1594.2.1.1 r1594.2.1.2.1) fun r1600 =>
  some (r1600.1, ((r1600.2.1.1, (r1600.2.1.2.1, ())), ())))
  else some (a1591, ((r1594.2.1.1, (r1594.2.1.2.1, ())), ()))))
noncomputable def F56e (n : Nat) : Ent G := ⟨56, (.cons (.ptr 0 0) (.cons (.int .i64) .nil)), [(.box 80 (.cons (.imm 4) (.cons (.int .i64) .nil)))], (.int .i64), [(.box 80 (.cons (.imm 4) (.cons (.int .i64) .nil)))], fun x y => F56 n x.2.1 y.1.1 y.1.2.1⟩
theorem F56_eq (n : Nat) (x : ShL.den G (.cons (.ptr 0 0) (.cons (.int .i64) .nil))) (y : denO G [(.box 80 (.cons (.imm 4) (.cons (.int .i64) .nil)))]) : (F56e n).F x y = runFn prog G (ro G (tabOf (E34 n)) (frOf []) _) Go.Proofs.Try.f56 .no [(0, .fz)] (ShL.enc G (.cons (.ptr 0 0) (.cons (.int .i64) .nil)) x) (encO G [(.box 80 (.cons (.imm 4) (.cons (.int .i64) .nil)))] y) (decR (.int .i64) [(.box 80 (.cons (.imm 4) (.cons (.int .i64) .nil)))]) := by kernel_rfl
theorem F56_ok (n : Nat) : EntOK prog G (F56e n) :=
  ent_ok (fr := frOf []) (ann := .no) (frm := [(0, .fz)]) laws fnok (E34_ok n).tab (e := F56e n) (fn := Go.Proofs.Try.f56) (by kernel_rfl) (AllF.ofB (cd := F56c) (l := []) (by kernel_rfl) (by kernel_rfl) AllF.nil) (F56_eq n)
noncomputable def E35 (n : Nat) : List (Ent G) := F56e n :: E34 n
theorem E35_ok (n : Nat) : AllE prog G (E35 n) := AllE.cons (F56_ok n) (E34_ok n)
-- 58 (*loop.example/slowworm/spec.rnd).word
noncomputable def F58c : Code := bodyOf Go.Proofs.Try.f58
-- 57 (*loop.example/slowworm/spec.rnd).of
noncomputable def F57c : Code := bodyOf Go.Proofs.Try.f57
noncomputable def F57 (n : Nat) (a1616 : List ByteArray) (a1617 : List Int) (a1618 : Int) : Option (ByteArray × ((List Int × (Int × Unit)) × Unit)) :=
  (andThen (F54 n ((a1616.length) : Int) a1617 a1618) fun r1620 =>
  (bif (decide ((0 : Int) ≤ r1620.1)) then
  (bif (decide (r1620.1 < ((a1616.length) : Int))) then
  some ((a1616.getD (r1620.1.toNat) ({ data := #[] } : ByteArray)), ((r1620.2.1.1, (r1620.2.1.2.1, ())), ()))
  else none)
  else none))
noncomputable def F57e (n : Nat) : Ent G := ⟨57, (.cons (.ptr 0 0) (.cons (.imm 6) .nil)), [(.box 80 (.cons (.imm 4) (.cons (.int .i64) .nil)))], .str, [(.box 80 (.cons (.imm 4) (.cons (.int .i64) .nil)))], fun x y => F57 n x.2.1 y.1.1 y.1.2.1⟩
theorem F57_eq (n : Nat) (x : ShL.den G (.cons (.ptr 0 0) (.cons (.imm 6) .nil))) (y : denO G [(.box 80 (.cons (.imm 4) (.cons (.int .i64) .nil)))]) : (F57e n).F x y = runFn prog G (ro G (tabOf (E35 n)) (frOf []) _) Go.Proofs.Try.f57 .no [(0, .fz)] (ShL.enc G (.cons (.ptr 0 0) (.cons (.imm 6) .nil)) x) (encO G [(.box 80 (.cons (.imm 4) (.cons (.int .i64) .nil)))] y) (decR .str [(.box 80 (.cons (.imm 4) (.cons (.int .i64) .nil)))]) := by kernel_rfl
theorem F57_ok (n : Nat) : EntOK prog G (F57e n) :=
  ent_ok (fr := frOf []) (ann := .no) (frm := [(0, .fz)]) laws fnok (E35_ok n).tab (e := F57e n) (fn := Go.Proofs.Try.f57) (by kernel_rfl) (AllF.ofB (cd := F57c) (l := []) (by kernel_rfl) (by kernel_rfl) AllF.nil) (F57_eq n)
noncomputable def E36 (n : Nat) : List (Ent G) := F57e n :: E35 n
theorem E36_ok (n : Nat) : AllE prog G (E36 n) := AllE.cons (F57_ok n) (E35_ok n)
noncomputable def F58 (n : Nat) (a1613 : List Int) (a1614 : Int) : Option (ByteArray × ((List Int × (Int × Unit)) × Unit)) :=
  (andThen (F57 n (({ data := #[97] } : ByteArray) :: (({ data := #[98] } : ByteArray) :: (({ data := #[120] } : ByteArray) :: (({ data := #[102] } : ByteArray) :: (({ data := #[120, 115] } : ByteArray) :: (({ data := #[95, 49] } : ByteArray) :: (({ data := #[78, 97, 109, 101, 57] } : ByteArray) :: (({ data := #[105, 102] } : ByteArray) :: (({ data := #[78, 111, 110, 101] } : ByteArray) :: (({ data := #[108, 97, 109, 98, 100, 97] } : ByteArray) :: (({ data := #[49, 97] } : ByteArray) :: (({ data := #[] } : ByteArray) :: (({ data := #[97, 45, 98] } : ByteArray) :: (({ data := #[97, 98, 99, 100, 101, 102, 103, 104, 105, 106, 107, 108] } : ByteArray) :: (({ data := #[97, 98, 99, 100, 101, 102, 103, 104, 105, 106, 107, 108, 109] } : ByteArray) :: (({ data := #[105, 115] } : ByteArray) :: (({ data := #[105, 115, 97] } : ByteArray) :: []))))))))))))))))) a1613 a1614) fun r1623 =>
  some (r1623.1, ((r1623.2.1.1, (r1623.2.1.2.1, ())), ())))
noncomputable def F58e (n : Nat) : Ent G := ⟨58, (.cons (.ptr 0 0) .nil), [(.box 80 (.cons (.imm 4) (.cons (.int .i64) .nil)))], .str, [(.box 80 (.cons (.imm 4) (.cons (.int .i64) .nil)))], fun x y => F58 n y.1.1 y.1.2.1⟩
theorem F58_eq (n : Nat) (x : ShL.den G (.cons (.ptr 0 0) .nil)) (y : denO G [(.box 80 (.cons (.imm 4) (.cons (.int .i64) .nil)))]) : (F58e n).F x y = runFn prog G (ro G (tabOf (E36 n)) (frOf []) _) Go.Proofs.Try.f58 .no [(0, .fz)] (ShL.enc G (.cons (.ptr 0 0) .nil) x) (encO G [(.box 80 (.cons (.imm 4) (.cons (.int .i64) .nil)))] y) (decR .str [(.box 80 (.cons (.imm 4) (.cons (.int .i64) .nil)))]) := by kernel_rfl
theorem F58_ok (n : Nat) : EntOK prog G (F58e n) :=
  ent_ok (fr := frOf []) (ann := .no) (frm := [(0, .fz)]) laws fnok (E36_ok n).tab (e := F58e n) (fn := Go.Proofs.Try.f58) (by kernel_rfl) (AllF.ofB (cd := F58c) (l := []) (by kernel_rfl) (by kernel_rfl) AllF.nil) (F58_eq n)
noncomputable def E37 (n : Nat) : List (Ent G) := F58e n :: E36 n
theorem E37_ok (n : Nat) : AllE prog G (E37 n) := AllE.cons (F58_ok n) (E36_ok n)
noncomputable def F37_0x0 : SSh := ⟨58, [(0, (.ptr 0 0)), (3, (.own 1)), (4, (.int .i64)), (5, (.int .i64)), (6, (.own 2)), (7, (.int .i64)), (8, (.ptr 3 0))], [(.box 80 (.cons (.imm 4) (.cons (.int .i64) .nil))), (.arr 5 true), (.arr 3 true), (.box 48 (.cons (.int .i64) (.cons (.int .i64) (.cons .str .nil))))]⟩
noncomputable def F37_0s : SSh := ⟨58, [(0, (.ptr 0 0)), (3, (.own 1)), (4, (.int .i64)), (5, (.int .i64)), (6, (.own 2)), (7, (.int .i64)), (8, (.ptr 3 0))], [(.box 80 (.cons (.imm 4) (.cons (.int .i64) .nil))), (.arr 5 true), (.arr 3 true), (.box 48 (.cons (.int .i64) (.cons (.int .i64) (.cons .str .nil))))]⟩
noncomputable def F37_0 {R : Type} (n : Nat) (x1602 : Int) (x1603 : Int) (x1604 : Int) (x1605 : List Int) (x1606 : Int) (x1607 : List (List Stp)) (x1608 : List Stp) (x1609 : Int) (x1610 : Int) (x1611 : ByteArray) (k0 : Int → Int → Int → List Int → Int → List (List Stp) → List Stp → Int → Int → ByteArray → Option R) : Option R :=
  (bif (x1609 == (3 : Int)) then
  (andThen (F58 n x1605 x1606) fun r1624 =>
  (andThen (F57 n (({ data := #[97] } : ByteArray) :: (({ data := #[97] } : ByteArray) :: (({ data := #[98] } : ByteArray) :: (r1624.1 :: [])))) r1624.2.1.1 r1624.2.1.2.1) fun r1626 =>
  (k0 x1602 x1603 x1604 r1626.2.1.1 r1626.2.1.2.1 x1607 x1608 x1609 x1610 r1626.1)))
  else (bif (x1609 == (4 : Int)) then
  (andThen (F58 n x1605 x1606) fun r1628 =>
  (andThen (F57 n (({ data := #[97] } : ByteArray) :: (({ data := #[97] } : ByteArray) :: (({ data := #[98] } : ByteArray) :: (r1628.1 :: [])))) r1628.2.1.1 r1628.2.1.2.1) fun r1630 =>
  (k0 x1602 x1603 x1604 r1630.2.1.1 r1630.2.1.2.1 x1607 x1608 x1609 x1610 r1630.1)))
  else (k0 x1602 x1603 x1604 x1605 x1606 x1607 x1608 x1609 x1610 x1611)))
noncomputable def F37_0z (n : Nat) : Sm G := inZ G 1 ⟨[0, 3, 4, 5, 6, 7, 8], []⟩ F37_0s fun R x K => F37_0 n x.1.2.2.1 x.1.2.2.2.1 x.1.2.2.2.2.2.1 x.2.1.1 x.2.1.2.1 x.2.2.1 x.2.2.2.1 x.2.2.2.2.1.1 x.2.2.2.2.1.2.1 x.2.2.2.2.1.2.2.1 (fun u0 u1 u2 u3 u4 u5 u6 u7 u8 u9 => K .normal (SSh.enc G F37_0x0 (((), ((), (u0, (u1, ((), (u2, ((), ()))))))), ((u3, (u4, ())), (u5, (u6, ((u7, (u8, (u9, ()))), ())))))))
theorem F37_0_eq (n : Nat) (R : Type) (x : SSh.den G F37_0s) (K : AE → St G → Option R) :
  F37_0 n x.1.2.2.1 x.1.2.2.2.1 x.1.2.2.2.2.2.1 x.2.1.1 x.2.1.2.1 x.2.2.1 x.2.2.2.1 x.2.2.2.2.1.1 x.2.2.2.2.1.2.1 x.2.2.2.2.1.2.2.1 (fun u0 u1 u2 u3 u4 u5 u6 u7 u8 u9 => K .normal (SSh.enc G F37_0x0 (((), ((), (u0, (u1, ((), (u2, ((), ()))))))), ((u3, (u4, ())), (u5, (u6, ((u7, (u8, (u9, ()))), ()))))))) = exec prog G (ro G (tabOf (E37 n)) (frOf []) R) 1 (codeAt F37c [1, 1, 1, 0, 1, 0, 0, 1, 0, 0, 1, 0, 1, 0, 0, 1, 0, 0, 1, 0]) .no (SSh.enc G F37_0s x) (kNrm G (ro G (tabOf (E37 n)) (frOf []) R) 1 ⟨⟨[0, 3, 4, 5, 6, 7, 8], []⟩, ⟨[2], []⟩, [(3, ⟨[0, 3, 4, 5, 6, 7], []⟩), (2, ⟨[0, 3, 4, 5, 6], []⟩), (1, ⟨[0, 3, 4, 5], []⟩), (0, ⟨[3], []⟩)]⟩ K) := by kernel_rfl
theorem F37_0_ok (n : Nat) : FragOK prog G 1 (codeAt F37c [1, 1, 1, 0, 1, 0, 0, 1, 0, 0, 1, 0, 1, 0, 0, 1, 0, 0, 1, 0]) (F37_0z n) :=
  frag_plain laws fnok (E37_ok n).tab (AllF.of (l := []) (by kernel_rfl) AllF.nil) (F37_0_eq n)
noncomputable def F37_1x0 : SSh := ⟨58, [(0, (.ptr 0 0)), (3, (.own 1)), (4, (.int .i64)), (5, (.int .i64)), (6, (.own 2)), (7, (.int .i64))], [(.box 80 (.cons (.imm 4) (.cons (.int .i64) .nil))), (.arr 5 true), (.arr 3 true)]⟩
noncomputable def F37_1s : SSh := ⟨58, [(0, (.ptr 0 0)), (3, (.own 1)), (4, (.int .i64)), (5, (.int .i64)), (6, (.own 2)), (7, (.int .i64))], [(.box 80 (.cons (.imm 4) (.cons (.int .i64) .nil))), (.arr 5 true), (.arr 3 true)]⟩
noncomputable def F37_1 {R : Type} (n : Nat) (x1574 : Int) (x1575 : Int) (x1576 : Int) (x1577 : List Int) (x1578 : Int) (x1579 : List (List Stp)) (x1580 : List Stp) (k0 : Int → Int → Int → List Int → Int → List (List Stp) → List Stp → Option R) : Option R :=
  (andThen (F55 n ((1 : Int) :: ((1 : Int) :: ((2 : Int) :: ((3 : Int) :: ((3 : Int) :: ((4 : Int) :: ((4 : Int) :: ((5 : Int) :: [])))))))) x1577 x1578) fun r1589 =>
  (andThen (F54 n x1574 r1589.2.1.1 r1589.2.1.2.1) fun r1590 =>
  (andThen (F56 n r1590.1 r1590.2.1.1 r1590.2.1.2.1) fun r1601 =>
  (F37_0 n x1574 x1575 x1576 r1601.2.1.1 r1601.2.1.2.1 x1579 x1580 r1589.1 r1601.1 ({ data := #[] } : ByteArray) (fun z1631 z1632 z1633 z1634 z1635 z1636 z1637 z1638 z1639 z1640 =>
  let v1641 := ((Stp.mk z1638 z1639 z1640) :: [])
  (bif (decide (((z1637.length) + (v1641.length)) ≤ (68719476736 : Nat))) then
  (k0 z1631 z1632 z1633 z1634 z1635 z1636 (z1637 ++ v1641))
  else none))))))
noncomputable def F37_1z (n : Nat) : Sm G := inZ G 1 ⟨[0, 3, 4, 5, 6, 7], []⟩ F37_1s fun R x K => F37_1 n x.1.2.2.1 x.1.2.2.2.1 x.1.2.2.2.2.2.1 x.2.1.1 x.2.1.2.1 x.2.2.1 x.2.2.2.1 (fun u0 u1 u2 u3 u4 u5 u6 => K .normal (SSh.enc G F37_1x0 (((), ((), (u0, (u1, ((), (u2, ())))))), ((u3, (u4, ())), (u5, (u6, ()))))))
theorem F37_1_eq (n : Nat) (R : Type) (x : SSh.den G F37_1s) (K : AE → St G → Option R) :
  F37_1 n x.1.2.2.1 x.1.2.2.2.1 x.1.2.2.2.2.2.1 x.2.1.1 x.2.1.2.1 x.2.2.1 x.2.2.2.1 (fun u0 u1 u2 u3 u4 u5 u6 => K .normal (SSh.enc G F37_1x0 (((), ((), (u0, (u1, ((), (u2, ())))))), ((u3, (u4, ())), (u5, (u6, ())))))) = exec prog G (ro G (tabOf (E37 n)) (frOf [F37_0z n]) R) 1 (codeAt F37c [1, 1, 1, 0, 1, 0, 0, 1, 0, 0, 1, 0, 1, 0, 0, 1, 0]) (.nd (.nd .no (.nd (.use 0) .no)) .no) (SSh.enc G F37_1s x) (kNrm G (ro G (tabOf (E37 n)) (frOf [F37_0z n]) R) 1 ⟨⟨[0, 3, 4, 5, 6, 7], []⟩, ⟨[2], []⟩, [(2, ⟨[0, 3, 4, 5, 6], []⟩), (1, ⟨[0, 3, 4, 5], []⟩), (0, ⟨[3], []⟩)]⟩ K) := by kernel_rfl
theorem F37_1_ok (n : Nat) : FragOK prog G 1 (codeAt F37c [1, 1, 1, 0, 1, 0, 0, 1, 0, 0, 1, 0, 1, 0, 0, 1, 0]) (F37_1z n) :=
  frag_plain laws fnok (E37_ok n).tab (AllF.of (l := [(0, codeAt F37c [1, 1, 1, 0, 1, 0, 0, 1, 0, 0, 1, 0, 1, 0, 0, 1, 0, 0, 1, 0])]) (by kernel_rfl) (AllF.cons (F37_0_ok n) AllF.nil)) (F37_1_eq n)
noncomputable def F37_2x0 : SSh := ⟨58, [(0, (.ptr 0 0)), (3, (.own 1)), (4, (.int .i64)), (5, (.int .i64)), (6, (.own 2))], [(.box 80 (.cons (.imm 4) (.cons (.int .i64) .nil))), (.arr 5 true), (.arr 3 true)]⟩
noncomputable def F37_2s : SSh := ⟨58, [(0, (.ptr 0 0)), (3, (.own 1)), (4, (.int .i64)), (5, (.int .i64)), (6, (.own 2)), (7, (.int .i64))], [(.box 80 (.cons (.imm 4) (.cons (.int .i64) .nil))), (.arr 5 true), (.arr 3 true)]⟩
noncomputable def F37_2_step {R : Type} (n : Nat) (k0 : Int → Int → List Int → Int → List (List Stp) → List Stp → Option R) (rec : Int → Int → Int → List Int → Int → List (List Stp) → List Stp → Option R) (x1566 : Int) (x1567 : Int) (x1568 : Int) (x1569 : List Int) (x1570 : Int) (x1571 : List (List Stp)) (x1572 : List Stp) : Option R :=
  (bif (decide (x1568 > (0 : Int))) then
  (F37_1 n x1566 x1567 x1568 x1569 x1570 x1571 x1572 (fun z1643 z1644 z1645 z1646 z1647 z1648 z1649 =>
  (rec z1643 z1644 (IntKind.wrap .i64 (z1645 - (1 : Int))) z1646 z1647 z1648 z1649)))
  else (k0 x1566 x1567 x1569 x1570 x1571 x1572))
noncomputable def F37_2_it {R : Type} (n : Nat) (k0 : Int → Int → List Int → Int → List (List Stp) → List Stp → Option R) : Nat → Int → Int → Int → List Int → Int → List (List Stp) → List Stp → Option R
  | 0, _, _, _, _, _, _, _ => none
  | k + 1, x1566, x1567, x1568, x1569, x1570, x1571, x1572 => F37_2_step n k0 (F37_2_it n k0 k) x1566 x1567 x1568 x1569 x1570 x1571 x1572
noncomputable def F37_2 {R : Type} (n : Nat) (x1566 : Int) (x1567 : Int) (x1568 : Int) (x1569 : List Int) (x1570 : Int) (x1571 : List (List Stp)) (x1572 : List Stp) (k0 : Int → Int → List Int → Int → List (List Stp) → List Stp → Option R) : Option R := F37_2_it n k0 n x1566 x1567 x1568 x1569 x1570 x1571 x1572
noncomputable def F37_2z (n : Nat) : Sm G := inZ G 1 ⟨[0, 3, 4, 5, 6, 7], []⟩ F37_2s fun R x K => F37_2_it n (fun u0 u1 u2 u3 u4 u5 => K (.exit 2) (SSh.enc G F37_2x0 (((), ((), (u0, (u1, ((), ()))))), ((u2, (u3, ())), (u4, (u5, ())))))) n x.1.2.2.1 x.1.2.2.2.1 x.1.2.2.2.2.2.1 x.2.1.1 x.2.1.2.1 x.2.2.1 x.2.2.2.1
theorem F37_2_eq (n : Nat) (R : Type) (rec : SSh.den G F37_2s → Option R) (x : SSh.den G F37_2s) (K : AE → St G → Option R) :
  F37_2_step n (fun u0 u1 u2 u3 u4 u5 => K (.exit 2) (SSh.enc G F37_2x0 (((), ((), (u0, (u1, ((), ()))))), ((u2, (u3, ())), (u4, (u5, ())))))) (fun x1566 x1567 x1568 x1569 x1570 x1571 x1572 => rec (((), ((), (x1566, (x1567, ((), (x1568, ())))))), ((x1569, (x1570, ())), (x1571, (x1572, ()))))) x.1.2.2.1 x.1.2.2.2.1 x.1.2.2.2.2.2.1 x.2.1.1 x.2.1.2.1 x.2.2.1 x.2.2.2.1 = exec prog G (ro G (tabOf (E37 n)) (frOf [F37_0z n, F37_1z n]) R) 1 (codeAt F37c [1, 1, 1, 0, 1, 0, 0, 1, 0, 0, 1, 0, 1, 0, 0]) (.nd .no (.nd (.use 1) .no)) (SSh.enc G F37_2s x) (kLoop G (ro G (tabOf (E37 n)) (frOf [F37_0z n, F37_1z n]) R) 1 ⟨[0, 3, 4, 5, 6, 7], []⟩ F37_2s ⟨⟨[0, 3, 4, 5, 6], []⟩, ⟨[2], []⟩, [(2, ⟨[0, 3, 4, 5, 6], []⟩), (1, ⟨[0, 3, 4, 5], []⟩), (0, ⟨[3], []⟩)]⟩ rec K) := by kernel_rfl
theorem F37_2_ok (n : Nat) : FragOK prog G 1 (codeAt F37c [1, 1, 1, 0, 1, 0, 0, 1, 0, 0, 1, 0, 1, 0]) (F37_2z n) :=
  frag_loop (Z := fun R k (x : SSh.den G F37_2s) K => F37_2_it n (fun u0 u1 u2 u3 u4 u5 => K (.exit 2) (SSh.enc G F37_2x0 (((), ((), (u0, (u1, ((), ()))))), ((u2, (u3, ())), (u4, (u5, ())))))) k x.1.2.2.1 x.1.2.2.2.1 x.1.2.2.2.2.2.1 x.2.1.1 x.2.1.2.1 x.2.2.1 x.2.2.2.1) laws fnok (E37_ok n).tab (AllF.of (l := [(1, codeAt F37c [1, 1, 1, 0, 1, 0, 0, 1, 0, 0, 1, 0, 1, 0, 0, 1, 0])]) (by kernel_rfl) (AllF.cons (F37_1_ok n) AllF.nil)) (fun _ _ _ => rfl) (fun R k y K => F37_2_eq n R (fun (x : SSh.den G F37_2s) => F37_2_it n (fun u0 u1 u2 u3 u4 u5 => K (.exit 2) (SSh.enc G F37_2x0 (((), ((), (u0, (u1, ((), ()))))), ((u2, (u3, ())), (u4, (u5, ())))))) k x.1.2.2.1 x.1.2.2.2.1 x.1.2.2.2.2.2.1 x.2.1.1 x.2.1.2.1 x.2.2.1 x.2.2.2.1) y K) n
noncomputable def F37_3x0 : SSh := ⟨58, [(3, (.own 1))], [(.box 80 (.cons (.imm 4) (.cons (.int .i64) .nil))), (.arr 5 true)]⟩
noncomputable def F37_3s : SSh := ⟨58, [(0, (.ptr 0 0)), (3, (.own 1)), (4, (.int .i64)), (5, (.int .i64))], [(.box 80 (.cons (.imm 4) (.cons (.int .i64) .nil))), (.arr 5 true)]⟩
noncomputable def F37_3_step {R : Type} (n : Nat) (k0 : List Int → Int → List (List Stp) → Option R) (rec : Int → Int → List Int → Int → List (List Stp) → Option R) (x1558 : Int) (x1559 : Int) (x1560 : List Int) (x1561 : Int) (x1562 : List (List Stp)) : Option R :=
  (bif (decide (x1559 < x1558)) then
  (andThen (F54 n (6 : Int) x1560 x1561) fun r1565 =>
  (F37_2 n x1558 x1559 r1565.1 r1565.2.1.1 r1565.2.1.2.1 x1562 [] (fun z1651 z1652 z1653 z1654 z1655 z1656 =>
  let v1657 := (z1656 :: [])
  (bif (decide (((z1655.length) + (v1657.length)) ≤ (68719476736 : Nat))) then
  (rec z1651 (IntKind.wrap .i64 (z1652 + (1 : Int))) z1653 z1654 (z1655 ++ v1657))
  else none))))
  else (k0 x1560 x1561 x1562))
noncomputable def F37_3_it {R : Type} (n : Nat) (k0 : List Int → Int → List (List Stp) → Option R) : Nat → Int → Int → List Int → Int → List (List Stp) → Option R
  | 0, _, _, _, _, _ => none
  | k + 1, x1558, x1559, x1560, x1561, x1562 => F37_3_step n k0 (F37_3_it n k0 k) x1558 x1559 x1560 x1561 x1562
noncomputable def F37_3 {R : Type} (n : Nat) (x1558 : Int) (x1559 : Int) (x1560 : List Int) (x1561 : Int) (x1562 : List (List Stp)) (k0 : List Int → Int → List (List Stp) → Option R) : Option R := F37_3_it n k0 n x1558 x1559 x1560 x1561 x1562
noncomputable def F37_3z (n : Nat) : Sm G := inZ G 1 ⟨[0, 3, 4, 5], []⟩ F37_3s fun R x K => F37_3_it n (fun u0 u1 u2 => K (.exit 0) (SSh.enc G F37_3x0 (((), ()), ((u0, (u1, ())), (u2, ()))))) n x.1.2.2.1 x.1.2.2.2.1 x.2.1.1 x.2.1.2.1 x.2.2.1
theorem F37_3_eq (n : Nat) (R : Type) (rec : SSh.den G F37_3s → Option R) (x : SSh.den G F37_3s) (K : AE → St G → Option R) :
  F37_3_step n (fun u0 u1 u2 => K (.exit 0) (SSh.enc G F37_3x0 (((), ()), ((u0, (u1, ())), (u2, ()))))) (fun x1558 x1559 x1560 x1561 x1562 => rec (((), ((), (x1558, (x1559, ())))), ((x1560, (x1561, ())), (x1562, ())))) x.1.2.2.1 x.1.2.2.2.1 x.2.1.1 x.2.1.2.1 x.2.2.1 = exec prog G (ro G (tabOf (E37 n)) (frOf [F37_0z n, F37_1z n, F37_2z n]) R) 1 (codeAt F37c [1, 1, 1, 0, 1, 0, 0]) (.nd .no (.nd (.nd (.nd .no (.nd (.nd .no (.nd (.use 2) .no)) .no)) .no) .no)) (SSh.enc G F37_3s x) (kLoop G (ro G (tabOf (E37 n)) (frOf [F37_0z n, F37_1z n, F37_2z n]) R) 1 ⟨[0, 3, 4, 5], []⟩ F37_3s ⟨⟨[3], []⟩, ⟨[2], []⟩, [(0, ⟨[3], []⟩)]⟩ rec K) := by kernel_rfl
theorem F37_3_ok (n : Nat) : FragOK prog G 1 (codeAt F37c [1, 1, 1, 0, 1, 0]) (F37_3z n) :=
  frag_loop (Z := fun R k (x : SSh.den G F37_3s) K => F37_3_it n (fun u0 u1 u2 => K (.exit 0) (SSh.enc G F37_3x0 (((), ()), ((u0, (u1, ())), (u2, ()))))) k x.1.2.2.1 x.1.2.2.2.1 x.2.1.1 x.2.1.2.1 x.2.2.1) laws fnok (E37_ok n).tab (AllF.of (l := [(2, codeAt F37c [1, 1, 1, 0, 1, 0, 0, 1, 0, 0, 1, 0, 1, 0])]) (by kernel_rfl) (AllF.cons (F37_2_ok n) AllF.nil)) (fun _ _ _ => rfl) (fun R k y K => F37_3_eq n R (fun (x : SSh.den G F37_3s) => F37_3_it n (fun u0 u1 u2 => K (.exit 0) (SSh.enc G F37_3x0 (((), ()), ((u0, (u1, ())), (u2, ()))))) k x.1.2.2.1 x.1.2.2.2.1 x.2.1.1 x.2.1.2.1 x.2.2.1) y K) n
noncomputable def F37 (n : Nat) (a1493 : List Int) (a1494 : Int) : Option (List (List Stp) × ((List Int × (Int × Unit)) × Unit)) :=
  (andThen (F54 n (5 : Int) a1493 a1494) fun r1556 =>
  (F37_3 n (IntKind.wrap .i64 ((1 : Int) + r1556.1)) (0 : Int) r1556.2.1.1 r1556.2.1.2.1 [] (fun z1660 z1661 z1662 =>
  some (z1662, ((z1660, (z1661, ())), ())))))
noncomputable def F37e (n : Nat) : Ent G := ⟨37, (.cons (.ptr 0 0) .nil), [(.box 80 (.cons (.imm 4) (.cons (.int .i64) .nil)))], (.imm 5), [(.box 80 (.cons (.imm 4) (.cons (.int .i64) .nil)))], fun x y => F37 n y.1.1 y.1.2.1⟩
theorem F37_eq (n : Nat) (x : ShL.den G (.cons (.ptr 0 0) .nil)) (y : denO G [(.box 80 (.cons (.imm 4) (.cons (.int .i64) .nil)))]) : (F37e n).F x y = runFn prog G (ro G (tabOf (E37 n)) (frOf [F37_0z n, F37_1z n, F37_2z n, F37_3z n]) _) Go.Proofs.Try.f37 (.nd .no (.nd .no (.nd .no (.nd (.nd .no (.nd (.use 3) .no)) .no)))) [(0, .fz)] (ShL.enc G (.cons (.ptr 0 0) .nil) x) (encO G [(.box 80 (.cons (.imm 4) (.cons (.int .i64) .nil)))] y) (decR (.imm 5) [(.box 80 (.cons (.imm 4) (.cons (.int .i64) .nil)))]) := by kernel_rfl
theorem F37_ok (n : Nat) : EntOK prog G (F37e n) :=
  ent_ok (fr := frOf [F37_0z n, F37_1z n, F37_2z n, F37_3z n]) (ann := (.nd .no (.nd .no (.nd .no (.nd (.nd .no (.nd (.use 3) .no)) .no))))) (frm := [(0, .fz)]) laws fnok (E37_ok n).tab (e := F37e n) (fn := Go.Proofs.Try.f37) (by kernel_rfl) (AllF.ofB (cd := F37c) (l := [(3, codeAt F37c [1, 1, 1, 0, 1, 0])]) (by kernel_rfl) (by kernel_rfl) (AllF.cons (F37_3_ok n) AllF.nil)) (F37_eq n)
noncomputable def E38 (n : Nat) : List (Ent G) := F37e n :: E37 n
theorem E38_ok (n : Nat) : AllE prog G (E38 n) := AllE.cons (F37_ok n) (E37_ok n)
-- 38 (*loop.example/slowworm/spec.rnd).numbers
noncomputable def F38c : Code := bodyOf Go.Proofs.Try.f38
noncomputable def F38_0x0 : SSh := ⟨25, [(7, (.own 1))], [(.box 80 (.cons (.imm 4) (.cons (.int .i64) .nil))), (.arr 0 true)]⟩
noncomputable def F38_0s : SSh := ⟨25, [(0, (.ptr 0 0)), (2, (.int .i64)), (7, (.own 1)), (8, (.int .i64))], [(.box 80 (.cons (.imm 4) (.cons (.int .i64) .nil))), (.arr 0 true)]⟩
noncomputable def F38_0_step {R : Type} (n : Nat) (k0 : List Int → Int → List Int → Option R) (rec : Int → Int → List Int → Int → List Int → Option R) (x1672 : Int) (x1673 : Int) (x1674 : List Int) (x1675 : Int) (x1676 : List Int) : Option R :=
  (bif (decide (x1673 > (0 : Int))) then
  (andThen (F54 n x1672 x1674 x1675) fun r1678 =>
  let v1679 := (r1678.1 :: [])
  (bif (decide (((x1676.length) + (v1679.length)) ≤ (68719476736 : Nat))) then
  (rec x1672 (IntKind.wrap .i64 (x1673 - (1 : Int))) r1678.2.1.1 r1678.2.1.2.1 (x1676 ++ v1679))
  else none))
  else (k0 x1674 x1675 x1676))
noncomputable def F38_0_it {R : Type} (n : Nat) (k0 : List Int → Int → List Int → Option R) : Nat → Int → Int → List Int → Int → List Int → Option R
  | 0, _, _, _, _, _ => none
  | k + 1, x1672, x1673, x1674, x1675, x1676 => F38_0_step n k0 (F38_0_it n k0 k) x1672 x1673 x1674 x1675 x1676
noncomputable def F38_0 {R : Type} (n : Nat) (x1672 : Int) (x1673 : Int) (x1674 : List Int) (x1675 : Int) (x1676 : List Int) (k0 : List Int → Int → List Int → Option R) : Option R := F38_0_it n k0 n x1672 x1673 x1674 x1675 x1676
noncomputable def F38_0z (n : Nat) : Sm G := inZ G 1 ⟨[0, 2, 7, 8], []⟩ F38_0s fun R x K => F38_0_it n (fun u0 u1 u2 => K (.exit 0) (SSh.enc G F38_0x0 (((), ()), ((u0, (u1, ())), (u2, ()))))) n x.1.2.1 x.1.2.2.2.1 x.2.1.1 x.2.1.2.1 x.2.2.1
theorem F38_0_eq (n : Nat) (R : Type) (rec : SSh.den G F38_0s → Option R) (x : SSh.den G F38_0s) (K : AE → St G → Option R) :
  F38_0_step n (fun u0 u1 u2 => K (.exit 0) (SSh.enc G F38_0x0 (((), ()), ((u0, (u1, ())), (u2, ()))))) (fun x1672 x1673 x1674 x1675 x1676 => rec (((), (x1672, ((), (x1673, ())))), ((x1674, (x1675, ())), (x1676, ())))) x.1.2.1 x.1.2.2.2.1 x.2.1.1 x.2.1.2.1 x.2.2.1 = exec prog G (ro G (tabOf (E38 n)) (frOf []) R) 1 (codeAt F38c [1, 1, 0, 1, 0, 0]) .no (SSh.enc G F38_0s x) (kLoop G (ro G (tabOf (E38 n)) (frOf []) R) 1 ⟨[0, 2, 7, 8], []⟩ F38_0s ⟨⟨[7], []⟩, ⟨[6], []⟩, [(0, ⟨[7], []⟩)]⟩ rec K) := by kernel_rfl
theorem F38_0_ok (n : Nat) : FragOK prog G 1 (codeAt F38c [1, 1, 0, 1, 0]) (F38_0z n) :=
  frag_loop (Z := fun R k (x : SSh.den G F38_0s) K => F38_0_it n (fun u0 u1 u2 => K (.exit 0) (SSh.enc G F38_0x0 (((), ()), ((u0, (u1, ())), (u2, ()))))) k x.1.2.1 x.1.2.2.2.1 x.2.1.1 x.2.1.2.1 x.2.2.1) laws fnok (E38_ok n).tab (AllF.of (l := []) (by kernel_rfl) AllF.nil) (fun _ _ _ => rfl) (fun R k y K => F38_0_eq n R (fun (x : SSh.den G F38_0s) => F38_0_it n (fun u0 u1 u2 => K (.exit 0) (SSh.enc G F38_0x0 (((), ()), ((u0, (u1, ())), (u2, ()))))) k x.1.2.1 x.1.2.2.2.1 x.2.1.1 x.2.1.2.1 x.2.2.1) y K) n
noncomputable def F38 (n : Nat) (a1665 : Int) (a1666 : Int) (a1667 : List Int) (a1668 : Int) : Option (List Int × ((List Int × (Int × Unit)) × Unit)) :=
  (andThen (F54 n (IntKind.wrap .i64 (a1665 + (1 : Int))) a1667 a1668) fun r1671 =>
  (F38_0 n a1666 r1671.1 r1671.2.1.1 r1671.2.1.2.1 [] (fun z1682 z1683 z1684 =>
  some (z1684, ((z1682, (z1683, ())), ())))))
noncomputable def F38e (n : Nat) : Ent G := ⟨38, (.cons (.ptr 0 0) (.cons (.int .i64) (.cons (.int .i64) .nil))), [(.box 80 (.cons (.imm 4) (.cons (.int .i64) .nil)))], (.imm 0), [(.box 80 (.cons (.imm 4) (.cons (.int .i64) .nil)))], fun x y => F38 n x.2.1 x.2.2.1 y.1.1 y.1.2.1⟩
theorem F38_eq (n : Nat) (x : ShL.den G (.cons (.ptr 0 0) (.cons (.int .i64) (.cons (.int .i64) .nil)))) (y : denO G [(.box 80 (.cons (.imm 4) (.cons (.int .i64) .nil)))]) : (F38e n).F x y = runFn prog G (ro G (tabOf (E38 n)) (frOf [F38_0z n]) _) Go.Proofs.Try.f38 (.nd .no (.nd .no (.nd (.nd .no (.nd (.use 0) .no)) .no))) [(0, .fz)] (ShL.enc G (.cons (.ptr 0 0) (.cons (.int .i64) (.cons (.int .i64) .nil))) x) (encO G [(.box 80 (.cons (.imm 4) (.cons (.int .i64) .nil)))] y) (decR (.imm 0) [(.box 80 (.cons (.imm 4) (.cons (.int .i64) .nil)))]) := by kernel_rfl
theorem F38_ok (n : Nat) : EntOK prog G (F38e n) :=
  ent_ok (fr := frOf [F38_0z n]) (ann := (.nd .no (.nd .no (.nd (.nd .no (.nd (.use 0) .no)) .no)))) (frm := [(0, .fz)]) laws fnok (E38_ok n).tab (e := F38e n) (fn := Go.Proofs.Try.f38) (by kernel_rfl) (AllF.ofB (cd := F38c) (l := [(0, codeAt F38c [1, 1, 0, 1, 0])]) (by kernel_rfl) (by kernel_rfl) (AllF.cons (F38_0_ok n) AllF.nil)) (F38_eq n)
noncomputable def E39 (n : Nat) : List (Ent G) := F38e n :: E38 n
theorem E39_ok (n : Nat) : AllE prog G (E39 n) := AllE.cons (F38_ok n) (E38_ok n)
noncomputable def F16 (n : Nat) (a1487 : List Int) : Option ((List (List Stp) × (List Int × Unit)) × Unit) :=
  (andThen (F36 n a1487) fun r1492 =>
  (andThen (F37 n r1492.2.1.1 r1492.2.1.2.1) fun r1663 =>
  (andThen (F38 n (4 : Int) ((r1663.1.length) : Int) r1663.2.1.1 r1663.2.1.2.1) fun r1685 =>
  some ((r1663.1, (r1685.1, ())), ()))))
noncomputable def F16e (n : Nat) : Ent G := ⟨16, (.cons (.imm 4) .nil), [], (.tup (.cons (.imm 5) (.cons (.imm 0) .nil))), [], fun x y => F16 n x.1⟩
theorem F16_eq (n : Nat) (x : ShL.den G (.cons (.imm 4) .nil)) (y : denO G []) : (F16e n).F x y = runFn prog G (ro G (tabOf (E39 n)) (frOf []) _) Go.Proofs.Try.f16 .no [(0, .fz), (1, .fz)] (ShL.enc G (.cons (.imm 4) .nil) x) (encO G [] y) (decR (.tup (.cons (.imm 5) (.cons (.imm 0) .nil))) []) := by kernel_rfl
theorem F16_ok (n : Nat) : EntOK prog G (F16e n) :=
  ent_ok (fr := frOf []) (ann := .no) (frm := [(0, .fz), (1, .fz)]) laws fnok (E39_ok n).tab (e := F16e n) (fn := Go.Proofs.Try.f16) (by kernel_rfl) (AllF.ofB (cd := F16c) (l := []) (by kernel_rfl) (by kernel_rfl) AllF.nil) (F16_eq n)
noncomputable def E40 (n : Nat) : List (Ent G) := F16e n :: E39 n
theorem E40_ok (n : Nat) : AllE prog G (E40 n) := AllE.cons (F16_ok n) (E39_ok n)
-- 18 loop.example/slowworm/spec.SameImports
noncomputable def F18c : Code := bodyOf Go.Proofs.Try.f18
-- 41 loop.example/slowworm/spec.sameNums
noncomputable def F41c : Code := bodyOf Go.Proofs.Try.f41
noncomputable def F41_0x0 : SSh := ⟨26, [(4, .bool)], []⟩
noncomputable def F41_0x1 : SSh := ⟨26, [], []⟩
noncomputable def F41_0s : SSh := ⟨26, [(0, (.imm 0)), (1, (.imm 0)), (5, (.int .i64))], []⟩
noncomputable def F41_0_step {R : Type} (n : Nat) (k0 : Bool → Option R) (k1 : Option R) (rec : List Int → List Int → Int → Option R) (x1704 : List Int) (x1705 : List Int) (x1706 : Int) : Option R :=
  (bif (decide (x1706 < ((x1704.length) : Int))) then
  (bif (decide ((0 : Int) ≤ x1706)) then
  (bif (decide (x1706 < ((x1704.length) : Int))) then
  (bif (decide ((0 : Int) ≤ x1706)) then
  (bif (decide (x1706 < ((x1705.length) : Int))) then
  (bif ((x1704.getD (x1706.toNat) (0 : Int)) != (x1705.getD (x1706.toNat) (0 : Int))) then
  (k0 false)
  else (rec x1704 x1705 (IntKind.wrap .i64 (x1706 + (1 : Int)))))
  else none)
  else none)
  else none)
  else none)
  else k1)
noncomputable def F41_0_it {R : Type} (n : Nat) (k0 : Bool → Option R) (k1 : Option R) : Nat → List Int → List Int → Int → Option R
  | 0, _, _, _ => none
  | k + 1, x1704, x1705, x1706 => F41_0_step n k0 k1 (F41_0_it n k0 k1 k) x1704 x1705 x1706
noncomputable def F41_0 {R : Type} (n : Nat) (x1704 : List Int) (x1705 : List Int) (x1706 : Int) (k0 : Bool → Option R) (k1 : Option R) : Option R := F41_0_it n k0 k1 n x1704 x1705 x1706
noncomputable def F41_0z (n : Nat) : Sm G := inZ G 0 ⟨[0, 1, 5], []⟩ F41_0s fun R x K => F41_0_it n (fun u0 => K .ret (SSh.enc G F41_0x0 ((u0, ()), ()))) (K (.exit 0) (SSh.enc G F41_0x1 ((), ()))) n x.1.1 x.1.2.1 x.1.2.2.1
theorem F41_0_eq (n : Nat) (R : Type) (rec : SSh.den G F41_0s → Option R) (x : SSh.den G F41_0s) (K : AE → St G → Option R) :
  F41_0_step n (fun u0 => K .ret (SSh.enc G F41_0x0 ((u0, ()), ()))) (K (.exit 0) (SSh.enc G F41_0x1 ((), ()))) (fun x1704 x1705 x1706 => rec ((x1704, (x1705, (x1706, ()))), ())) x.1.1 x.1.2.1 x.1.2.2.1 = exec prog G (ro G (tabOf (E40 n)) (frOf []) R) 0 (codeAt F41c [1, 1, 0, 1, 0, 0]) .no (SSh.enc G F41_0s x) (kLoop G (ro G (tabOf (E40 n)) (frOf []) R) 0 ⟨[0, 1, 5], []⟩ F41_0s ⟨⟨[], []⟩, ⟨[4], []⟩, [(0, ⟨[], []⟩)]⟩ rec K) := by kernel_rfl
theorem F41_0_ok (n : Nat) : FragOK prog G 0 (codeAt F41c [1, 1, 0, 1, 0]) (F41_0z n) :=
  frag_loop (Z := fun R k (x : SSh.den G F41_0s) K => F41_0_it n (fun u0 => K .ret (SSh.enc G F41_0x0 ((u0, ()), ()))) (K (.exit 0) (SSh.enc G F41_0x1 ((), ()))) k x.1.1 x.1.2.1 x.1.2.2.1) laws fnok (E40_ok n).tab (AllF.of (l := []) (by kernel_rfl) AllF.nil) (fun _ _ _ => rfl) (fun R k y K => F41_0_eq n R (fun (x : SSh.den G F41_0s) => F41_0_it n (fun u0 => K .ret (SSh.enc G F41_0x0 ((u0, ()), ()))) (K (.exit 0) (SSh.enc G F41_0x1 ((), ()))) k x.1.1 x.1.2.1 x.1.2.2.1) y K) n
noncomputable def F41 (n : Nat) (a1699 : List Int) (a1700 : List Int) : Option (Bool × Unit) :=
  (bif (((a1699.length) : Int) != ((a1700.length) : Int)) then
  some (false, ())
  else (F41_0 n a1699 a1700 (0 : Int) (fun z1715 =>
  some (z1715, ())) (
  some (true, ()))))
noncomputable def F41e (n : Nat) : Ent G := ⟨41, (.cons (.imm 0) (.cons (.imm 0) .nil)), [], .bool, [], fun x y => F41 n x.1 x.2.1⟩
theorem F41_eq (n : Nat) (x : ShL.den G (.cons (.imm 0) (.cons (.imm 0) .nil))) (y : denO G []) : (F41e n).F x y = runFn prog G (ro G (tabOf (E40 n)) (frOf [F41_0z n]) _) Go.Proofs.Try.f41 (.nd .no (.nd .no (.nd (.nd .no (.nd (.use 0) .no)) .no))) [(0, .fz)] (ShL.enc G (.cons (.imm 0) (.cons (.imm 0) .nil)) x) (encO G [] y) (decR .bool []) := by kernel_rfl
theorem F41_ok (n : Nat) : EntOK prog G (F41e n) :=
  ent_ok (fr := frOf [F41_0z n]) (ann := (.nd .no (.nd .no (.nd (.nd .no (.nd (.use 0) .no)) .no)))) (frm := [(0, .fz)]) laws fnok (E40_ok n).tab (e := F41e n) (fn := Go.Proofs.Try.f41) (by kernel_rfl) (AllF.ofB (cd := F41c) (l := [(0, codeAt F41c [1, 1, 0, 1, 0])]) (by kernel_rfl) (by kernel_rfl) (AllF.cons (F41_0_ok n) AllF.nil)) (F41_eq n)
noncomputable def E41 (n : Nat) : List (Ent G) := F41e n :: E40 n
theorem E41_ok (n : Nat) : AllE prog G (E41 n) := AllE.cons (F41_ok n) (E40_ok n)
-- 42 loop.example/slowworm/spec.sameTexts
noncomputable def F42c : Code := bodyOf Go.Proofs.Try.f42
noncomputable def F42_0x0 : SSh := ⟨26, [(4, .bool)], []⟩
noncomputable def F42_0x1 : SSh := ⟨26, [], []⟩
noncomputable def F42_0s : SSh := ⟨26, [(0, (.imm 6)), (1, (.imm 6)), (5, (.int .i64))], []⟩
noncomputable def F42_0_step {R : Type} (n : Nat) (k0 : Bool → Option R) (k1 : Option R) (rec : List ByteArray → List ByteArray → Int → Option R) (x1724 : List ByteArray) (x1725 : List ByteArray) (x1726 : Int) : Option R :=
  (bif (decide (x1726 < ((x1724.length) : Int))) then
  (bif (decide ((0 : Int) ≤ x1726)) then
  (bif (decide (x1726 < ((x1724.length) : Int))) then
  (bif (decide ((0 : Int) ≤ x1726)) then
  (bif (decide (x1726 < ((x1725.length) : Int))) then
  (bif (!(((x1724.getD (x1726.toNat) ({ data := #[] } : ByteArray)).toList) == ((x1725.getD (x1726.toNat) ({ data := #[] } : ByteArray)).toList))) then
  (k0 false)
  else (rec x1724 x1725 (IntKind.wrap .i64 (x1726 + (1 : Int)))))
  else none)
  else none)
  else none)
  else none)
  else k1)
noncomputable def F42_0_it {R : Type} (n : Nat) (k0 : Bool → Option R) (k1 : Option R) : Nat → List ByteArray → List ByteArray → Int → Option R
  | 0, _, _, _ => none
  | k + 1, x1724, x1725, x1726 => F42_0_step n k0 k1 (F42_0_it n k0 k1 k) x1724 x1725 x1726
noncomputable def F42_0 {R : Type} (n : Nat) (x1724 : List ByteArray) (x1725 : List ByteArray) (x1726 : Int) (k0 : Bool → Option R) (k1 : Option R) : Option R := F42_0_it n k0 k1 n x1724 x1725 x1726
noncomputable def F42_0z (n : Nat) : Sm G := inZ G 0 ⟨[0, 1, 5], []⟩ F42_0s fun R x K => F42_0_it n (fun u0 => K .ret (SSh.enc G F42_0x0 ((u0, ()), ()))) (K (.exit 0) (SSh.enc G F42_0x1 ((), ()))) n x.1.1 x.1.2.1 x.1.2.2.1
theorem F42_0_eq (n : Nat) (R : Type) (rec : SSh.den G F42_0s → Option R) (x : SSh.den G F42_0s) (K : AE → St G → Option R) :
  F42_0_step n (fun u0 => K .ret (SSh.enc G F42_0x0 ((u0, ()), ()))) (K (.exit 0) (SSh.enc G F42_0x1 ((), ()))) (fun x1724 x1725 x1726 => rec ((x1724, (x1725, (x1726, ()))), ())) x.1.1 x.1.2.1 x.1.2.2.1 = exec prog G (ro G (tabOf (E41 n)) (frOf []) R) 0 (codeAt F42c [1, 1, 0, 1, 0, 0]) .no (SSh.enc G F42_0s x) (kLoop G (ro G (tabOf (E41 n)) (frOf []) R) 0 ⟨[0, 1, 5], []⟩ F42_0s ⟨⟨[], []⟩, ⟨[4], []⟩, [(0, ⟨[], []⟩)]⟩ rec K) := by kernel_rfl
theorem F42_0_ok (n : Nat) : FragOK prog G 0 (codeAt F42c [1, 1, 0, 1, 0]) (F42_0z n) :=
  frag_loop (Z := fun R k (x : SSh.den G F42_0s) K => F42_0_it n (fun u0 => K .ret (SSh.enc G F42_0x0 ((u0, ()), ()))) (K (.exit 0) (SSh.enc G F42_0x1 ((), ()))) k x.1.1 x.1.2.1 x.1.2.2.1) laws fnok (E41_ok n).tab (AllF.of (l := []) (by kernel_rfl) AllF.nil) (fun _ _ _ => rfl) (fun R k y K => F42_0_eq n R (fun (x : SSh.den G F42_0s) => F42_0_it n (fun u0 => K .ret (SSh.enc G F42_0x0 ((u0, ()), ()))) (K (.exit 0) (SSh.enc G F42_0x1 ((), ()))) k x.1.1 x.1.2.1 x.1.2.2.1) y K) n
noncomputable def F42 (n : Nat) (a1719 : List ByteArray) (a1720 : List ByteArray) : Option (Bool × Unit) :=
  (bif (((a1719.length) : Int) != ((a1720.length) : Int)) then
  some (false, ())
  else (F42_0 n a1719 a1720 (0 : Int) (fun z1735 =>
  some (z1735, ())) (
  some (true, ()))))
noncomputable def F42e (n : Nat) : Ent G := ⟨42, (.cons (.imm 6) (.cons (.imm 6) .nil)), [], .bool, [], fun x y => F42 n x.1 x.2.1⟩
theorem F42_eq (n : Nat) (x : ShL.den G (.cons (.imm 6) (.cons (.imm 6) .nil))) (y : denO G []) : (F42e n).F x y = runFn prog G (ro G (tabOf (E41 n)) (frOf [F42_0z n]) _) Go.Proofs.Try.f42 (.nd .no (.nd .no (.nd (.nd .no (.nd (.use 0) .no)) .no))) [(0, .fz)] (ShL.enc G (.cons (.imm 6) (.cons (.imm 6) .nil)) x) (encO G [] y) (decR .bool []) := by kernel_rfl
theorem F42_ok (n : Nat) : EntOK prog G (F42e n) :=
  ent_ok (fr := frOf [F42_0z n]) (ann := (.nd .no (.nd .no (.nd (.nd .no (.nd (.use 0) .no)) .no)))) (frm := [(0, .fz)]) laws fnok (E41_ok n).tab (e := F42e n) (fn := Go.Proofs.Try.f42) (by kernel_rfl) (AllF.ofB (cd := F42c) (l := [(0, codeAt F42c [1, 1, 0, 1, 0])]) (by kernel_rfl) (by kernel_rfl) (AllF.cons (F42_0_ok n) AllF.nil)) (F42_eq n)
noncomputable def E42 (n : Nat) : List (Ent G) := F42e n :: E41 n
theorem E42_ok (n : Nat) : AllE prog G (E42 n) := AllE.cons (F42_ok n) (E41_ok n)
noncomputable def F18 (n : Nat) (a1689 : List Int) (a1690 : List Int) (a1691 : List Int) (a1692 : List ByteArray) (a1693 : List Int) (a1694 : List Int) (a1695 : List Int) (a1696 : List Int) (a1697 : List ByteArray) (a1698 : List Int) : Option (Bool × Unit) :=
  (andThen (F41 n a1689 a1694) fun r1716 =>
  (bif r1716.1 then
  (andThen (F41 n a1690 a1695) fun r1717 =>
  (bif r1717.1 then
  (andThen (F41 n a1691 a1696) fun r1718 =>
  (bif r1718.1 then
  (andThen (F42 n a1692 a1697) fun r1736 =>
  (bif r1736.1 then
  (andThen (F41 n a1693 a1698) fun r1737 =>
  some (r1737.1, ()))
  else some (false, ())))
  else some (false, ())))
  else some (false, ())))
  else some (false, ())))
noncomputable def F18e (n : Nat) : Ent G := ⟨18, (.cons (.agg (.cons (.imm 0) (.cons (.imm 0) (.cons (.imm 0) (.cons (.imm 6) (.cons (.imm 0) .nil)))))) (.cons (.agg (.cons (.imm 0) (.cons (.imm 0) (.cons (.imm 0) (.cons (.imm 6) (.cons (.imm 0) .nil)))))) .nil)), [], .bool, [], fun x y => F18 n x.1.1 x.1.2.1 x.1.2.2.1 x.1.2.2.2.1 x.1.2.2.2.2.1 x.2.1.1 x.2.1.2.1 x.2.1.2.2.1 x.2.1.2.2.2.1 x.2.1.2.2.2.2.1⟩
theorem F18_eq (n : Nat) (x : ShL.den G (.cons (.agg (.cons (.imm 0) (.cons (.imm 0) (.cons (.imm 0) (.cons (.imm 6) (.cons (.imm 0) .nil)))))) (.cons (.agg (.cons (.imm 0) (.cons (.imm 0) (.cons (.imm 0) (.cons (.imm 6) (.cons (.imm 0) .nil)))))) .nil))) (y : denO G []) : (F18e n).F x y = runFn prog G (ro G (tabOf (E42 n)) (frOf []) _) Go.Proofs.Try.f18 .no [(0, .fz)] (ShL.enc G (.cons (.agg (.cons (.imm 0) (.cons (.imm 0) (.cons (.imm 0) (.cons (.imm 6) (.cons (.imm 0) .nil)))))) (.cons (.agg (.cons (.imm 0) (.cons (.imm 0) (.cons (.imm 0) (.cons (.imm 6) (.cons (.imm 0) .nil)))))) .nil)) x) (encO G [] y) (decR .bool []) := by kernel_rfl
theorem F18_ok (n : Nat) : EntOK prog G (F18e n) :=
  ent_ok (fr := frOf []) (ann := .no) (frm := [(0, .fz)]) laws fnok (E42_ok n).tab (e := F18e n) (fn := Go.Proofs.Try.f18) (by kernel_rfl) (AllF.ofB (cd := F18c) (l := []) (by kernel_rfl) (by kernel_rfl) AllF.nil) (F18_eq n)
noncomputable def E43 (n : Nat) : List (Ent G) := F18e n :: E42 n
theorem E43_ok (n : Nat) : AllE prog G (E43 n) := AllE.cons (F18_ok n) (E42_ok n)
-- 20 loop.example/slowworm/spec.SameInts
noncomputable def F20c : Code := bodyOf Go.Proofs.Try.f20
noncomputable def F20 (n : Nat) (a1755 : List Int) (a1756 : List Int) : Option (Bool × Unit) :=
  (andThen (F41 n a1755 a1756) fun r1757 =>
  some (r1757.1, ()))
noncomputable def F20e (n : Nat) : Ent G := ⟨20, (.cons (.imm 0) (.cons (.imm 0) .nil)), [], .bool, [], fun x y => F20 n x.1 x.2.1⟩
theorem F20_eq (n : Nat) (x : ShL.den G (.cons (.imm 0) (.cons (.imm 0) .nil))) (y : denO G []) : (F20e n).F x y = runFn prog G (ro G (tabOf (E43 n)) (frOf []) _) Go.Proofs.Try.f20 .no [(0, .fz)] (ShL.enc G (.cons (.imm 0) (.cons (.imm 0) .nil)) x) (encO G [] y) (decR .bool []) := by kernel_rfl
theorem F20_ok (n : Nat) : EntOK prog G (F20e n) :=
  ent_ok (fr := frOf []) (ann := .no) (frm := [(0, .fz)]) laws fnok (E43_ok n).tab (e := F20e n) (fn := Go.Proofs.Try.f20) (by kernel_rfl) (AllF.ofB (cd := F20c) (l := []) (by kernel_rfl) (by kernel_rfl) AllF.nil) (F20_eq n)
noncomputable def E44 (n : Nat) : List (Ent G) := F20e n :: E43 n
theorem E44_ok (n : Nat) : AllE prog G (E44 n) := AllE.cons (F20_ok n) (E43_ok n)
noncomputable def F4 (n : Nat) (a1484 : List Int) : Option (Bool × Unit) :=
  (bif (decide (((a1484.length) : Int) > (1048576 : Int))) then
  some (true, ())
  else (andThen (F16 n a1484) fun r1686 =>
  (andThen (F17 n r1686.1.1 r1686.1.2.1) fun r1687 =>
  (andThen (F19 n r1686.1.1 r1686.1.2.1) fun r1688 =>
  (andThen (F18 n r1687.1.1 r1687.1.2.1 r1687.1.2.2.1 r1687.1.2.2.2.1 r1687.1.2.2.2.2.1 r1688.1.1 r1688.1.2.1 r1688.1.2.2.1 r1688.1.2.2.2.1 r1688.1.2.2.2.2.1) fun r1738 =>
  (bif (!r1738.1) then
  some (false, ())
  else let v1740 := []
  (bif (decide (((v1740.length) + (r1686.1.2.1.length)) ≤ (68719476736 : Nat))) then
  let v1741 := (v1740 ++ r1686.1.2.1)
  (bif (decide (((v1741.length) + (r1686.1.2.1.length)) ≤ (68719476736 : Nat))) then
  (andThen (F17 n r1686.1.1 (v1741 ++ r1686.1.2.1)) fun r1743 =>
  (bif (((r1743.1.2.2.2.2.1.length) : Int) == (0 : Int)) then
  (bif (((r1687.1.2.2.2.2.1.length) : Int) == (0 : Int)) then
  some (true, ())
  else some ((decide (((r1686.1.2.1.length) : Int) > (30 : Int))), ()))
  else (bif (decide (((r1743.1.2.1.length) : Int) ≥ ((r1687.1.2.1.length) : Int))) then
  let v1753 := ((r1687.1.2.1.length) : Int)
  (bif (decide ((0 : Int) ≤ v1753)) then
  (bif (decide (v1753 ≤ ((r1743.1.2.1.length) : Int))) then
  (andThen (F20 n r1687.1.2.1 ((r1743.1.2.1.take (v1753.toNat)).drop (0 : Nat))) fun r1758 =>
  (bif r1758.1 then
  (bif (decide (((r1743.1.1.length) : Int) ≥ ((r1687.1.1.length) : Int))) then
  let v1762 := ((r1687.1.1.length) : Int)
  (bif (decide ((0 : Int) ≤ v1762)) then
  (bif (decide (v1762 ≤ ((r1743.1.1.length) : Int))) then
  (andThen (F20 n r1687.1.1 ((r1743.1.1.take (v1762.toNat)).drop (0 : Nat))) fun r1764 =>
  (bif r1764.1 then
  (bif (decide (((r1687.1.2.2.1.length) : Int) > (0 : Int))) then
  some (true, ())
  else some ((((r1743.1.1.length) : Int) == ((r1687.1.1.length) : Int)), ()))
  else some (false, ())))
  else none)
  else none)
  else some (false, ()))
  else some (false, ())))
  else none)
  else none)
  else some (false, ()))))
  else none)
  else none)))))))
noncomputable def F4e (n : Nat) : Ent G := ⟨4, (.cons (.imm 4) .nil), [], .bool, [], fun x y => F4 n x.1⟩
theorem F4_eq (n : Nat) (x : ShL.den G (.cons (.imm 4) .nil)) (y : denO G []) : (F4e n).F x y = runFn prog G (ro G (tabOf (E44 n)) (frOf []) _) Go.Proofs.Try.f4 .no [(0, .fz)] (ShL.enc G (.cons (.imm 4) .nil) x) (encO G [] y) (decR .bool []) := by kernel_rfl
theorem F4_ok (n : Nat) : EntOK prog G (F4e n) :=
  ent_ok (fr := frOf []) (ann := .no) (frm := [(0, .fz)]) laws fnok (E44_ok n).tab (e := F4e n) (fn := Go.Proofs.Try.f4) (by kernel_rfl) (AllF.ofB (cd := F4c) (l := []) (by kernel_rfl) (by kernel_rfl) AllF.nil) (F4_eq n)
noncomputable def E45 (n : Nat) : List (Ent G) := F4e n :: E44 n
theorem E45_ok (n : Nat) : AllE prog G (E45 n) := AllE.cons (F4_ok n) (E44_ok n)
-- 5 loop.example/slowworm/laws.FnImportRun
noncomputable def F5c : Code := bodyOf Go.Proofs.Try.f5
-- 21 loop.example/slowworm/spec.HasInt
noncomputable def F21c : Code := bodyOf Go.Proofs.Try.f21
-- 45 loop.example/slowworm/spec.inList
noncomputable def F45c : Code := bodyOf Go.Proofs.Try.f45
noncomputable def F45_0x0 : SSh := ⟨18, [(4, .bool)], []⟩
noncomputable def F45_0x1 : SSh := ⟨18, [], []⟩
noncomputable def F45_0s : SSh := ⟨18, [(0, (.imm 0)), (1, (.int .i64)), (5, (.int .i64))], []⟩
noncomputable def F45_0_step {R : Type} (n : Nat) (k0 : Bool → Option R) (k1 : Option R) (rec : List Int → Int → Int → Option R) (x1801 : List Int) (x1802 : Int) (x1803 : Int) : Option R :=
  (bif (decide (x1803 < ((x1801.length) : Int))) then
  (bif (decide ((0 : Int) ≤ x1803)) then
  (bif (decide (x1803 < ((x1801.length) : Int))) then
  (bif ((x1801.getD (x1803.toNat) (0 : Int)) == x1802) then
  (k0 true)
  else (rec x1801 x1802 (IntKind.wrap .i64 (x1803 + (1 : Int)))))
  else none)
  else none)
  else k1)
noncomputable def F45_0_it {R : Type} (n : Nat) (k0 : Bool → Option R) (k1 : Option R) : Nat → List Int → Int → Int → Option R
  | 0, _, _, _ => none
  | k + 1, x1801, x1802, x1803 => F45_0_step n k0 k1 (F45_0_it n k0 k1 k) x1801 x1802 x1803
noncomputable def F45_0 {R : Type} (n : Nat) (x1801 : List Int) (x1802 : Int) (x1803 : Int) (k0 : Bool → Option R) (k1 : Option R) : Option R := F45_0_it n k0 k1 n x1801 x1802 x1803
noncomputable def F45_0z (n : Nat) : Sm G := inZ G 0 ⟨[0, 1, 5], []⟩ F45_0s fun R x K => F45_0_it n (fun u0 => K .ret (SSh.enc G F45_0x0 ((u0, ()), ()))) (K (.exit 0) (SSh.enc G F45_0x1 ((), ()))) n x.1.1 x.1.2.1 x.1.2.2.1
theorem F45_0_eq (n : Nat) (R : Type) (rec : SSh.den G F45_0s → Option R) (x : SSh.den G F45_0s) (K : AE → St G → Option R) :
  F45_0_step n (fun u0 => K .ret (SSh.enc G F45_0x0 ((u0, ()), ()))) (K (.exit 0) (SSh.enc G F45_0x1 ((), ()))) (fun x1801 x1802 x1803 => rec ((x1801, (x1802, (x1803, ()))), ())) x.1.1 x.1.2.1 x.1.2.2.1 = exec prog G (ro G (tabOf (E45 n)) (frOf []) R) 0 (codeAt F45c [1, 0, 1, 0, 0]) .no (SSh.enc G F45_0s x) (kLoop G (ro G (tabOf (E45 n)) (frOf []) R) 0 ⟨[0, 1, 5], []⟩ F45_0s ⟨⟨[], []⟩, ⟨[4], []⟩, [(0, ⟨[], []⟩)]⟩ rec K) := by kernel_rfl
theorem F45_0_ok (n : Nat) : FragOK prog G 0 (codeAt F45c [1, 0, 1, 0]) (F45_0z n) :=
  frag_loop (Z := fun R k (x : SSh.den G F45_0s) K => F45_0_it n (fun u0 => K .ret (SSh.enc G F45_0x0 ((u0, ()), ()))) (K (.exit 0) (SSh.enc G F45_0x1 ((), ()))) k x.1.1 x.1.2.1 x.1.2.2.1) laws fnok (E45_ok n).tab (AllF.of (l := []) (by kernel_rfl) AllF.nil) (fun _ _ _ => rfl) (fun R k y K => F45_0_eq n R (fun (x : SSh.den G F45_0s) => F45_0_it n (fun u0 => K .ret (SSh.enc G F45_0x0 ((u0, ()), ()))) (K (.exit 0) (SSh.enc G F45_0x1 ((), ()))) k x.1.1 x.1.2.1 x.1.2.2.1) y K) n
noncomputable def F45 (n : Nat) (a1799 : List Int) (a1800 : Int) : Option (Bool × Unit) :=
  (F45_0 n a1799 a1800 (0 : Int) (fun z1810 =>
  some (z1810, ())) (
  some (false, ())))
noncomputable def F45e (n : Nat) : Ent G := ⟨45, (.cons (.imm 0) (.cons (.int .i64) .nil)), [], .bool, [], fun x y => F45 n x.1 x.2.1⟩
theorem F45_eq (n : Nat) (x : ShL.den G (.cons (.imm 0) (.cons (.int .i64) .nil))) (y : denO G []) : (F45e n).F x y = runFn prog G (ro G (tabOf (E45 n)) (frOf [F45_0z n]) _) Go.Proofs.Try.f45 (.nd .no (.nd (.nd .no (.nd (.use 0) .no)) .no)) [(0, .fz)] (ShL.enc G (.cons (.imm 0) (.cons (.int .i64) .nil)) x) (encO G [] y) (decR .bool []) := by kernel_rfl
theorem F45_ok (n : Nat) : EntOK prog G (F45e n) :=
  ent_ok (fr := frOf [F45_0z n]) (ann := (.nd .no (.nd (.nd .no (.nd (.use 0) .no)) .no))) (frm := [(0, .fz)]) laws fnok (E45_ok n).tab (e := F45e n) (fn := Go.Proofs.Try.f45) (by kernel_rfl) (AllF.ofB (cd := F45c) (l := [(0, codeAt F45c [1, 0, 1, 0])]) (by kernel_rfl) (by kernel_rfl) (AllF.cons (F45_0_ok n) AllF.nil)) (F45_eq n)
noncomputable def E46 (n : Nat) : List (Ent G) := F45e n :: E45 n
theorem E46_ok (n : Nat) : AllE prog G (E46 n) := AllE.cons (F45_ok n) (E45_ok n)
noncomputable def F21 (n : Nat) (a1797 : List Int) (a1798 : Int) : Option (Bool × Unit) :=
  (andThen (F45 n a1797 a1798) fun r1811 =>
  some (r1811.1, ()))
noncomputable def F21e (n : Nat) : Ent G := ⟨21, (.cons (.imm 0) (.cons (.int .i64) .nil)), [], .bool, [], fun x y => F21 n x.1 x.2.1⟩
theorem F21_eq (n : Nat) (x : ShL.den G (.cons (.imm 0) (.cons (.int .i64) .nil))) (y : denO G []) : (F21e n).F x y = runFn prog G (ro G (tabOf (E46 n)) (frOf []) _) Go.Proofs.Try.f21 .no [(0, .fz)] (ShL.enc G (.cons (.imm 0) (.cons (.int .i64) .nil)) x) (encO G [] y) (decR .bool []) := by kernel_rfl
theorem F21_ok (n : Nat) : EntOK prog G (F21e n) :=
  ent_ok (fr := frOf []) (ann := .no) (frm := [(0, .fz)]) laws fnok (E46_ok n).tab (e := F21e n) (fn := Go.Proofs.Try.f21) (by kernel_rfl) (AllF.ofB (cd := F21c) (l := []) (by kernel_rfl) (by kernel_rfl) AllF.nil) (F21_eq n)
noncomputable def E47 (n : Nat) : List (Ent G) := F21e n :: E46 n
theorem E47_ok (n : Nat) : AllE prog G (E47 n) := AllE.cons (F21_ok n) (E46_ok n)
noncomputable def F5_0x0 : SSh := ⟨118, [(2, .bool)], []⟩
noncomputable def F5_0x1 : SSh := ⟨118, [(3, (.imm 5)), (4, (.imm 0)), (5, (.ptr 0 0))], [(.box 38 (.cons (.imm 0) (.cons (.imm 0) (.cons (.imm 0) (.cons (.imm 6) (.cons (.imm 0) .nil))))))]⟩
noncomputable def F5_0s : SSh := ⟨118, [(3, (.imm 5)), (4, (.imm 0)), (5, (.ptr 0 0)), (8, (.int .i64))], [(.box 38 (.cons (.imm 0) (.cons (.imm 0) (.cons (.imm 0) (.cons (.imm 6) (.cons (.imm 0) .nil))))))]⟩
noncomputable def F5_0_step {R : Type} (n : Nat) (k0 : Bool → Option R) (k1 : List (List Stp) → List Int → List Int → List Int → List Int → List ByteArray → List Int → Option R) (rec : List (List Stp) → List Int → Int → List Int → List Int → List Int → List ByteArray → List Int → Option R) (x1780 : List (List Stp)) (x1781 : List Int) (x1782 : Int) (x1783 : List Int) (x1784 : List Int) (x1785 : List Int) (x1786 : List ByteArray) (x1787 : List Int) : Option R :=
  (bif (decide (x1782 < ((x1784.length) : Int))) then
  (bif (decide ((0 : Int) ≤ x1782)) then
  (bif (decide (x1782 < ((x1784.length) : Int))) then
  let v1791 := (x1784.getD (x1782.toNat) (0 : Int))
  (bif (decide ((0 : Int) ≤ v1791)) then
  (bif (decide (v1791 < ((x1787.length) : Int))) then
  (bif ((x1787.getD (v1791.toNat) (0 : Int)) != (2 : Int)) then
  (k0 false)
  else (bif (decide ((0 : Int) ≤ x1782)) then
  (bif (decide (x1782 < ((x1784.length) : Int))) then
  (andThen (F21 n x1783 (x1784.getD (x1782.toNat) (0 : Int))) fun r1812 =>
  (bif (!r1812.1) then
  (k0 false)
  else (bif (decide ((0 : Int) ≤ x1782)) then
  (bif (decide (x1782 ≤ ((x1784.length) : Int))) then
  (bif (decide ((0 : Int) ≤ x1782)) then
  (bif (decide (x1782 < ((x1784.length) : Int))) then
  (andThen (F21 n ((x1784.take (x1782.toNat)).drop (0 : Nat)) (x1784.getD (x1782.toNat) (0 : Int))) fun r1817 =>
  (bif r1817.1 then
  (k0 false)
  else (rec x1780 x1781 (IntKind.wrap .i64 (x1782 + (1 : Int))) x1783 x1784 x1785 x1786 x1787)))
  else none)
  else none)
  else none)
  else none)))
  else none)
  else none))
  else none)
  else none)
  else none)
  else none)
  else (k1 x1780 x1781 x1783 x1784 x1785 x1786 x1787))
noncomputable def F5_0_it {R : Type} (n : Nat) (k0 : Bool → Option R) (k1 : List (List Stp) → List Int → List Int → List Int → List Int → List ByteArray → List Int → Option R) : Nat → List (List Stp) → List Int → Int → List Int → List Int → List Int → List ByteArray → List Int → Option R
  | 0, _, _, _, _, _, _, _, _ => none
  | k + 1, x1780, x1781, x1782, x1783, x1784, x1785, x1786, x1787 => F5_0_step n k0 k1 (F5_0_it n k0 k1 k) x1780 x1781 x1782 x1783 x1784 x1785 x1786 x1787
noncomputable def F5_0 {R : Type} (n : Nat) (x1780 : List (List Stp)) (x1781 : List Int) (x1782 : Int) (x1783 : List Int) (x1784 : List Int) (x1785 : List Int) (x1786 : List ByteArray) (x1787 : List Int) (k0 : Bool → Option R) (k1 : List (List Stp) → List Int → List Int → List Int → List Int → List ByteArray → List Int → Option R) : Option R := F5_0_it n k0 k1 n x1780 x1781 x1782 x1783 x1784 x1785 x1786 x1787
noncomputable def F5_0z (n : Nat) : Sm G := inZ G 0 ⟨[3, 4, 5, 8], []⟩ F5_0s fun R x K => F5_0_it n (fun u0 => K .ret (SSh.enc G F5_0x0 ((u0, ()), ()))) (fun u0 u1 u2 u3 u4 u5 u6 => K (.exit 0) (SSh.enc G F5_0x1 ((u0, (u1, ((), ()))), ((u2, (u3, (u4, (u5, (u6, ()))))), ())))) n x.1.1 x.1.2.1 x.1.2.2.2.1 x.2.1.1 x.2.1.2.1 x.2.1.2.2.1 x.2.1.2.2.2.1 x.2.1.2.2.2.2.1
theorem F5_0_eq (n : Nat) (R : Type) (rec : SSh.den G F5_0s → Option R) (x : SSh.den G F5_0s) (K : AE → St G → Option R) :
  F5_0_step n (fun u0 => K .ret (SSh.enc G F5_0x0 ((u0, ()), ()))) (fun u0 u1 u2 u3 u4 u5 u6 => K (.exit 0) (SSh.enc G F5_0x1 ((u0, (u1, ((), ()))), ((u2, (u3, (u4, (u5, (u6, ()))))), ())))) (fun x1780 x1781 x1782 x1783 x1784 x1785 x1786 x1787 => rec ((x1780, (x1781, ((), (x1782, ())))), ((x1783, (x1784, (x1785, (x1786, (x1787, ()))))), ()))) x.1.1 x.1.2.1 x.1.2.2.2.1 x.2.1.1 x.2.1.2.1 x.2.1.2.2.1 x.2.1.2.2.2.1 x.2.1.2.2.2.2.1 = exec prog G (ro G (tabOf (E47 n)) (frOf []) R) 0 (codeAt F5c [1, 1, 1, 1, 1, 1, 1, 0, 1, 0, 0]) .no (SSh.enc G F5_0s x) (kLoop G (ro G (tabOf (E47 n)) (frOf []) R) 0 ⟨[3, 4, 5, 8], []⟩ F5_0s ⟨⟨[3, 4, 5], []⟩, ⟨[2], []⟩, [(0, ⟨[3, 4, 5], []⟩)]⟩ rec K) := by kernel_rfl
theorem F5_0_ok (n : Nat) : FragOK prog G 0 (codeAt F5c [1, 1, 1, 1, 1, 1, 1, 0, 1, 0]) (F5_0z n) :=
  frag_loop (Z := fun R k (x : SSh.den G F5_0s) K => F5_0_it n (fun u0 => K .ret (SSh.enc G F5_0x0 ((u0, ()), ()))) (fun u0 u1 u2 u3 u4 u5 u6 => K (.exit 0) (SSh.enc G F5_0x1 ((u0, (u1, ((), ()))), ((u2, (u3, (u4, (u5, (u6, ()))))), ())))) k x.1.1 x.1.2.1 x.1.2.2.2.1 x.2.1.1 x.2.1.2.1 x.2.1.2.2.1 x.2.1.2.2.2.1 x.2.1.2.2.2.2.1) laws fnok (E47_ok n).tab (AllF.of (l := []) (by kernel_rfl) AllF.nil) (fun _ _ _ => rfl) (fun R k y K => F5_0_eq n R (fun (x : SSh.den G F5_0s) => F5_0_it n (fun u0 => K .ret (SSh.enc G F5_0x0 ((u0, ()), ()))) (fun u0 u1 u2 u3 u4 u5 u6 => K (.exit 0) (SSh.enc G F5_0x1 ((u0, (u1, ((), ()))), ((u2, (u3, (u4, (u5, (u6, ()))))), ())))) k x.1.1 x.1.2.1 x.1.2.2.2.1 x.2.1.1 x.2.1.2.1 x.2.1.2.2.1 x.2.1.2.2.2.1 x.2.1.2.2.2.2.1) y K) n
noncomputable def F5_1x0 : SSh := ⟨118, [(2, .bool)], []⟩
noncomputable def F5_1x1 : SSh := ⟨118, [(3, (.imm 5)), (5, (.ptr 0 0))], [(.box 38 (.cons (.imm 0) (.cons (.imm 0) (.cons (.imm 0) (.cons (.imm 6) (.cons (.imm 0) .nil))))))]⟩
noncomputable def F5_1s : SSh := ⟨118, [(3, (.imm 5)), (4, (.imm 0)), (5, (.ptr 0 0)), (9, (.int .i64))], [(.box 38 (.cons (.imm 0) (.cons (.imm 0) (.cons (.imm 0) (.cons (.imm 6) (.cons (.imm 0) .nil))))))]⟩
noncomputable def F5_1_step {R : Type} (n : Nat) (k0 : Bool → Option R) (k1 : List (List Stp) → List Int → List Int → List Int → List ByteArray → List Int → Option R) (rec : List (List Stp) → List Int → Int → List Int → List Int → List Int → List ByteArray → List Int → Option R) (x1827 : List (List Stp)) (x1828 : List Int) (x1829 : Int) (x1830 : List Int) (x1831 : List Int) (x1832 : List Int) (x1833 : List ByteArray) (x1834 : List Int) : Option R :=
  (bif (decide (x1829 < ((x1828.length) : Int))) then
  (bif (decide ((0 : Int) ≤ x1829)) then
  (bif (decide (x1829 < ((x1828.length) : Int))) then
  let v1838 := (x1828.getD (x1829.toNat) (0 : Int))
  (bif (decide ((0 : Int) ≤ v1838)) then
  (bif (decide (v1838 < ((x1834.length) : Int))) then
  (bif ((x1834.getD (v1838.toNat) (0 : Int)) == (1 : Int)) then
  (k0 false)
  else (bif (decide ((0 : Int) ≤ x1829)) then
  (bif (decide (x1829 < ((x1828.length) : Int))) then
  let v1843 := (x1828.getD (x1829.toNat) (0 : Int))
  (bif (decide ((0 : Int) ≤ v1843)) then
  (bif (decide (v1843 < ((x1834.length) : Int))) then
  (bif ((x1834.getD (v1843.toNat) (0 : Int)) != (2 : Int)) then
  (bif (decide ((0 : Int) ≤ x1829)) then
  (bif (decide (x1829 < ((x1828.length) : Int))) then
  (andThen (F21 n x1832 (x1828.getD (x1829.toNat) (0 : Int))) fun r1849 =>
  (bif (!r1849.1) then
  (k0 false)
  else (rec x1827 x1828 (IntKind.wrap .i64 (x1829 + (1 : Int))) x1830 x1831 x1832 x1833 x1834)))
  else none)
  else none)
  else (rec x1827 x1828 (IntKind.wrap .i64 (x1829 + (1 : Int))) x1830 x1831 x1832 x1833 x1834))
  else none)
  else none)
  else none)
  else none))
  else none)
  else none)
  else none)
  else none)
  else (k1 x1827 x1830 x1831 x1832 x1833 x1834))
noncomputable def F5_1_it {R : Type} (n : Nat) (k0 : Bool → Option R) (k1 : List (List Stp) → List Int → List Int → List Int → List ByteArray → List Int → Option R) : Nat → List (List Stp) → List Int → Int → List Int → List Int → List Int → List ByteArray → List Int → Option R
  | 0, _, _, _, _, _, _, _, _ => none
  | k + 1, x1827, x1828, x1829, x1830, x1831, x1832, x1833, x1834 => F5_1_step n k0 k1 (F5_1_it n k0 k1 k) x1827 x1828 x1829 x1830 x1831 x1832 x1833 x1834
noncomputable def F5_1 {R : Type} (n : Nat) (x1827 : List (List Stp)) (x1828 : List Int) (x1829 : Int) (x1830 : List Int) (x1831 : List Int) (x1832 : List Int) (x1833 : List ByteArray) (x1834 : List Int) (k0 : Bool → Option R) (k1 : List (List Stp) → List Int → List Int → List Int → List ByteArray → List Int → Option R) : Option R := F5_1_it n k0 k1 n x1827 x1828 x1829 x1830 x1831 x1832 x1833 x1834
noncomputable def F5_1z (n : Nat) : Sm G := inZ G 0 ⟨[3, 4, 5, 9], []⟩ F5_1s fun R x K => F5_1_it n (fun u0 => K .ret (SSh.enc G F5_1x0 ((u0, ()), ()))) (fun u0 u1 u2 u3 u4 u5 => K (.exit 2) (SSh.enc G F5_1x1 ((u0, ((), ())), ((u1, (u2, (u3, (u4, (u5, ()))))), ())))) n x.1.1 x.1.2.1 x.1.2.2.2.1 x.2.1.1 x.2.1.2.1 x.2.1.2.2.1 x.2.1.2.2.2.1 x.2.1.2.2.2.2.1
theorem F5_1_eq (n : Nat) (R : Type) (rec : SSh.den G F5_1s → Option R) (x : SSh.den G F5_1s) (K : AE → St G → Option R) :
  F5_1_step n (fun u0 => K .ret (SSh.enc G F5_1x0 ((u0, ()), ()))) (fun u0 u1 u2 u3 u4 u5 => K (.exit 2) (SSh.enc G F5_1x1 ((u0, ((), ())), ((u1, (u2, (u3, (u4, (u5, ()))))), ())))) (fun x1827 x1828 x1829 x1830 x1831 x1832 x1833 x1834 => rec ((x1827, (x1828, ((), (x1829, ())))), ((x1830, (x1831, (x1832, (x1833, (x1834, ()))))), ()))) x.1.1 x.1.2.1 x.1.2.2.2.1 x.2.1.1 x.2.1.2.1 x.2.1.2.2.1 x.2.1.2.2.2.1 x.2.1.2.2.2.2.1 = exec prog G (ro G (tabOf (E47 n)) (frOf [F5_0z n]) R) 0 (codeAt F5c [1, 1, 1, 1, 1, 1, 1, 1, 0, 1, 0, 0]) .no (SSh.enc G F5_1s x) (kLoop G (ro G (tabOf (E47 n)) (frOf [F5_0z n]) R) 0 ⟨[3, 4, 5, 9], []⟩ F5_1s ⟨⟨[3, 5], []⟩, ⟨[2], []⟩, [(2, ⟨[3, 5], []⟩)]⟩ rec K) := by kernel_rfl
theorem F5_1_ok (n : Nat) : FragOK prog G 0 (codeAt F5c [1, 1, 1, 1, 1, 1, 1, 1, 0, 1, 0]) (F5_1z n) :=
  frag_loop (Z := fun R k (x : SSh.den G F5_1s) K => F5_1_it n (fun u0 => K .ret (SSh.enc G F5_1x0 ((u0, ()), ()))) (fun u0 u1 u2 u3 u4 u5 => K (.exit 2) (SSh.enc G F5_1x1 ((u0, ((), ())), ((u1, (u2, (u3, (u4, (u5, ()))))), ())))) k x.1.1 x.1.2.1 x.1.2.2.2.1 x.2.1.1 x.2.1.2.1 x.2.1.2.2.1 x.2.1.2.2.2.1 x.2.1.2.2.2.2.1) laws fnok (E47_ok n).tab (AllF.of (l := []) (by kernel_rfl) AllF.nil) (fun _ _ _ => rfl) (fun R k y K => F5_1_eq n R (fun (x : SSh.den G F5_1s) => F5_1_it n (fun u0 => K .ret (SSh.enc G F5_1x0 ((u0, ()), ()))) (fun u0 u1 u2 u3 u4 u5 => K (.exit 2) (SSh.enc G F5_1x1 ((u0, ((), ())), ((u1, (u2, (u3, (u4, (u5, ()))))), ())))) k x.1.1 x.1.2.1 x.1.2.2.2.1 x.2.1.1 x.2.1.2.1 x.2.1.2.2.1 x.2.1.2.2.2.1 x.2.1.2.2.2.2.1) y K) n
noncomputable def F5 (n : Nat) (a1770 : List Int) : Option (Bool × Unit) :=
  (bif (decide (((a1770.length) : Int) > (1048576 : Int))) then
  some (true, ())
  else (andThen (F16 n a1770) fun r1773 =>
  (andThen (F17 n r1773.1.1 r1773.1.2.1) fun r1774 =>
  (andThen (F19 n r1773.1.1 r1773.1.2.1) fun r1775 =>
  (andThen (F18 n r1774.1.1 r1774.1.2.1 r1774.1.2.2.1 r1774.1.2.2.2.1 r1774.1.2.2.2.2.1 r1775.1.1 r1775.1.2.1 r1775.1.2.2.1 r1775.1.2.2.2.1 r1775.1.2.2.2.2.1) fun r1776 =>
  (bif (!r1776.1) then
  some (r1776.1, ())
  else (bif (((r1774.1.2.2.2.2.1.length) : Int) == (0 : Int)) then
  some (r1776.1, ())
  else (F5_0 n r1773.1.1 r1773.1.2.1 (0 : Int) r1774.1.1 r1774.1.2.1 r1774.1.2.2.1 r1774.1.2.2.2.1 r1774.1.2.2.2.2.1 (fun z1819 =>
  some (z1819, ())) (fun z1820 z1821 z1822 z1823 z1824 z1825 z1826 =>
  (F5_1 n z1820 z1821 (0 : Int) z1822 z1823 z1824 z1825 z1826 (fun z1853 =>
  some (z1853, ())) (fun z1854 z1855 z1856 z1857 z1858 z1859 =>
  some ((((z1859.length) : Int) == ((z1854.length) : Int)), ()))))))))))))
noncomputable def F5e (n : Nat) : Ent G := ⟨5, (.cons (.imm 4) .nil), [], .bool, [], fun x y => F5 n x.1⟩
theorem F5_eq (n : Nat) (x : ShL.den G (.cons (.imm 4) .nil)) (y : denO G []) : (F5e n).F x y = runFn prog G (ro G (tabOf (E47 n)) (frOf [F5_0z n, F5_1z n]) _) Go.Proofs.Try.f5 (.nd .no (.nd .no (.nd .no (.nd .no (.nd .no (.nd .no (.nd .no (.nd (.nd .no (.nd (.use 0) .no)) (.nd (.nd .no (.nd (.use 1) .no)) .no))))))))) [(0, .fz)] (ShL.enc G (.cons (.imm 4) .nil) x) (encO G [] y) (decR .bool []) := by kernel_rfl
theorem F5_ok (n : Nat) : EntOK prog G (F5e n) :=
  ent_ok (fr := frOf [F5_0z n, F5_1z n]) (ann := (.nd .no (.nd .no (.nd .no (.nd .no (.nd .no (.nd .no (.nd .no (.nd (.nd .no (.nd (.use 0) .no)) (.nd (.nd .no (.nd (.use 1) .no)) .no)))))))))) (frm := [(0, .fz)]) laws fnok (E47_ok n).tab (e := F5e n) (fn := Go.Proofs.Try.f5) (by kernel_rfl) (AllF.ofB (cd := F5c) (l := [(0, codeAt F5c [1, 1, 1, 1, 1, 1, 1, 0, 1, 0]), (1, codeAt F5c [1, 1, 1, 1, 1, 1, 1, 1, 0, 1, 0])]) (by kernel_rfl) (by kernel_rfl) (AllF.cons (F5_0_ok n) (AllF.cons (F5_1_ok n) AllF.nil))) (F5_eq n)
noncomputable def E48 (n : Nat) : List (Ent G) := F5e n :: E47 n
theorem E48_ok (n : Nat) : AllE prog G (E48 n) := AllE.cons (F5_ok n) (E47_ok n)
-- 6 loop.example/slowworm/laws.FnImportOrder
noncomputable def F6c : Code := bodyOf Go.Proofs.Try.f6
-- 22 loop.example/slowworm/impl.ImportCircle
noncomputable def F22c : Code := bodyOf Go.Proofs.Try.f22
-- 33 loop.example/slowworm/impl.importsOf
noncomputable def F33c : Code := bodyOf Go.Proofs.Try.f33
noncomputable def F33_0x0 : SSh := ⟨47, [(3, (.ref 0 0)), (4, (.int .i64)), (11, (.imm 5)), (12, (.int .i64)), (13, (.int .i64)), (19, (.imm 3)), (20, (.int .i64)), (21, (.int .i64))], [(.usr 2)]⟩
noncomputable def F33_0s : SSh := ⟨47, [(3, (.ref 0 0)), (4, (.int .i64)), (11, (.imm 5)), (12, (.int .i64)), (13, (.int .i64)), (19, (.imm 3)), (20, (.int .i64)), (21, (.int .i64))], [(.usr 2)]⟩
noncomputable def F33_0 {R : Type} (n : Nat) (x1919 : Int) (x1920 : List (List Stp)) (x1921 : Int) (x1922 : Int) (x1923 : List Stp) (x1924 : Int) (x1925 : Int) (x1926 : (Nat × (List (List Int)))) (k0 : Int → List (List Stp) → Int → Int → List Stp → Int → Int → (Nat × (List (List Int))) → Option R) : Option R :=
  (bif (decide ((0 : Int) ≤ x1925)) then
  (bif (decide (x1925 < ((x1923.length) : Int))) then
  let v1927 := (x1923.getD (x1925.toNat) (Stp.mk (0 : Int) (0 : Int) ({ data := #[] } : ByteArray)))
  let v1928 := v1927.kind
  let v1929 := v1927.num
  (bif (v1928 == (1 : Int)) then
  (bif (decide ((0 : Int) ≤ x1919)) then
  (bif (decide (x1919 < ((x1926.2.length) : Int))) then
  let v1932 := (x1919.toNat)
  let v1934 := (v1929 :: [])
  (bif (decide (x1926.1 = x1926.1)) then
  (bif (decide ((((x1926.2.getD v1932 []).length) + (v1934.length)) ≤ (68719476736 : Nat))) then
  let v1935 := ((x1926.1 + (1 : Nat)), (x1926.2, v1932))
  (bif (decide ((0 : Int) ≤ x1919)) then
  (bif (decide (x1919 < ((v1935.2.1.length) : Int))) then
  let v1937 := (x1919.toNat)
  (bif (decide (v1935.2.2 = v1937)) then
  (k0 x1919 x1920 x1921 x1922 x1923 x1924 x1925 ((v1935.1 + (1 : Nat)), (v1935.2.1.set v1937 ((x1926.2.getD v1932 []) ++ v1934))))
  else none)
  else none)
  else none)
  else none)
  else none)
  else none)
  else none)
  else (bif (v1928 == (2 : Int)) then
  (bif (decide ((0 : Int) ≤ x1919)) then
  (bif (decide (x1919 < ((x1926.2.length) : Int))) then
  let v1940 := (x1919.toNat)
  let v1942 := (v1929 :: [])
  (bif (decide (x1926.1 = x1926.1)) then
  (bif (decide ((((x1926.2.getD v1940 []).length) + (v1942.length)) ≤ (68719476736 : Nat))) then
  let v1943 := ((x1926.1 + (1 : Nat)), (x1926.2, v1940))
  (bif (decide ((0 : Int) ≤ x1919)) then
  (bif (decide (x1919 < ((v1943.2.1.length) : Int))) then
  let v1945 := (x1919.toNat)
  (bif (decide (v1943.2.2 = v1945)) then
  (k0 x1919 x1920 x1921 x1922 x1923 x1924 x1925 ((v1943.1 + (1 : Nat)), (v1943.2.1.set v1945 ((x1926.2.getD v1940 []) ++ v1942))))
  else none)
  else none)
  else none)
  else none)
  else none)
  else none)
  else none)
  else (k0 x1919 x1920 x1921 x1922 x1923 x1924 x1925 x1926)))
  else none)
  else none)
noncomputable def F33_0z (n : Nat) : Sm G := inZ G 0 ⟨[3, 4, 11, 12, 13, 19, 20, 21], []⟩ F33_0s fun R x K => F33_0 n x.1.2.1 x.1.2.2.1 x.1.2.2.2.1 x.1.2.2.2.2.1 x.1.2.2.2.2.2.1 x.1.2.2.2.2.2.2.1 x.1.2.2.2.2.2.2.2.1 x.2.1 (fun u0 u1 u2 u3 u4 u5 u6 u7 => K .normal (SSh.enc G F33_0x0 (((), (u0, (u1, (u2, (u3, (u4, (u5, (u6, ())))))))), (u7, ()))))
theorem F33_0_eq (n : Nat) (R : Type) (x : SSh.den G F33_0s) (K : AE → St G → Option R) :
  F33_0 n x.1.2.1 x.1.2.2.1 x.1.2.2.2.1 x.1.2.2.2.2.1 x.1.2.2.2.2.2.1 x.1.2.2.2.2.2.2.1 x.1.2.2.2.2.2.2.2.1 x.2.1 (fun u0 u1 u2 u3 u4 u5 u6 u7 => K .normal (SSh.enc G F33_0x0 (((), (u0, (u1, (u2, (u3, (u4, (u5, (u6, ())))))))), (u7, ())))) = exec prog G (ro G (tabOf (E48 n)) (frOf []) R) 0 (codeAt F33c [1, 1, 0, 1, 0, 0, 1, 1, 0, 0, 1, 1, 0, 0, 1, 1, 0]) .no (SSh.enc G F33_0s x) (kNrm G (ro G (tabOf (E48 n)) (frOf []) R) 0 ⟨⟨[3, 4, 11, 12, 13, 19, 20, 21], []⟩, ⟨[2], []⟩, [(2, ⟨[3, 11, 12, 13], []⟩), (1, ⟨[3, 11, 12, 13], []⟩), (0, ⟨[3], []⟩)]⟩ K) := by kernel_rfl
theorem F33_0_ok (n : Nat) : FragOK prog G 0 (codeAt F33c [1, 1, 0, 1, 0, 0, 1, 1, 0, 0, 1, 1, 0, 0, 1, 1, 0]) (F33_0z n) :=
  frag_plain laws fnok (E48_ok n).tab (AllF.of (l := []) (by kernel_rfl) AllF.nil) (F33_0_eq n)
noncomputable def F33_1x0 : SSh := ⟨47, [(3, (.ref 0 0)), (11, (.imm 5)), (12, (.int .i64)), (13, (.int .i64))], [(.usr 2)]⟩
noncomputable def F33_1s : SSh := ⟨47, [(3, (.ref 0 0)), (4, (.int .i64)), (11, (.imm 5)), (12, (.int .i64)), (13, (.int .i64)), (19, (.imm 3)), (20, (.int .i64)), (21, (.int .i64))], [(.usr 2)]⟩
noncomputable def F33_1_step {R : Type} (n : Nat) (k0 : List (List Stp) → Int → Int → (Nat × (List (List Int))) → Option R) (rec : Int → List (List Stp) → Int → Int → List Stp → Int → Int → (Nat × (List (List Int))) → Option R) (x1910 : Int) (x1911 : List (List Stp)) (x1912 : Int) (x1913 : Int) (x1914 : List Stp) (x1915 : Int) (x1916 : Int) (x1917 : (Nat × (List (List Int)))) : Option R :=
  (bif (decide (x1916 < x1915)) then
  (F33_0 n x1910 x1911 x1912 x1913 x1914 x1915 x1916 x1917 (fun z1947 z1948 z1949 z1950 z1951 z1952 z1953 z1954 =>
  (rec z1947 z1948 z1949 z1950 z1951 z1952 (IntKind.wrap .i64 (z1953 + (1 : Int))) z1954)))
  else (k0 x1911 x1912 x1913 x1917))
noncomputable def F33_1_it {R : Type} (n : Nat) (k0 : List (List Stp) → Int → Int → (Nat × (List (List Int))) → Option R) : Nat → Int → List (List Stp) → Int → Int → List Stp → Int → Int → (Nat × (List (List Int))) → Option R
  | 0, _, _, _, _, _, _, _, _ => none
  | k + 1, x1910, x1911, x1912, x1913, x1914, x1915, x1916, x1917 => F33_1_step n k0 (F33_1_it n k0 k) x1910 x1911 x1912 x1913 x1914 x1915 x1916 x1917
noncomputable def F33_1 {R : Type} (n : Nat) (x1910 : Int) (x1911 : List (List Stp)) (x1912 : Int) (x1913 : Int) (x1914 : List Stp) (x1915 : Int) (x1916 : Int) (x1917 : (Nat × (List (List Int)))) (k0 : List (List Stp) → Int → Int → (Nat × (List (List Int))) → Option R) : Option R := F33_1_it n k0 n x1910 x1911 x1912 x1913 x1914 x1915 x1916 x1917
noncomputable def F33_1z (n : Nat) : Sm G := inZ G 0 ⟨[3, 4, 11, 12, 13, 19, 20, 21], []⟩ F33_1s fun R x K => F33_1_it n (fun u0 u1 u2 u3 => K (.exit 2) (SSh.enc G F33_1x0 (((), (u0, (u1, (u2, ())))), (u3, ())))) n x.1.2.1 x.1.2.2.1 x.1.2.2.2.1 x.1.2.2.2.2.1 x.1.2.2.2.2.2.1 x.1.2.2.2.2.2.2.1 x.1.2.2.2.2.2.2.2.1 x.2.1
theorem F33_1_eq (n : Nat) (R : Type) (rec : SSh.den G F33_1s → Option R) (x : SSh.den G F33_1s) (K : AE → St G → Option R) :
  F33_1_step n (fun u0 u1 u2 u3 => K (.exit 2) (SSh.enc G F33_1x0 (((), (u0, (u1, (u2, ())))), (u3, ())))) (fun x1910 x1911 x1912 x1913 x1914 x1915 x1916 x1917 => rec (((), (x1910, (x1911, (x1912, (x1913, (x1914, (x1915, (x1916, ())))))))), (x1917, ()))) x.1.2.1 x.1.2.2.1 x.1.2.2.2.1 x.1.2.2.2.2.1 x.1.2.2.2.2.2.1 x.1.2.2.2.2.2.2.1 x.1.2.2.2.2.2.2.2.1 x.2.1 = exec prog G (ro G (tabOf (E48 n)) (frOf [F33_0z n]) R) 0 (codeAt F33c [1, 1, 0, 1, 0, 0, 1, 1, 0, 0, 1, 1, 0, 0]) (.nd .no (.nd .no (.nd (.use 0) .no))) (SSh.enc G F33_1s x) (kLoop G (ro G (tabOf (E48 n)) (frOf [F33_0z n]) R) 0 ⟨[3, 4, 11, 12, 13, 19, 20, 21], []⟩ F33_1s ⟨⟨[3, 11, 12, 13], []⟩, ⟨[2], []⟩, [(2, ⟨[3, 11, 12, 13], []⟩), (1, ⟨[3, 11, 12, 13], []⟩), (0, ⟨[3], []⟩)]⟩ rec K) := by kernel_rfl
theorem F33_1_ok (n : Nat) : FragOK prog G 0 (codeAt F33c [1, 1, 0, 1, 0, 0, 1, 1, 0, 0, 1, 1, 0]) (F33_1z n) :=
  frag_loop (Z := fun R k (x : SSh.den G F33_1s) K => F33_1_it n (fun u0 u1 u2 u3 => K (.exit 2) (SSh.enc G F33_1x0 (((), (u0, (u1, (u2, ())))), (u3, ())))) k x.1.2.1 x.1.2.2.1 x.1.2.2.2.1 x.1.2.2.2.2.1 x.1.2.2.2.2.2.1 x.1.2.2.2.2.2.2.1 x.1.2.2.2.2.2.2.2.1 x.2.1) laws fnok (E48_ok n).tab (AllF.of (l := [(0, codeAt F33c [1, 1, 0, 1, 0, 0, 1, 1, 0, 0, 1, 1, 0, 0, 1, 1, 0])]) (by kernel_rfl) (AllF.cons (F33_0_ok n) AllF.nil)) (fun _ _ _ => rfl) (fun R k y K => F33_1_eq n R (fun (x : SSh.den G F33_1s) => F33_1_it n (fun u0 u1 u2 u3 => K (.exit 2) (SSh.enc G F33_1x0 (((), (u0, (u1, (u2, ())))), (u3, ())))) k x.1.2.1 x.1.2.2.1 x.1.2.2.2.1 x.1.2.2.2.2.1 x.1.2.2.2.2.2.1 x.1.2.2.2.2.2.2.1 x.1.2.2.2.2.2.2.2.1 x.2.1) y K) n
noncomputable def F33_2x0 : SSh := ⟨47, [(3, (.ref 0 0))], [(.usr 2)]⟩
noncomputable def F33_2s : SSh := ⟨47, [(3, (.ref 0 0)), (11, (.imm 5)), (12, (.int .i64)), (13, (.int .i64))], [(.usr 2)]⟩
noncomputable def F33_2_step {R : Type} (n : Nat) (k0 : (Nat × (List (List Int))) → Option R) (rec : List (List Stp) → Int → Int → (Nat × (List (List Int))) → Option R) (x1902 : List (List Stp)) (x1903 : Int) (x1904 : Int) (x1905 : (Nat × (List (List Int)))) : Option R :=
  (bif (decide (x1904 < x1903)) then
  (bif (decide ((0 : Int) ≤ x1904)) then
  (bif (decide (x1904 < ((x1902.length) : Int))) then
  let v1908 := (x1902.getD (x1904.toNat) [])
  (F33_1 n x1904 x1902 x1903 x1904 v1908 ((v1908.length) : Int) (0 : Int) x1905 (fun z1956 z1957 z1958 z1959 =>
  (rec z1956 z1957 (IntKind.wrap .i64 (z1958 + (1 : Int))) z1959)))
  else none)
  else none)
  else (k0 x1905))
noncomputable def F33_2_it {R : Type} (n : Nat) (k0 : (Nat × (List (List Int))) → Option R) : Nat → List (List Stp) → Int → Int → (Nat × (List (List Int))) → Option R
  | 0, _, _, _, _ => none
  | k + 1, x1902, x1903, x1904, x1905 => F33_2_step n k0 (F33_2_it n k0 k) x1902 x1903 x1904 x1905
noncomputable def F33_2 {R : Type} (n : Nat) (x1902 : List (List Stp)) (x1903 : Int) (x1904 : Int) (x1905 : (Nat × (List (List Int)))) (k0 : (Nat × (List (List Int))) → Option R) : Option R := F33_2_it n k0 n x1902 x1903 x1904 x1905
noncomputable def F33_2z (n : Nat) : Sm G := inZ G 0 ⟨[3, 11, 12, 13], []⟩ F33_2s fun R x K => F33_2_it n (fun u0 => K (.exit 0) (SSh.enc G F33_2x0 (((), ()), (u0, ())))) n x.1.2.1 x.1.2.2.1 x.1.2.2.2.1 x.2.1
theorem F33_2_eq (n : Nat) (R : Type) (rec : SSh.den G F33_2s → Option R) (x : SSh.den G F33_2s) (K : AE → St G → Option R) :
  F33_2_step n (fun u0 => K (.exit 0) (SSh.enc G F33_2x0 (((), ()), (u0, ())))) (fun x1902 x1903 x1904 x1905 => rec (((), (x1902, (x1903, (x1904, ())))), (x1905, ()))) x.1.2.1 x.1.2.2.1 x.1.2.2.2.1 x.2.1 = exec prog G (ro G (tabOf (E48 n)) (frOf [F33_0z n, F33_1z n]) R) 0 (codeAt F33c [1, 1, 0, 1, 0, 0]) (.nd .no (.nd .no (.nd (.nd (.nd .no (.nd .no (.nd (.use 1) .no))) .no) .no))) (SSh.enc G F33_2s x) (kLoop G (ro G (tabOf (E48 n)) (frOf [F33_0z n, F33_1z n]) R) 0 ⟨[3, 11, 12, 13], []⟩ F33_2s ⟨⟨[3], []⟩, ⟨[2], []⟩, [(0, ⟨[3], []⟩)]⟩ rec K) := by kernel_rfl
theorem F33_2_ok (n : Nat) : FragOK prog G 0 (codeAt F33c [1, 1, 0, 1, 0]) (F33_2z n) :=
  frag_loop (Z := fun R k (x : SSh.den G F33_2s) K => F33_2_it n (fun u0 => K (.exit 0) (SSh.enc G F33_2x0 (((), ()), (u0, ())))) k x.1.2.1 x.1.2.2.1 x.1.2.2.2.1 x.2.1) laws fnok (E48_ok n).tab (AllF.of (l := [(1, codeAt F33c [1, 1, 0, 1, 0, 0, 1, 1, 0, 0, 1, 1, 0])]) (by kernel_rfl) (AllF.cons (F33_1_ok n) AllF.nil)) (fun _ _ _ => rfl) (fun R k y K => F33_2_eq n R (fun (x : SSh.den G F33_2s) => F33_2_it n (fun u0 => K (.exit 0) (SSh.enc G F33_2x0 (((), ()), (u0, ())))) k x.1.2.1 x.1.2.2.1 x.1.2.2.2.1 x.2.1) y K) n
noncomputable def F33 (n : Nat) (a1898 : List (List Stp)) : Option (List (List Int) × Unit) :=
  let v1899 := ((a1898.length) : Int)
  (bif (decide ((0 : Int) ≤ v1899)) then
  (bif (decide (v1899 ≤ v1899)) then
  (bif (decide (v1899 ≤ ((68719476736 : Nat) : Int))) then
  (F33_2 n a1898 ((a1898.length) : Int) (0 : Int) ((0 : Nat), (List.replicate (v1899.toNat) [])) (fun z1961 =>
  some (z1961.2, ())))
  else none)
  else none)
  else none)
noncomputable def F33e (n : Nat) : Ent G := ⟨33, (.cons (.imm 5) .nil), [], (.imm 2), [], fun x y => F33 n x.1⟩
theorem F33_eq (n : Nat) (x : ShL.den G (.cons (.imm 5) .nil)) (y : denO G []) : (F33e n).F x y = runFn prog G (ro G (tabOf (E48 n)) (frOf [F33_0z n, F33_1z n, F33_2z n]) _) Go.Proofs.Try.f33 (.nd .no (.nd .no (.nd (.nd .no (.nd (.use 2) .no)) .no))) [(0, .fz)] (ShL.enc G (.cons (.imm 5) .nil) x) (encO G [] y) (decR (.imm 2) []) := by kernel_rfl
theorem F33_ok (n : Nat) : EntOK prog G (F33e n) :=
  ent_ok (fr := frOf [F33_0z n, F33_1z n, F33_2z n]) (ann := (.nd .no (.nd .no (.nd (.nd .no (.nd (.use 2) .no)) .no)))) (frm := [(0, .fz)]) laws fnok (E48_ok n).tab (e := F33e n) (fn := Go.Proofs.Try.f33) (by kernel_rfl) (AllF.ofB (cd := F33c) (l := [(2, codeAt F33c [1, 1, 0, 1, 0])]) (by kernel_rfl) (by kernel_rfl) (AllF.cons (F33_2_ok n) AllF.nil)) (F33_eq n)
noncomputable def E49 (n : Nat) : List (Ent G) := F33e n :: E48 n
theorem E49_ok (n : Nat) : AllE prog G (E49 n) := AllE.cons (F33_ok n) (E48_ok n)
-- 51 slices.Clone[[]int,int]
noncomputable def F51c : Code := bodyOf Go.Proofs.Try.f51
noncomputable def F51 (n : Nat) (a1969 : List Int) : Option (Unit × (List Int × Unit)) :=
  (bif (decide ((a1969.length) ≤ (0 : Nat))) then
  (both
  (some ((), ([], ())))
  (let v1971 := []
  (bif (decide (((v1971.length) + (a1969.length)) ≤ (68719476736 : Nat))) then
  some ((), ((v1971 ++ a1969), ()))
  else none)))
  else let v1973 := []
  (bif (decide (((v1973.length) + (a1969.length)) ≤ (68719476736 : Nat))) then
  some ((), ((v1973 ++ a1969), ()))
  else none))
noncomputable def F51e (n : Nat) : Ent G := ⟨51, (.cons (.imm 0) .nil), [], (.own 0), [(.arr 0 true)], fun x y => F51 n x.1⟩
theorem F51_eq (n : Nat) (x : ShL.den G (.cons (.imm 0) .nil)) (y : denO G []) : (F51e n).F x y = runFn prog G (ro G (tabOf (E49 n)) (frOf []) _) Go.Proofs.Try.f51 .no [(0, (.own 0))] (ShL.enc G (.cons (.imm 0) .nil) x) (encO G [] y) (decR (.own 0) [(.arr 0 true)]) := by kernel_rfl
theorem F51_ok (n : Nat) : EntOK prog G (F51e n) :=
  ent_ok (fr := frOf []) (ann := .no) (frm := [(0, (.own 0))]) laws fnok (E49_ok n).tab (e := F51e n) (fn := Go.Proofs.Try.f51) (by kernel_rfl) (AllF.ofB (cd := F51c) (l := []) (by kernel_rfl) (by kernel_rfl) AllF.nil) (F51_eq n)
noncomputable def E50 (n : Nat) : List (Ent G) := F51e n :: E49 n
theorem E50_ok (n : Nat) : AllE prog G (E50 n) := AllE.cons (F51_ok n) (E49_ok n)
-- 32 loop.example/slowworm/impl.reached
noncomputable def F32c : Code := bodyOf Go.Proofs.Try.f32
noncomputable def F32_0x0 : SSh := ⟨42, [(5, (.own 0))], [(.arr 1 true)]⟩
noncomputable def F32_0s : SSh := ⟨42, [(0, (.imm 2)), (5, (.own 0)), (6, (.own 1))], [(.arr 1 true), (.arr 0 true)]⟩
noncomputable def F32_0_step {R : Type} (n : Nat) (k0 : List Bool → Option R) (rec : List (List Int) → List Bool → List Int → Option R) (x2001 : List (List Int)) (x2002 : List Bool) (x2003 : List Int) : Option R :=
  (bif (decide (((x2003.length) : Int) > (0 : Int))) then
  let v2007 := (IntKind.wrap .i64 (((x2003.length) : Int) - (1 : Int)))
  (bif (decide ((0 : Int) ≤ v2007)) then
  (bif (decide (v2007 < ((x2003.length) : Int))) then
  let v2009 := (x2003.getD (v2007.toNat) (0 : Int))
  let v2011 := (IntKind.wrap .i64 (((x2003.length) : Int) - (1 : Int)))
  (bif (decide ((0 : Int) ≤ v2011)) then
  (bif (decide (v2011 ≤ ((x2003.length) : Int))) then
  let v2012 := (v2011.toNat)
  (bif (decide ((0 : Int) ≤ v2009)) then
  (bif (decide (v2009 < ((x2002.length) : Int))) then
  (bif (!(x2002.getD (v2009.toNat) false)) then
  (bif (decide ((0 : Int) ≤ v2009)) then
  (bif (decide (v2009 < ((x2002.length) : Int))) then
  (bif (decide ((0 : Int) ≤ v2009)) then
  (bif (decide (v2009 < ((x2001.length) : Int))) then
  let v2019 := (x2001.getD (v2009.toNat) [])
  (bif (decide ((((x2003.take v2012).length) + (v2019.length)) ≤ (68719476736 : Nat))) then
  (rec x2001 (x2002.set (v2009.toNat) true) ((x2003.take v2012) ++ v2019))
  else none)
  else none)
  else none)
  else none)
  else none)
  else (rec x2001 x2002 (x2003.take v2012)))
  else none)
  else none)
  else none)
  else none)
  else none)
  else none)
  else (k0 x2002))
noncomputable def F32_0_it {R : Type} (n : Nat) (k0 : List Bool → Option R) : Nat → List (List Int) → List Bool → List Int → Option R
  | 0, _, _, _ => none
  | k + 1, x2001, x2002, x2003 => F32_0_step n k0 (F32_0_it n k0 k) x2001 x2002 x2003
noncomputable def F32_0 {R : Type} (n : Nat) (x2001 : List (List Int)) (x2002 : List Bool) (x2003 : List Int) (k0 : List Bool → Option R) : Option R := F32_0_it n k0 n x2001 x2002 x2003
noncomputable def F32_0z (n : Nat) : Sm G := inZ G 0 ⟨[0, 5, 6], [(6, (.mv 0))]⟩ F32_0s fun R x K => F32_0_it n (fun u0 => K (.exit 0) (SSh.enc G F32_0x0 (((), ()), (u0, ())))) n x.1.1 x.2.1 x.2.2.1
theorem F32_0_eq (n : Nat) (R : Type) (rec : SSh.den G F32_0s → Option R) (x : SSh.den G F32_0s) (K : AE → St G → Option R) :
  F32_0_step n (fun u0 => K (.exit 0) (SSh.enc G F32_0x0 (((), ()), (u0, ())))) (fun x2001 x2002 x2003 => rec ((x2001, ((), ((), ()))), (x2002, (x2003, ())))) x.1.1 x.2.1 x.2.2.1 = exec prog G (ro G (tabOf (E50 n)) (frOf []) R) 0 (codeAt F32c [1, 1, 1, 0, 0, 0]) .no (SSh.enc G F32_0s x) (kLoop G (ro G (tabOf (E50 n)) (frOf []) R) 0 ⟨[0, 5, 6], [(6, (.mv 0))]⟩ F32_0s ⟨⟨[5], []⟩, ⟨[4], []⟩, [(0, ⟨[5], []⟩)]⟩ rec K) := by kernel_rfl
theorem F32_0_ok (n : Nat) : FragOK prog G 0 (codeAt F32c [1, 1, 1, 0, 0]) (F32_0z n) :=
  frag_loop (Z := fun R k (x : SSh.den G F32_0s) K => F32_0_it n (fun u0 => K (.exit 0) (SSh.enc G F32_0x0 (((), ()), (u0, ())))) k x.1.1 x.2.1 x.2.2.1) laws fnok (E50_ok n).tab (AllF.of (l := []) (by kernel_rfl) AllF.nil) (fun _ _ _ => rfl) (fun R k y K => F32_0_eq n R (fun (x : SSh.den G F32_0s) => F32_0_it n (fun u0 => K (.exit 0) (SSh.enc G F32_0x0 (((), ()), (u0, ())))) k x.1.1 x.2.1 x.2.2.1) y K) n
noncomputable def F32 (n : Nat) (a1996 : List (List Int)) (a1997 : List Int) : Option (Unit × (List Bool × Unit)) :=
  let v1998 := ((a1996.length) : Int)
  (bif (decide ((0 : Int) ≤ v1998)) then
  (bif (decide (v1998 ≤ v1998)) then
  (bif (decide (v1998 ≤ ((68719476736 : Nat) : Int))) then
  (andThen (F51 n a1997) fun r2000 =>
  (F32_0 n a1996 (List.replicate (v1998.toNat) false) r2000.2.1 (fun z2022 =>
  some ((), (z2022, ())))))
  else none)
  else none)
  else none)
noncomputable def F32e (n : Nat) : Ent G := ⟨32, (.cons (.imm 2) (.cons (.imm 0) .nil)), [], (.own 0), [(.arr 1 true)], fun x y => F32 n x.1 x.2.1⟩
theorem F32_eq (n : Nat) (x : ShL.den G (.cons (.imm 2) (.cons (.imm 0) .nil))) (y : denO G []) : (F32e n).F x y = runFn prog G (ro G (tabOf (E50 n)) (frOf [F32_0z n]) _) Go.Proofs.Try.f32 (.nd .no (.nd .no (.nd .no (.nd (.nd (.use 0) .no) .no)))) [(0, (.own 1))] (ShL.enc G (.cons (.imm 2) (.cons (.imm 0) .nil)) x) (encO G [] y) (decR (.own 0) [(.arr 1 true)]) := by kernel_rfl
theorem F32_ok (n : Nat) : EntOK prog G (F32e n) :=
  ent_ok (fr := frOf [F32_0z n]) (ann := (.nd .no (.nd .no (.nd .no (.nd (.nd (.use 0) .no) .no))))) (frm := [(0, (.own 1))]) laws fnok (E50_ok n).tab (e := F32e n) (fn := Go.Proofs.Try.f32) (by kernel_rfl) (AllF.ofB (cd := F32c) (l := [(0, codeAt F32c [1, 1, 1, 0, 0])]) (by kernel_rfl) (by kernel_rfl) (AllF.cons (F32_0_ok n) AllF.nil)) (F32_eq n)
noncomputable def E51 (n : Nat) : List (Ent G) := F32e n :: E50 n
theorem E51_ok (n : Nat) : AllE prog G (E51 n) := AllE.cons (F32_ok n) (E50_ok n)
-- 31 loop.example/slowworm/impl.marked
noncomputable def F31c : Code := bodyOf Go.Proofs.Try.f31
noncomputable def F31_0x0 : SSh := ⟨24, [(1, .bool), (5, (.own 0)), (8, (.imm 1)), (9, (.int .i64)), (10, (.int .i64))], [(.arr 0 true)]⟩
noncomputable def F31_0s : SSh := ⟨24, [(1, .bool), (5, (.own 0)), (8, (.imm 1)), (9, (.int .i64)), (10, (.int .i64))], [(.arr 0 true)]⟩
noncomputable def F31_0 {R : Type} (n : Nat) (x2056 : Bool) (x2057 : List Bool) (x2058 : Int) (x2059 : Int) (x2060 : List Int) (k0 : Bool → List Bool → Int → Int → List Int → Option R) : Option R :=
  (bif (decide ((0 : Int) ≤ x2059)) then
  (bif (decide (x2059 < ((x2057.length) : Int))) then
  (bif ((x2057.getD (x2059.toNat) false) == x2056) then
  let v2064 := (x2059 :: [])
  (bif (decide (((x2060.length) + (v2064.length)) ≤ (68719476736 : Nat))) then
  (k0 x2056 x2057 x2058 x2059 (x2060 ++ v2064))
  else none)
  else (k0 x2056 x2057 x2058 x2059 x2060))
  else none)
  else none)
noncomputable def F31_0z (n : Nat) : Sm G := inZ G 0 ⟨[1, 5, 8, 9, 10], []⟩ F31_0s fun R x K => F31_0 n x.1.1 x.1.2.2.1 x.1.2.2.2.1 x.1.2.2.2.2.1 x.2.1 (fun u0 u1 u2 u3 u4 => K .normal (SSh.enc G F31_0x0 ((u0, ((), (u1, (u2, (u3, ()))))), (u4, ()))))
theorem F31_0_eq (n : Nat) (R : Type) (x : SSh.den G F31_0s) (K : AE → St G → Option R) :
  F31_0 n x.1.1 x.1.2.2.1 x.1.2.2.2.1 x.1.2.2.2.2.1 x.2.1 (fun u0 u1 u2 u3 u4 => K .normal (SSh.enc G F31_0x0 ((u0, ((), (u1, (u2, (u3, ()))))), (u4, ())))) = exec prog G (ro G (tabOf (E51 n)) (frOf []) R) 0 (codeAt F31c [1, 1, 0, 1, 0, 0, 1, 1, 0]) .no (SSh.enc G F31_0s x) (kNrm G (ro G (tabOf (E51 n)) (frOf []) R) 0 ⟨⟨[1, 5, 8, 9, 10], []⟩, ⟨[4], []⟩, [(0, ⟨[5], []⟩)]⟩ K) := by kernel_rfl
theorem F31_0_ok (n : Nat) : FragOK prog G 0 (codeAt F31c [1, 1, 0, 1, 0, 0, 1, 1, 0]) (F31_0z n) :=
  frag_plain laws fnok (E51_ok n).tab (AllF.of (l := []) (by kernel_rfl) AllF.nil) (F31_0_eq n)
noncomputable def F31_1x0 : SSh := ⟨24, [(5, (.own 0))], [(.arr 0 true)]⟩
noncomputable def F31_1s : SSh := ⟨24, [(1, .bool), (5, (.own 0)), (8, (.imm 1)), (9, (.int .i64)), (10, (.int .i64))], [(.arr 0 true)]⟩
noncomputable def F31_1_step {R : Type} (n : Nat) (k0 : List Int → Option R) (rec : Bool → List Bool → Int → Int → List Int → Option R) (x2050 : Bool) (x2051 : List Bool) (x2052 : Int) (x2053 : Int) (x2054 : List Int) : Option R :=
  (bif (decide (x2053 < x2052)) then
  (F31_0 n x2050 x2051 x2052 x2053 x2054 (fun z2066 z2067 z2068 z2069 z2070 =>
  (rec z2066 z2067 z2068 (IntKind.wrap .i64 (z2069 + (1 : Int))) z2070)))
  else (k0 x2054))
noncomputable def F31_1_it {R : Type} (n : Nat) (k0 : List Int → Option R) : Nat → Bool → List Bool → Int → Int → List Int → Option R
  | 0, _, _, _, _, _ => none
  | k + 1, x2050, x2051, x2052, x2053, x2054 => F31_1_step n k0 (F31_1_it n k0 k) x2050 x2051 x2052 x2053 x2054
noncomputable def F31_1 {R : Type} (n : Nat) (x2050 : Bool) (x2051 : List Bool) (x2052 : Int) (x2053 : Int) (x2054 : List Int) (k0 : List Int → Option R) : Option R := F31_1_it n k0 n x2050 x2051 x2052 x2053 x2054
noncomputable def F31_1z (n : Nat) : Sm G := inZ G 0 ⟨[1, 5, 8, 9, 10], [(5, (.own 0))]⟩ F31_1s fun R x K => F31_1_it n (fun u0 => K (.exit 0) (SSh.enc G F31_1x0 (((), ()), (u0, ())))) n x.1.1 x.1.2.2.1 x.1.2.2.2.1 x.1.2.2.2.2.1 x.2.1
theorem F31_1_eq (n : Nat) (R : Type) (rec : SSh.den G F31_1s → Option R) (x : SSh.den G F31_1s) (K : AE → St G → Option R) :
  F31_1_step n (fun u0 => K (.exit 0) (SSh.enc G F31_1x0 (((), ()), (u0, ())))) (fun x2050 x2051 x2052 x2053 x2054 => rec ((x2050, ((), (x2051, (x2052, (x2053, ()))))), (x2054, ()))) x.1.1 x.1.2.2.1 x.1.2.2.2.1 x.1.2.2.2.2.1 x.2.1 = exec prog G (ro G (tabOf (E51 n)) (frOf [F31_0z n]) R) 0 (codeAt F31c [1, 1, 0, 1, 0, 0]) (.nd .no (.nd .no (.nd (.use 0) .no))) (SSh.enc G F31_1s x) (kLoop G (ro G (tabOf (E51 n)) (frOf [F31_0z n]) R) 0 ⟨[1, 5, 8, 9, 10], [(5, (.own 0))]⟩ F31_1s ⟨⟨[5], []⟩, ⟨[4], []⟩, [(0, ⟨[5], []⟩)]⟩ rec K) := by kernel_rfl
theorem F31_1_ok (n : Nat) : FragOK prog G 0 (codeAt F31c [1, 1, 0, 1, 0]) (F31_1z n) :=
  frag_loop (Z := fun R k (x : SSh.den G F31_1s) K => F31_1_it n (fun u0 => K (.exit 0) (SSh.enc G F31_1x0 (((), ()), (u0, ())))) k x.1.1 x.1.2.2.1 x.1.2.2.2.1 x.1.2.2.2.2.1 x.2.1) laws fnok (E51_ok n).tab (AllF.of (l := [(0, codeAt F31c [1, 1, 0, 1, 0, 0, 1, 1, 0])]) (by kernel_rfl) (AllF.cons (F31_0_ok n) AllF.nil)) (fun _ _ _ => rfl) (fun R k y K => F31_1_eq n R (fun (x : SSh.den G F31_1s) => F31_1_it n (fun u0 => K (.exit 0) (SSh.enc G F31_1x0 (((), ()), (u0, ())))) k x.1.1 x.1.2.2.1 x.1.2.2.2.1 x.1.2.2.2.2.1 x.2.1) y K) n
noncomputable def F31 (n : Nat) (a2047 : List Bool) (a2048 : Bool) : Option (Unit × (List Int × Unit)) :=
  (F31_1 n a2048 a2047 ((a2047.length) : Int) (0 : Int) [] (fun z2072 =>
  some ((), (z2072, ()))))
noncomputable def F31e (n : Nat) : Ent G := ⟨31, (.cons (.imm 1) (.cons .bool .nil)), [], (.own 0), [(.arr 0 true)], fun x y => F31 n x.1 x.2.1⟩
theorem F31_eq (n : Nat) (x : ShL.den G (.cons (.imm 1) (.cons .bool .nil))) (y : denO G []) : (F31e n).F x y = runFn prog G (ro G (tabOf (E51 n)) (frOf [F31_0z n, F31_1z n]) _) Go.Proofs.Try.f31 (.nd .no (.nd .no (.nd (.nd .no (.nd (.use 1) .no)) .no))) [(0, (.own 0))] (ShL.enc G (.cons (.imm 1) (.cons .bool .nil)) x) (encO G [] y) (decR (.own 0) [(.arr 0 true)]) := by kernel_rfl
theorem F31_ok (n : Nat) : EntOK prog G (F31e n) :=
  ent_ok (fr := frOf [F31_0z n, F31_1z n]) (ann := (.nd .no (.nd .no (.nd (.nd .no (.nd (.use 1) .no)) .no)))) (frm := [(0, (.own 0))]) laws fnok (E51_ok n).tab (e := F31e n) (fn := Go.Proofs.Try.f31) (by kernel_rfl) (AllF.ofB (cd := F31c) (l := [(1, codeAt F31c [1, 1, 0, 1, 0])]) (by kernel_rfl) (by kernel_rfl) (AllF.cons (F31_1_ok n) AllF.nil)) (F31_eq n)
noncomputable def E52 (n : Nat) : List (Ent G) := F31e n :: E51 n
theorem E52_ok (n : Nat) : AllE prog G (E52 n) := AllE.cons (F31_ok n) (E51_ok n)
-- 10 loop.example/slowworm/impl.ImportNeeds
noncomputable def F10c : Code := bodyOf Go.Proofs.Try.f10
noncomputable def F10 (n : Nat) (a2074 : List (List Stp)) (a2075 : Int) : Option (List Int × Unit) :=
  (andThen (F30 n a2074) fun r2076 =>
  (bif (!r2076.1) then
  some ([], ())
  else (bif (decide (a2075 < (0 : Int))) then
  some ([], ())
  else (bif (decide (a2075 ≥ ((a2074.length) : Int))) then
  some ([], ())
  else (andThen (F33 n a2074) fun r2081 =>
  (andThen (F32 n r2081.1 (a2075 :: [])) fun r2083 =>
  (andThen (F31 n r2083.2.1 true) fun r2084 =>
  some (r2084.2.1, ()))))))))
noncomputable def F10e (n : Nat) : Ent G := ⟨10, (.cons (.imm 5) (.cons (.int .i64) .nil)), [], (.imm 0), [], fun x y => F10 n x.1 x.2.1⟩
theorem F10_eq (n : Nat) (x : ShL.den G (.cons (.imm 5) (.cons (.int .i64) .nil))) (y : denO G []) : (F10e n).F x y = runFn prog G (ro G (tabOf (E52 n)) (frOf []) _) Go.Proofs.Try.f10 .no [(0, .fz)] (ShL.enc G (.cons (.imm 5) (.cons (.int .i64) .nil)) x) (encO G [] y) (decR (.imm 0) []) := by kernel_rfl
theorem F10_ok (n : Nat) : EntOK prog G (F10e n) :=
  ent_ok (fr := frOf []) (ann := .no) (frm := [(0, .fz)]) laws fnok (E52_ok n).tab (e := F10e n) (fn := Go.Proofs.Try.f10) (by kernel_rfl) (AllF.ofB (cd := F10c) (l := []) (by kernel_rfl) (by kernel_rfl) AllF.nil) (F10_eq n)
noncomputable def E53 (n : Nat) : List (Ent G) := F10e n :: E52 n
theorem E53_ok (n : Nat) : AllE prog G (E53 n) := AllE.cons (F10_ok n) (E52_ok n)
noncomputable def F22_0x0 : SSh := ⟨28, [(4, .bool)], []⟩
noncomputable def F22_0x1 : SSh := ⟨28, [], []⟩
noncomputable def F22_0s : SSh := ⟨28, [(0, (.imm 5)), (10, (.imm 0)), (11, (.int .i64)), (12, (.int .i64))], []⟩
noncomputable def F22_0_step {R : Type} (n : Nat) (k0 : Bool → Option R) (k1 : Option R) (rec : List (List Stp) → List Int → Int → Int → Option R) (x2087 : List (List Stp)) (x2088 : List Int) (x2089 : Int) (x2090 : Int) : Option R :=
  (bif (decide (x2090 < x2089)) then
  (bif (decide ((0 : Int) ≤ x2090)) then
  (bif (decide (x2090 < ((x2088.length) : Int))) then
  let v2093 := (x2088.getD (x2090.toNat) (0 : Int))
  (andThen (F33 n x2087) fun r2094 =>
  (bif (decide ((0 : Int) ≤ v2093)) then
  (bif (decide (v2093 < ((r2094.1.length) : Int))) then
  (andThen (F32 n r2094.1 (r2094.1.getD (v2093.toNat) [])) fun r2097 =>
  (bif (decide ((0 : Int) ≤ v2093)) then
  (bif (decide (v2093 < ((r2097.2.1.length) : Int))) then
  (bif (r2097.2.1.getD (v2093.toNat) false) then
  (k0 true)
  else (rec x2087 x2088 x2089 (IntKind.wrap .i64 (x2090 + (1 : Int)))))
  else none)
  else none))
  else none)
  else none))
  else none)
  else none)
  else k1)
noncomputable def F22_0_it {R : Type} (n : Nat) (k0 : Bool → Option R) (k1 : Option R) : Nat → List (List Stp) → List Int → Int → Int → Option R
  | 0, _, _, _, _ => none
  | k + 1, x2087, x2088, x2089, x2090 => F22_0_step n k0 k1 (F22_0_it n k0 k1 k) x2087 x2088 x2089 x2090
noncomputable def F22_0 {R : Type} (n : Nat) (x2087 : List (List Stp)) (x2088 : List Int) (x2089 : Int) (x2090 : Int) (k0 : Bool → Option R) (k1 : Option R) : Option R := F22_0_it n k0 k1 n x2087 x2088 x2089 x2090
noncomputable def F22_0z (n : Nat) : Sm G := inZ G 0 ⟨[0, 10, 11, 12], []⟩ F22_0s fun R x K => F22_0_it n (fun u0 => K .ret (SSh.enc G F22_0x0 ((u0, ()), ()))) (K (.exit 0) (SSh.enc G F22_0x1 ((), ()))) n x.1.1 x.1.2.1 x.1.2.2.1 x.1.2.2.2.1
theorem F22_0_eq (n : Nat) (R : Type) (rec : SSh.den G F22_0s → Option R) (x : SSh.den G F22_0s) (K : AE → St G → Option R) :
  F22_0_step n (fun u0 => K .ret (SSh.enc G F22_0x0 ((u0, ()), ()))) (K (.exit 0) (SSh.enc G F22_0x1 ((), ()))) (fun x2087 x2088 x2089 x2090 => rec ((x2087, (x2088, (x2089, (x2090, ())))), ())) x.1.1 x.1.2.1 x.1.2.2.1 x.1.2.2.2.1 = exec prog G (ro G (tabOf (E53 n)) (frOf []) R) 0 (codeAt F22c [1, 0, 1, 0, 0]) .no (SSh.enc G F22_0s x) (kLoop G (ro G (tabOf (E53 n)) (frOf []) R) 0 ⟨[0, 10, 11, 12], []⟩ F22_0s ⟨⟨[], []⟩, ⟨[4], []⟩, [(0, ⟨[], []⟩)]⟩ rec K) := by kernel_rfl
theorem F22_0_ok (n : Nat) : FragOK prog G 0 (codeAt F22c [1, 0, 1, 0]) (F22_0z n) :=
  frag_loop (Z := fun R k (x : SSh.den G F22_0s) K => F22_0_it n (fun u0 => K .ret (SSh.enc G F22_0x0 ((u0, ()), ()))) (K (.exit 0) (SSh.enc G F22_0x1 ((), ()))) k x.1.1 x.1.2.1 x.1.2.2.1 x.1.2.2.2.1) laws fnok (E53_ok n).tab (AllF.of (l := []) (by kernel_rfl) AllF.nil) (fun _ _ _ => rfl) (fun R k y K => F22_0_eq n R (fun (x : SSh.den G F22_0s) => F22_0_it n (fun u0 => K .ret (SSh.enc G F22_0x0 ((u0, ()), ()))) (K (.exit 0) (SSh.enc G F22_0x1 ((), ()))) k x.1.1 x.1.2.1 x.1.2.2.1 x.1.2.2.2.1) y K) n
noncomputable def F22 (n : Nat) (a1889 : List (List Stp)) (a1890 : Int) : Option (Bool × Unit) :=
  (andThen (F10 n a1889 a1890) fun r2085 =>
  (F22_0 n a1889 r2085.1 ((r2085.1.length) : Int) (0 : Int) (fun z2101 =>
  some (z2101, ())) (
  some (false, ()))))
noncomputable def F22e (n : Nat) : Ent G := ⟨22, (.cons (.imm 5) (.cons (.int .i64) .nil)), [], .bool, [], fun x y => F22 n x.1 x.2.1⟩
theorem F22_eq (n : Nat) (x : ShL.den G (.cons (.imm 5) (.cons (.int .i64) .nil))) (y : denO G []) : (F22e n).F x y = runFn prog G (ro G (tabOf (E53 n)) (frOf [F22_0z n]) _) Go.Proofs.Try.f22 (.nd .no (.nd (.nd .no (.nd (.use 0) .no)) .no)) [(0, .fz)] (ShL.enc G (.cons (.imm 5) (.cons (.int .i64) .nil)) x) (encO G [] y) (decR .bool []) := by kernel_rfl
theorem F22_ok (n : Nat) : EntOK prog G (F22e n) :=
  ent_ok (fr := frOf [F22_0z n]) (ann := (.nd .no (.nd (.nd .no (.nd (.use 0) .no)) .no))) (frm := [(0, .fz)]) laws fnok (E53_ok n).tab (e := F22e n) (fn := Go.Proofs.Try.f22) (by kernel_rfl) (AllF.ofB (cd := F22c) (l := [(0, codeAt F22c [1, 0, 1, 0])]) (by kernel_rfl) (by kernel_rfl) (AllF.cons (F22_0_ok n) AllF.nil)) (F22_eq n)
noncomputable def E54 (n : Nat) : List (Ent G) := F22e n :: E53 n
theorem E54_ok (n : Nat) : AllE prog G (E54 n) := AllE.cons (F22_ok n) (E53_ok n)
noncomputable def F6_0x0 : SSh := ⟨73, [(2, .bool)], []⟩
noncomputable def F6_0x1 : SSh := ⟨73, [(3, (.imm 5)), (5, (.ptr 0 0)), (6, (.int .i64))], [(.box 38 (.cons (.imm 0) (.cons (.imm 0) (.cons (.imm 0) (.cons (.imm 6) (.cons (.imm 0) .nil))))))]⟩
noncomputable def F6_0s : SSh := ⟨73, [(3, (.imm 5)), (5, (.ptr 0 0)), (6, (.int .i64)), (7, (.int .i64)), (8, (.int .i64))], [(.box 38 (.cons (.imm 0) (.cons (.imm 0) (.cons (.imm 0) (.cons (.imm 6) (.cons (.imm 0) .nil))))))]⟩
noncomputable def F6_0_step {R : Type} (n : Nat) (k0 : Bool → Option R) (k1 : List (List Stp) → Int → List Int → List Int → List Int → List ByteArray → List Int → Option R) (rec : List (List Stp) → Int → Int → Int → List Int → List Int → List Int → List ByteArray → List Int → Option R) (x2103 : List (List Stp)) (x2104 : Int) (x2105 : Int) (x2106 : Int) (x2107 : List Int) (x2108 : List Int) (x2109 : List Int) (x2110 : List ByteArray) (x2111 : List Int) : Option R :=
  (bif (decide ((0 : Int) ≤ x2105)) then
  (bif (decide (x2105 < ((x2103.length) : Int))) then
  (bif (decide (x2106 < (((x2103.getD (x2105.toNat) []).length) : Int))) then
  (bif (decide ((0 : Int) ≤ x2105)) then
  (bif (decide (x2105 < ((x2103.length) : Int))) then
  let v2117 := (x2103.getD (x2105.toNat) [])
  (bif (decide ((0 : Int) ≤ x2106)) then
  (bif (decide (x2106 < ((v2117.length) : Int))) then
  let v2118 := (v2117.getD (x2106.toNat) (Stp.mk (0 : Int) (0 : Int) ({ data := #[] } : ByteArray)))
  (bif (v2118.kind == (1 : Int)) then
  (bif (decide ((0 : Int) ≤ x2104)) then
  (bif (decide (x2104 ≤ ((x2108.length) : Int))) then
  (andThen (F21 n ((x2108.take (x2104.toNat)).drop (0 : Nat)) v2118.num) fun r2124 =>
  (bif (!r2124.1) then
  (k0 false)
  else (rec x2103 x2104 x2105 (IntKind.wrap .i64 (x2106 + (1 : Int))) x2107 x2108 x2109 x2110 x2111)))
  else none)
  else none)
  else (rec x2103 x2104 x2105 (IntKind.wrap .i64 (x2106 + (1 : Int))) x2107 x2108 x2109 x2110 x2111))
  else none)
  else none)
  else none)
  else none)
  else (k1 x2103 x2104 x2107 x2108 x2109 x2110 x2111))
  else none)
  else none)
noncomputable def F6_0_it {R : Type} (n : Nat) (k0 : Bool → Option R) (k1 : List (List Stp) → Int → List Int → List Int → List Int → List ByteArray → List Int → Option R) : Nat → List (List Stp) → Int → Int → Int → List Int → List Int → List Int → List ByteArray → List Int → Option R
  | 0, _, _, _, _, _, _, _, _, _ => none
  | k + 1, x2103, x2104, x2105, x2106, x2107, x2108, x2109, x2110, x2111 => F6_0_step n k0 k1 (F6_0_it n k0 k1 k) x2103 x2104 x2105 x2106 x2107 x2108 x2109 x2110 x2111
noncomputable def F6_0 {R : Type} (n : Nat) (x2103 : List (List Stp)) (x2104 : Int) (x2105 : Int) (x2106 : Int) (x2107 : List Int) (x2108 : List Int) (x2109 : List Int) (x2110 : List ByteArray) (x2111 : List Int) (k0 : Bool → Option R) (k1 : List (List Stp) → Int → List Int → List Int → List Int → List ByteArray → List Int → Option R) : Option R := F6_0_it n k0 k1 n x2103 x2104 x2105 x2106 x2107 x2108 x2109 x2110 x2111
noncomputable def F6_0z (n : Nat) : Sm G := inZ G 0 ⟨[3, 5, 6, 7, 8], []⟩ F6_0s fun R x K => F6_0_it n (fun u0 => K .ret (SSh.enc G F6_0x0 ((u0, ()), ()))) (fun u0 u1 u2 u3 u4 u5 u6 => K (.exit 2) (SSh.enc G F6_0x1 ((u0, ((), (u1, ()))), ((u2, (u3, (u4, (u5, (u6, ()))))), ())))) n x.1.1 x.1.2.2.1 x.1.2.2.2.1 x.1.2.2.2.2.1 x.2.1.1 x.2.1.2.1 x.2.1.2.2.1 x.2.1.2.2.2.1 x.2.1.2.2.2.2.1
theorem F6_0_eq (n : Nat) (R : Type) (rec : SSh.den G F6_0s → Option R) (x : SSh.den G F6_0s) (K : AE → St G → Option R) :
  F6_0_step n (fun u0 => K .ret (SSh.enc G F6_0x0 ((u0, ()), ()))) (fun u0 u1 u2 u3 u4 u5 u6 => K (.exit 2) (SSh.enc G F6_0x1 ((u0, ((), (u1, ()))), ((u2, (u3, (u4, (u5, (u6, ()))))), ())))) (fun x2103 x2104 x2105 x2106 x2107 x2108 x2109 x2110 x2111 => rec ((x2103, ((), (x2104, (x2105, (x2106, ()))))), ((x2107, (x2108, (x2109, (x2110, (x2111, ()))))), ()))) x.1.1 x.1.2.2.1 x.1.2.2.2.1 x.1.2.2.2.2.1 x.2.1.1 x.2.1.2.1 x.2.1.2.2.1 x.2.1.2.2.2.1 x.2.1.2.2.2.2.1 = exec prog G (ro G (tabOf (E54 n)) (frOf []) R) 0 (codeAt F6c [1, 1, 1, 1, 1, 0, 1, 0, 0, 1, 0, 0, 1, 1, 1, 0, 0]) .no (SSh.enc G F6_0s x) (kLoop G (ro G (tabOf (E54 n)) (frOf []) R) 0 ⟨[3, 5, 6, 7, 8], []⟩ F6_0s ⟨⟨[3, 5, 6], []⟩, ⟨[2], []⟩, [(2, ⟨[3, 5, 6], []⟩), (1, ⟨[3, 5, 6], []⟩), (0, ⟨[], []⟩)]⟩ rec K) := by kernel_rfl
theorem F6_0_ok (n : Nat) : FragOK prog G 0 (codeAt F6c [1, 1, 1, 1, 1, 0, 1, 0, 0, 1, 0, 0, 1, 1, 1, 0]) (F6_0z n) :=
  frag_loop (Z := fun R k (x : SSh.den G F6_0s) K => F6_0_it n (fun u0 => K .ret (SSh.enc G F6_0x0 ((u0, ()), ()))) (fun u0 u1 u2 u3 u4 u5 u6 => K (.exit 2) (SSh.enc G F6_0x1 ((u0, ((), (u1, ()))), ((u2, (u3, (u4, (u5, (u6, ()))))), ())))) k x.1.1 x.1.2.2.1 x.1.2.2.2.1 x.1.2.2.2.2.1 x.2.1.1 x.2.1.2.1 x.2.1.2.2.1 x.2.1.2.2.2.1 x.2.1.2.2.2.2.1) laws fnok (E54_ok n).tab (AllF.of (l := []) (by kernel_rfl) AllF.nil) (fun _ _ _ => rfl) (fun R k y K => F6_0_eq n R (fun (x : SSh.den G F6_0s) => F6_0_it n (fun u0 => K .ret (SSh.enc G F6_0x0 ((u0, ()), ()))) (fun u0 u1 u2 u3 u4 u5 u6 => K (.exit 2) (SSh.enc G F6_0x1 ((u0, ((), (u1, ()))), ((u2, (u3, (u4, (u5, (u6, ()))))), ())))) k x.1.1 x.1.2.2.1 x.1.2.2.2.1 x.1.2.2.2.2.1 x.2.1.1 x.2.1.2.1 x.2.1.2.2.1 x.2.1.2.2.2.1 x.2.1.2.2.2.2.1) y K) n
noncomputable def F6_1x0 : SSh := ⟨73, [(3, (.imm 5)), (5, (.ptr 0 0)), (6, (.int .i64))], [(.box 38 (.cons (.imm 0) (.cons (.imm 0) (.cons (.imm 0) (.cons (.imm 6) (.cons (.imm 0) .nil))))))]⟩
noncomputable def F6_1x1 : SSh := ⟨73, [(2, .bool)], []⟩
noncomputable def F6_1s : SSh := ⟨73, [(3, (.imm 5)), (5, (.ptr 0 0)), (6, (.int .i64))], [(.box 38 (.cons (.imm 0) (.cons (.imm 0) (.cons (.imm 0) (.cons (.imm 6) (.cons (.imm 0) .nil))))))]⟩
noncomputable def F6_1 {R : Type} (n : Nat) (x1880 : List (List Stp)) (x1881 : Int) (x1882 : List Int) (x1883 : List Int) (x1884 : List Int) (x1885 : List ByteArray) (x1886 : List Int) (k0 : List (List Stp) → Int → List Int → List Int → List Int → List ByteArray → List Int → Option R) (k1 : Bool → Option R) : Option R :=
  (bif (decide ((0 : Int) ≤ x1881)) then
  (bif (decide (x1881 < ((x1883.length) : Int))) then
  let v1888 := (x1883.getD (x1881.toNat) (0 : Int))
  (andThen (F22 n x1880 v1888) fun r2102 =>
  (bif r2102.1 then
  (k0 x1880 x1881 x1882 x1883 x1884 x1885 x1886)
  else (F6_0 n x1880 x1881 v1888 (0 : Int) x1882 x1883 x1884 x1885 x1886 (fun z2128 =>
  (k1 z2128)) (fun z2129 z2130 z2131 z2132 z2133 z2134 z2135 =>
  (k0 z2129 z2130 z2131 z2132 z2133 z2134 z2135)))))
  else none)
  else none)
noncomputable def F6_1z (n : Nat) : Sm G := inZ G 0 ⟨[3, 5, 6], []⟩ F6_1s fun R x K => F6_1 n x.1.1 x.1.2.2.1 x.2.1.1 x.2.1.2.1 x.2.1.2.2.1 x.2.1.2.2.2.1 x.2.1.2.2.2.2.1 (fun u0 u1 u2 u3 u4 u5 u6 => K .normal (SSh.enc G F6_1x0 ((u0, ((), (u1, ()))), ((u2, (u3, (u4, (u5, (u6, ()))))), ())))) (fun u0 => K .ret (SSh.enc G F6_1x1 ((u0, ()), ())))
theorem F6_1_eq (n : Nat) (R : Type) (x : SSh.den G F6_1s) (K : AE → St G → Option R) :
  F6_1 n x.1.1 x.1.2.2.1 x.2.1.1 x.2.1.2.1 x.2.1.2.2.1 x.2.1.2.2.2.1 x.2.1.2.2.2.2.1 (fun u0 u1 u2 u3 u4 u5 u6 => K .normal (SSh.enc G F6_1x0 ((u0, ((), (u1, ()))), ((u2, (u3, (u4, (u5, (u6, ()))))), ())))) (fun u0 => K .ret (SSh.enc G F6_1x1 ((u0, ()), ()))) = exec prog G (ro G (tabOf (E54 n)) (frOf [F6_0z n]) R) 0 (codeAt F6c [1, 1, 1, 1, 1, 0, 1, 0, 0, 1, 0]) (.nd (.nd .no (.nd .no (.nd .no (.nd (.use 0) .no)))) .no) (SSh.enc G F6_1s x) (kNrm G (ro G (tabOf (E54 n)) (frOf [F6_0z n]) R) 0 ⟨⟨[3, 5, 6], []⟩, ⟨[2], []⟩, [(0, ⟨[], []⟩)]⟩ K) := by kernel_rfl
theorem F6_1_ok (n : Nat) : FragOK prog G 0 (codeAt F6c [1, 1, 1, 1, 1, 0, 1, 0, 0, 1, 0]) (F6_1z n) :=
  frag_plain laws fnok (E54_ok n).tab (AllF.of (l := [(0, codeAt F6c [1, 1, 1, 1, 1, 0, 1, 0, 0, 1, 0, 0, 1, 1, 1, 0])]) (by kernel_rfl) (AllF.cons (F6_0_ok n) AllF.nil)) (F6_1_eq n)
noncomputable def F6_2x0 : SSh := ⟨73, [(2, .bool)], []⟩
noncomputable def F6_2x1 : SSh := ⟨73, [], []⟩
noncomputable def F6_2s : SSh := ⟨73, [(3, (.imm 5)), (5, (.ptr 0 0)), (6, (.int .i64))], [(.box 38 (.cons (.imm 0) (.cons (.imm 0) (.cons (.imm 0) (.cons (.imm 6) (.cons (.imm 0) .nil))))))]⟩
noncomputable def F6_2_step {R : Type} (n : Nat) (k0 : Bool → Option R) (k1 : Option R) (rec : List (List Stp) → Int → List Int → List Int → List Int → List ByteArray → List Int → Option R) (x1871 : List (List Stp)) (x1872 : Int) (x1873 : List Int) (x1874 : List Int) (x1875 : List Int) (x1876 : List ByteArray) (x1877 : List Int) : Option R :=
  (bif (decide (x1872 < ((x1874.length) : Int))) then
  (F6_1 n x1871 x1872 x1873 x1874 x1875 x1876 x1877 (fun z2136 z2137 z2138 z2139 z2140 z2141 z2142 =>
  (rec z2136 (IntKind.wrap .i64 (z2137 + (1 : Int))) z2138 z2139 z2140 z2141 z2142)) (fun z2144 =>
  (k0 z2144)))
  else k1)
noncomputable def F6_2_it {R : Type} (n : Nat) (k0 : Bool → Option R) (k1 : Option R) : Nat → List (List Stp) → Int → List Int → List Int → List Int → List ByteArray → List Int → Option R
  | 0, _, _, _, _, _, _, _ => none
  | k + 1, x1871, x1872, x1873, x1874, x1875, x1876, x1877 => F6_2_step n k0 k1 (F6_2_it n k0 k1 k) x1871 x1872 x1873 x1874 x1875 x1876 x1877
noncomputable def F6_2 {R : Type} (n : Nat) (x1871 : List (List Stp)) (x1872 : Int) (x1873 : List Int) (x1874 : List Int) (x1875 : List Int) (x1876 : List ByteArray) (x1877 : List Int) (k0 : Bool → Option R) (k1 : Option R) : Option R := F6_2_it n k0 k1 n x1871 x1872 x1873 x1874 x1875 x1876 x1877
noncomputable def F6_2z (n : Nat) : Sm G := inZ G 0 ⟨[3, 5, 6], []⟩ F6_2s fun R x K => F6_2_it n (fun u0 => K .ret (SSh.enc G F6_2x0 ((u0, ()), ()))) (K (.exit 0) (SSh.enc G F6_2x1 ((), ()))) n x.1.1 x.1.2.2.1 x.2.1.1 x.2.1.2.1 x.2.1.2.2.1 x.2.1.2.2.2.1 x.2.1.2.2.2.2.1
theorem F6_2_eq (n : Nat) (R : Type) (rec : SSh.den G F6_2s → Option R) (x : SSh.den G F6_2s) (K : AE → St G → Option R) :
  F6_2_step n (fun u0 => K .ret (SSh.enc G F6_2x0 ((u0, ()), ()))) (K (.exit 0) (SSh.enc G F6_2x1 ((), ()))) (fun x1871 x1872 x1873 x1874 x1875 x1876 x1877 => rec ((x1871, ((), (x1872, ()))), ((x1873, (x1874, (x1875, (x1876, (x1877, ()))))), ()))) x.1.1 x.1.2.2.1 x.2.1.1 x.2.1.2.1 x.2.1.2.2.1 x.2.1.2.2.2.1 x.2.1.2.2.2.2.1 = exec prog G (ro G (tabOf (E54 n)) (frOf [F6_0z n, F6_1z n]) R) 0 (codeAt F6c [1, 1, 1, 1, 1, 0, 1, 0, 0]) (.nd .no (.nd (.use 1) .no)) (SSh.enc G F6_2s x) (kLoop G (ro G (tabOf (E54 n)) (frOf [F6_0z n, F6_1z n]) R) 0 ⟨[3, 5, 6], []⟩ F6_2s ⟨⟨[], []⟩, ⟨[2], []⟩, [(0, ⟨[], []⟩)]⟩ rec K) := by kernel_rfl
theorem F6_2_ok (n : Nat) : FragOK prog G 0 (codeAt F6c [1, 1, 1, 1, 1, 0, 1, 0]) (F6_2z n) :=
  frag_loop (Z := fun R k (x : SSh.den G F6_2s) K => F6_2_it n (fun u0 => K .ret (SSh.enc G F6_2x0 ((u0, ()), ()))) (K (.exit 0) (SSh.enc G F6_2x1 ((), ()))) k x.1.1 x.1.2.2.1 x.2.1.1 x.2.1.2.1 x.2.1.2.2.1 x.2.1.2.2.2.1 x.2.1.2.2.2.2.1) laws fnok (E54_ok n).tab (AllF.of (l := [(1, codeAt F6c [1, 1, 1, 1, 1, 0, 1, 0, 0, 1, 0])]) (by kernel_rfl) (AllF.cons (F6_1_ok n) AllF.nil)) (fun _ _ _ => rfl) (fun R k y K => F6_2_eq n R (fun (x : SSh.den G F6_2s) => F6_2_it n (fun u0 => K .ret (SSh.enc G F6_2x0 ((u0, ()), ()))) (K (.exit 0) (SSh.enc G F6_2x1 ((), ()))) k x.1.1 x.1.2.2.1 x.2.1.1 x.2.1.2.1 x.2.1.2.2.1 x.2.1.2.2.2.1 x.2.1.2.2.2.2.1) y K) n
noncomputable def F6 (n : Nat) (a1863 : List Int) : Option (Bool × Unit) :=
  (bif (decide (((a1863.length) : Int) > (1048576 : Int))) then
  some (true, ())
  else (andThen (F16 n a1863) fun r1866 =>
  (andThen (F17 n r1866.1.1 r1866.1.2.1) fun r1867 =>
  (andThen (F19 n r1866.1.1 r1866.1.2.1) fun r1868 =>
  (andThen (F18 n r1867.1.1 r1867.1.2.1 r1867.1.2.2.1 r1867.1.2.2.2.1 r1867.1.2.2.2.2.1 r1868.1.1 r1868.1.2.1 r1868.1.2.2.1 r1868.1.2.2.2.1 r1868.1.2.2.2.2.1) fun r1869 =>
  (bif (!r1869.1) then
  some (false, ())
  else (F6_2 n r1866.1.1 (0 : Int) r1867.1.1 r1867.1.2.1 r1867.1.2.2.1 r1867.1.2.2.2.1 r1867.1.2.2.2.2.1 (fun z2145 =>
  some (z2145, ())) (
  some (true, ())))))))))
noncomputable def F6e (n : Nat) : Ent G := ⟨6, (.cons (.imm 4) .nil), [], .bool, [], fun x y => F6 n x.1⟩
theorem F6_eq (n : Nat) (x : ShL.den G (.cons (.imm 4) .nil)) (y : denO G []) : (F6e n).F x y = runFn prog G (ro G (tabOf (E54 n)) (frOf [F6_0z n, F6_1z n, F6_2z n]) _) Go.Proofs.Try.f6 (.nd .no (.nd .no (.nd .no (.nd .no (.nd .no (.nd (.nd .no (.nd (.use 2) .no)) .no)))))) [(0, .fz)] (ShL.enc G (.cons (.imm 4) .nil) x) (encO G [] y) (decR .bool []) := by kernel_rfl
theorem F6_ok (n : Nat) : EntOK prog G (F6e n) :=
  ent_ok (fr := frOf [F6_0z n, F6_1z n, F6_2z n]) (ann := (.nd .no (.nd .no (.nd .no (.nd .no (.nd .no (.nd (.nd .no (.nd (.use 2) .no)) .no))))))) (frm := [(0, .fz)]) laws fnok (E54_ok n).tab (e := F6e n) (fn := Go.Proofs.Try.f6) (by kernel_rfl) (AllF.ofB (cd := F6c) (l := [(2, codeAt F6c [1, 1, 1, 1, 1, 0, 1, 0])]) (by kernel_rfl) (by kernel_rfl) (AllF.cons (F6_2_ok n) AllF.nil)) (F6_eq n)
noncomputable def E55 (n : Nat) : List (Ent G) := F6e n :: E54 n
theorem E55_ok (n : Nat) : AllE prog G (E55 n) := AllE.cons (F6_ok n) (E54_ok n)
end Go.Proofs.Ytjfmfpnnjgfffaa.Am
