/- The functions of the seat of sorting, printed. -/
import Derived.Test.YtjanepkjjmcchaaAmDelF
namespace Go.Proofs.Ytjanepkjjmcchaa.Am
open Go Go.Proofs.Try
set_option autoImplicit false
set_option linter.unusedVariables false
set_option maxRecDepth 100000
noncomputable def E0 (n : Nat) : List (Ent G) := [L31e, L39e, L22e]
theorem E0_ok (n : Nat) : AllE prog G (E0 n) := AllE.cons L31_ok (AllE.cons L39_ok (AllE.cons L22_ok AllE.nil))
-- 6 loop.example/slowworm/laws.FnSortItems
noncomputable def F6c : Code := bodyOf Go.Proofs.Try.f6
-- 7 loop.example/slowworm/spec.DrawSortItems
noncomputable def F7c : Code := bodyOf Go.Proofs.Try.f7
-- 18 loop.example/slowworm/spec.newRnd
noncomputable def F18c : Code := bodyOf Go.Proofs.Try.f18
noncomputable def F18 (n : Nat) (a4 : List Int) : Option (Unit × ((List Int × (Int × Unit)) × Unit)) :=
  let v5 := ((a4.length) : Int)
  let v6 := (if ((4000 : Int) < v5) then (4000 : Int) else v5)
  (bif (decide ((0 : Int) ≤ v6)) then
  (bif (decide (v6 ≤ ((a4.length) : Int))) then
  some ((), ((((a4.take (v6.toNat)).drop (0 : Nat)), ((0 : Int), ())), ()))
  else none)
  else none)
noncomputable def F18e (n : Nat) : Ent G := ⟨18, (.cons (.imm 1) .nil), [], (.ptr 0 0), [(.box 53 (.cons (.imm 1) (.cons (.int .i64) .nil)))], fun x y => F18 n x.1⟩
theorem F18_eq (n : Nat) (x : ShL.den G (.cons (.imm 1) .nil)) (y : denO G []) : (F18e n).F x y = runFn prog G (ro G (tabOf (E0 n)) (frOf []) _) Go.Proofs.Try.f18 .no [(0, .fz)] (ShL.enc G (.cons (.imm 1) .nil) x) (encO G [] y) (decR (.ptr 0 0) [(.box 53 (.cons (.imm 1) (.cons (.int .i64) .nil)))]) := by kernel_rfl
theorem F18_ok (n : Nat) : EntOK prog G (F18e n) :=
  ent_ok (fr := frOf []) (ann := .no) (frm := [(0, .fz)]) laws fnok (E0_ok n).tab (e := F18e n) (fn := Go.Proofs.Try.f18) (by kernel_rfl) (AllF.ofB (cd := F18c) (l := []) (by kernel_rfl) (by kernel_rfl) AllF.nil) (F18_eq n)
noncomputable def E1 (n : Nat) : List (Ent G) := F18e n :: E0 n
theorem E1_ok (n : Nat) : AllE prog G (E1 n) := AllE.cons (F18_ok n) (E0_ok n)
-- 19 (*loop.example/slowworm/spec.rnd).items
noncomputable def F19c : Code := bodyOf Go.Proofs.Try.f19
-- 35 (*loop.example/slowworm/spec.rnd).one
noncomputable def F35c : Code := bodyOf Go.Proofs.Try.f35
-- 36 (*loop.example/slowworm/spec.rnd).pick
noncomputable def F36c : Code := bodyOf Go.Proofs.Try.f36
noncomputable def F36_0x0 : SSh := ⟨101, [(0, (.ptr 0 0)), (1, (.int .i64)), (5, (.int .i64))], [(.box 53 (.cons (.imm 1) (.cons (.int .i64) .nil)))]⟩
noncomputable def F36_0s : SSh := ⟨101, [(0, (.ptr 0 0)), (1, (.int .i64)), (5, (.int .i64))], [(.box 53 (.cons (.imm 1) (.cons (.int .i64) .nil)))]⟩
noncomputable def F36_0 {R : Type} (n : Nat) (x21 : Int) (x22 : Int) (x23 : List Int) (x24 : Int) (k0 : Int → Int → List Int → Int → Option R) : Option R :=
  (bif (decide (((x23.length) : Int) > (0 : Int))) then
  let v27 := ((x23.length) : Int)
  (bif (!(decide (v27 = (0 : Int)))) then
  let v28 := (x24.tmod v27)
  (bif (decide ((0 : Int) ≤ v28)) then
  (bif (decide (v28 < ((x23.length) : Int))) then
  let v31 := (IntKind.wrap .i64 (x23.getD (v28.toNat) (0 : Int)))
  (bif (decide (x21 > (256 : Int))) then
  let v36 := ((x23.length) : Int)
  (bif (!(decide (v36 = (0 : Int)))) then
  let v37 := ((IntKind.wrap .i64 ((IntKind.wrap .i64 (x24 * (7 : Int))) + (3 : Int))).tmod v36)
  (bif (decide ((0 : Int) ≤ v37)) then
  (bif (decide (v37 < ((x23.length) : Int))) then
  let v45 := ((x23.length) : Int)
  (bif (!(decide (v45 = (0 : Int)))) then
  let v48 := (IntKind.wrap .i64 ((IntKind.wrap .i64 ((IntKind.wrap .i64 ((IntKind.wrap .i64 (v31 * (131 : Int))) + (IntKind.wrap .i64 ((IntKind.wrap .i64 (x23.getD (v37.toNat) (0 : Int))) * (1117 : Int))))) + (IntKind.wrap .i64 (x24 * (29 : Int))))) + (IntKind.wrap .i64 ((IntKind.wrap .i64 (x24.tdiv v45)) * (53 : Int)))))
  (k0 x21 (IntKind.wrap .i64 ((((BitVec.ofInt (64 : Nat) v48) ^^^ (BitVec.ofInt (64 : Nat) (IntKind.wrap .i64 (v48.tdiv (64 : Int))))).toNat) : Int)) x23 x24)
  else none)
  else none)
  else none)
  else none)
  else (bif (decide (x24 ≥ ((x23.length) : Int))) then
  let v56 := ((x23.length) : Int)
  (bif (!(decide (v56 = (0 : Int)))) then
  let v57 := ((IntKind.wrap .i64 ((IntKind.wrap .i64 (x24 * (7 : Int))) + (3 : Int))).tmod v56)
  (bif (decide ((0 : Int) ≤ v57)) then
  (bif (decide (v57 < ((x23.length) : Int))) then
  let v65 := ((x23.length) : Int)
  (bif (!(decide (v65 = (0 : Int)))) then
  let v68 := (IntKind.wrap .i64 ((IntKind.wrap .i64 ((IntKind.wrap .i64 ((IntKind.wrap .i64 (v31 * (131 : Int))) + (IntKind.wrap .i64 ((IntKind.wrap .i64 (x23.getD (v57.toNat) (0 : Int))) * (1117 : Int))))) + (IntKind.wrap .i64 (x24 * (29 : Int))))) + (IntKind.wrap .i64 ((IntKind.wrap .i64 (x24.tdiv v65)) * (53 : Int)))))
  (k0 x21 (IntKind.wrap .i64 ((((BitVec.ofInt (64 : Nat) v68) ^^^ (BitVec.ofInt (64 : Nat) (IntKind.wrap .i64 (v68.tdiv (64 : Int))))).toNat) : Int)) x23 x24)
  else none)
  else none)
  else none)
  else none)
  else (k0 x21 v31 x23 x24)))
  else none)
  else none)
  else none)
  else (k0 x21 x22 x23 x24))
noncomputable def F36_0z (n : Nat) : Sm G := inZ G 1 ⟨[0, 1, 5], []⟩ F36_0s fun R x K => F36_0 n x.1.2.1 x.1.2.2.1 x.2.1.1 x.2.1.2.1 (fun u0 u1 u2 u3 => K .normal (SSh.enc G F36_0x0 (((), (u0, (u1, ()))), ((u2, (u3, ())), ()))))
theorem F36_0_eq (n : Nat) (R : Type) (x : SSh.den G F36_0s) (K : AE → St G → Option R) :
  F36_0 n x.1.2.1 x.1.2.2.1 x.2.1.1 x.2.1.2.1 (fun u0 u1 u2 u3 => K .normal (SSh.enc G F36_0x0 (((), (u0, (u1, ()))), ((u2, (u3, ())), ())))) = exec prog G (ro G (tabOf (E1 n)) (frOf []) R) 1 (codeAt F36c [1, 1, 1, 0]) .no (SSh.enc G F36_0s x) (kNrm G (ro G (tabOf (E1 n)) (frOf []) R) 1 ⟨⟨[0, 1, 5], []⟩, ⟨[4], []⟩, []⟩ K) := by kernel_rfl
theorem F36_0_ok (n : Nat) : FragOK prog G 1 (codeAt F36c [1, 1, 1, 0]) (F36_0z n) :=
  frag_plain laws fnok (E1_ok n).tab (AllF.of (l := []) (by kernel_rfl) AllF.nil) (F36_0_eq n)
noncomputable def F36 (n : Nat) (a17 : Int) (a18 : List Int) (a19 : Int) : Option (Int × ((List Int × (Int × Unit)) × Unit)) :=
  (bif (decide (a17 < (2 : Int))) then
  some ((0 : Int), ((a18, (a19, ())), ()))
  else (F36_0 n a17 (0 : Int) a18 a19 (fun z71 z72 z73 z74 =>
  (bif (!(decide (z71 = (0 : Int)))) then
  some ((z72.tmod z71), ((z73, ((IntKind.wrap .i64 (z74 + (1 : Int))), ())), ()))
  else none))))
noncomputable def F36e (n : Nat) : Ent G := ⟨36, (.cons (.ptr 0 0) (.cons (.int .i64) .nil)), [(.box 53 (.cons (.imm 1) (.cons (.int .i64) .nil)))], (.int .i64), [(.box 53 (.cons (.imm 1) (.cons (.int .i64) .nil)))], fun x y => F36 n x.2.1 y.1.1 y.1.2.1⟩
theorem F36_eq (n : Nat) (x : ShL.den G (.cons (.ptr 0 0) (.cons (.int .i64) .nil))) (y : denO G [(.box 53 (.cons (.imm 1) (.cons (.int .i64) .nil)))]) : (F36e n).F x y = runFn prog G (ro G (tabOf (E1 n)) (frOf [F36_0z n]) _) Go.Proofs.Try.f36 (.nd .no (.nd .no (.nd .no (.nd (.use 0) .no)))) [(0, .fz)] (ShL.enc G (.cons (.ptr 0 0) (.cons (.int .i64) .nil)) x) (encO G [(.box 53 (.cons (.imm 1) (.cons (.int .i64) .nil)))] y) (decR (.int .i64) [(.box 53 (.cons (.imm 1) (.cons (.int .i64) .nil)))]) := by kernel_rfl
theorem F36_ok (n : Nat) : EntOK prog G (F36e n) :=
  ent_ok (fr := frOf [F36_0z n]) (ann := (.nd .no (.nd .no (.nd .no (.nd (.use 0) .no))))) (frm := [(0, .fz)]) laws fnok (E1_ok n).tab (e := F36e n) (fn := Go.Proofs.Try.f36) (by kernel_rfl) (AllF.ofB (cd := F36c) (l := [(0, codeAt F36c [1, 1, 1, 0])]) (by kernel_rfl) (by kernel_rfl) (AllF.cons (F36_0_ok n) AllF.nil)) (F36_eq n)
noncomputable def E2 (n : Nat) : List (Ent G) := F36e n :: E1 n
theorem E2_ok (n : Nat) : AllE prog G (E2 n) := AllE.cons (F36_ok n) (E1_ok n)
noncomputable def F35 (n : Nat) (a13 : List Int) (a14 : List Int) (a15 : Int) : Option (Int × ((List Int × (Int × Unit)) × Unit)) :=
  (andThen (F36 n ((a13.length) : Int) a14 a15) fun r77 =>
  (bif (decide ((0 : Int) ≤ r77.1)) then
  (bif (decide (r77.1 < ((a13.length) : Int))) then
  some ((a13.getD (r77.1.toNat) (0 : Int)), ((r77.2.1.1, (r77.2.1.2.1, ())), ()))
  else none)
  else none))
noncomputable def F35e (n : Nat) : Ent G := ⟨35, (.cons (.ptr 0 0) (.cons (.imm 0) .nil)), [(.box 53 (.cons (.imm 1) (.cons (.int .i64) .nil)))], (.int .i64), [(.box 53 (.cons (.imm 1) (.cons (.int .i64) .nil)))], fun x y => F35 n x.2.1 y.1.1 y.1.2.1⟩
theorem F35_eq (n : Nat) (x : ShL.den G (.cons (.ptr 0 0) (.cons (.imm 0) .nil))) (y : denO G [(.box 53 (.cons (.imm 1) (.cons (.int .i64) .nil)))]) : (F35e n).F x y = runFn prog G (ro G (tabOf (E2 n)) (frOf []) _) Go.Proofs.Try.f35 .no [(0, .fz)] (ShL.enc G (.cons (.ptr 0 0) (.cons (.imm 0) .nil)) x) (encO G [(.box 53 (.cons (.imm 1) (.cons (.int .i64) .nil)))] y) (decR (.int .i64) [(.box 53 (.cons (.imm 1) (.cons (.int .i64) .nil)))]) := by kernel_rfl
theorem F35_ok (n : Nat) : EntOK prog G (F35e n) :=
  ent_ok (fr := frOf []) (ann := .no) (frm := [(0, .fz)]) laws fnok (E2_ok n).tab (e := F35e n) (fn := Go.Proofs.Try.f35) (by kernel_rfl) (AllF.ofB (cd := F35c) (l := []) (by kernel_rfl) (by kernel_rfl) AllF.nil) (F35_eq n)
noncomputable def E3 (n : Nat) : List (Ent G) := F35e n :: E2 n
theorem E3_ok (n : Nat) : AllE prog G (E3 n) := AllE.cons (F35_ok n) (E2_ok n)
noncomputable def F19_0x0 : SSh := ⟨43, [(0, (.ptr 0 0)), (3, (.own 1)), (4, (.int .i64)), (5, (.int .i64)), (6, (.int .i64)), (7, (.int .i64))], [(.box 53 (.cons (.imm 1) (.cons (.int .i64) .nil))), (.arr 3 true)]⟩
noncomputable def F19_0s : SSh := ⟨43, [(0, (.ptr 0 0)), (3, (.own 1)), (4, (.int .i64)), (5, (.int .i64)), (6, (.int .i64)), (7, (.int .i64))], [(.box 53 (.cons (.imm 1) (.cons (.int .i64) .nil))), (.arr 3 true)]⟩
noncomputable def F19_0 {R : Type} (n : Nat) (x96 : Int) (x97 : Int) (x98 : Int) (x99 : Int) (x100 : List Int) (x101 : Int) (x102 : List Itm) (k0 : Int → Int → Int → Int → List Int → Int → List Itm → Option R) : Option R :=
  (bif (x97 == (1 : Int)) then
  (andThen (F36 n (2 : Int) x100 x101) fun r105 =>
  (k0 x96 x97 x98 (IntKind.wrap .i64 ((IntKind.wrap .i64 (x98.tdiv (3 : Int))) + r105.1)) r105.2.1.1 r105.2.1.2.1 x102))
  else (k0 x96 x97 x98 x99 x100 x101 x102))
noncomputable def F19_0z (n : Nat) : Sm G := inZ G 1 ⟨[0, 3, 4, 5, 6, 7], []⟩ F19_0s fun R x K => F19_0 n x.1.2.2.1 x.1.2.2.2.1 x.1.2.2.2.2.1 x.1.2.2.2.2.2.1 x.2.1.1 x.2.1.2.1 x.2.2.1 (fun u0 u1 u2 u3 u4 u5 u6 => K .normal (SSh.enc G F19_0x0 (((), ((), (u0, (u1, (u2, (u3, ())))))), ((u4, (u5, ())), (u6, ())))))
theorem F19_0_eq (n : Nat) (R : Type) (x : SSh.den G F19_0s) (K : AE → St G → Option R) :
  F19_0 n x.1.2.2.1 x.1.2.2.2.1 x.1.2.2.2.2.1 x.1.2.2.2.2.2.1 x.2.1.1 x.2.1.2.1 x.2.2.1 (fun u0 u1 u2 u3 u4 u5 u6 => K .normal (SSh.enc G F19_0x0 (((), ((), (u0, (u1, (u2, (u3, ())))))), ((u4, (u5, ())), (u6, ()))))) = exec prog G (ro G (tabOf (E3 n)) (frOf []) R) 1 (codeAt F19c [1, 1, 1, 1, 0, 1, 0, 0, 1, 0, 0, 1, 0]) .no (SSh.enc G F19_0s x) (kNrm G (ro G (tabOf (E3 n)) (frOf []) R) 1 ⟨⟨[0, 3, 4, 5, 6, 7], []⟩, ⟨[2], []⟩, [(1, ⟨[0, 3, 4, 5, 6], []⟩), (0, ⟨[3], []⟩)]⟩ K) := by kernel_rfl
theorem F19_0_ok (n : Nat) : FragOK prog G 1 (codeAt F19c [1, 1, 1, 1, 0, 1, 0, 0, 1, 0, 0, 1, 0]) (F19_0z n) :=
  frag_plain laws fnok (E3_ok n).tab (AllF.of (l := []) (by kernel_rfl) AllF.nil) (F19_0_eq n)
noncomputable def F19_1x0 : SSh := ⟨43, [(0, (.ptr 0 0)), (3, (.own 1)), (4, (.int .i64)), (5, (.int .i64)), (6, (.int .i64)), (7, (.int .i64))], [(.box 53 (.cons (.imm 1) (.cons (.int .i64) .nil))), (.arr 3 true)]⟩
noncomputable def F19_1s : SSh := ⟨43, [(0, (.ptr 0 0)), (3, (.own 1)), (4, (.int .i64)), (5, (.int .i64)), (6, (.int .i64)), (7, (.int .i64))], [(.box 53 (.cons (.imm 1) (.cons (.int .i64) .nil))), (.arr 3 true)]⟩
noncomputable def F19_1 {R : Type} (n : Nat) (x114 : Int) (x115 : Int) (x116 : Int) (x117 : Int) (x118 : List Int) (x119 : Int) (x120 : List Itm) (k0 : Int → Int → Int → Int → List Int → Int → List Itm → Option R) : Option R :=
  (bif (x115 == (2 : Int)) then
  (andThen (F36 n (2 : Int) x118 x119) fun r123 =>
  (k0 x114 x115 x116 (IntKind.wrap .i64 ((IntKind.wrap .i64 (x114 - x116)) - r123.1)) r123.2.1.1 r123.2.1.2.1 x120))
  else (k0 x114 x115 x116 x117 x118 x119 x120))
noncomputable def F19_1z (n : Nat) : Sm G := inZ G 1 ⟨[0, 3, 4, 5, 6, 7], []⟩ F19_1s fun R x K => F19_1 n x.1.2.2.1 x.1.2.2.2.1 x.1.2.2.2.2.1 x.1.2.2.2.2.2.1 x.2.1.1 x.2.1.2.1 x.2.2.1 (fun u0 u1 u2 u3 u4 u5 u6 => K .normal (SSh.enc G F19_1x0 (((), ((), (u0, (u1, (u2, (u3, ())))))), ((u4, (u5, ())), (u6, ())))))
theorem F19_1_eq (n : Nat) (R : Type) (x : SSh.den G F19_1s) (K : AE → St G → Option R) :
  F19_1 n x.1.2.2.1 x.1.2.2.2.1 x.1.2.2.2.2.1 x.1.2.2.2.2.2.1 x.2.1.1 x.2.1.2.1 x.2.2.1 (fun u0 u1 u2 u3 u4 u5 u6 => K .normal (SSh.enc G F19_1x0 (((), ((), (u0, (u1, (u2, (u3, ())))))), ((u4, (u5, ())), (u6, ()))))) = exec prog G (ro G (tabOf (E3 n)) (frOf [F19_0z n]) R) 1 (codeAt F19c [1, 1, 1, 1, 0, 1, 0, 0, 1, 0, 0, 1, 1, 0]) .no (SSh.enc G F19_1s x) (kNrm G (ro G (tabOf (E3 n)) (frOf [F19_0z n]) R) 1 ⟨⟨[0, 3, 4, 5, 6, 7], []⟩, ⟨[2], []⟩, [(1, ⟨[0, 3, 4, 5, 6], []⟩), (0, ⟨[3], []⟩)]⟩ K) := by kernel_rfl
theorem F19_1_ok (n : Nat) : FragOK prog G 1 (codeAt F19c [1, 1, 1, 1, 0, 1, 0, 0, 1, 0, 0, 1, 1, 0]) (F19_1z n) :=
  frag_plain laws fnok (E3_ok n).tab (AllF.of (l := []) (by kernel_rfl) AllF.nil) (F19_1_eq n)
noncomputable def F19_2x0 : SSh := ⟨43, [(0, (.ptr 0 0)), (3, (.own 1)), (4, (.int .i64)), (5, (.int .i64)), (6, (.int .i64))], [(.box 53 (.cons (.imm 1) (.cons (.int .i64) .nil))), (.arr 3 true)]⟩
noncomputable def F19_2s : SSh := ⟨43, [(0, (.ptr 0 0)), (3, (.own 1)), (4, (.int .i64)), (5, (.int .i64)), (6, (.int .i64))], [(.box 53 (.cons (.imm 1) (.cons (.int .i64) .nil))), (.arr 3 true)]⟩
noncomputable def F19_2 {R : Type} (n : Nat) (x89 : Int) (x90 : Int) (x91 : Int) (x92 : List Int) (x93 : Int) (x94 : List Itm) (k0 : Int → Int → Int → List Int → Int → List Itm → Option R) : Option R :=
  (andThen (F36 n (12 : Int) x92 x93) fun r95 =>
  (F19_0 n x89 x90 x91 r95.1 r95.2.1.1 r95.2.1.2.1 x94 (fun z107 z108 z109 z110 z111 z112 z113 =>
  (F19_1 n z107 z108 z109 z110 z111 z112 z113 (fun z125 z126 z127 z128 z129 z130 z131 =>
  let v132 := ((Itm.mk z128 z127) :: [])
  (bif (decide (((z131.length) + (v132.length)) ≤ (68719476736 : Nat))) then
  (k0 z125 z126 z127 z129 z130 (z131 ++ v132))
  else none))))))
noncomputable def F19_2z (n : Nat) : Sm G := inZ G 1 ⟨[0, 3, 4, 5, 6], []⟩ F19_2s fun R x K => F19_2 n x.1.2.2.1 x.1.2.2.2.1 x.1.2.2.2.2.1 x.2.1.1 x.2.1.2.1 x.2.2.1 (fun u0 u1 u2 u3 u4 u5 => K .normal (SSh.enc G F19_2x0 (((), ((), (u0, (u1, (u2, ()))))), ((u3, (u4, ())), (u5, ())))))
theorem F19_2_eq (n : Nat) (R : Type) (x : SSh.den G F19_2s) (K : AE → St G → Option R) :
  F19_2 n x.1.2.2.1 x.1.2.2.2.1 x.1.2.2.2.2.1 x.2.1.1 x.2.1.2.1 x.2.2.1 (fun u0 u1 u2 u3 u4 u5 => K .normal (SSh.enc G F19_2x0 (((), ((), (u0, (u1, (u2, ()))))), ((u3, (u4, ())), (u5, ()))))) = exec prog G (ro G (tabOf (E3 n)) (frOf [F19_0z n, F19_1z n]) R) 1 (codeAt F19c [1, 1, 1, 1, 0, 1, 0, 0, 1, 0]) (.nd (.nd .no (.nd (.use 0) (.nd (.use 1) .no))) .no) (SSh.enc G F19_2s x) (kNrm G (ro G (tabOf (E3 n)) (frOf [F19_0z n, F19_1z n]) R) 1 ⟨⟨[0, 3, 4, 5, 6], []⟩, ⟨[2], []⟩, [(0, ⟨[3], []⟩)]⟩ K) := by kernel_rfl
theorem F19_2_ok (n : Nat) : FragOK prog G 1 (codeAt F19c [1, 1, 1, 1, 0, 1, 0, 0, 1, 0]) (F19_2z n) :=
  frag_plain laws fnok (E3_ok n).tab (AllF.of (l := [(0, codeAt F19c [1, 1, 1, 1, 0, 1, 0, 0, 1, 0, 0, 1, 0]), (1, codeAt F19c [1, 1, 1, 1, 0, 1, 0, 0, 1, 0, 0, 1, 1, 0])]) (by kernel_rfl) (AllF.cons (F19_0_ok n) (AllF.cons (F19_1_ok n) AllF.nil))) (F19_2_eq n)
noncomputable def F19_3x0 : SSh := ⟨43, [(3, (.own 1))], [(.box 53 (.cons (.imm 1) (.cons (.int .i64) .nil))), (.arr 3 true)]⟩
noncomputable def F19_3s : SSh := ⟨43, [(0, (.ptr 0 0)), (3, (.own 1)), (4, (.int .i64)), (5, (.int .i64)), (6, (.int .i64))], [(.box 53 (.cons (.imm 1) (.cons (.int .i64) .nil))), (.arr 3 true)]⟩
noncomputable def F19_3_step {R : Type} (n : Nat) (k0 : List Int → Int → List Itm → Option R) (rec : Int → Int → Int → List Int → Int → List Itm → Option R) (x82 : Int) (x83 : Int) (x84 : Int) (x85 : List Int) (x86 : Int) (x87 : List Itm) : Option R :=
  (bif (decide (x84 < x82)) then
  (F19_2 n x82 x83 x84 x85 x86 x87 (fun z134 z135 z136 z137 z138 z139 =>
  (rec z134 z135 (IntKind.wrap .i64 (z136 + (1 : Int))) z137 z138 z139)))
  else (k0 x85 x86 x87))
noncomputable def F19_3_it {R : Type} (n : Nat) (k0 : List Int → Int → List Itm → Option R) : Nat → Int → Int → Int → List Int → Int → List Itm → Option R
  | 0, _, _, _, _, _, _ => none
  | k + 1, x82, x83, x84, x85, x86, x87 => F19_3_step n k0 (F19_3_it n k0 k) x82 x83 x84 x85 x86 x87
noncomputable def F19_3 {R : Type} (n : Nat) (x82 : Int) (x83 : Int) (x84 : Int) (x85 : List Int) (x86 : Int) (x87 : List Itm) (k0 : List Int → Int → List Itm → Option R) : Option R := F19_3_it n k0 n x82 x83 x84 x85 x86 x87
noncomputable def F19_3z (n : Nat) : Sm G := inZ G 1 ⟨[0, 3, 4, 5, 6], []⟩ F19_3s fun R x K => F19_3_it n (fun u0 u1 u2 => K (.exit 0) (SSh.enc G F19_3x0 (((), ()), ((u0, (u1, ())), (u2, ()))))) n x.1.2.2.1 x.1.2.2.2.1 x.1.2.2.2.2.1 x.2.1.1 x.2.1.2.1 x.2.2.1
theorem F19_3_eq (n : Nat) (R : Type) (rec : SSh.den G F19_3s → Option R) (x : SSh.den G F19_3s) (K : AE → St G → Option R) :
  F19_3_step n (fun u0 u1 u2 => K (.exit 0) (SSh.enc G F19_3x0 (((), ()), ((u0, (u1, ())), (u2, ()))))) (fun x82 x83 x84 x85 x86 x87 => rec (((), ((), (x82, (x83, (x84, ()))))), ((x85, (x86, ())), (x87, ())))) x.1.2.2.1 x.1.2.2.2.1 x.1.2.2.2.2.1 x.2.1.1 x.2.1.2.1 x.2.2.1 = exec prog G (ro G (tabOf (E3 n)) (frOf [F19_0z n, F19_1z n, F19_2z n]) R) 1 (codeAt F19c [1, 1, 1, 1, 0, 1, 0, 0]) (.nd .no (.nd (.use 2) .no)) (SSh.enc G F19_3s x) (kLoop G (ro G (tabOf (E3 n)) (frOf [F19_0z n, F19_1z n, F19_2z n]) R) 1 ⟨[0, 3, 4, 5, 6], []⟩ F19_3s ⟨⟨[3], []⟩, ⟨[2], []⟩, [(0, ⟨[3], []⟩)]⟩ rec K) := by kernel_rfl
theorem F19_3_ok (n : Nat) : FragOK prog G 1 (codeAt F19c [1, 1, 1, 1, 0, 1, 0]) (F19_3z n) :=
  frag_loop (Z := fun R k (x : SSh.den G F19_3s) K => F19_3_it n (fun u0 u1 u2 => K (.exit 0) (SSh.enc G F19_3x0 (((), ()), ((u0, (u1, ())), (u2, ()))))) k x.1.2.2.1 x.1.2.2.2.1 x.1.2.2.2.2.1 x.2.1.1 x.2.1.2.1 x.2.2.1) laws fnok (E3_ok n).tab (AllF.of (l := [(2, codeAt F19c [1, 1, 1, 1, 0, 1, 0, 0, 1, 0])]) (by kernel_rfl) (AllF.cons (F19_2_ok n) AllF.nil)) (fun _ _ _ => rfl) (fun R k y K => F19_3_eq n R (fun (x : SSh.den G F19_3s) => F19_3_it n (fun u0 u1 u2 => K (.exit 0) (SSh.enc G F19_3x0 (((), ()), ((u0, (u1, ())), (u2, ()))))) k x.1.2.2.1 x.1.2.2.2.1 x.1.2.2.2.2.1 x.2.1.1 x.2.1.2.1 x.2.2.1) y K) n
noncomputable def F19 (n : Nat) (a9 : List Int) (a10 : Int) : Option (List Itm × ((List Int × (Int × Unit)) × Unit)) :=
  (andThen (F35 n ((0 : Int) :: ((1 : Int) :: ((5 : Int) :: ((12 : Int) :: ((20 : Int) :: ((40 : Int) :: ((60 : Int) :: ((61 : Int) :: [])))))))) a9 a10) fun r80 =>
  (andThen (F36 n (4 : Int) r80.2.1.1 r80.2.1.2.1) fun r81 =>
  (F19_3 n r80.1 r81.1 (0 : Int) r81.2.1.1 r81.2.1.2.1 [] (fun z141 z142 z143 =>
  some (z143, ((z141, (z142, ())), ()))))))
noncomputable def F19e (n : Nat) : Ent G := ⟨19, (.cons (.ptr 0 0) .nil), [(.box 53 (.cons (.imm 1) (.cons (.int .i64) .nil)))], (.imm 3), [(.box 53 (.cons (.imm 1) (.cons (.int .i64) .nil)))], fun x y => F19 n y.1.1 y.1.2.1⟩
theorem F19_eq (n : Nat) (x : ShL.den G (.cons (.ptr 0 0) .nil)) (y : denO G [(.box 53 (.cons (.imm 1) (.cons (.int .i64) .nil)))]) : (F19e n).F x y = runFn prog G (ro G (tabOf (E3 n)) (frOf [F19_0z n, F19_1z n, F19_2z n, F19_3z n]) _) Go.Proofs.Try.f19 (.nd .no (.nd .no (.nd .no (.nd .no (.nd (.nd .no (.nd (.use 3) .no)) .no))))) [(0, .fz)] (ShL.enc G (.cons (.ptr 0 0) .nil) x) (encO G [(.box 53 (.cons (.imm 1) (.cons (.int .i64) .nil)))] y) (decR (.imm 3) [(.box 53 (.cons (.imm 1) (.cons (.int .i64) .nil)))]) := by kernel_rfl
theorem F19_ok (n : Nat) : EntOK prog G (F19e n) :=
  ent_ok (fr := frOf [F19_0z n, F19_1z n, F19_2z n, F19_3z n]) (ann := (.nd .no (.nd .no (.nd .no (.nd .no (.nd (.nd .no (.nd (.use 3) .no)) .no)))))) (frm := [(0, .fz)]) laws fnok (E3_ok n).tab (e := F19e n) (fn := Go.Proofs.Try.f19) (by kernel_rfl) (AllF.ofB (cd := F19c) (l := [(3, codeAt F19c [1, 1, 1, 1, 0, 1, 0])]) (by kernel_rfl) (by kernel_rfl) (AllF.cons (F19_3_ok n) AllF.nil)) (F19_eq n)
noncomputable def E4 (n : Nat) : List (Ent G) := F19e n :: E3 n
theorem E4_ok (n : Nat) : AllE prog G (E4 n) := AllE.cons (F19_ok n) (E3_ok n)
noncomputable def F7 (n : Nat) (a3 : List Int) : Option (List Itm × Unit) :=
  (andThen (F18 n a3) fun r8 =>
  (andThen (F19 n r8.2.1.1 r8.2.1.2.1) fun r144 =>
  some (r144.1, ())))
noncomputable def F7e (n : Nat) : Ent G := ⟨7, (.cons (.imm 1) .nil), [], (.imm 3), [], fun x y => F7 n x.1⟩
theorem F7_eq (n : Nat) (x : ShL.den G (.cons (.imm 1) .nil)) (y : denO G []) : (F7e n).F x y = runFn prog G (ro G (tabOf (E4 n)) (frOf []) _) Go.Proofs.Try.f7 .no [(0, .fz)] (ShL.enc G (.cons (.imm 1) .nil) x) (encO G [] y) (decR (.imm 3) []) := by kernel_rfl
theorem F7_ok (n : Nat) : EntOK prog G (F7e n) :=
  ent_ok (fr := frOf []) (ann := .no) (frm := [(0, .fz)]) laws fnok (E4_ok n).tab (e := F7e n) (fn := Go.Proofs.Try.f7) (by kernel_rfl) (AllF.ofB (cd := F7c) (l := []) (by kernel_rfl) (by kernel_rfl) AllF.nil) (F7_eq n)
noncomputable def E5 (n : Nat) : List (Ent G) := F7e n :: E4 n
theorem E5_ok (n : Nat) : AllE prog G (E5 n) := AllE.cons (F7_ok n) (E4_ok n)
-- 28 loop.example/slowworm/impl.RunLeast
noncomputable def F28c : Code := bodyOf Go.Proofs.Try.f28
-- 37 loop.example/slowworm/impl.within
noncomputable def F37c : Code := bodyOf Go.Proofs.Try.f37
noncomputable def F37 (n : Nat) (a152 : Int) (a153 : Int) (a154 : Int) : Option (Bool × Unit) :=
  (bif (decide (a152 ≥ a153)) then
  some ((decide (a152 ≤ a154)), ())
  else some (false, ()))
noncomputable def F37e (n : Nat) : Ent G := ⟨37, (.cons (.int .i64) (.cons (.int .i64) (.cons (.int .i64) .nil))), [], .bool, [], fun x y => F37 n x.1 x.2.1 x.2.2.1⟩
theorem F37_eq (n : Nat) (x : ShL.den G (.cons (.int .i64) (.cons (.int .i64) (.cons (.int .i64) .nil)))) (y : denO G []) : (F37e n).F x y = runFn prog G (ro G (tabOf (E5 n)) (frOf []) _) Go.Proofs.Try.f37 .no [(0, .fz)] (ShL.enc G (.cons (.int .i64) (.cons (.int .i64) (.cons (.int .i64) .nil))) x) (encO G [] y) (decR .bool []) := by kernel_rfl
theorem F37_ok (n : Nat) : EntOK prog G (F37e n) :=
  ent_ok (fr := frOf []) (ann := .no) (frm := [(0, .fz)]) laws fnok (E5_ok n).tab (e := F37e n) (fn := Go.Proofs.Try.f37) (by kernel_rfl) (AllF.ofB (cd := F37c) (l := []) (by kernel_rfl) (by kernel_rfl) AllF.nil) (F37_eq n)
noncomputable def E6 (n : Nat) : List (Ent G) := F37e n :: E5 n
theorem E6_ok (n : Nat) : AllE prog G (E6 n) := AllE.cons (F37_ok n) (E5_ok n)
noncomputable def F28_0x0 : SSh := ⟨18, [(0, (.int .i64)), (3, (.int .i64))], []⟩
noncomputable def F28_0s : SSh := ⟨18, [(0, (.int .i64)), (3, (.int .i64))], []⟩
noncomputable def F28_0_step {R : Type} (n : Nat) (k0 : Int → Int → Option R) (rec : Int → Int → Option R) (x159 : Int) (x160 : Int) : Option R :=
  (bif (decide (x159 ≥ (8 : Int))) then
  (rec (IntKind.wrap .i64 (x159.tdiv (2 : Int))) (IntKind.wrap .i64 ((((BitVec.ofInt (64 : Nat) x160) ||| (BitVec.ofInt (64 : Nat) (IntKind.wrap .i64 ((((BitVec.ofInt (64 : Nat) x159) &&& (BitVec.ofInt (64 : Nat) (1 : Int))).toNat) : Int)))).toNat) : Int)))
  else (k0 x159 x160))
noncomputable def F28_0_it {R : Type} (n : Nat) (k0 : Int → Int → Option R) : Nat → Int → Int → Option R
  | 0, _, _ => none
  | k + 1, x159, x160 => F28_0_step n k0 (F28_0_it n k0 k) x159 x160
noncomputable def F28_0 {R : Type} (n : Nat) (x159 : Int) (x160 : Int) (k0 : Int → Int → Option R) : Option R := F28_0_it n k0 n x159 x160
noncomputable def F28_0z (n : Nat) : Sm G := inZ G 0 ⟨[0, 3], []⟩ F28_0s fun R x K => F28_0_it n (fun u0 u1 => K (.exit 0) (SSh.enc G F28_0x0 ((u0, (u1, ())), ()))) n x.1.1 x.1.2.1
theorem F28_0_eq (n : Nat) (R : Type) (rec : SSh.den G F28_0s → Option R) (x : SSh.den G F28_0s) (K : AE → St G → Option R) :
  F28_0_step n (fun u0 u1 => K (.exit 0) (SSh.enc G F28_0x0 ((u0, (u1, ())), ()))) (fun x159 x160 => rec ((x159, (x160, ())), ())) x.1.1 x.1.2.1 = exec prog G (ro G (tabOf (E6 n)) (frOf []) R) 0 (codeAt F28c [1, 1, 1, 0, 0, 0]) .no (SSh.enc G F28_0s x) (kLoop G (ro G (tabOf (E6 n)) (frOf []) R) 0 ⟨[0, 3], []⟩ F28_0s ⟨⟨[0, 3], []⟩, ⟨[2], []⟩, [(0, ⟨[0, 3], []⟩)]⟩ rec K) := by kernel_rfl
theorem F28_0_ok (n : Nat) : FragOK prog G 0 (codeAt F28c [1, 1, 1, 0, 0]) (F28_0z n) :=
  frag_loop (Z := fun R k (x : SSh.den G F28_0s) K => F28_0_it n (fun u0 u1 => K (.exit 0) (SSh.enc G F28_0x0 ((u0, (u1, ())), ()))) k x.1.1 x.1.2.1) laws fnok (E6_ok n).tab (AllF.of (l := []) (by kernel_rfl) AllF.nil) (fun _ _ _ => rfl) (fun R k y K => F28_0_eq n R (fun (x : SSh.den G F28_0s) => F28_0_it n (fun u0 u1 => K (.exit 0) (SSh.enc G F28_0x0 ((u0, (u1, ())), ()))) k x.1.1 x.1.2.1) y K) n
noncomputable def F28 (n : Nat) (a151 : Int) : Option (Int × Unit) :=
  (andThen (F37 n a151 (0 : Int) (1000000 : Int)) fun r157 =>
  (bif (!r157.1) then
  some ((-1 : Int), ())
  else (F28_0 n a151 (0 : Int) (fun z165 z166 =>
  some ((IntKind.wrap .i64 (z165 + z166)), ())))))
noncomputable def F28e (n : Nat) : Ent G := ⟨28, (.cons (.int .i64) .nil), [], (.int .i64), [], fun x y => F28 n x.1⟩
theorem F28_eq (n : Nat) (x : ShL.den G (.cons (.int .i64) .nil)) (y : denO G []) : (F28e n).F x y = runFn prog G (ro G (tabOf (E6 n)) (frOf [F28_0z n]) _) Go.Proofs.Try.f28 (.nd .no (.nd .no (.nd .no (.nd (.nd (.use 0) .no) .no)))) [(0, .fz)] (ShL.enc G (.cons (.int .i64) .nil) x) (encO G [] y) (decR (.int .i64) []) := by kernel_rfl
theorem F28_ok (n : Nat) : EntOK prog G (F28e n) :=
  ent_ok (fr := frOf [F28_0z n]) (ann := (.nd .no (.nd .no (.nd .no (.nd (.nd (.use 0) .no) .no))))) (frm := [(0, .fz)]) laws fnok (E6_ok n).tab (e := F28e n) (fn := Go.Proofs.Try.f28) (by kernel_rfl) (AllF.ofB (cd := F28c) (l := [(0, codeAt F28c [1, 1, 1, 0, 0])]) (by kernel_rfl) (by kernel_rfl) (AllF.cons (F28_0_ok n) AllF.nil)) (F28_eq n)
noncomputable def E7 (n : Nat) : List (Ent G) := F28e n :: E6 n
theorem E7_ok (n : Nat) : AllE prog G (E7 n) := AllE.cons (F28_ok n) (E6_ok n)
-- 29 slices.Clone[[]loop.example/slowworm/impl.Item,loop.example/slowworm/impl.Item]
noncomputable def F29c : Code := bodyOf Go.Proofs.Try.f29
noncomputable def F29 (n : Nat) (a229 : List Itm) : Option (Unit × (List Itm × Unit)) :=
  (bif (decide ((a229.length) ≤ (0 : Nat))) then
  (both
  (some ((), ([], ())))
  (let v231 := []
  (bif (decide (((v231.length) + (a229.length)) ≤ (68719476736 : Nat))) then
  some ((), ((v231 ++ a229), ()))
  else none)))
  else let v233 := []
  (bif (decide (((v233.length) + (a229.length)) ≤ (68719476736 : Nat))) then
  some ((), ((v233 ++ a229), ()))
  else none))
noncomputable def F29e (n : Nat) : Ent G := ⟨29, (.cons (.imm 3) .nil), [], (.own 0), [(.arr 3 true)], fun x y => F29 n x.1⟩
theorem F29_eq (n : Nat) (x : ShL.den G (.cons (.imm 3) .nil)) (y : denO G []) : (F29e n).F x y = runFn prog G (ro G (tabOf (E7 n)) (frOf []) _) Go.Proofs.Try.f29 .no [(0, (.own 3))] (ShL.enc G (.cons (.imm 3) .nil) x) (encO G [] y) (decR (.own 0) [(.arr 3 true)]) := by kernel_rfl
theorem F29_ok (n : Nat) : EntOK prog G (F29e n) :=
  ent_ok (fr := frOf []) (ann := .no) (frm := [(0, (.own 3))]) laws fnok (E7_ok n).tab (e := F29e n) (fn := Go.Proofs.Try.f29) (by kernel_rfl) (AllF.ofB (cd := F29c) (l := []) (by kernel_rfl) (by kernel_rfl) AllF.nil) (F29_eq n)
noncomputable def E8 (n : Nat) : List (Ent G) := F29e n :: E7 n
theorem E8_ok (n : Nat) : AllE prog G (E8 n) := AllE.cons (F29_ok n) (E7_ok n)
-- 30 slices.Reverse[[]loop.example/slowworm/impl.Item,loop.example/slowworm/impl.Item]
noncomputable def F30c : Code := bodyOf Go.Proofs.Try.f30
noncomputable def F30_0x0 : SSh := ⟨28, [], [(.arr 3 true)]⟩
noncomputable def F30_0s : SSh := ⟨28, [(0, (.own 0)), (2, (.int .i64)), (3, (.int .i64))], [(.arr 3 true)]⟩
noncomputable def F30_0_step {R : Type} (n : Nat) (k0 : List Itm → Option R) (rec : Int → Int → List Itm → Option R) (x248 : Int) (x249 : Int) (x250 : List Itm) : Option R :=
  (bif (decide (x248 < x249)) then
  (bif (decide ((0 : Int) ≤ x249)) then
  (bif (decide (x249 < ((x250.length) : Int))) then
  let v252 := (x249.toNat)
  (bif (decide ((0 : Int) ≤ x248)) then
  (bif (decide (x248 < ((x250.length) : Int))) then
  let v255 := (x248.toNat)
  (bif (decide ((0 : Int) ≤ x248)) then
  (bif (decide (x248 < ((x250.length) : Int))) then
  let v259 := (x250.set (x248.toNat) (Itm.mk (x250.getD v252 (Itm.mk (0 : Int) (0 : Int))).key (x250.getD v252 (Itm.mk (0 : Int) (0 : Int))).tag))
  (bif (decide ((0 : Int) ≤ x249)) then
  (bif (decide (x249 < ((v259.length) : Int))) then
  (rec (IntKind.wrap .i64 (x248 + (1 : Int))) (IntKind.wrap .i64 (x249 - (1 : Int))) (v259.set (x249.toNat) (Itm.mk (x250.getD v255 (Itm.mk (0 : Int) (0 : Int))).key (x250.getD v255 (Itm.mk (0 : Int) (0 : Int))).tag)))
  else none)
  else none)
  else none)
  else none)
  else none)
  else none)
  else none)
  else none)
  else (k0 x250))
noncomputable def F30_0_it {R : Type} (n : Nat) (k0 : List Itm → Option R) : Nat → Int → Int → List Itm → Option R
  | 0, _, _, _ => none
  | k + 1, x248, x249, x250 => F30_0_step n k0 (F30_0_it n k0 k) x248 x249 x250
noncomputable def F30_0 {R : Type} (n : Nat) (x248 : Int) (x249 : Int) (x250 : List Itm) (k0 : List Itm → Option R) : Option R := F30_0_it n k0 n x248 x249 x250
noncomputable def F30_0z (n : Nat) : Sm G := inZ G 1 ⟨[0, 2, 3], []⟩ F30_0s fun R x K => F30_0_it n (fun u0 => K (.exit 0) (SSh.enc G F30_0x0 ((), (u0, ())))) n x.1.2.1 x.1.2.2.1 x.2.1
theorem F30_0_eq (n : Nat) (R : Type) (rec : SSh.den G F30_0s → Option R) (x : SSh.den G F30_0s) (K : AE → St G → Option R) :
  F30_0_step n (fun u0 => K (.exit 0) (SSh.enc G F30_0x0 ((), (u0, ())))) (fun x248 x249 x250 => rec (((), (x248, (x249, ()))), (x250, ()))) x.1.2.1 x.1.2.2.1 x.2.1 = exec prog G (ro G (tabOf (E8 n)) (frOf []) R) 1 (codeAt F30c [1, 0, 0]) .no (SSh.enc G F30_0s x) (kLoop G (ro G (tabOf (E8 n)) (frOf []) R) 1 ⟨[0, 2, 3], []⟩ F30_0s ⟨⟨[], []⟩, ⟨[], []⟩, [(0, ⟨[], []⟩)]⟩ rec K) := by kernel_rfl
theorem F30_0_ok (n : Nat) : FragOK prog G 1 (codeAt F30c [1, 0]) (F30_0z n) :=
  frag_loop (Z := fun R k (x : SSh.den G F30_0s) K => F30_0_it n (fun u0 => K (.exit 0) (SSh.enc G F30_0x0 ((), (u0, ())))) k x.1.2.1 x.1.2.2.1 x.2.1) laws fnok (E8_ok n).tab (AllF.of (l := []) (by kernel_rfl) AllF.nil) (fun _ _ _ => rfl) (fun R k y K => F30_0_eq n R (fun (x : SSh.den G F30_0s) => F30_0_it n (fun u0 => K (.exit 0) (SSh.enc G F30_0x0 ((), (u0, ())))) k x.1.2.1 x.1.2.2.1 x.2.1) y K) n
noncomputable def F30 (n : Nat) (a245 : List Itm) : Option (Unit × (List Itm × Unit)) :=
  (F30_0 n (0 : Int) (IntKind.wrap .i64 (((a245.length) : Int) - (1 : Int))) a245 (fun z264 =>
  some ((), (z264, ()))))
noncomputable def F30e (n : Nat) : Ent G := ⟨30, (.cons (.own 0) .nil), [(.arr 3 true)], (.tup .nil), [(.arr 3 true)], fun x y => F30 n y.1⟩
theorem F30_eq (n : Nat) (x : ShL.den G (.cons (.own 0) .nil)) (y : denO G [(.arr 3 true)]) : (F30e n).F x y = runFn prog G (ro G (tabOf (E8 n)) (frOf [F30_0z n]) _) Go.Proofs.Try.f30 (.nd .no (.nd (.use 0) .no)) [] (ShL.enc G (.cons (.own 0) .nil) x) (encO G [(.arr 3 true)] y) (decR (.tup .nil) [(.arr 3 true)]) := by kernel_rfl
theorem F30_ok (n : Nat) : EntOK prog G (F30e n) :=
  ent_ok (fr := frOf [F30_0z n]) (ann := (.nd .no (.nd (.use 0) .no))) (frm := []) laws fnok (E8_ok n).tab (e := F30e n) (fn := Go.Proofs.Try.f30) (by kernel_rfl) (AllF.ofB (cd := F30c) (l := [(0, codeAt F30c [1, 0])]) (by kernel_rfl) (by kernel_rfl) (AllF.cons (F30_0_ok n) AllF.nil)) (F30_eq n)
noncomputable def E9 (n : Nat) : List (Ent G) := F30e n :: E8 n
theorem E9_ok (n : Nat) : AllE prog G (E9 n) := AllE.cons (F30_ok n) (E8_ok n)
-- 11 loop.example/slowworm/impl.RunsOf
noncomputable def F11c : Code := bodyOf Go.Proofs.Try.f11
noncomputable def F11_0x0 : SSh := ⟨144, [(0, (.imm 3)), (3, (.int .i64)), (4, (.own 0)), (5, (.int .i64)), (6, (.int .i64))], [(.arr 6 true)]⟩
noncomputable def F11_0s : SSh := ⟨144, [(0, (.imm 3)), (3, (.int .i64)), (4, (.own 0)), (5, (.int .i64)), (6, (.int .i64))], [(.arr 6 true)]⟩
noncomputable def F11_0_step {R : Type} (n : Nat) (k0 : List Itm → Int → Int → Int → List (List Itm) → Option R) (rec : List Itm → Int → Int → Int → List (List Itm) → Option R) (x335 : List Itm) (x336 : Int) (x337 : Int) (x338 : Int) (x339 : List (List Itm)) : Option R :=
  (bif (decide (x338 < ((x335.length) : Int))) then
  (bif (decide ((0 : Int) ≤ x338)) then
  (bif (decide (x338 < ((x335.length) : Int))) then
  let v344 := (IntKind.wrap .i64 (x338 - (1 : Int)))
  (bif (decide ((0 : Int) ≤ v344)) then
  (bif (decide (v344 < ((x335.length) : Int))) then
  (bif (decide ((x335.getD (x338.toNat) (Itm.mk (0 : Int) (0 : Int))).key < (x335.getD (v344.toNat) (Itm.mk (0 : Int) (0 : Int))).key)) then
  (rec x335 x336 x337 (IntKind.wrap .i64 (x338 + (1 : Int))) x339)
  else (k0 x335 x336 x337 x338 x339))
  else none)
  else none)
  else none)
  else none)
  else (k0 x335 x336 x337 x338 x339))
noncomputable def F11_0_it {R : Type} (n : Nat) (k0 : List Itm → Int → Int → Int → List (List Itm) → Option R) : Nat → List Itm → Int → Int → Int → List (List Itm) → Option R
  | 0, _, _, _, _, _ => none
  | k + 1, x335, x336, x337, x338, x339 => F11_0_step n k0 (F11_0_it n k0 k) x335 x336 x337 x338 x339
noncomputable def F11_0 {R : Type} (n : Nat) (x335 : List Itm) (x336 : Int) (x337 : Int) (x338 : Int) (x339 : List (List Itm)) (k0 : List Itm → Int → Int → Int → List (List Itm) → Option R) : Option R := F11_0_it n k0 n x335 x336 x337 x338 x339
noncomputable def F11_0z (n : Nat) : Sm G := inZ G 0 ⟨[0, 3, 4, 5, 6], []⟩ F11_0s fun R x K => F11_0_it n (fun u0 u1 u2 u3 u4 => K (.exit 2) (SSh.enc G F11_0x0 ((u0, (u1, ((), (u2, (u3, ()))))), (u4, ())))) n x.1.1 x.1.2.1 x.1.2.2.2.1 x.1.2.2.2.2.1 x.2.1
theorem F11_0_eq (n : Nat) (R : Type) (rec : SSh.den G F11_0s → Option R) (x : SSh.den G F11_0s) (K : AE → St G → Option R) :
  F11_0_step n (fun u0 u1 u2 u3 u4 => K (.exit 2) (SSh.enc G F11_0x0 ((u0, (u1, ((), (u2, (u3, ()))))), (u4, ())))) (fun x335 x336 x337 x338 x339 => rec ((x335, (x336, ((), (x337, (x338, ()))))), (x339, ()))) x.1.1 x.1.2.1 x.1.2.2.2.1 x.1.2.2.2.2.1 x.2.1 = exec prog G (ro G (tabOf (E9 n)) (frOf []) R) 0 (codeAt F11c [1, 1, 1, 1, 0, 1, 0, 0, 1, 0, 1, 0, 1, 0, 0, 0]) .no (SSh.enc G F11_0s x) (kLoop G (ro G (tabOf (E9 n)) (frOf []) R) 0 ⟨[0, 3, 4, 5, 6], []⟩ F11_0s ⟨⟨[0, 3, 4, 5, 6], []⟩, ⟨[2], []⟩, [(2, ⟨[0, 3, 4, 5, 6], []⟩), (1, ⟨[0, 3, 4, 5], []⟩), (0, ⟨[4], []⟩)]⟩ rec K) := by kernel_rfl
theorem F11_0_ok (n : Nat) : FragOK prog G 0 (codeAt F11c [1, 1, 1, 1, 0, 1, 0, 0, 1, 0, 1, 0, 1, 0, 0]) (F11_0z n) :=
  frag_loop (Z := fun R k (x : SSh.den G F11_0s) K => F11_0_it n (fun u0 u1 u2 u3 u4 => K (.exit 2) (SSh.enc G F11_0x0 ((u0, (u1, ((), (u2, (u3, ()))))), (u4, ())))) k x.1.1 x.1.2.1 x.1.2.2.2.1 x.1.2.2.2.2.1 x.2.1) laws fnok (E9_ok n).tab (AllF.of (l := []) (by kernel_rfl) AllF.nil) (fun _ _ _ => rfl) (fun R k y K => F11_0_eq n R (fun (x : SSh.den G F11_0s) => F11_0_it n (fun u0 u1 u2 u3 u4 => K (.exit 2) (SSh.enc G F11_0x0 ((u0, (u1, ((), (u2, (u3, ()))))), (u4, ())))) k x.1.1 x.1.2.1 x.1.2.2.2.1 x.1.2.2.2.2.1 x.2.1) y K) n
noncomputable def F11_1x0 : SSh := ⟨144, [(0, (.imm 3)), (3, (.int .i64)), (4, (.own 0)), (5, (.int .i64)), (6, (.int .i64))], [(.arr 6 true)]⟩
noncomputable def F11_1s : SSh := ⟨144, [(0, (.imm 3)), (3, (.int .i64)), (4, (.own 0)), (5, (.int .i64)), (6, (.int .i64))], [(.arr 6 true)]⟩
noncomputable def F11_1_step {R : Type} (n : Nat) (k0 : List Itm → Int → Int → Int → List (List Itm) → Option R) (rec : List Itm → Int → Int → Int → List (List Itm) → Option R) (x354 : List Itm) (x355 : Int) (x356 : Int) (x357 : Int) (x358 : List (List Itm)) : Option R :=
  (bif (decide (x357 < ((x354.length) : Int))) then
  (bif (decide ((0 : Int) ≤ x357)) then
  (bif (decide (x357 < ((x354.length) : Int))) then
  let v363 := (IntKind.wrap .i64 (x357 - (1 : Int)))
  (bif (decide ((0 : Int) ≤ v363)) then
  (bif (decide (v363 < ((x354.length) : Int))) then
  (bif (decide ((x354.getD (x357.toNat) (Itm.mk (0 : Int) (0 : Int))).key ≥ (x354.getD (v363.toNat) (Itm.mk (0 : Int) (0 : Int))).key)) then
  (rec x354 x355 x356 (IntKind.wrap .i64 (x357 + (1 : Int))) x358)
  else (k0 x354 x355 x356 x357 x358))
  else none)
  else none)
  else none)
  else none)
  else (k0 x354 x355 x356 x357 x358))
noncomputable def F11_1_it {R : Type} (n : Nat) (k0 : List Itm → Int → Int → Int → List (List Itm) → Option R) : Nat → List Itm → Int → Int → Int → List (List Itm) → Option R
  | 0, _, _, _, _, _ => none
  | k + 1, x354, x355, x356, x357, x358 => F11_1_step n k0 (F11_1_it n k0 k) x354 x355 x356 x357 x358
noncomputable def F11_1 {R : Type} (n : Nat) (x354 : List Itm) (x355 : Int) (x356 : Int) (x357 : Int) (x358 : List (List Itm)) (k0 : List Itm → Int → Int → Int → List (List Itm) → Option R) : Option R := F11_1_it n k0 n x354 x355 x356 x357 x358
noncomputable def F11_1z (n : Nat) : Sm G := inZ G 0 ⟨[0, 3, 4, 5, 6], []⟩ F11_1s fun R x K => F11_1_it n (fun u0 u1 u2 u3 u4 => K (.exit 4) (SSh.enc G F11_1x0 ((u0, (u1, ((), (u2, (u3, ()))))), (u4, ())))) n x.1.1 x.1.2.1 x.1.2.2.2.1 x.1.2.2.2.2.1 x.2.1
theorem F11_1_eq (n : Nat) (R : Type) (rec : SSh.den G F11_1s → Option R) (x : SSh.den G F11_1s) (K : AE → St G → Option R) :
  F11_1_step n (fun u0 u1 u2 u3 u4 => K (.exit 4) (SSh.enc G F11_1x0 ((u0, (u1, ((), (u2, (u3, ()))))), (u4, ())))) (fun x354 x355 x356 x357 x358 => rec ((x354, (x355, ((), (x356, (x357, ()))))), (x358, ()))) x.1.1 x.1.2.1 x.1.2.2.2.1 x.1.2.2.2.2.1 x.2.1 = exec prog G (ro G (tabOf (E9 n)) (frOf [F11_0z n]) R) 0 (codeAt F11c [1, 1, 1, 1, 0, 1, 0, 0, 1, 0, 1, 0, 1, 1, 0, 0]) .no (SSh.enc G F11_1s x) (kLoop G (ro G (tabOf (E9 n)) (frOf [F11_0z n]) R) 0 ⟨[0, 3, 4, 5, 6], []⟩ F11_1s ⟨⟨[0, 3, 4, 5, 6], []⟩, ⟨[2], []⟩, [(4, ⟨[0, 3, 4, 5, 6], []⟩), (1, ⟨[0, 3, 4, 5], []⟩), (0, ⟨[4], []⟩)]⟩ rec K) := by kernel_rfl
theorem F11_1_ok (n : Nat) : FragOK prog G 0 (codeAt F11c [1, 1, 1, 1, 0, 1, 0, 0, 1, 0, 1, 0, 1, 1, 0]) (F11_1z n) :=
  frag_loop (Z := fun R k (x : SSh.den G F11_1s) K => F11_1_it n (fun u0 u1 u2 u3 u4 => K (.exit 4) (SSh.enc G F11_1x0 ((u0, (u1, ((), (u2, (u3, ()))))), (u4, ())))) k x.1.1 x.1.2.1 x.1.2.2.2.1 x.1.2.2.2.2.1 x.2.1) laws fnok (E9_ok n).tab (AllF.of (l := []) (by kernel_rfl) AllF.nil) (fun _ _ _ => rfl) (fun R k y K => F11_1_eq n R (fun (x : SSh.den G F11_1s) => F11_1_it n (fun u0 u1 u2 u3 u4 => K (.exit 4) (SSh.enc G F11_1x0 ((u0, (u1, ((), (u2, (u3, ()))))), (u4, ())))) k x.1.1 x.1.2.1 x.1.2.2.2.1 x.1.2.2.2.2.1 x.2.1) y K) n
noncomputable def F11_2x0 : SSh := ⟨144, [(0, (.imm 3)), (3, (.int .i64)), (4, (.own 0)), (5, (.int .i64)), (6, (.int .i64))], [(.arr 6 true)]⟩
noncomputable def F11_2s : SSh := ⟨144, [(0, (.imm 3)), (3, (.int .i64)), (4, (.own 0)), (5, (.int .i64)), (6, (.int .i64))], [(.arr 6 true)]⟩
noncomputable def F11_2 {R : Type} (n : Nat) (x323 : List Itm) (x324 : Int) (x325 : Int) (x326 : Int) (x327 : List (List Itm)) (k0 : List Itm → Int → Int → Int → List (List Itm) → Option R) : Option R :=
  (bif (decide (x326 < ((x323.length) : Int))) then
  (bif (decide ((0 : Int) ≤ x326)) then
  (bif (decide (x326 < ((x323.length) : Int))) then
  (bif (decide ((0 : Int) ≤ x325)) then
  (bif (decide (x325 < ((x323.length) : Int))) then
  (bif (decide ((x323.getD (x326.toNat) (Itm.mk (0 : Int) (0 : Int))).key < (x323.getD (x325.toNat) (Itm.mk (0 : Int) (0 : Int))).key)) then
  (F11_0 n x323 x324 x325 x326 x327 (fun z349 z350 z351 z352 z353 =>
  (k0 z349 z350 z351 z352 z353)))
  else (F11_1 n x323 x324 x325 x326 x327 (fun z368 z369 z370 z371 z372 =>
  (k0 z368 z369 z370 z371 z372))))
  else none)
  else none)
  else none)
  else none)
  else (F11_1 n x323 x324 x325 x326 x327 (fun z373 z374 z375 z376 z377 =>
  (k0 z373 z374 z375 z376 z377))))
noncomputable def F11_2z (n : Nat) : Sm G := inZ G 0 ⟨[0, 3, 4, 5, 6], []⟩ F11_2s fun R x K => F11_2 n x.1.1 x.1.2.1 x.1.2.2.2.1 x.1.2.2.2.2.1 x.2.1 (fun u0 u1 u2 u3 u4 => K .normal (SSh.enc G F11_2x0 ((u0, (u1, ((), (u2, (u3, ()))))), (u4, ()))))
theorem F11_2_eq (n : Nat) (R : Type) (x : SSh.den G F11_2s) (K : AE → St G → Option R) :
  F11_2 n x.1.1 x.1.2.1 x.1.2.2.2.1 x.1.2.2.2.2.1 x.2.1 (fun u0 u1 u2 u3 u4 => K .normal (SSh.enc G F11_2x0 ((u0, (u1, ((), (u2, (u3, ()))))), (u4, ())))) = exec prog G (ro G (tabOf (E9 n)) (frOf [F11_0z n, F11_1z n]) R) 0 (codeAt F11c [1, 1, 1, 1, 0, 1, 0, 0, 1, 0, 1, 0]) (.nd .no (.nd (.nd (.use 0) .no) (.nd (.use 1) .no))) (SSh.enc G F11_2s x) (kNrm G (ro G (tabOf (E9 n)) (frOf [F11_0z n, F11_1z n]) R) 0 ⟨⟨[0, 3, 4, 5, 6], []⟩, ⟨[2], []⟩, [(1, ⟨[0, 3, 4, 5], []⟩), (0, ⟨[4], []⟩)]⟩ K) := by kernel_rfl
theorem F11_2_ok (n : Nat) : FragOK prog G 0 (codeAt F11c [1, 1, 1, 1, 0, 1, 0, 0, 1, 0, 1, 0]) (F11_2z n) :=
  frag_plain laws fnok (E9_ok n).tab (AllF.of (l := [(0, codeAt F11c [1, 1, 1, 1, 0, 1, 0, 0, 1, 0, 1, 0, 1, 0, 0]), (1, codeAt F11c [1, 1, 1, 1, 0, 1, 0, 0, 1, 0, 1, 0, 1, 1, 0])]) (by kernel_rfl) (AllF.cons (F11_0_ok n) (AllF.cons (F11_1_ok n) AllF.nil))) (F11_2_eq n)
noncomputable def F11_3x0 : SSh := ⟨144, [(0, (.imm 3)), (3, (.int .i64)), (4, (.own 0)), (6, (.int .i64)), (7, (.own 1))], [(.arr 6 true), (.arr 3 true)]⟩
noncomputable def F11_3s : SSh := ⟨144, [(0, (.imm 3)), (3, (.int .i64)), (4, (.own 0)), (6, (.int .i64)), (7, (.own 1))], [(.arr 6 true), (.arr 3 true)]⟩
noncomputable def F11_3 {R : Type} (n : Nat) (x385 : List Itm) (x386 : Int) (x387 : Int) (x388 : List (List Itm)) (x389 : List Itm) (k0 : List Itm → Int → Int → List (List Itm) → List Itm → Option R) : Option R :=
  (bif (decide (((x389.length) : Int) > (1 : Int))) then
  (bif (decide ((1 : Int) < ((x389.length) : Int))) then
  (bif (decide ((0 : Int) < ((x389.length) : Int))) then
  (bif (decide ((x389.getD (1 : Nat) (Itm.mk (0 : Int) (0 : Int))).key < (x389.getD (0 : Nat) (Itm.mk (0 : Int) (0 : Int))).key)) then
  (andThen (F30 n x389) fun r395 =>
  (k0 x385 x386 x387 x388 r395.2.1))
  else (k0 x385 x386 x387 x388 x389))
  else none)
  else none)
  else (k0 x385 x386 x387 x388 x389))
noncomputable def F11_3z (n : Nat) : Sm G := inZ G 0 ⟨[0, 3, 4, 6, 7], []⟩ F11_3s fun R x K => F11_3 n x.1.1 x.1.2.1 x.1.2.2.2.1 x.2.1 x.2.2.1 (fun u0 u1 u2 u3 u4 => K .normal (SSh.enc G F11_3x0 ((u0, (u1, ((), (u2, ((), ()))))), (u3, (u4, ())))))
theorem F11_3_eq (n : Nat) (R : Type) (x : SSh.den G F11_3s) (K : AE → St G → Option R) :
  F11_3 n x.1.1 x.1.2.1 x.1.2.2.2.1 x.2.1 x.2.2.1 (fun u0 u1 u2 u3 u4 => K .normal (SSh.enc G F11_3x0 ((u0, (u1, ((), (u2, ((), ()))))), (u3, (u4, ()))))) = exec prog G (ro G (tabOf (E9 n)) (frOf [F11_0z n, F11_1z n, F11_2z n]) R) 0 (codeAt F11c [1, 1, 1, 1, 0, 1, 0, 0, 1, 0, 1, 1, 1, 0]) .no (SSh.enc G F11_3s x) (kNrm G (ro G (tabOf (E9 n)) (frOf [F11_0z n, F11_1z n, F11_2z n]) R) 0 ⟨⟨[0, 3, 4, 6, 7], []⟩, ⟨[2], []⟩, [(1, ⟨[0, 3, 4, 5], []⟩), (0, ⟨[4], []⟩)]⟩ K) := by kernel_rfl
theorem F11_3_ok (n : Nat) : FragOK prog G 0 (codeAt F11c [1, 1, 1, 1, 0, 1, 0, 0, 1, 0, 1, 1, 1, 0]) (F11_3z n) :=
  frag_plain laws fnok (E9_ok n).tab (AllF.of (l := []) (by kernel_rfl) AllF.nil) (F11_3_eq n)
noncomputable def F11_4x0 : SSh := ⟨144, [(0, (.imm 3)), (3, (.int .i64)), (4, (.own 0)), (6, (.int .i64)), (7, (.own 1)), (8, (.ptr 2 0)), (9, (.int .i64))], [(.arr 6 true), (.arr 3 true), (.box 46 (.cons (.int .i64) (.cons (.int .i64) .nil)))]⟩
noncomputable def F11_4s : SSh := ⟨144, [(0, (.imm 3)), (3, (.int .i64)), (4, (.own 0)), (6, (.int .i64)), (7, (.own 1)), (8, (.ptr 2 0)), (9, (.int .i64))], [(.arr 6 true), (.arr 3 true), (.box 46 (.cons (.int .i64) (.cons (.int .i64) .nil)))]⟩
noncomputable def F11_4_step {R : Type} (n : Nat) (k0 : List Itm → Int → Int → Int → List (List Itm) → List Itm → Int → Int → Option R) (rec : List Itm → Int → Int → Int → List (List Itm) → List Itm → Int → Int → Option R) (x414 : List Itm) (x415 : Int) (x416 : Int) (x417 : Int) (x418 : List (List Itm)) (x419 : List Itm) (x420 : Int) (x421 : Int) : Option R :=
  (bif (decide (x417 > (0 : Int))) then
  let v423 := (IntKind.wrap .i64 (x417 - (1 : Int)))
  (bif (decide ((0 : Int) ≤ v423)) then
  (bif (decide (v423 < ((x419.length) : Int))) then
  (bif (decide ((x419.getD (v423.toNat) (Itm.mk (0 : Int) (0 : Int))).key > x420)) then
  (rec x414 x415 x416 (IntKind.wrap .i64 (x417 - (1 : Int))) x418 x419 x420 x421)
  else (k0 x414 x415 x416 x417 x418 x419 x420 x421))
  else none)
  else none)
  else (k0 x414 x415 x416 x417 x418 x419 x420 x421))
noncomputable def F11_4_it {R : Type} (n : Nat) (k0 : List Itm → Int → Int → Int → List (List Itm) → List Itm → Int → Int → Option R) : Nat → List Itm → Int → Int → Int → List (List Itm) → List Itm → Int → Int → Option R
  | 0, _, _, _, _, _, _, _, _ => none
  | k + 1, x414, x415, x416, x417, x418, x419, x420, x421 => F11_4_step n k0 (F11_4_it n k0 k) x414 x415 x416 x417 x418 x419 x420 x421
noncomputable def F11_4 {R : Type} (n : Nat) (x414 : List Itm) (x415 : Int) (x416 : Int) (x417 : Int) (x418 : List (List Itm)) (x419 : List Itm) (x420 : Int) (x421 : Int) (k0 : List Itm → Int → Int → Int → List (List Itm) → List Itm → Int → Int → Option R) : Option R := F11_4_it n k0 n x414 x415 x416 x417 x418 x419 x420 x421
noncomputable def F11_4z (n : Nat) : Sm G := inZ G 0 ⟨[0, 3, 4, 6, 7, 8, 9], []⟩ F11_4s fun R x K => F11_4_it n (fun u0 u1 u2 u3 u4 u5 u6 u7 => K (.exit 8) (SSh.enc G F11_4x0 ((u0, (u1, ((), (u2, ((), ((), (u3, ()))))))), (u4, (u5, ((u6, (u7, ())), ())))))) n x.1.1 x.1.2.1 x.1.2.2.2.1 x.1.2.2.2.2.2.2.1 x.2.1 x.2.2.1 x.2.2.2.1.1 x.2.2.2.1.2.1
theorem F11_4_eq (n : Nat) (R : Type) (rec : SSh.den G F11_4s → Option R) (x : SSh.den G F11_4s) (K : AE → St G → Option R) :
  F11_4_step n (fun u0 u1 u2 u3 u4 u5 u6 u7 => K (.exit 8) (SSh.enc G F11_4x0 ((u0, (u1, ((), (u2, ((), ((), (u3, ()))))))), (u4, (u5, ((u6, (u7, ())), ())))))) (fun x414 x415 x416 x417 x418 x419 x420 x421 => rec ((x414, (x415, ((), (x416, ((), ((), (x417, ()))))))), (x418, (x419, ((x420, (x421, ())), ()))))) x.1.1 x.1.2.1 x.1.2.2.2.1 x.1.2.2.2.2.2.2.1 x.2.1 x.2.2.1 x.2.2.2.1.1 x.2.2.2.1.2.1 = exec prog G (ro G (tabOf (E9 n)) (frOf [F11_0z n, F11_1z n, F11_2z n, F11_3z n]) R) 0 (codeAt F11c [1, 1, 1, 1, 0, 1, 0, 0, 1, 0, 1, 1, 1, 1, 0, 0, 0, 1, 0, 1, 1, 0, 0, 0]) .no (SSh.enc G F11_4s x) (kLoop G (ro G (tabOf (E9 n)) (frOf [F11_0z n, F11_1z n, F11_2z n, F11_3z n]) R) 0 ⟨[0, 3, 4, 6, 7, 8, 9], []⟩ F11_4s ⟨⟨[0, 3, 4, 6, 7, 8, 9], []⟩, ⟨[2], []⟩, [(8, ⟨[0, 3, 4, 6, 7, 8, 9], []⟩), (7, ⟨[0, 3, 4, 6, 7], []⟩), (6, ⟨[0, 3, 4, 6, 7], []⟩), (1, ⟨[0, 3, 4, 5], []⟩), (0, ⟨[4], []⟩)]⟩ rec K) := by kernel_rfl
theorem F11_4_ok (n : Nat) : FragOK prog G 0 (codeAt F11c [1, 1, 1, 1, 0, 1, 0, 0, 1, 0, 1, 1, 1, 1, 0, 0, 0, 1, 0, 1, 1, 0, 0]) (F11_4z n) :=
  frag_loop (Z := fun R k (x : SSh.den G F11_4s) K => F11_4_it n (fun u0 u1 u2 u3 u4 u5 u6 u7 => K (.exit 8) (SSh.enc G F11_4x0 ((u0, (u1, ((), (u2, ((), ((), (u3, ()))))))), (u4, (u5, ((u6, (u7, ())), ())))))) k x.1.1 x.1.2.1 x.1.2.2.2.1 x.1.2.2.2.2.2.2.1 x.2.1 x.2.2.1 x.2.2.2.1.1 x.2.2.2.1.2.1) laws fnok (E9_ok n).tab (AllF.of (l := []) (by kernel_rfl) AllF.nil) (fun _ _ _ => rfl) (fun R k y K => F11_4_eq n R (fun (x : SSh.den G F11_4s) => F11_4_it n (fun u0 u1 u2 u3 u4 u5 u6 u7 => K (.exit 8) (SSh.enc G F11_4x0 ((u0, (u1, ((), (u2, ((), ((), (u3, ()))))))), (u4, (u5, ((u6, (u7, ())), ())))))) k x.1.1 x.1.2.1 x.1.2.2.2.1 x.1.2.2.2.2.2.2.1 x.2.1 x.2.2.1 x.2.2.2.1.1 x.2.2.2.1.2.1) y K) n
noncomputable def F11_5x0 : SSh := ⟨144, [(0, (.imm 3)), (3, (.int .i64)), (4, (.own 0)), (6, (.int .i64)), (7, (.own 1))], [(.arr 6 true), (.arr 3 true)]⟩
noncomputable def F11_5s : SSh := ⟨144, [(0, (.imm 3)), (3, (.int .i64)), (4, (.own 0)), (6, (.int .i64)), (7, (.own 1))], [(.arr 6 true), (.arr 3 true)]⟩
noncomputable def F11_5_step {R : Type} (n : Nat) (k0 : List Itm → Int → Int → List (List Itm) → List Itm → Option R) (rec : List Itm → Int → Int → List (List Itm) → List Itm → Option R) (x401 : List Itm) (x402 : Int) (x403 : Int) (x404 : List (List Itm)) (x405 : List Itm) : Option R :=
  (bif (decide (((x405.length) : Int) < x402)) then
  (bif (decide (x403 < ((x401.length) : Int))) then
  (bif (decide ((0 : Int) ≤ x403)) then
  (bif (decide (x403 < ((x401.length) : Int))) then
  let v410 := (x401.getD (x403.toNat) (Itm.mk (0 : Int) (0 : Int)))
  (F11_4 n x401 x402 x403 ((x405.length) : Int) x404 x405 v410.key v410.tag (fun z428 z429 z430 z431 z432 z433 z434 z435 =>
  (andThen (L31 z431 z433 ((Itm.mk z434 z435) :: [])) fun r437 =>
  (rec z428 z429 (IntKind.wrap .i64 (z430 + (1 : Int))) z432 r437.2.2.2.1))))
  else none)
  else none)
  else (k0 x401 x402 x403 x404 x405))
  else (k0 x401 x402 x403 x404 x405))
noncomputable def F11_5_it {R : Type} (n : Nat) (k0 : List Itm → Int → Int → List (List Itm) → List Itm → Option R) : Nat → List Itm → Int → Int → List (List Itm) → List Itm → Option R
  | 0, _, _, _, _, _ => none
  | k + 1, x401, x402, x403, x404, x405 => F11_5_step n k0 (F11_5_it n k0 k) x401 x402 x403 x404 x405
noncomputable def F11_5 {R : Type} (n : Nat) (x401 : List Itm) (x402 : Int) (x403 : Int) (x404 : List (List Itm)) (x405 : List Itm) (k0 : List Itm → Int → Int → List (List Itm) → List Itm → Option R) : Option R := F11_5_it n k0 n x401 x402 x403 x404 x405
noncomputable def F11_5z (n : Nat) : Sm G := inZ G 0 ⟨[0, 3, 4, 6, 7], []⟩ F11_5s fun R x K => F11_5_it n (fun u0 u1 u2 u3 u4 => K (.exit 6) (SSh.enc G F11_5x0 ((u0, (u1, ((), (u2, ((), ()))))), (u3, (u4, ()))))) n x.1.1 x.1.2.1 x.1.2.2.2.1 x.2.1 x.2.2.1
theorem F11_5_eq (n : Nat) (R : Type) (rec : SSh.den G F11_5s → Option R) (x : SSh.den G F11_5s) (K : AE → St G → Option R) :
  F11_5_step n (fun u0 u1 u2 u3 u4 => K (.exit 6) (SSh.enc G F11_5x0 ((u0, (u1, ((), (u2, ((), ()))))), (u3, (u4, ()))))) (fun x401 x402 x403 x404 x405 => rec ((x401, (x402, ((), (x403, ((), ()))))), (x404, (x405, ())))) x.1.1 x.1.2.1 x.1.2.2.2.1 x.2.1 x.2.2.1 = exec prog G (ro G (tabOf (E9 n)) (frOf [F11_0z n, F11_1z n, F11_2z n, F11_3z n, F11_4z n]) R) 0 (codeAt F11c [1, 1, 1, 1, 0, 1, 0, 0, 1, 0, 1, 1, 1, 1, 0, 0, 0]) (.nd .no (.nd (.nd .no (.nd .no (.nd (.nd (.use 4) .no) .no))) .no)) (SSh.enc G F11_5s x) (kLoop G (ro G (tabOf (E9 n)) (frOf [F11_0z n, F11_1z n, F11_2z n, F11_3z n, F11_4z n]) R) 0 ⟨[0, 3, 4, 6, 7], []⟩ F11_5s ⟨⟨[0, 3, 4, 6, 7], []⟩, ⟨[2], []⟩, [(6, ⟨[0, 3, 4, 6, 7], []⟩), (1, ⟨[0, 3, 4, 5], []⟩), (0, ⟨[4], []⟩)]⟩ rec K) := by kernel_rfl
theorem F11_5_ok (n : Nat) : FragOK prog G 0 (codeAt F11c [1, 1, 1, 1, 0, 1, 0, 0, 1, 0, 1, 1, 1, 1, 0, 0]) (F11_5z n) :=
  frag_loop (Z := fun R k (x : SSh.den G F11_5s) K => F11_5_it n (fun u0 u1 u2 u3 u4 => K (.exit 6) (SSh.enc G F11_5x0 ((u0, (u1, ((), (u2, ((), ()))))), (u3, (u4, ()))))) k x.1.1 x.1.2.1 x.1.2.2.2.1 x.2.1 x.2.2.1) laws fnok (E9_ok n).tab (AllF.of (l := [(4, codeAt F11c [1, 1, 1, 1, 0, 1, 0, 0, 1, 0, 1, 1, 1, 1, 0, 0, 0, 1, 0, 1, 1, 0, 0])]) (by kernel_rfl) (AllF.cons (F11_4_ok n) AllF.nil)) (fun _ _ _ => rfl) (fun R k y K => F11_5_eq n R (fun (x : SSh.den G F11_5s) => F11_5_it n (fun u0 u1 u2 u3 u4 => K (.exit 6) (SSh.enc G F11_5x0 ((u0, (u1, ((), (u2, ((), ()))))), (u3, (u4, ()))))) k x.1.1 x.1.2.1 x.1.2.2.2.1 x.2.1 x.2.2.1) y K) n
noncomputable def F11_6x0 : SSh := ⟨144, [(4, (.own 0))], [(.arr 6 true)]⟩
noncomputable def F11_6s : SSh := ⟨144, [(0, (.imm 3)), (3, (.int .i64)), (4, (.own 0)), (5, (.int .i64))], [(.arr 6 true)]⟩
noncomputable def F11_6_step {R : Type} (n : Nat) (k0 : List (List Itm) → Option R) (rec : List Itm → Int → Int → List (List Itm) → Option R) (x316 : List Itm) (x317 : Int) (x318 : Int) (x319 : List (List Itm)) : Option R :=
  (bif (decide (x318 < ((x316.length) : Int))) then
  (F11_2 n x316 x317 x318 (IntKind.wrap .i64 (x318 + (1 : Int))) x319 (fun z378 z379 z380 z381 z382 =>
  (bif (decide ((0 : Int) ≤ z380)) then
  (bif (decide (z380 ≤ z381)) then
  (bif (decide (z381 ≤ ((z378.length) : Int))) then
  (andThen (F29 n ((z378.take (z381.toNat)).drop (z380.toNat))) fun r384 =>
  (F11_3 n z378 z379 z381 z382 r384.2.1 (fun z396 z397 z398 z399 z400 =>
  (F11_5 n z396 z397 z398 z399 z400 (fun z439 z440 z441 z442 z443 =>
  let v444 := (z443 :: [])
  (bif (decide (((z442.length) + (v444.length)) ≤ (68719476736 : Nat))) then
  (rec z439 z440 z441 (z442 ++ v444))
  else none))))))
  else none)
  else none)
  else none)))
  else (k0 x319))
noncomputable def F11_6_it {R : Type} (n : Nat) (k0 : List (List Itm) → Option R) : Nat → List Itm → Int → Int → List (List Itm) → Option R
  | 0, _, _, _, _ => none
  | k + 1, x316, x317, x318, x319 => F11_6_step n k0 (F11_6_it n k0 k) x316 x317 x318 x319
noncomputable def F11_6 {R : Type} (n : Nat) (x316 : List Itm) (x317 : Int) (x318 : Int) (x319 : List (List Itm)) (k0 : List (List Itm) → Option R) : Option R := F11_6_it n k0 n x316 x317 x318 x319
noncomputable def F11_6z (n : Nat) : Sm G := inZ G 0 ⟨[0, 3, 4, 5], [(4, (.own 6))]⟩ F11_6s fun R x K => F11_6_it n (fun u0 => K (.exit 0) (SSh.enc G F11_6x0 (((), ()), (u0, ())))) n x.1.1 x.1.2.1 x.1.2.2.2.1 x.2.1
theorem F11_6_eq (n : Nat) (R : Type) (rec : SSh.den G F11_6s → Option R) (x : SSh.den G F11_6s) (K : AE → St G → Option R) :
  F11_6_step n (fun u0 => K (.exit 0) (SSh.enc G F11_6x0 (((), ()), (u0, ())))) (fun x316 x317 x318 x319 => rec ((x316, (x317, ((), (x318, ())))), (x319, ()))) x.1.1 x.1.2.1 x.1.2.2.2.1 x.2.1 = exec prog G (ro G (tabOf (E9 n)) (frOf [F11_0z n, F11_1z n, F11_2z n, F11_3z n, F11_4z n, F11_5z n]) R) 0 (codeAt F11c [1, 1, 1, 1, 0, 1, 0, 0]) (.nd .no (.nd (.nd .no (.nd (.use 2) (.nd .no (.nd (.use 3) (.nd (.nd (.use 5) .no) .no))))) .no)) (SSh.enc G F11_6s x) (kLoop G (ro G (tabOf (E9 n)) (frOf [F11_0z n, F11_1z n, F11_2z n, F11_3z n, F11_4z n, F11_5z n]) R) 0 ⟨[0, 3, 4, 5], [(4, (.own 6))]⟩ F11_6s ⟨⟨[4], []⟩, ⟨[2], []⟩, [(0, ⟨[4], []⟩)]⟩ rec K) := by kernel_rfl
theorem F11_6_ok (n : Nat) : FragOK prog G 0 (codeAt F11c [1, 1, 1, 1, 0, 1, 0]) (F11_6z n) :=
  frag_loop (Z := fun R k (x : SSh.den G F11_6s) K => F11_6_it n (fun u0 => K (.exit 0) (SSh.enc G F11_6x0 (((), ()), (u0, ())))) k x.1.1 x.1.2.1 x.1.2.2.2.1 x.2.1) laws fnok (E9_ok n).tab (AllF.of (l := [(2, codeAt F11c [1, 1, 1, 1, 0, 1, 0, 0, 1, 0, 1, 0]), (3, codeAt F11c [1, 1, 1, 1, 0, 1, 0, 0, 1, 0, 1, 1, 1, 0]), (5, codeAt F11c [1, 1, 1, 1, 0, 1, 0, 0, 1, 0, 1, 1, 1, 1, 0, 0])]) (by kernel_rfl) (AllF.cons (F11_2_ok n) (AllF.cons (F11_3_ok n) (AllF.cons (F11_5_ok n) AllF.nil)))) (fun _ _ _ => rfl) (fun R k y K => F11_6_eq n R (fun (x : SSh.den G F11_6s) => F11_6_it n (fun u0 => K (.exit 0) (SSh.enc G F11_6x0 (((), ()), (u0, ())))) k x.1.1 x.1.2.1 x.1.2.2.2.1 x.2.1) y K) n
noncomputable def F11 (n : Nat) (a311 : List Itm) : Option (Unit × (List (List Itm) × Unit)) :=
  (bif (decide (((a311.length) : Int) > (60 : Int))) then
  some ((), ([], ()))
  else (andThen (F28 n ((a311.length) : Int)) fun r315 =>
  (F11_6 n a311 r315.1 (0 : Int) [] (fun z446 =>
  some ((), (z446, ()))))))
noncomputable def F11e (n : Nat) : Ent G := ⟨11, (.cons (.imm 3) .nil), [], (.own 0), [(.arr 6 true)], fun x y => F11 n x.1⟩
theorem F11_eq (n : Nat) (x : ShL.den G (.cons (.imm 3) .nil)) (y : denO G []) : (F11e n).F x y = runFn prog G (ro G (tabOf (E9 n)) (frOf [F11_0z n, F11_1z n, F11_2z n, F11_3z n, F11_4z n, F11_5z n, F11_6z n]) _) Go.Proofs.Try.f11 (.nd .no (.nd .no (.nd .no (.nd .no (.nd (.nd .no (.nd (.use 6) .no)) .no))))) [(0, (.own 6))] (ShL.enc G (.cons (.imm 3) .nil) x) (encO G [] y) (decR (.own 0) [(.arr 6 true)]) := by kernel_rfl
theorem F11_ok (n : Nat) : EntOK prog G (F11e n) :=
  ent_ok (fr := frOf [F11_0z n, F11_1z n, F11_2z n, F11_3z n, F11_4z n, F11_5z n, F11_6z n]) (ann := (.nd .no (.nd .no (.nd .no (.nd .no (.nd (.nd .no (.nd (.use 6) .no)) .no)))))) (frm := [(0, (.own 6))]) laws fnok (E9_ok n).tab (e := F11e n) (fn := Go.Proofs.Try.f11) (by kernel_rfl) (AllF.ofB (cd := F11c) (l := [(6, codeAt F11c [1, 1, 1, 1, 0, 1, 0])]) (by kernel_rfl) (by kernel_rfl) (AllF.cons (F11_6_ok n) AllF.nil)) (F11_eq n)
noncomputable def E10 (n : Nat) : List (Ent G) := F11e n :: E9 n
theorem E10_ok (n : Nat) : AllE prog G (E10 n) := AllE.cons (F11_ok n) (E9_ok n)
-- 38 loop.example/slowworm/impl.MergePlan$1
noncomputable def F38c : Code := bodyOf Go.Proofs.Try.f38
noncomputable def F38 (n : Nat) (a525 : Int) (a526 : List (List Int)) (a527 : List Int) : Option (Unit × ((Unit × Unit) × ((Unit × Unit) × (Unit × (Unit × (List (List Int) × (List Int × Unit))))))) :=
  (bif (decide ((0 : Int) ≤ a525)) then
  (bif (decide (a525 < ((a527.length) : Int))) then
  let v530 := (IntKind.wrap .i64 (a525 + (1 : Int)))
  (bif (decide ((0 : Int) ≤ v530)) then
  (bif (decide (v530 < ((a527.length) : Int))) then
  let v534 := ((a525 :: ((a527.getD (a525.toNat) (0 : Int)) :: ((a527.getD (v530.toNat) (0 : Int)) :: []))) :: [])
  (bif (decide (((a526.length) + (v534.length)) ≤ (68719476736 : Nat))) then
  (bif (decide ((0 : Int) ≤ a525)) then
  (bif (decide (a525 < ((a527.length) : Int))) then
  let v538 := (IntKind.wrap .i64 (a525 + (1 : Int)))
  (bif (decide ((0 : Int) ≤ v538)) then
  (bif (decide (v538 < ((a527.length) : Int))) then
  (bif (decide ((0 : Int) ≤ a525)) then
  (bif (decide (a525 < ((a527.length) : Int))) then
  (andThen (L39 (IntKind.wrap .i64 (a525 + (1 : Int))) (IntKind.wrap .i64 (a525 + (2 : Int))) (a527.set (a525.toNat) (IntKind.wrap .i64 ((a527.getD (a525.toNat) (0 : Int)) + (a527.getD (v538.toNat) (0 : Int)))))) fun r546 =>
  some ((), (((), ()), (((), ()), ((), ((), ((a526 ++ v534), (r546.2.2.1, ()))))))))
  else none)
  else none)
  else none)
  else none)
  else none)
  else none)
  else none)
  else none)
  else none)
  else none)
  else none)
noncomputable def F38e (n : Nat) : Ent G := ⟨38, (.cons (.int .i64) (.cons (.ptr 0 0) (.cons (.ptr 1 0) .nil))), [(.box 39 (.cons (.own 2) .nil)), (.box 38 (.cons (.own 3) .nil)), (.arr 5 true), (.arr 0 true)], (.tup .nil), [(.box 39 (.cons (.own 4) .nil)), (.box 38 (.cons (.own 5) .nil)), .dead, .dead, (.arr 5 true), (.arr 0 true)], fun x y => F38 n x.1 y.2.2.1 y.2.2.2.1⟩
theorem F38_eq (n : Nat) (x : ShL.den G (.cons (.int .i64) (.cons (.ptr 0 0) (.cons (.ptr 1 0) .nil)))) (y : denO G [(.box 39 (.cons (.own 2) .nil)), (.box 38 (.cons (.own 3) .nil)), (.arr 5 true), (.arr 0 true)]) : (F38e n).F x y = runFn prog G (ro G (tabOf (E10 n)) (frOf []) _) Go.Proofs.Try.f38 .no [] (ShL.enc G (.cons (.int .i64) (.cons (.ptr 0 0) (.cons (.ptr 1 0) .nil))) x) (encO G [(.box 39 (.cons (.own 2) .nil)), (.box 38 (.cons (.own 3) .nil)), (.arr 5 true), (.arr 0 true)] y) (decR (.tup .nil) [(.box 39 (.cons (.own 4) .nil)), (.box 38 (.cons (.own 5) .nil)), .dead, .dead, (.arr 5 true), (.arr 0 true)]) := by kernel_rfl
theorem F38_ok (n : Nat) : EntOK prog G (F38e n) :=
  ent_ok (fr := frOf []) (ann := .no) (frm := []) laws fnok (E10_ok n).tab (e := F38e n) (fn := Go.Proofs.Try.f38) (by kernel_rfl) (AllF.ofB (cd := F38c) (l := []) (by kernel_rfl) (by kernel_rfl) AllF.nil) (F38_eq n)
noncomputable def E11 (n : Nat) : List (Ent G) := F38e n :: E10 n
theorem E11_ok (n : Nat) : AllE prog G (E11 n) := AllE.cons (F38_ok n) (E10_ok n)
-- 20 loop.example/slowworm/impl.MergePlan
noncomputable def F20c : Code := bodyOf Go.Proofs.Try.f20
noncomputable def F20_0x0 : SSh := ⟨135, [(2, .nil0)], []⟩
noncomputable def F20_0x1 : SSh := ⟨135, [(0, (.imm 0))], []⟩
noncomputable def F20_0s : SSh := ⟨135, [(0, (.imm 0)), (16, (.imm 0)), (17, (.int .i64)), (18, (.int .i64))], []⟩
noncomputable def F20_0_step {R : Type} (n : Nat) (k0 : Option R) (k1 : List Int → Option R) (rec : List Int → List Int → Int → Int → Option R) (x637 : List Int) (x638 : List Int) (x639 : Int) (x640 : Int) : Option R :=
  (bif (decide (x640 < x639)) then
  (bif (decide ((0 : Int) ≤ x640)) then
  (bif (decide (x640 < ((x638.length) : Int))) then
  (andThen (F37 n (x638.getD (x640.toNat) (0 : Int)) (1 : Int) (1000000 : Int)) fun r644 =>
  (bif (!r644.1) then
  k0
  else (rec x637 x638 x639 (IntKind.wrap .i64 (x640 + (1 : Int))))))
  else none)
  else none)
  else (k1 x637))
noncomputable def F20_0_it {R : Type} (n : Nat) (k0 : Option R) (k1 : List Int → Option R) : Nat → List Int → List Int → Int → Int → Option R
  | 0, _, _, _, _ => none
  | k + 1, x637, x638, x639, x640 => F20_0_step n k0 k1 (F20_0_it n k0 k1 k) x637 x638 x639 x640
noncomputable def F20_0 {R : Type} (n : Nat) (x637 : List Int) (x638 : List Int) (x639 : Int) (x640 : Int) (k0 : Option R) (k1 : List Int → Option R) : Option R := F20_0_it n k0 k1 n x637 x638 x639 x640
noncomputable def F20_0z (n : Nat) : Sm G := inZ G 0 ⟨[0, 16, 17, 18], []⟩ F20_0s fun R x K => F20_0_it n (K .ret (SSh.enc G F20_0x0 (((), ()), ()))) (fun u0 => K (.exit 0) (SSh.enc G F20_0x1 ((u0, ()), ()))) n x.1.1 x.1.2.1 x.1.2.2.1 x.1.2.2.2.1
theorem F20_0_eq (n : Nat) (R : Type) (rec : SSh.den G F20_0s → Option R) (x : SSh.den G F20_0s) (K : AE → St G → Option R) :
  F20_0_step n (K .ret (SSh.enc G F20_0x0 (((), ()), ()))) (fun u0 => K (.exit 0) (SSh.enc G F20_0x1 ((u0, ()), ()))) (fun x637 x638 x639 x640 => rec ((x637, (x638, (x639, (x640, ())))), ())) x.1.1 x.1.2.1 x.1.2.2.1 x.1.2.2.2.1 = exec prog G (ro G (tabOf (E11 n)) (frOf []) R) 0 (codeAt F20c [1, 1, 0, 1, 0, 0]) .no (SSh.enc G F20_0s x) (kLoop G (ro G (tabOf (E11 n)) (frOf []) R) 0 ⟨[0, 16, 17, 18], []⟩ F20_0s ⟨⟨[0], []⟩, ⟨[2], []⟩, [(0, ⟨[0], []⟩)]⟩ rec K) := by kernel_rfl
theorem F20_0_ok (n : Nat) : FragOK prog G 0 (codeAt F20c [1, 1, 0, 1, 0]) (F20_0z n) :=
  frag_loop (Z := fun R k (x : SSh.den G F20_0s) K => F20_0_it n (K .ret (SSh.enc G F20_0x0 (((), ()), ()))) (fun u0 => K (.exit 0) (SSh.enc G F20_0x1 ((u0, ()), ()))) k x.1.1 x.1.2.1 x.1.2.2.1 x.1.2.2.2.1) laws fnok (E11_ok n).tab (AllF.of (l := []) (by kernel_rfl) AllF.nil) (fun _ _ _ => rfl) (fun R k y K => F20_0_eq n R (fun (x : SSh.den G F20_0s) => F20_0_it n (K .ret (SSh.enc G F20_0x0 (((), ()), ()))) (fun u0 => K (.exit 0) (SSh.enc G F20_0x1 ((u0, ()), ()))) k x.1.1 x.1.2.1 x.1.2.2.1 x.1.2.2.2.1) y K) n
noncomputable def F20_1x0 : SSh := ⟨135, [(0, (.imm 0)), (5, (.ptr 0 0)), (6, (.ptr 1 0)), (7, (.clo 38 (.cons (.ptr 0 0) (.cons (.ptr 1 0) .nil)))), (8, (.int .i64))], [(.box 39 (.cons (.own 2) .nil)), (.box 38 (.cons (.own 3) .nil)), (.arr 5 true), (.arr 0 true)]⟩
noncomputable def F20_1s : SSh := ⟨135, [(0, (.imm 0)), (5, (.ptr 0 0)), (6, (.ptr 1 0)), (7, (.clo 38 (.cons (.ptr 0 0) (.cons (.ptr 1 0) .nil)))), (8, (.int .i64)), (9, (.int .i64)), (10, (.int .i64)), (12, .bool)], [(.box 39 (.cons (.own 2) .nil)), (.box 38 (.cons (.own 3) .nil)), (.arr 5 true), (.arr 0 true)]⟩
noncomputable def F20_1 {R : Type} (n : Nat) (x671 : List Int) (x672 : Int) (x673 : Int) (x674 : Int) (x675 : Bool) (x676 : List (List Int)) (x677 : List Int) (k0 : List Int → Int → List (List Int) → List Int → Option R) : Option R :=
  (bif x675 then
  let v678 := (IntKind.wrap .i64 (x673 - (2 : Int)))
  (bif (decide ((0 : Int) ≤ v678)) then
  (bif (decide (v678 < ((x677.length) : Int))) then
  (bif (decide ((x677.getD (v678.toNat) (0 : Int)) < x674)) then
  (andThen (F38 n (IntKind.wrap .i64 (x673 - (2 : Int))) x676 x677) fun r683 =>
  (k0 x671 x672 r683.2.2.2.2.2.1 r683.2.2.2.2.2.2.1))
  else (andThen (F38 n (IntKind.wrap .i64 (x673 - (1 : Int))) x676 x677) fun r685 =>
  (k0 x671 x672 r685.2.2.2.2.2.1 r685.2.2.2.2.2.2.1)))
  else none)
  else none)
  else (andThen (F38 n (IntKind.wrap .i64 (x673 - (1 : Int))) x676 x677) fun r687 =>
  (k0 x671 x672 r687.2.2.2.2.2.1 r687.2.2.2.2.2.2.1)))
noncomputable def F20_1z (n : Nat) : Sm G := inZ G 0 ⟨[0, 5, 6, 7, 8, 9, 10, 12], []⟩ F20_1s fun R x K => F20_1 n x.1.1 x.1.2.2.2.2.1 x.1.2.2.2.2.2.1 x.1.2.2.2.2.2.2.1 x.1.2.2.2.2.2.2.2.1 x.2.2.2.1 x.2.2.2.2.1 (fun u0 u1 u2 u3 => K .normal (SSh.enc G F20_1x0 ((u0, ((), ((), (((), ((), ())), (u1, ()))))), (((), ()), (((), ()), (u2, (u3, ())))))))
theorem F20_1_eq (n : Nat) (R : Type) (x : SSh.den G F20_1s) (K : AE → St G → Option R) :
  F20_1 n x.1.1 x.1.2.2.2.2.1 x.1.2.2.2.2.2.1 x.1.2.2.2.2.2.2.1 x.1.2.2.2.2.2.2.2.1 x.2.2.2.1 x.2.2.2.2.1 (fun u0 u1 u2 u3 => K .normal (SSh.enc G F20_1x0 ((u0, ((), ((), (((), ((), ())), (u1, ()))))), (((), ()), (((), ()), (u2, (u3, ()))))))) = exec prog G (ro G (tabOf (E11 n)) (frOf [F20_0z n]) R) 0 (codeAt F20c [1, 1, 1, 1, 1, 1, 1, 0, 0, 0, 1, 0, 1, 0, 1, 1, 1, 0, 0]) .no (SSh.enc G F20_1s x) (kNrm G (ro G (tabOf (E11 n)) (frOf [F20_0z n]) R) 0 ⟨⟨[0, 5, 6, 7, 8], []⟩, ⟨[2], []⟩, [(3, ⟨[0, 5, 6, 7, 8], []⟩), (2, ⟨[2], []⟩)]⟩ K) := by kernel_rfl
theorem F20_1_ok (n : Nat) : FragOK prog G 0 (codeAt F20c [1, 1, 1, 1, 1, 1, 1, 0, 0, 0, 1, 0, 1, 0, 1, 1, 1, 0, 0]) (F20_1z n) :=
  frag_plain laws fnok (E11_ok n).tab (AllF.of (l := []) (by kernel_rfl) AllF.nil) (F20_1_eq n)
noncomputable def F20_2x0 : SSh := ⟨135, [(0, (.imm 0)), (5, (.ptr 0 0)), (6, (.ptr 1 0)), (7, (.clo 38 (.cons (.ptr 0 0) (.cons (.ptr 1 0) .nil)))), (8, (.int .i64))], [(.box 39 (.cons (.own 2) .nil)), (.box 38 (.cons (.own 3) .nil)), (.arr 5 true), (.arr 0 true)]⟩
noncomputable def F20_2x1 : SSh := ⟨135, [(0, (.imm 0)), (5, (.ptr 0 0)), (6, (.ptr 1 0)), (7, (.clo 38 (.cons (.ptr 0 0) (.cons (.ptr 1 0) .nil)))), (8, (.int .i64)), (9, (.int .i64))], [(.box 39 (.cons (.own 2) .nil)), (.box 38 (.cons (.own 3) .nil)), (.arr 5 true), (.arr 0 true)]⟩
noncomputable def F20_2s : SSh := ⟨135, [(0, (.imm 0)), (5, (.ptr 0 0)), (6, (.ptr 1 0)), (7, (.clo 38 (.cons (.ptr 0 0) (.cons (.ptr 1 0) .nil)))), (8, (.int .i64)), (9, (.int .i64))], [(.box 39 (.cons (.own 2) .nil)), (.box 38 (.cons (.own 3) .nil)), (.arr 5 true), (.arr 0 true)]⟩
noncomputable def F20_2 {R : Type} (n : Nat) (x654 : List Int) (x655 : Int) (x656 : Int) (x657 : List (List Int)) (x658 : List Int) (k0 : List Int → Int → List (List Int) → List Int → Option R) (k1 : List Int → Int → Int → List (List Int) → List Int → Option R) : Option R :=
  (bif (decide (x656 ≥ (1 : Int))) then
  (bif (decide ((0 : Int) ≤ x656)) then
  (bif (decide (x656 < ((x658.length) : Int))) then
  let v661 := (x658.getD (x656.toNat) (0 : Int))
  let v662 := (IntKind.wrap .i64 (x656 - (1 : Int)))
  (bif (decide ((0 : Int) ≤ v662)) then
  (bif (decide (v662 < ((x658.length) : Int))) then
  let v664 := (x658.getD (v662.toNat) (0 : Int))
  (bif (decide (x656 ≥ (2 : Int))) then
  let v666 := (IntKind.wrap .i64 (x656 - (2 : Int)))
  (bif (decide ((0 : Int) ≤ v666)) then
  (bif (decide (v666 < ((x658.length) : Int))) then
  (bif (decide ((x658.getD (v666.toNat) (0 : Int)) ≤ (IntKind.wrap .i64 (v664 + v661)))) then
  (F20_1 n x654 x655 x656 v661 true x657 x658 (fun z688 z689 z690 z691 =>
  (k0 z688 z689 z690 z691)))
  else (bif (decide (x656 ≥ (3 : Int))) then
  let v693 := (IntKind.wrap .i64 (x656 - (3 : Int)))
  (bif (decide ((0 : Int) ≤ v693)) then
  (bif (decide (v693 < ((x658.length) : Int))) then
  let v696 := (IntKind.wrap .i64 (x656 - (2 : Int)))
  (bif (decide ((0 : Int) ≤ v696)) then
  (bif (decide (v696 < ((x658.length) : Int))) then
  let v700 := (decide ((x658.getD (v693.toNat) (0 : Int)) ≤ (IntKind.wrap .i64 ((x658.getD (v696.toNat) (0 : Int)) + v664))))
  (bif v700 then
  (F20_1 n x654 x655 x656 v661 v700 x657 x658 (fun z701 z702 z703 z704 =>
  (k0 z701 z702 z703 z704)))
  else (bif (decide (v664 ≤ v661)) then
  (F20_1 n x654 x655 x656 v661 v700 x657 x658 (fun z706 z707 z708 z709 =>
  (k0 z706 z707 z708 z709)))
  else (k1 x654 x655 x656 x657 x658)))
  else none)
  else none)
  else none)
  else none)
  else (bif (decide (v664 ≤ v661)) then
  (F20_1 n x654 x655 x656 v661 false x657 x658 (fun z711 z712 z713 z714 =>
  (k0 z711 z712 z713 z714)))
  else (k1 x654 x655 x656 x657 x658))))
  else none)
  else none)
  else (bif (decide (x656 ≥ (3 : Int))) then
  let v716 := (IntKind.wrap .i64 (x656 - (3 : Int)))
  (bif (decide ((0 : Int) ≤ v716)) then
  (bif (decide (v716 < ((x658.length) : Int))) then
  let v719 := (IntKind.wrap .i64 (x656 - (2 : Int)))
  (bif (decide ((0 : Int) ≤ v719)) then
  (bif (decide (v719 < ((x658.length) : Int))) then
  let v723 := (decide ((x658.getD (v716.toNat) (0 : Int)) ≤ (IntKind.wrap .i64 ((x658.getD (v719.toNat) (0 : Int)) + v664))))
  (bif v723 then
  (F20_1 n x654 x655 x656 v661 v723 x657 x658 (fun z724 z725 z726 z727 =>
  (k0 z724 z725 z726 z727)))
  else (bif (decide (v664 ≤ v661)) then
  (F20_1 n x654 x655 x656 v661 v723 x657 x658 (fun z729 z730 z731 z732 =>
  (k0 z729 z730 z731 z732)))
  else (k1 x654 x655 x656 x657 x658)))
  else none)
  else none)
  else none)
  else none)
  else (bif (decide (v664 ≤ v661)) then
  (F20_1 n x654 x655 x656 v661 false x657 x658 (fun z734 z735 z736 z737 =>
  (k0 z734 z735 z736 z737)))
  else (k1 x654 x655 x656 x657 x658))))
  else none)
  else none)
  else none)
  else none)
  else (k1 x654 x655 x656 x657 x658))
noncomputable def F20_2z (n : Nat) : Sm G := inZ G 0 ⟨[0, 5, 6, 7, 8, 9], []⟩ F20_2s fun R x K => F20_2 n x.1.1 x.1.2.2.2.2.1 x.1.2.2.2.2.2.1 x.2.2.2.1 x.2.2.2.2.1 (fun u0 u1 u2 u3 => K (.exit 3) (SSh.enc G F20_2x0 ((u0, ((), ((), (((), ((), ())), (u1, ()))))), (((), ()), (((), ()), (u2, (u3, ()))))))) (fun u0 u1 u2 u3 u4 => K .normal (SSh.enc G F20_2x1 ((u0, ((), ((), (((), ((), ())), (u1, (u2, ())))))), (((), ()), (((), ()), (u3, (u4, ())))))))
theorem F20_2_eq (n : Nat) (R : Type) (x : SSh.den G F20_2s) (K : AE → St G → Option R) :
  F20_2 n x.1.1 x.1.2.2.2.2.1 x.1.2.2.2.2.2.1 x.2.2.2.1 x.2.2.2.2.1 (fun u0 u1 u2 u3 => K (.exit 3) (SSh.enc G F20_2x0 ((u0, ((), ((), (((), ((), ())), (u1, ()))))), (((), ()), (((), ()), (u2, (u3, ()))))))) (fun u0 u1 u2 u3 u4 => K .normal (SSh.enc G F20_2x1 ((u0, ((), ((), (((), ((), ())), (u1, (u2, ())))))), (((), ()), (((), ()), (u3, (u4, ()))))))) = exec prog G (ro G (tabOf (E11 n)) (frOf [F20_0z n, F20_1z n]) R) 0 (codeAt F20c [1, 1, 1, 1, 1, 1, 1, 0, 0, 0, 1, 0]) (.nd .no (.nd (.nd .no (.nd .no (.nd .no (.nd (.nd (.use 1) .no) .no)))) .no)) (SSh.enc G F20_2s x) (kNrm G (ro G (tabOf (E11 n)) (frOf [F20_0z n, F20_1z n]) R) 0 ⟨⟨[0, 5, 6, 7, 8, 9], []⟩, ⟨[2], []⟩, [(3, ⟨[0, 5, 6, 7, 8], []⟩), (2, ⟨[2], []⟩)]⟩ K) := by kernel_rfl
theorem F20_2_ok (n : Nat) : FragOK prog G 0 (codeAt F20c [1, 1, 1, 1, 1, 1, 1, 0, 0, 0, 1, 0]) (F20_2z n) :=
  frag_plain laws fnok (E11_ok n).tab (AllF.of (l := [(1, codeAt F20c [1, 1, 1, 1, 1, 1, 1, 0, 0, 0, 1, 0, 1, 0, 1, 1, 1, 0, 0])]) (by kernel_rfl) (AllF.cons (F20_1_ok n) AllF.nil)) (F20_2_eq n)
noncomputable def F20_3x0 : SSh := ⟨135, [(2, (.own 0))], [(.arr 5 true)]⟩
noncomputable def F20_3s : SSh := ⟨135, [(0, (.imm 0)), (5, (.ptr 0 0)), (6, (.ptr 1 0)), (7, (.clo 38 (.cons (.ptr 0 0) (.cons (.ptr 1 0) .nil)))), (8, (.int .i64))], [(.box 39 (.cons (.own 2) .nil)), (.box 38 (.cons (.own 3) .nil)), (.arr 5 true), (.arr 0 true)]⟩
noncomputable def F20_3_step {R : Type} (n : Nat) (k0 : List (List Int) → Option R) (rec : List Int → Int → List (List Int) → List Int → Option R) (x648 : List Int) (x649 : Int) (x650 : List (List Int)) (x651 : List Int) : Option R :=
  (F20_2 n x648 x649 (IntKind.wrap .i64 (((x651.length) : Int) - (1 : Int))) x650 x651 (fun z738 z739 z740 z741 =>
  (rec z738 z739 z740 z741)) (fun z742 z743 z744 z745 z746 =>
  (bif (decide (z743 < ((z742.length) : Int))) then
  (bif (decide ((0 : Int) ≤ z743)) then
  (bif (decide (z743 < ((z742.length) : Int))) then
  let v751 := ((z742.getD (z743.toNat) (0 : Int)) :: [])
  (bif (decide (((z746.length) + (v751.length)) ≤ (68719476736 : Nat))) then
  (rec z742 (IntKind.wrap .i64 (z743 + (1 : Int))) z745 (z746 ++ v751))
  else none)
  else none)
  else none)
  else (bif (decide (z744 < (1 : Int))) then
  (k0 z745)
  else (bif (decide (z744 ≥ (2 : Int))) then
  let v756 := (IntKind.wrap .i64 (z744 - (2 : Int)))
  (bif (decide ((0 : Int) ≤ v756)) then
  (bif (decide (v756 < ((z746.length) : Int))) then
  (bif (decide ((0 : Int) ≤ z744)) then
  (bif (decide (z744 < ((z746.length) : Int))) then
  (bif (decide ((z746.getD (v756.toNat) (0 : Int)) < (z746.getD (z744.toNat) (0 : Int)))) then
  (andThen (F38 n (IntKind.wrap .i64 (z744 - (2 : Int))) z745 z746) fun r763 =>
  (rec z742 z743 r763.2.2.2.2.2.1 r763.2.2.2.2.2.2.1))
  else (andThen (F38 n (IntKind.wrap .i64 (z744 - (1 : Int))) z745 z746) fun r765 =>
  (rec z742 z743 r765.2.2.2.2.2.1 r765.2.2.2.2.2.2.1)))
  else none)
  else none)
  else none)
  else none)
  else (andThen (F38 n (IntKind.wrap .i64 (z744 - (1 : Int))) z745 z746) fun r767 =>
  (rec z742 z743 r767.2.2.2.2.2.1 r767.2.2.2.2.2.2.1)))))))
noncomputable def F20_3_it {R : Type} (n : Nat) (k0 : List (List Int) → Option R) : Nat → List Int → Int → List (List Int) → List Int → Option R
  | 0, _, _, _, _ => none
  | k + 1, x648, x649, x650, x651 => F20_3_step n k0 (F20_3_it n k0 k) x648 x649 x650 x651
noncomputable def F20_3 {R : Type} (n : Nat) (x648 : List Int) (x649 : Int) (x650 : List (List Int)) (x651 : List Int) (k0 : List (List Int) → Option R) : Option R := F20_3_it n k0 n x648 x649 x650 x651
noncomputable def F20_3z (n : Nat) : Sm G := inZ G 0 ⟨[0, 5, 6, 7, 8], []⟩ F20_3s fun R x K => F20_3_it n (fun u0 => K .ret (SSh.enc G F20_3x0 (((), ()), (u0, ())))) n x.1.1 x.1.2.2.2.2.1 x.2.2.2.1 x.2.2.2.2.1
theorem F20_3_eq (n : Nat) (R : Type) (rec : SSh.den G F20_3s → Option R) (x : SSh.den G F20_3s) (K : AE → St G → Option R) :
  F20_3_step n (fun u0 => K .ret (SSh.enc G F20_3x0 (((), ()), (u0, ())))) (fun x648 x649 x650 x651 => rec ((x648, ((), ((), (((), ((), ())), (x649, ()))))), (((), ()), (((), ()), (x650, (x651, ())))))) x.1.1 x.1.2.2.2.2.1 x.2.2.2.1 x.2.2.2.2.1 = exec prog G (ro G (tabOf (E11 n)) (frOf [F20_0z n, F20_1z n, F20_2z n]) R) 0 (codeAt F20c [1, 1, 1, 1, 1, 1, 1, 0, 0]) (.nd (.nd .no (.nd (.use 2) .no)) .no) (SSh.enc G F20_3s x) (kLoop G (ro G (tabOf (E11 n)) (frOf [F20_0z n, F20_1z n, F20_2z n]) R) 0 ⟨[0, 5, 6, 7, 8], []⟩ F20_3s ⟨⟨[2], []⟩, ⟨[2], []⟩, [(2, ⟨[2], []⟩)]⟩ rec K) := by kernel_rfl
theorem F20_3_ok (n : Nat) : FragOK prog G 0 (codeAt F20c [1, 1, 1, 1, 1, 1, 1, 0]) (F20_3z n) :=
  frag_loop (Z := fun R k (x : SSh.den G F20_3s) K => F20_3_it n (fun u0 => K .ret (SSh.enc G F20_3x0 (((), ()), (u0, ())))) k x.1.1 x.1.2.2.2.2.1 x.2.2.2.1 x.2.2.2.2.1) laws fnok (E11_ok n).tab (AllF.of (l := [(2, codeAt F20c [1, 1, 1, 1, 1, 1, 1, 0, 0, 0, 1, 0])]) (by kernel_rfl) (AllF.cons (F20_2_ok n) AllF.nil)) (fun _ _ _ => rfl) (fun R k y K => F20_3_eq n R (fun (x : SSh.den G F20_3s) => F20_3_it n (fun u0 => K .ret (SSh.enc G F20_3x0 (((), ()), (u0, ())))) k x.1.1 x.1.2.2.2.2.1 x.2.2.2.1 x.2.2.2.2.1) y K) n
noncomputable def F20 (n : Nat) (a633 : List Int) : Option (List (List Int) × Unit) :=
  (bif (decide (((a633.length) : Int) > (60 : Int))) then
  some ([], ())
  else (F20_0 n a633 a633 ((a633.length) : Int) (0 : Int) (
  some ([], ())) (fun z647 =>
  (F20_3 n z647 (0 : Int) [] [] (fun z768 =>
  some (z768, ()))))))
noncomputable def F20e (n : Nat) : Ent G := ⟨20, (.cons (.imm 0) .nil), [], (.imm 5), [], fun x y => F20 n x.1⟩
theorem F20_eq (n : Nat) (x : ShL.den G (.cons (.imm 0) .nil)) (y : denO G []) : (F20e n).F x y = runFn prog G (ro G (tabOf (E11 n)) (frOf [F20_0z n, F20_1z n, F20_2z n, F20_3z n]) _) Go.Proofs.Try.f20 (.nd .no (.nd .no (.nd (.nd .no (.nd (.use 0) .no)) (.nd .no (.nd .no (.nd .no (.nd .no (.nd (.use 3) .no)))))))) [(0, .fz)] (ShL.enc G (.cons (.imm 0) .nil) x) (encO G [] y) (decR (.imm 5) []) := by kernel_rfl
theorem F20_ok (n : Nat) : EntOK prog G (F20e n) :=
  ent_ok (fr := frOf [F20_0z n, F20_1z n, F20_2z n, F20_3z n]) (ann := (.nd .no (.nd .no (.nd (.nd .no (.nd (.use 0) .no)) (.nd .no (.nd .no (.nd .no (.nd .no (.nd (.use 3) .no))))))))) (frm := [(0, .fz)]) laws fnok (E11_ok n).tab (e := F20e n) (fn := Go.Proofs.Try.f20) (by kernel_rfl) (AllF.ofB (cd := F20c) (l := [(0, codeAt F20c [1, 1, 0, 1, 0]), (3, codeAt F20c [1, 1, 1, 1, 1, 1, 1, 0])]) (by kernel_rfl) (by kernel_rfl) (AllF.cons (F20_0_ok n) (AllF.cons (F20_3_ok n) AllF.nil))) (F20_eq n)
noncomputable def E12 (n : Nat) : List (Ent G) := F20e n :: E11 n
theorem E12_ok (n : Nat) : AllE prog G (E12 n) := AllE.cons (F20_ok n) (E11_ok n)
-- 21 loop.example/slowworm/impl.mergeItems
noncomputable def F21c : Code := bodyOf Go.Proofs.Try.f21
noncomputable def F21_0x0 : SSh := ⟨44, [(0, (.imm 3)), (1, (.imm 3)), (5, (.own 0))], [(.arr 3 true)]⟩
noncomputable def F21_0s : SSh := ⟨44, [(0, (.imm 3)), (1, (.imm 3)), (5, (.own 0))], [(.arr 3 true)]⟩
noncomputable def F21_0_step {R : Type} (n : Nat) (k0 : List Itm → List Itm → List Itm → Option R) (rec : List Itm → List Itm → List Itm → Option R) (x806 : List Itm) (x807 : List Itm) (x808 : List Itm) : Option R :=
  (bif (decide (((x806.length) : Int) > (0 : Int))) then
  (bif (decide (((x807.length) : Int) > (0 : Int))) then
  (bif (decide ((0 : Int) < ((x807.length) : Int))) then
  (bif (decide ((0 : Int) < ((x806.length) : Int))) then
  (bif (decide ((x807.getD (0 : Nat) (Itm.mk (0 : Int) (0 : Int))).key < (x806.getD (0 : Nat) (Itm.mk (0 : Int) (0 : Int))).key)) then
  (bif (decide ((0 : Int) < ((x807.length) : Int))) then
  let v818 := (x807.getD (0 : Nat) (Itm.mk (0 : Int) (0 : Int)))
  let v821 := ((Itm.mk v818.key v818.tag) :: [])
  (bif (decide (((x808.length) + (v821.length)) ≤ (68719476736 : Nat))) then
  (bif (decide ((1 : Int) ≤ ((x807.length) : Int))) then
  (bif (decide (((x807.length) : Int) ≤ ((x807.length) : Int))) then
  (rec x806 ((x807.take (((x807.length) : Int).toNat)).drop (1 : Nat)) (x808 ++ v821))
  else none)
  else none)
  else none)
  else none)
  else (bif (decide ((0 : Int) < ((x806.length) : Int))) then
  let v824 := (x806.getD (0 : Nat) (Itm.mk (0 : Int) (0 : Int)))
  let v827 := ((Itm.mk v824.key v824.tag) :: [])
  (bif (decide (((x808.length) + (v827.length)) ≤ (68719476736 : Nat))) then
  (bif (decide ((1 : Int) ≤ ((x806.length) : Int))) then
  (bif (decide (((x806.length) : Int) ≤ ((x806.length) : Int))) then
  (rec ((x806.take (((x806.length) : Int).toNat)).drop (1 : Nat)) x807 (x808 ++ v827))
  else none)
  else none)
  else none)
  else none))
  else none)
  else none)
  else (k0 x806 x807 x808))
  else (k0 x806 x807 x808))
noncomputable def F21_0_it {R : Type} (n : Nat) (k0 : List Itm → List Itm → List Itm → Option R) : Nat → List Itm → List Itm → List Itm → Option R
  | 0, _, _, _ => none
  | k + 1, x806, x807, x808 => F21_0_step n k0 (F21_0_it n k0 k) x806 x807 x808
noncomputable def F21_0 {R : Type} (n : Nat) (x806 : List Itm) (x807 : List Itm) (x808 : List Itm) (k0 : List Itm → List Itm → List Itm → Option R) : Option R := F21_0_it n k0 n x806 x807 x808
noncomputable def F21_0z (n : Nat) : Sm G := inZ G 0 ⟨[0, 1, 5], [(5, (.own 3))]⟩ F21_0s fun R x K => F21_0_it n (fun u0 u1 u2 => K (.exit 0) (SSh.enc G F21_0x0 ((u0, (u1, ((), ()))), (u2, ())))) n x.1.1 x.1.2.1 x.2.1
theorem F21_0_eq (n : Nat) (R : Type) (rec : SSh.den G F21_0s → Option R) (x : SSh.den G F21_0s) (K : AE → St G → Option R) :
  F21_0_step n (fun u0 u1 u2 => K (.exit 0) (SSh.enc G F21_0x0 ((u0, (u1, ((), ()))), (u2, ())))) (fun x806 x807 x808 => rec ((x806, (x807, ((), ()))), (x808, ()))) x.1.1 x.1.2.1 x.2.1 = exec prog G (ro G (tabOf (E12 n)) (frOf []) R) 0 (codeAt F21c [1, 1, 0, 0, 0]) .no (SSh.enc G F21_0s x) (kLoop G (ro G (tabOf (E12 n)) (frOf []) R) 0 ⟨[0, 1, 5], [(5, (.own 3))]⟩ F21_0s ⟨⟨[0, 1, 5], []⟩, ⟨[4], []⟩, [(0, ⟨[0, 1, 5], []⟩)]⟩ rec K) := by kernel_rfl
theorem F21_0_ok (n : Nat) : FragOK prog G 0 (codeAt F21c [1, 1, 0, 0]) (F21_0z n) :=
  frag_loop (Z := fun R k (x : SSh.den G F21_0s) K => F21_0_it n (fun u0 u1 u2 => K (.exit 0) (SSh.enc G F21_0x0 ((u0, (u1, ((), ()))), (u2, ())))) k x.1.1 x.1.2.1 x.2.1) laws fnok (E12_ok n).tab (AllF.of (l := []) (by kernel_rfl) AllF.nil) (fun _ _ _ => rfl) (fun R k y K => F21_0_eq n R (fun (x : SSh.den G F21_0s) => F21_0_it n (fun u0 u1 u2 => K (.exit 0) (SSh.enc G F21_0x0 ((u0, (u1, ((), ()))), (u2, ())))) k x.1.1 x.1.2.1 x.2.1) y K) n
-- 40 slices.Concat[[]loop.example/slowworm/impl.Item,loop.example/slowworm/impl.Item]
noncomputable def F40c : Code := bodyOf Go.Proofs.Try.f40
noncomputable def F40_0x0 : SSh := ⟨36, [(0, (.imm 6)), (3, (.int .i64)), (9, (.imm 6)), (10, (.int .i64)), (11, (.int .i64))], []⟩
noncomputable def F40_0s : SSh := ⟨36, [(0, (.imm 6)), (3, (.int .i64)), (9, (.imm 6)), (10, (.int .i64)), (11, (.int .i64))], []⟩
noncomputable def F40_0 {R : Type} (n : Nat) (x842 : List (List Itm)) (x843 : Int) (x844 : List (List Itm)) (x845 : Int) (x846 : Int) (k0 : List (List Itm) → Int → List (List Itm) → Int → Int → Option R) : Option R :=
  (bif (decide ((0 : Int) ≤ x846)) then
  (bif (decide (x846 < ((x844.length) : Int))) then
  let v850 := (IntKind.wrap .i64 (x843 + (((x844.getD (x846.toNat) []).length) : Int)))
  (bif (decide (v850 < (0 : Int))) then
  none
  else (k0 x842 v850 x844 x845 x846))
  else none)
  else none)
noncomputable def F40_0z (n : Nat) : Sm G := inZ G 0 ⟨[0, 3, 9, 10, 11], []⟩ F40_0s fun R x K => F40_0 n x.1.1 x.1.2.1 x.1.2.2.1 x.1.2.2.2.1 x.1.2.2.2.2.1 (fun u0 u1 u2 u3 u4 => K .normal (SSh.enc G F40_0x0 ((u0, (u1, (u2, (u3, (u4, ()))))), ())))
theorem F40_0_eq (n : Nat) (R : Type) (x : SSh.den G F40_0s) (K : AE → St G → Option R) :
  F40_0 n x.1.1 x.1.2.1 x.1.2.2.1 x.1.2.2.2.1 x.1.2.2.2.2.1 (fun u0 u1 u2 u3 u4 => K .normal (SSh.enc G F40_0x0 ((u0, (u1, (u2, (u3, (u4, ()))))), ()))) = exec prog G (ro G (tabOf (E12 n)) (frOf []) R) 0 (codeAt F40c [1, 1, 0, 1, 0, 0, 1, 1, 0]) .no (SSh.enc G F40_0s x) (kNrm G (ro G (tabOf (E12 n)) (frOf []) R) 0 ⟨⟨[0, 3, 9, 10, 11], []⟩, ⟨[2], []⟩, [(0, ⟨[0, 3], []⟩)]⟩ K) := by kernel_rfl
theorem F40_0_ok (n : Nat) : FragOK prog G 0 (codeAt F40c [1, 1, 0, 1, 0, 0, 1, 1, 0]) (F40_0z n) :=
  frag_plain laws fnok (E12_ok n).tab (AllF.of (l := []) (by kernel_rfl) AllF.nil) (F40_0_eq n)
noncomputable def F40_1x0 : SSh := ⟨36, [(0, (.imm 6)), (3, (.int .i64))], []⟩
noncomputable def F40_1s : SSh := ⟨36, [(0, (.imm 6)), (3, (.int .i64)), (9, (.imm 6)), (10, (.int .i64)), (11, (.int .i64))], []⟩
noncomputable def F40_1_step {R : Type} (n : Nat) (k0 : List (List Itm) → Int → Option R) (rec : List (List Itm) → Int → List (List Itm) → Int → Int → Option R) (x836 : List (List Itm)) (x837 : Int) (x838 : List (List Itm)) (x839 : Int) (x840 : Int) : Option R :=
  (bif (decide (x840 < x839)) then
  (F40_0 n x836 x837 x838 x839 x840 (fun z852 z853 z854 z855 z856 =>
  (rec z852 z853 z854 z855 (IntKind.wrap .i64 (z856 + (1 : Int))))))
  else (k0 x836 x837))
noncomputable def F40_1_it {R : Type} (n : Nat) (k0 : List (List Itm) → Int → Option R) : Nat → List (List Itm) → Int → List (List Itm) → Int → Int → Option R
  | 0, _, _, _, _, _ => none
  | k + 1, x836, x837, x838, x839, x840 => F40_1_step n k0 (F40_1_it n k0 k) x836 x837 x838 x839 x840
noncomputable def F40_1 {R : Type} (n : Nat) (x836 : List (List Itm)) (x837 : Int) (x838 : List (List Itm)) (x839 : Int) (x840 : Int) (k0 : List (List Itm) → Int → Option R) : Option R := F40_1_it n k0 n x836 x837 x838 x839 x840
noncomputable def F40_1z (n : Nat) : Sm G := inZ G 0 ⟨[0, 3, 9, 10, 11], []⟩ F40_1s fun R x K => F40_1_it n (fun u0 u1 => K (.exit 0) (SSh.enc G F40_1x0 ((u0, (u1, ())), ()))) n x.1.1 x.1.2.1 x.1.2.2.1 x.1.2.2.2.1 x.1.2.2.2.2.1
theorem F40_1_eq (n : Nat) (R : Type) (rec : SSh.den G F40_1s → Option R) (x : SSh.den G F40_1s) (K : AE → St G → Option R) :
  F40_1_step n (fun u0 u1 => K (.exit 0) (SSh.enc G F40_1x0 ((u0, (u1, ())), ()))) (fun x836 x837 x838 x839 x840 => rec ((x836, (x837, (x838, (x839, (x840, ()))))), ())) x.1.1 x.1.2.1 x.1.2.2.1 x.1.2.2.2.1 x.1.2.2.2.2.1 = exec prog G (ro G (tabOf (E12 n)) (frOf [F40_0z n]) R) 0 (codeAt F40c [1, 1, 0, 1, 0, 0]) (.nd .no (.nd .no (.nd (.use 0) .no))) (SSh.enc G F40_1s x) (kLoop G (ro G (tabOf (E12 n)) (frOf [F40_0z n]) R) 0 ⟨[0, 3, 9, 10, 11], []⟩ F40_1s ⟨⟨[0, 3], []⟩, ⟨[2], []⟩, [(0, ⟨[0, 3], []⟩)]⟩ rec K) := by kernel_rfl
theorem F40_1_ok (n : Nat) : FragOK prog G 0 (codeAt F40c [1, 1, 0, 1, 0]) (F40_1z n) :=
  frag_loop (Z := fun R k (x : SSh.den G F40_1s) K => F40_1_it n (fun u0 u1 => K (.exit 0) (SSh.enc G F40_1x0 ((u0, (u1, ())), ()))) k x.1.1 x.1.2.1 x.1.2.2.1 x.1.2.2.2.1 x.1.2.2.2.2.1) laws fnok (E12_ok n).tab (AllF.of (l := [(0, codeAt F40c [1, 1, 0, 1, 0, 0, 1, 1, 0])]) (by kernel_rfl) (AllF.cons (F40_0_ok n) AllF.nil)) (fun _ _ _ => rfl) (fun R k y K => F40_1_eq n R (fun (x : SSh.den G F40_1s) => F40_1_it n (fun u0 u1 => K (.exit 0) (SSh.enc G F40_1x0 ((u0, (u1, ())), ()))) k x.1.1 x.1.2.1 x.1.2.2.1 x.1.2.2.2.1 x.1.2.2.2.2.1) y K) n
-- 48 slices.Grow[[]loop.example/slowworm/impl.Item,loop.example/slowworm/impl.Item]
noncomputable def F48c : Code := bodyOf Go.Proofs.Try.f48
noncomputable def F48_0x0 : SSh := ⟨27, [(0, .nil0), (1, (.int .i64))], []⟩
noncomputable def F48_0s : SSh := ⟨27, [(0, .nil0), (1, (.int .i64))], []⟩
noncomputable def F48_0 {R : Type} (n : Nat) (x861 : Int) (k0 : Int → Option R) : Option R :=
  (bif (decide (x861 < (0 : Int))) then
  none
  else (k0 x861))
noncomputable def F48_0z (n : Nat) : Sm G := inZ G 0 ⟨[0, 1], []⟩ F48_0s fun R x K => F48_0 n x.1.2.1 (fun u0 => K .normal (SSh.enc G F48_0x0 (((), (u0, ())), ())))
theorem F48_0_eq (n : Nat) (R : Type) (x : SSh.den G F48_0s) (K : AE → St G → Option R) :
  F48_0 n x.1.2.1 (fun u0 => K .normal (SSh.enc G F48_0x0 (((), (u0, ())), ()))) = exec prog G (ro G (tabOf (E12 n)) (frOf []) R) 0 (codeAt F48c [1, 0]) .no (SSh.enc G F48_0s x) (kNrm G (ro G (tabOf (E12 n)) (frOf []) R) 0 ⟨⟨[0, 1], []⟩, ⟨[4], []⟩, []⟩ K) := by kernel_rfl
theorem F48_0_ok (n : Nat) : FragOK prog G 0 (codeAt F48c [1, 0]) (F48_0z n) :=
  frag_plain laws fnok (E12_ok n).tab (AllF.of (l := []) (by kernel_rfl) AllF.nil) (F48_0_eq n)
noncomputable def F48_1x0 : SSh := ⟨27, [(0, (.pre 0))], [(.arr 3 true)]⟩
noncomputable def F48_1x1 : SSh := ⟨27, [(0, .nil0)], []⟩
noncomputable def F48_1s : SSh := ⟨27, [(0, .nil0), (1, (.int .i64))], []⟩
noncomputable def F48_1 {R : Type} (n : Nat) (x864 : Int) (k0 : Nat → List Itm → Option R) (k1 : Option R) : Option R :=
  let v865 := (IntKind.wrap .i64 (x864 - (Int.ofNat (0 : Nat))))
  (bif (decide (v865 > (0 : Int))) then
  (bif (decide ((0 : Int) < v865)) then
  (bif (decide (v865 ≤ ((68719476736 : Nat) : Int))) then
  let v867 := (List.replicate (v865.toNat) (Itm.mk (0 : Int) (0 : Int)))
  (bif (decide ((Int.ofNat (0 : Nat)) ≤ ((v867.length) : Int))) then
  (k0 (0 : Nat) v867)
  else none)
  else none)
  else none)
  else k1)
noncomputable def F48_1z (n : Nat) : Sm G := inZ G 0 ⟨[0, 1], []⟩ F48_1s fun R x K => F48_1 n x.1.2.1 (fun u0 u1 => K .normal (SSh.enc G F48_1x0 ((u0, ()), (u1, ())))) (K .normal (SSh.enc G F48_1x1 (((), ()), ())))
theorem F48_1_eq (n : Nat) (R : Type) (x : SSh.den G F48_1s) (K : AE → St G → Option R) :
  F48_1 n x.1.2.1 (fun u0 u1 => K .normal (SSh.enc G F48_1x0 ((u0, ()), (u1, ())))) (K .normal (SSh.enc G F48_1x1 (((), ()), ()))) = exec prog G (ro G (tabOf (E12 n)) (frOf [F48_0z n]) R) 0 (codeAt F48c [1, 1, 0]) .no (SSh.enc G F48_1s x) (kNrm G (ro G (tabOf (E12 n)) (frOf [F48_0z n]) R) 0 ⟨⟨[0], []⟩, ⟨[4], []⟩, []⟩ K) := by kernel_rfl
theorem F48_1_ok (n : Nat) : FragOK prog G 0 (codeAt F48c [1, 1, 0]) (F48_1z n) :=
  frag_plain laws fnok (E12_ok n).tab (AllF.of (l := []) (by kernel_rfl) AllF.nil) (F48_1_eq n)
noncomputable def F48 (n : Nat) (a860 : Int) : Option (Unit × (List Itm × Unit)) :=
  (F48_0 n a860 (fun z863 =>
  (F48_1 n z863 (fun z868 z869 =>
  some ((), ((z869.take z868), ()))) (
  some ((), ([], ()))))))
noncomputable def F48e (n : Nat) : Ent G := ⟨48, (.cons .nil0 (.cons (.int .i64) .nil)), [], (.own 0), [(.arr 3 true)], fun x y => F48 n x.2.1⟩
theorem F48_eq (n : Nat) (x : ShL.den G (.cons .nil0 (.cons (.int .i64) .nil))) (y : denO G []) : (F48e n).F x y = runFn prog G (ro G (tabOf (E12 n)) (frOf [F48_0z n, F48_1z n]) _) Go.Proofs.Try.f48 (.nd .no (.nd (.use 0) (.nd (.use 1) .no))) [(0, (.mv 3))] (ShL.enc G (.cons .nil0 (.cons (.int .i64) .nil)) x) (encO G [] y) (decR (.own 0) [(.arr 3 true)]) := by kernel_rfl
theorem F48_ok (n : Nat) : EntOK prog G (F48e n) :=
  ent_ok (fr := frOf [F48_0z n, F48_1z n]) (ann := (.nd .no (.nd (.use 0) (.nd (.use 1) .no)))) (frm := [(0, (.mv 3))]) laws fnok (E12_ok n).tab (e := F48e n) (fn := Go.Proofs.Try.f48) (by kernel_rfl) (AllF.ofB (cd := F48c) (l := [(0, codeAt F48c [1, 0]), (1, codeAt F48c [1, 1, 0])]) (by kernel_rfl) (by kernel_rfl) (AllF.cons (F48_0_ok n) (AllF.cons (F48_1_ok n) AllF.nil))) (F48_eq n)
noncomputable def E13 (n : Nat) : List (Ent G) := F48e n :: E12 n
theorem E13_ok (n : Nat) : AllE prog G (E13 n) := AllE.cons (F48_ok n) (E12_ok n)
noncomputable def F40_2x0 : SSh := ⟨36, [(6, (.own 0))], [(.arr 3 true)]⟩
noncomputable def F40_2s : SSh := ⟨36, [(6, (.own 0)), (25, (.imm 6)), (26, (.int .i64)), (27, (.int .i64))], [(.arr 3 true)]⟩
noncomputable def F40_2_step {R : Type} (n : Nat) (k0 : List Itm → Option R) (rec : List (List Itm) → Int → Int → List Itm → Option R) (x873 : List (List Itm)) (x874 : Int) (x875 : Int) (x876 : List Itm) : Option R :=
  (bif (decide (x875 < x874)) then
  (bif (decide ((0 : Int) ≤ x875)) then
  (bif (decide (x875 < ((x873.length) : Int))) then
  let v879 := (x873.getD (x875.toNat) [])
  (bif (decide (((x876.length) + (v879.length)) ≤ (68719476736 : Nat))) then
  (rec x873 x874 (IntKind.wrap .i64 (x875 + (1 : Int))) (x876 ++ v879))
  else none)
  else none)
  else none)
  else (k0 x876))
noncomputable def F40_2_it {R : Type} (n : Nat) (k0 : List Itm → Option R) : Nat → List (List Itm) → Int → Int → List Itm → Option R
  | 0, _, _, _, _ => none
  | k + 1, x873, x874, x875, x876 => F40_2_step n k0 (F40_2_it n k0 k) x873 x874 x875 x876
noncomputable def F40_2 {R : Type} (n : Nat) (x873 : List (List Itm)) (x874 : Int) (x875 : Int) (x876 : List Itm) (k0 : List Itm → Option R) : Option R := F40_2_it n k0 n x873 x874 x875 x876
noncomputable def F40_2z (n : Nat) : Sm G := inZ G 0 ⟨[6, 25, 26, 27], []⟩ F40_2s fun R x K => F40_2_it n (fun u0 => K (.exit 2) (SSh.enc G F40_2x0 (((), ()), (u0, ())))) n x.1.2.1 x.1.2.2.1 x.1.2.2.2.1 x.2.1
theorem F40_2_eq (n : Nat) (R : Type) (rec : SSh.den G F40_2s → Option R) (x : SSh.den G F40_2s) (K : AE → St G → Option R) :
  F40_2_step n (fun u0 => K (.exit 2) (SSh.enc G F40_2x0 (((), ()), (u0, ())))) (fun x873 x874 x875 x876 => rec (((), (x873, (x874, (x875, ())))), (x876, ()))) x.1.2.1 x.1.2.2.1 x.1.2.2.2.1 x.2.1 = exec prog G (ro G (tabOf (E13 n)) (frOf [F40_0z n, F40_1z n]) R) 0 (codeAt F40c [1, 1, 1, 1, 0, 1, 0, 0]) .no (SSh.enc G F40_2s x) (kLoop G (ro G (tabOf (E13 n)) (frOf [F40_0z n, F40_1z n]) R) 0 ⟨[6, 25, 26, 27], []⟩ F40_2s ⟨⟨[6], []⟩, ⟨[2], []⟩, [(2, ⟨[6], []⟩)]⟩ rec K) := by kernel_rfl
theorem F40_2_ok (n : Nat) : FragOK prog G 0 (codeAt F40c [1, 1, 1, 1, 0, 1, 0]) (F40_2z n) :=
  frag_loop (Z := fun R k (x : SSh.den G F40_2s) K => F40_2_it n (fun u0 => K (.exit 2) (SSh.enc G F40_2x0 (((), ()), (u0, ())))) k x.1.2.1 x.1.2.2.1 x.1.2.2.2.1 x.2.1) laws fnok (E13_ok n).tab (AllF.of (l := []) (by kernel_rfl) AllF.nil) (fun _ _ _ => rfl) (fun R k y K => F40_2_eq n R (fun (x : SSh.den G F40_2s) => F40_2_it n (fun u0 => K (.exit 2) (SSh.enc G F40_2x0 (((), ()), (u0, ())))) k x.1.2.1 x.1.2.2.1 x.1.2.2.2.1 x.2.1) y K) n
noncomputable def F40 (n : Nat) (a834 : List (List Itm)) : Option (List Itm × Unit) :=
  (F40_1 n a834 (0 : Int) a834 ((a834.length) : Int) (0 : Int) (fun z858 z859 =>
  (andThen (F48 n z859) fun r871 =>
  (F40_2 n z858 ((z858.length) : Int) (0 : Int) r871.2.1 (fun z882 =>
  some (z882, ()))))))
noncomputable def F40e (n : Nat) : Ent G := ⟨40, (.cons (.imm 6) .nil), [], (.imm 3), [], fun x y => F40 n x.1⟩
theorem F40_eq (n : Nat) (x : ShL.den G (.cons (.imm 6) .nil)) (y : denO G []) : (F40e n).F x y = runFn prog G (ro G (tabOf (E13 n)) (frOf [F40_0z n, F40_1z n, F40_2z n]) _) Go.Proofs.Try.f40 (.nd .no (.nd .no (.nd (.nd .no (.nd (.use 1) .no)) (.nd .no (.nd (.nd .no (.nd (.use 2) .no)) .no))))) [(0, .fz)] (ShL.enc G (.cons (.imm 6) .nil) x) (encO G [] y) (decR (.imm 3) []) := by kernel_rfl
theorem F40_ok (n : Nat) : EntOK prog G (F40e n) :=
  ent_ok (fr := frOf [F40_0z n, F40_1z n, F40_2z n]) (ann := (.nd .no (.nd .no (.nd (.nd .no (.nd (.use 1) .no)) (.nd .no (.nd (.nd .no (.nd (.use 2) .no)) .no)))))) (frm := [(0, .fz)]) laws fnok (E13_ok n).tab (e := F40e n) (fn := Go.Proofs.Try.f40) (by kernel_rfl) (AllF.ofB (cd := F40c) (l := [(1, codeAt F40c [1, 1, 0, 1, 0]), (2, codeAt F40c [1, 1, 1, 1, 0, 1, 0])]) (by kernel_rfl) (by kernel_rfl) (AllF.cons (F40_1_ok n) (AllF.cons (F40_2_ok n) AllF.nil))) (F40_eq n)
noncomputable def E14 (n : Nat) : List (Ent G) := F40e n :: E13 n
theorem E14_ok (n : Nat) : AllE prog G (E14 n) := AllE.cons (F40_ok n) (E13_ok n)
noncomputable def F21 (n : Nat) (a804 : List Itm) (a805 : List Itm) : Option (List Itm × Unit) :=
  (F21_0 n a804 a805 [] (fun z830 z831 z832 =>
  (andThen (F40 n (z832 :: (z830 :: (z831 :: [])))) fun r883 =>
  some (r883.1, ()))))
noncomputable def F21e (n : Nat) : Ent G := ⟨21, (.cons (.imm 3) (.cons (.imm 3) .nil)), [], (.imm 3), [], fun x y => F21 n x.1 x.2.1⟩
theorem F21_eq (n : Nat) (x : ShL.den G (.cons (.imm 3) (.cons (.imm 3) .nil))) (y : denO G []) : (F21e n).F x y = runFn prog G (ro G (tabOf (E14 n)) (frOf [F21_0z n]) _) Go.Proofs.Try.f21 (.nd .no (.nd .no (.nd (.nd (.use 0) .no) .no))) [(0, .fz)] (ShL.enc G (.cons (.imm 3) (.cons (.imm 3) .nil)) x) (encO G [] y) (decR (.imm 3) []) := by kernel_rfl
theorem F21_ok (n : Nat) : EntOK prog G (F21e n) :=
  ent_ok (fr := frOf [F21_0z n]) (ann := (.nd .no (.nd .no (.nd (.nd (.use 0) .no) .no)))) (frm := [(0, .fz)]) laws fnok (E14_ok n).tab (e := F21e n) (fn := Go.Proofs.Try.f21) (by kernel_rfl) (AllF.ofB (cd := F21c) (l := [(0, codeAt F21c [1, 1, 0, 0])]) (by kernel_rfl) (by kernel_rfl) (AllF.cons (F21_0_ok n) AllF.nil)) (F21_eq n)
noncomputable def E15 (n : Nat) : List (Ent G) := F21e n :: E14 n
theorem E15_ok (n : Nat) : AllE prog G (E15 n) := AllE.cons (F21_ok n) (E14_ok n)
-- 8 loop.example/slowworm/impl.SortItems
noncomputable def F8c : Code := bodyOf Go.Proofs.Try.f8
noncomputable def F8_0x0 : SSh := ⟨60, [(3, (.own 0)), (4, (.own 1))], [(.arr 6 true), (.arr 0 true)]⟩
noncomputable def F8_0s : SSh := ⟨60, [(3, (.own 0)), (4, (.own 1)), (12, (.own 0)), (13, (.int .i64)), (14, (.int .i64))], [(.arr 6 true), (.arr 0 true)]⟩
noncomputable def F8_0_step {R : Type} (n : Nat) (k0 : List (List Itm) → List Int → Option R) (rec : Int → Int → List (List Itm) → List Int → Option R) (x898 : Int) (x899 : Int) (x900 : List (List Itm)) (x901 : List Int) : Option R :=
  (bif (decide (x899 < x898)) then
  (bif (decide ((0 : Int) ≤ x899)) then
  (bif (decide (x899 < ((x900.length) : Int))) then
  let v906 := ((((x900.getD (x899.toNat) []).length) : Int) :: [])
  (bif (decide (((x901.length) + (v906.length)) ≤ (68719476736 : Nat))) then
  (rec x898 (IntKind.wrap .i64 (x899 + (1 : Int))) x900 (x901 ++ v906))
  else none)
  else none)
  else none)
  else (k0 x900 x901))
noncomputable def F8_0_it {R : Type} (n : Nat) (k0 : List (List Itm) → List Int → Option R) : Nat → Int → Int → List (List Itm) → List Int → Option R
  | 0, _, _, _, _ => none
  | k + 1, x898, x899, x900, x901 => F8_0_step n k0 (F8_0_it n k0 k) x898 x899 x900 x901
noncomputable def F8_0 {R : Type} (n : Nat) (x898 : Int) (x899 : Int) (x900 : List (List Itm)) (x901 : List Int) (k0 : List (List Itm) → List Int → Option R) : Option R := F8_0_it n k0 n x898 x899 x900 x901
noncomputable def F8_0z (n : Nat) : Sm G := inZ G 0 ⟨[3, 4, 12, 13, 14], [(4, (.own 0))]⟩ F8_0s fun R x K => F8_0_it n (fun u0 u1 => K (.exit 0) (SSh.enc G F8_0x0 (((), ((), ())), (u0, (u1, ()))))) n x.1.2.2.2.1 x.1.2.2.2.2.1 x.2.1 x.2.2.1
theorem F8_0_eq (n : Nat) (R : Type) (rec : SSh.den G F8_0s → Option R) (x : SSh.den G F8_0s) (K : AE → St G → Option R) :
  F8_0_step n (fun u0 u1 => K (.exit 0) (SSh.enc G F8_0x0 (((), ((), ())), (u0, (u1, ()))))) (fun x898 x899 x900 x901 => rec (((), ((), ((), (x898, (x899, ()))))), (x900, (x901, ())))) x.1.2.2.2.1 x.1.2.2.2.2.1 x.2.1 x.2.2.1 = exec prog G (ro G (tabOf (E15 n)) (frOf []) R) 0 (codeAt F8c [1, 1, 1, 0, 1, 0, 0]) .no (SSh.enc G F8_0s x) (kLoop G (ro G (tabOf (E15 n)) (frOf []) R) 0 ⟨[3, 4, 12, 13, 14], [(4, (.own 0))]⟩ F8_0s ⟨⟨[3, 4], []⟩, ⟨[2], []⟩, [(0, ⟨[3, 4], []⟩)]⟩ rec K) := by kernel_rfl
theorem F8_0_ok (n : Nat) : FragOK prog G 0 (codeAt F8c [1, 1, 1, 0, 1, 0]) (F8_0z n) :=
  frag_loop (Z := fun R k (x : SSh.den G F8_0s) K => F8_0_it n (fun u0 u1 => K (.exit 0) (SSh.enc G F8_0x0 (((), ((), ())), (u0, (u1, ()))))) k x.1.2.2.2.1 x.1.2.2.2.2.1 x.2.1 x.2.2.1) laws fnok (E15_ok n).tab (AllF.of (l := []) (by kernel_rfl) AllF.nil) (fun _ _ _ => rfl) (fun R k y K => F8_0_eq n R (fun (x : SSh.den G F8_0s) => F8_0_it n (fun u0 u1 => K (.exit 0) (SSh.enc G F8_0x0 (((), ((), ())), (u0, (u1, ()))))) k x.1.2.2.2.1 x.1.2.2.2.2.1 x.2.1 x.2.2.1) y K) n
noncomputable def F8_1x0 : SSh := ⟨60, [(3, (.own 0))], [(.arr 6 true)]⟩
noncomputable def F8_1s : SSh := ⟨60, [(3, (.own 0)), (25, (.imm 5)), (26, (.int .i64)), (27, (.int .i64))], [(.arr 6 true)]⟩
noncomputable def F8_1_step {R : Type} (n : Nat) (k0 : List (List Itm) → Option R) (rec : List (List Int) → Int → Int → List (List Itm) → Option R) (x913 : List (List Int)) (x914 : Int) (x915 : Int) (x916 : List (List Itm)) : Option R :=
  (bif (decide (x915 < x914)) then
  (bif (decide ((0 : Int) ≤ x915)) then
  (bif (decide (x915 < ((x913.length) : Int))) then
  let v919 := (x913.getD (x915.toNat) [])
  (bif (decide ((0 : Int) < ((v919.length) : Int))) then
  let v921 := (v919.getD (0 : Nat) (0 : Int))
  (bif (decide ((0 : Int) ≤ v921)) then
  (bif (decide (v921 < ((x916.length) : Int))) then
  let v924 := (IntKind.wrap .i64 (v921 + (1 : Int)))
  (bif (decide ((0 : Int) ≤ v924)) then
  (bif (decide (v924 < ((x916.length) : Int))) then
  (andThen (F21 n (x916.getD (v921.toNat) []) (x916.getD (v924.toNat) [])) fun r927 =>
  (bif (decide ((0 : Int) ≤ v921)) then
  (bif (decide (v921 < ((x916.length) : Int))) then
  (andThen (L22 (IntKind.wrap .i64 (v921 + (1 : Int))) (IntKind.wrap .i64 (v921 + (2 : Int))) (x916.set (v921.toNat) r927.1)) fun r932 =>
  (rec x913 x914 (IntKind.wrap .i64 (x915 + (1 : Int))) r932.2.2.1))
  else none)
  else none))
  else none)
  else none)
  else none)
  else none)
  else none)
  else none)
  else none)
  else (k0 x916))
noncomputable def F8_1_it {R : Type} (n : Nat) (k0 : List (List Itm) → Option R) : Nat → List (List Int) → Int → Int → List (List Itm) → Option R
  | 0, _, _, _, _ => none
  | k + 1, x913, x914, x915, x916 => F8_1_step n k0 (F8_1_it n k0 k) x913 x914 x915 x916
noncomputable def F8_1 {R : Type} (n : Nat) (x913 : List (List Int)) (x914 : Int) (x915 : Int) (x916 : List (List Itm)) (k0 : List (List Itm) → Option R) : Option R := F8_1_it n k0 n x913 x914 x915 x916
noncomputable def F8_1z (n : Nat) : Sm G := inZ G 0 ⟨[3, 25, 26, 27], []⟩ F8_1s fun R x K => F8_1_it n (fun u0 => K (.exit 2) (SSh.enc G F8_1x0 (((), ()), (u0, ())))) n x.1.2.1 x.1.2.2.1 x.1.2.2.2.1 x.2.1
theorem F8_1_eq (n : Nat) (R : Type) (rec : SSh.den G F8_1s → Option R) (x : SSh.den G F8_1s) (K : AE → St G → Option R) :
  F8_1_step n (fun u0 => K (.exit 2) (SSh.enc G F8_1x0 (((), ()), (u0, ())))) (fun x913 x914 x915 x916 => rec (((), (x913, (x914, (x915, ())))), (x916, ()))) x.1.2.1 x.1.2.2.1 x.1.2.2.2.1 x.2.1 = exec prog G (ro G (tabOf (E15 n)) (frOf [F8_0z n]) R) 0 (codeAt F8c [1, 1, 1, 1, 0, 1, 0, 0]) .no (SSh.enc G F8_1s x) (kLoop G (ro G (tabOf (E15 n)) (frOf [F8_0z n]) R) 0 ⟨[3, 25, 26, 27], []⟩ F8_1s ⟨⟨[3], []⟩, ⟨[2], []⟩, [(2, ⟨[3], []⟩)]⟩ rec K) := by kernel_rfl
theorem F8_1_ok (n : Nat) : FragOK prog G 0 (codeAt F8c [1, 1, 1, 1, 0, 1, 0]) (F8_1z n) :=
  frag_loop (Z := fun R k (x : SSh.den G F8_1s) K => F8_1_it n (fun u0 => K (.exit 2) (SSh.enc G F8_1x0 (((), ()), (u0, ())))) k x.1.2.1 x.1.2.2.1 x.1.2.2.2.1 x.2.1) laws fnok (E15_ok n).tab (AllF.of (l := []) (by kernel_rfl) AllF.nil) (fun _ _ _ => rfl) (fun R k y K => F8_1_eq n R (fun (x : SSh.den G F8_1s) => F8_1_it n (fun u0 => K (.exit 2) (SSh.enc G F8_1x0 (((), ()), (u0, ())))) k x.1.2.1 x.1.2.2.1 x.1.2.2.2.1 x.2.1) y K) n
noncomputable def F8 (n : Nat) (a895 : List Itm) : Option (List Itm × Unit) :=
  (andThen (F11 n a895) fun r896 =>
  (F8_0 n ((r896.2.1.length) : Int) (0 : Int) r896.2.1 [] (fun z909 z910 =>
  (andThen (F20 n z910) fun r911 =>
  (F8_1 n r911.1 ((r911.1.length) : Int) (0 : Int) z909 (fun z934 =>
  (bif (((z934.length) : Int) == (0 : Int)) then
  some ([], ())
  else (bif (decide ((0 : Int) < ((z934.length) : Int))) then
  some ((z934.getD (0 : Nat) []), ())
  else none))))))))
noncomputable def F8e (n : Nat) : Ent G := ⟨8, (.cons (.imm 3) .nil), [], (.imm 3), [], fun x y => F8 n x.1⟩
theorem F8_eq (n : Nat) (x : ShL.den G (.cons (.imm 3) .nil)) (y : denO G []) : (F8e n).F x y = runFn prog G (ro G (tabOf (E15 n)) (frOf [F8_0z n, F8_1z n]) _) Go.Proofs.Try.f8 (.nd .no (.nd .no (.nd .no (.nd (.nd .no (.nd (.use 0) .no)) (.nd (.nd .no (.nd (.use 1) .no)) .no))))) [] (ShL.enc G (.cons (.imm 3) .nil) x) (encO G [] y) (decR (.imm 3) []) := by kernel_rfl
theorem F8_ok (n : Nat) : EntOK prog G (F8e n) :=
  ent_ok (fr := frOf [F8_0z n, F8_1z n]) (ann := (.nd .no (.nd .no (.nd .no (.nd (.nd .no (.nd (.use 0) .no)) (.nd (.nd .no (.nd (.use 1) .no)) .no)))))) (frm := []) laws fnok (E15_ok n).tab (e := F8e n) (fn := Go.Proofs.Try.f8) (by kernel_rfl) (AllF.ofB (cd := F8c) (l := [(0, codeAt F8c [1, 1, 1, 0, 1, 0]), (1, codeAt F8c [1, 1, 1, 1, 0, 1, 0])]) (by kernel_rfl) (by kernel_rfl) (AllF.cons (F8_0_ok n) (AllF.cons (F8_1_ok n) AllF.nil))) (F8_eq n)
noncomputable def E16 (n : Nat) : List (Ent G) := F8e n :: E15 n
theorem E16_ok (n : Nat) : AllE prog G (E16 n) := AllE.cons (F8_ok n) (E15_ok n)
-- 24 loop.example/slowworm/spec.validItems
noncomputable def F24c : Code := bodyOf Go.Proofs.Try.f24
noncomputable def F24 (n : Nat) (a940 : List Itm) : Option (Bool × Unit) :=
  some ((decide (((a940.length) : Int) ≤ (60 : Int))), ())
noncomputable def F24e (n : Nat) : Ent G := ⟨24, (.cons (.imm 3) .nil), [], .bool, [], fun x y => F24 n x.1⟩
theorem F24_eq (n : Nat) (x : ShL.den G (.cons (.imm 3) .nil)) (y : denO G []) : (F24e n).F x y = runFn prog G (ro G (tabOf (E16 n)) (frOf []) _) Go.Proofs.Try.f24 .no [(0, .fz)] (ShL.enc G (.cons (.imm 3) .nil) x) (encO G [] y) (decR .bool []) := by kernel_rfl
theorem F24_ok (n : Nat) : EntOK prog G (F24e n) :=
  ent_ok (fr := frOf []) (ann := .no) (frm := [(0, .fz)]) laws fnok (E16_ok n).tab (e := F24e n) (fn := Go.Proofs.Try.f24) (by kernel_rfl) (AllF.ofB (cd := F24c) (l := []) (by kernel_rfl) (by kernel_rfl) AllF.nil) (F24_eq n)
noncomputable def E17 (n : Nat) : List (Ent G) := F24e n :: E16 n
theorem E17_ok (n : Nat) : AllE prog G (E17 n) := AllE.cons (F24_ok n) (E16_ok n)
-- 41 loop.example/slowworm/spec.leastRun
noncomputable def F41c : Code := bodyOf Go.Proofs.Try.f41
noncomputable def F41_0x0 : SSh := ⟨15, [(0, (.int .i64)), (3, (.int .i64))], []⟩
noncomputable def F41_0s : SSh := ⟨15, [(0, (.int .i64)), (3, (.int .i64))], []⟩
noncomputable def F41_0_step {R : Type} (n : Nat) (k0 : Int → Int → Option R) (rec : Int → Int → Option R) (x949 : Int) (x950 : Int) : Option R :=
  (bif (decide (x949 ≥ (8 : Int))) then
  (rec (IntKind.wrap .i64 (x949.tdiv (2 : Int))) (IntKind.wrap .i64 ((((BitVec.ofInt (64 : Nat) x950) ||| (BitVec.ofInt (64 : Nat) (x949.tmod (2 : Int)))).toNat) : Int)))
  else (k0 x949 x950))
noncomputable def F41_0_it {R : Type} (n : Nat) (k0 : Int → Int → Option R) : Nat → Int → Int → Option R
  | 0, _, _ => none
  | k + 1, x949, x950 => F41_0_step n k0 (F41_0_it n k0 k) x949 x950
noncomputable def F41_0 {R : Type} (n : Nat) (x949 : Int) (x950 : Int) (k0 : Int → Int → Option R) : Option R := F41_0_it n k0 n x949 x950
noncomputable def F41_0z (n : Nat) : Sm G := inZ G 0 ⟨[0, 3], []⟩ F41_0s fun R x K => F41_0_it n (fun u0 u1 => K (.exit 0) (SSh.enc G F41_0x0 ((u0, (u1, ())), ()))) n x.1.1 x.1.2.1
theorem F41_0_eq (n : Nat) (R : Type) (rec : SSh.den G F41_0s → Option R) (x : SSh.den G F41_0s) (K : AE → St G → Option R) :
  F41_0_step n (fun u0 u1 => K (.exit 0) (SSh.enc G F41_0x0 ((u0, (u1, ())), ()))) (fun x949 x950 => rec ((x949, (x950, ())), ())) x.1.1 x.1.2.1 = exec prog G (ro G (tabOf (E17 n)) (frOf []) R) 0 (codeAt F41c [1, 1, 0, 0, 0]) .no (SSh.enc G F41_0s x) (kLoop G (ro G (tabOf (E17 n)) (frOf []) R) 0 ⟨[0, 3], []⟩ F41_0s ⟨⟨[0, 3], []⟩, ⟨[2], []⟩, [(0, ⟨[0, 3], []⟩)]⟩ rec K) := by kernel_rfl
theorem F41_0_ok (n : Nat) : FragOK prog G 0 (codeAt F41c [1, 1, 0, 0]) (F41_0z n) :=
  frag_loop (Z := fun R k (x : SSh.den G F41_0s) K => F41_0_it n (fun u0 u1 => K (.exit 0) (SSh.enc G F41_0x0 ((u0, (u1, ())), ()))) k x.1.1 x.1.2.1) laws fnok (E17_ok n).tab (AllF.of (l := []) (by kernel_rfl) AllF.nil) (fun _ _ _ => rfl) (fun R k y K => F41_0_eq n R (fun (x : SSh.den G F41_0s) => F41_0_it n (fun u0 u1 => K (.exit 0) (SSh.enc G F41_0x0 ((u0, (u1, ())), ()))) k x.1.1 x.1.2.1) y K) n
noncomputable def F41 (n : Nat) (a948 : Int) : Option (Int × Unit) :=
  (F41_0 n a948 (0 : Int) (fun z955 z956 =>
  some ((IntKind.wrap .i64 (z955 + z956)), ())))
noncomputable def F41e (n : Nat) : Ent G := ⟨41, (.cons (.int .i64) .nil), [], (.int .i64), [], fun x y => F41 n x.1⟩
theorem F41_eq (n : Nat) (x : ShL.den G (.cons (.int .i64) .nil)) (y : denO G []) : (F41e n).F x y = runFn prog G (ro G (tabOf (E17 n)) (frOf [F41_0z n]) _) Go.Proofs.Try.f41 (.nd .no (.nd .no (.nd (.nd (.use 0) .no) .no))) [(0, .fz)] (ShL.enc G (.cons (.int .i64) .nil) x) (encO G [] y) (decR (.int .i64) []) := by kernel_rfl
theorem F41_ok (n : Nat) : EntOK prog G (F41e n) :=
  ent_ok (fr := frOf [F41_0z n]) (ann := (.nd .no (.nd .no (.nd (.nd (.use 0) .no) .no)))) (frm := [(0, .fz)]) laws fnok (E17_ok n).tab (e := F41e n) (fn := Go.Proofs.Try.f41) (by kernel_rfl) (AllF.ofB (cd := F41c) (l := [(0, codeAt F41c [1, 1, 0, 0])]) (by kernel_rfl) (by kernel_rfl) (AllF.cons (F41_0_ok n) AllF.nil)) (F41_eq n)
noncomputable def E18 (n : Nat) : List (Ent G) := F41e n :: E17 n
theorem E18_ok (n : Nat) : AllE prog G (E18 n) := AllE.cons (F41_ok n) (E17_ok n)
-- 42 loop.example/slowworm/spec.naturalRun
noncomputable def F42c : Code := bodyOf Go.Proofs.Try.f42
noncomputable def F42_0x0 : SSh := ⟨56, [(6, (.int .i64)), (7, .bool)], []⟩
noncomputable def F42_0s : SSh := ⟨56, [(0, (.imm 3)), (1, (.int .i64)), (6, (.int .i64)), (7, .bool)], []⟩
noncomputable def F42_0_step {R : Type} (n : Nat) (k0 : Int → Bool → Option R) (rec : List Itm → Int → Int → Bool → Option R) (x976 : List Itm) (x977 : Int) (x978 : Int) (x979 : Bool) : Option R :=
  (bif (decide ((IntKind.wrap .i64 (x977 + x978)) < ((x976.length) : Int))) then
  let v983 := (IntKind.wrap .i64 (x977 + x978))
  (bif (decide ((0 : Int) ≤ v983)) then
  (bif (decide (v983 < ((x976.length) : Int))) then
  let v987 := (IntKind.wrap .i64 ((IntKind.wrap .i64 (x977 + x978)) - (1 : Int)))
  (bif (decide ((0 : Int) ≤ v987)) then
  (bif (decide (v987 < ((x976.length) : Int))) then
  (bif ((decide ((x976.getD (v983.toNat) (Itm.mk (0 : Int) (0 : Int))).key < (x976.getD (v987.toNat) (Itm.mk (0 : Int) (0 : Int))).key)) == x979) then
  (rec x976 x977 (IntKind.wrap .i64 (x978 + (1 : Int))) x979)
  else (k0 x978 x979))
  else none)
  else none)
  else none)
  else none)
  else (k0 x978 x979))
noncomputable def F42_0_it {R : Type} (n : Nat) (k0 : Int → Bool → Option R) : Nat → List Itm → Int → Int → Bool → Option R
  | 0, _, _, _, _ => none
  | k + 1, x976, x977, x978, x979 => F42_0_step n k0 (F42_0_it n k0 k) x976 x977 x978 x979
noncomputable def F42_0 {R : Type} (n : Nat) (x976 : List Itm) (x977 : Int) (x978 : Int) (x979 : Bool) (k0 : Int → Bool → Option R) : Option R := F42_0_it n k0 n x976 x977 x978 x979
noncomputable def F42_0z (n : Nat) : Sm G := inZ G 0 ⟨[0, 1, 6, 7], []⟩ F42_0s fun R x K => F42_0_it n (fun u0 u1 => K (.exit 0) (SSh.enc G F42_0x0 ((u0, (u1, ())), ()))) n x.1.1 x.1.2.1 x.1.2.2.1 x.1.2.2.2.1
theorem F42_0_eq (n : Nat) (R : Type) (rec : SSh.den G F42_0s → Option R) (x : SSh.den G F42_0s) (K : AE → St G → Option R) :
  F42_0_step n (fun u0 u1 => K (.exit 0) (SSh.enc G F42_0x0 ((u0, (u1, ())), ()))) (fun x976 x977 x978 x979 => rec ((x976, (x977, (x978, (x979, ())))), ())) x.1.1 x.1.2.1 x.1.2.2.1 x.1.2.2.2.1 = exec prog G (ro G (tabOf (E18 n)) (frOf []) R) 0 (codeAt F42c [1, 1, 1, 1, 0, 0, 0]) .no (SSh.enc G F42_0s x) (kLoop G (ro G (tabOf (E18 n)) (frOf []) R) 0 ⟨[0, 1, 6, 7], []⟩ F42_0s ⟨⟨[6, 7], []⟩, ⟨[4, 5], []⟩, [(0, ⟨[6, 7], []⟩)]⟩ rec K) := by kernel_rfl
theorem F42_0_ok (n : Nat) : FragOK prog G 0 (codeAt F42c [1, 1, 1, 1, 0, 0]) (F42_0z n) :=
  frag_loop (Z := fun R k (x : SSh.den G F42_0s) K => F42_0_it n (fun u0 u1 => K (.exit 0) (SSh.enc G F42_0x0 ((u0, (u1, ())), ()))) k x.1.1 x.1.2.1 x.1.2.2.1 x.1.2.2.2.1) laws fnok (E18_ok n).tab (AllF.of (l := []) (by kernel_rfl) AllF.nil) (fun _ _ _ => rfl) (fun R k y K => F42_0_eq n R (fun (x : SSh.den G F42_0s) => F42_0_it n (fun u0 u1 => K (.exit 0) (SSh.enc G F42_0x0 ((u0, (u1, ())), ()))) k x.1.1 x.1.2.1 x.1.2.2.1 x.1.2.2.2.1) y K) n
noncomputable def F42 (n : Nat) (a965 : List Itm) (a966 : Int) : Option ((Int × (Bool × Unit)) × Unit) :=
  (bif (decide ((IntKind.wrap .i64 (a966 + (1 : Int))) ≥ ((a965.length) : Int))) then
  some (((1 : Int), (false, ())), ())
  else let v970 := (IntKind.wrap .i64 (a966 + (1 : Int)))
  (bif (decide ((0 : Int) ≤ v970)) then
  (bif (decide (v970 < ((a965.length) : Int))) then
  (bif (decide ((0 : Int) ≤ a966)) then
  (bif (decide (a966 < ((a965.length) : Int))) then
  (F42_0 n a965 a966 (1 : Int) (decide ((a965.getD (v970.toNat) (Itm.mk (0 : Int) (0 : Int))).key < (a965.getD (a966.toNat) (Itm.mk (0 : Int) (0 : Int))).key)) (fun z993 z994 =>
  some ((z993, (z994, ())), ())))
  else none)
  else none)
  else none)
  else none))
noncomputable def F42e (n : Nat) : Ent G := ⟨42, (.cons (.imm 3) (.cons (.int .i64) .nil)), [], (.tup (.cons (.int .i64) (.cons .bool .nil))), [], fun x y => F42 n x.1 x.2.1⟩
theorem F42_eq (n : Nat) (x : ShL.den G (.cons (.imm 3) (.cons (.int .i64) .nil))) (y : denO G []) : (F42e n).F x y = runFn prog G (ro G (tabOf (E18 n)) (frOf [F42_0z n]) _) Go.Proofs.Try.f42 (.nd .no (.nd .no (.nd .no (.nd .no (.nd (.nd (.use 0) .no) .no))))) [(0, .fz), (1, .fz)] (ShL.enc G (.cons (.imm 3) (.cons (.int .i64) .nil)) x) (encO G [] y) (decR (.tup (.cons (.int .i64) (.cons .bool .nil))) []) := by kernel_rfl
theorem F42_ok (n : Nat) : EntOK prog G (F42e n) :=
  ent_ok (fr := frOf [F42_0z n]) (ann := (.nd .no (.nd .no (.nd .no (.nd .no (.nd (.nd (.use 0) .no) .no)))))) (frm := [(0, .fz), (1, .fz)]) laws fnok (E18_ok n).tab (e := F42e n) (fn := Go.Proofs.Try.f42) (by kernel_rfl) (AllF.ofB (cd := F42c) (l := [(0, codeAt F42c [1, 1, 1, 1, 0, 0])]) (by kernel_rfl) (by kernel_rfl) (AllF.cons (F42_0_ok n) AllF.nil)) (F42_eq n)
noncomputable def E19 (n : Nat) : List (Ent G) := F42e n :: E18 n
theorem E19_ok (n : Nat) : AllE prog G (E19 n) := AllE.cons (F42_ok n) (E18_ok n)
-- 43 loop.example/slowworm/spec.insertItem
end Go.Proofs.Ytjanepkjjmcchaa.Am
