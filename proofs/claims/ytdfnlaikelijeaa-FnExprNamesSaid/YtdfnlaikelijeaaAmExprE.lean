/- The functions of the seat of expressions, printed. -/
import Derived.Test.YtdfnlaikelijeaaAmExprSig
namespace Go.Proofs.Ytdfnlaikelijeaa.Am
open Go Go.Proofs.Try
set_option autoImplicit false
set_option linter.unusedVariables false
set_option maxRecDepth 100000
noncomputable def E0 (n : Nat) : List (Ent G) := []
theorem E0_ok (n : Nat) : AllE prog G (E0 n) := AllE.nil
-- 6 loop.example/slowworm/laws.FnExprSize
noncomputable def F6c : Code := bodyOf Go.Proofs.Try.f6
-- 18 loop.example/slowworm/spec.DrawExprSize
noncomputable def F18c : Code := bodyOf Go.Proofs.Try.f18
-- 40 loop.example/slowworm/spec.newRnd
noncomputable def F40c : Code := bodyOf Go.Proofs.Try.f40
noncomputable def F40 (n : Nat) (a4 : List Int) : Option (Unit × ((List Int × (Int × Unit)) × Unit)) :=
  let v5 := ((a4.length) : Int)
  let v6 := (if ((4000 : Int) < v5) then (4000 : Int) else v5)
  (bif (decide ((0 : Int) ≤ v6)) then
  (bif (decide (v6 ≤ ((a4.length) : Int))) then
  some ((), ((((a4.take (v6.toNat)).drop (0 : Nat)), ((0 : Int), ())), ()))
  else none)
  else none)
noncomputable def F40e (n : Nat) : Ent G := ⟨40, (.cons (.imm 1) .nil), [], (.ptr 0 0), [(.box 64 (.cons (.imm 1) (.cons (.int .i64) .nil)))], fun x y => F40 n x.1⟩
theorem F40_eq (n : Nat) (x : ShL.den G (.cons (.imm 1) .nil)) (y : denO G []) : (F40e n).F x y = runFn prog G (ro G (tabOf (E0 n)) (frOf []) _) Go.Proofs.Try.f40 .no [(0, .fz)] (ShL.enc G (.cons (.imm 1) .nil) x) (encO G [] y) (decR (.ptr 0 0) [(.box 64 (.cons (.imm 1) (.cons (.int .i64) .nil)))]) := by kernel_rfl
theorem F40_ok (n : Nat) : EntOK prog G (F40e n) :=
  ent_ok (fr := frOf []) (ann := .no) (frm := [(0, .fz)]) laws fnok (E0_ok n).tab (e := F40e n) (fn := Go.Proofs.Try.f40) (by kernel_rfl) (AllF.ofB (cd := F40c) (l := []) (by kernel_rfl) (by kernel_rfl) AllF.nil) (F40_eq n)
noncomputable def E1 (n : Nat) : List (Ent G) := F40e n :: E0 n
theorem E1_ok (n : Nat) : AllE prog G (E1 n) := AllE.cons (F40_ok n) (E0_ok n)
-- 41 (*loop.example/slowworm/spec.rnd).anyExpr
noncomputable def F41c : Code := bodyOf Go.Proofs.Try.f41
-- 58 (*loop.example/slowworm/spec.rnd).one
noncomputable def F58c : Code := bodyOf Go.Proofs.Try.f58
-- 59 (*loop.example/slowworm/spec.rnd).pick
noncomputable def F59c : Code := bodyOf Go.Proofs.Try.f59
noncomputable def F59_0x0 : SSh := ⟨101, [(0, (.ptr 0 0)), (1, (.int .i64)), (5, (.int .i64))], [(.box 64 (.cons (.imm 1) (.cons (.int .i64) .nil)))]⟩
noncomputable def F59_0s : SSh := ⟨101, [(0, (.ptr 0 0)), (1, (.int .i64)), (5, (.int .i64))], [(.box 64 (.cons (.imm 1) (.cons (.int .i64) .nil)))]⟩
noncomputable def F59_0 {R : Type} (n : Nat) (x20 : Int) (x21 : Int) (x22 : List Int) (x23 : Int) (k0 : Int → Int → List Int → Int → Option R) : Option R :=
  (bif (decide (((x22.length) : Int) > (0 : Int))) then
  let v26 := ((x22.length) : Int)
  (bif (!(decide (v26 = (0 : Int)))) then
  let v27 := (x23.tmod v26)
  (bif (decide ((0 : Int) ≤ v27)) then
  (bif (decide (v27 < ((x22.length) : Int))) then
  let v30 := (IntKind.wrap .i64 (x22.getD (v27.toNat) (0 : Int)))
  (bif (decide (x20 > (256 : Int))) then
  let v35 := ((x22.length) : Int)
  (bif (!(decide (v35 = (0 : Int)))) then
  let v36 := ((IntKind.wrap .i64 ((IntKind.wrap .i64 (x23 * (7 : Int))) + (3 : Int))).tmod v35)
  (bif (decide ((0 : Int) ≤ v36)) then
  (bif (decide (v36 < ((x22.length) : Int))) then
  let v44 := ((x22.length) : Int)
  (bif (!(decide (v44 = (0 : Int)))) then
  let v47 := (IntKind.wrap .i64 ((IntKind.wrap .i64 ((IntKind.wrap .i64 ((IntKind.wrap .i64 (v30 * (131 : Int))) + (IntKind.wrap .i64 ((IntKind.wrap .i64 (x22.getD (v36.toNat) (0 : Int))) * (1117 : Int))))) + (IntKind.wrap .i64 (x23 * (29 : Int))))) + (IntKind.wrap .i64 ((IntKind.wrap .i64 (x23.tdiv v44)) * (53 : Int)))))
  (k0 x20 (IntKind.wrap .i64 ((((BitVec.ofInt (64 : Nat) v47) ^^^ (BitVec.ofInt (64 : Nat) (IntKind.wrap .i64 (v47.tdiv (64 : Int))))).toNat) : Int)) x22 x23)
  else none)
  else none)
  else none)
  else none)
  else (bif (decide (x23 ≥ ((x22.length) : Int))) then
  let v55 := ((x22.length) : Int)
  (bif (!(decide (v55 = (0 : Int)))) then
  let v56 := ((IntKind.wrap .i64 ((IntKind.wrap .i64 (x23 * (7 : Int))) + (3 : Int))).tmod v55)
  (bif (decide ((0 : Int) ≤ v56)) then
  (bif (decide (v56 < ((x22.length) : Int))) then
  let v64 := ((x22.length) : Int)
  (bif (!(decide (v64 = (0 : Int)))) then
  let v67 := (IntKind.wrap .i64 ((IntKind.wrap .i64 ((IntKind.wrap .i64 ((IntKind.wrap .i64 (v30 * (131 : Int))) + (IntKind.wrap .i64 ((IntKind.wrap .i64 (x22.getD (v56.toNat) (0 : Int))) * (1117 : Int))))) + (IntKind.wrap .i64 (x23 * (29 : Int))))) + (IntKind.wrap .i64 ((IntKind.wrap .i64 (x23.tdiv v64)) * (53 : Int)))))
  (k0 x20 (IntKind.wrap .i64 ((((BitVec.ofInt (64 : Nat) v67) ^^^ (BitVec.ofInt (64 : Nat) (IntKind.wrap .i64 (v67.tdiv (64 : Int))))).toNat) : Int)) x22 x23)
  else none)
  else none)
  else none)
  else none)
  else (k0 x20 v30 x22 x23)))
  else none)
  else none)
  else none)
  else (k0 x20 x21 x22 x23))
noncomputable def F59_0z (n : Nat) : Sm G := inZ G 1 ⟨[0, 1, 5], []⟩ F59_0s fun R x K => F59_0 n x.1.2.1 x.1.2.2.1 x.2.1.1 x.2.1.2.1 (fun u0 u1 u2 u3 => K .normal (SSh.enc G F59_0x0 (((), (u0, (u1, ()))), ((u2, (u3, ())), ()))))
theorem F59_0_eq (n : Nat) (R : Type) (x : SSh.den G F59_0s) (K : AE → St G → Option R) :
  F59_0 n x.1.2.1 x.1.2.2.1 x.2.1.1 x.2.1.2.1 (fun u0 u1 u2 u3 => K .normal (SSh.enc G F59_0x0 (((), (u0, (u1, ()))), ((u2, (u3, ())), ())))) = exec prog G (ro G (tabOf (E1 n)) (frOf []) R) 1 (codeAt F59c [1, 1, 1, 0]) .no (SSh.enc G F59_0s x) (kNrm G (ro G (tabOf (E1 n)) (frOf []) R) 1 ⟨⟨[0, 1, 5], []⟩, ⟨[4], []⟩, []⟩ K) := by kernel_rfl
theorem F59_0_ok (n : Nat) : FragOK prog G 1 (codeAt F59c [1, 1, 1, 0]) (F59_0z n) :=
  frag_plain laws fnok (E1_ok n).tab (AllF.of (l := []) (by kernel_rfl) AllF.nil) (F59_0_eq n)
noncomputable def F59 (n : Nat) (a16 : Int) (a17 : List Int) (a18 : Int) : Option (Int × ((List Int × (Int × Unit)) × Unit)) :=
  (bif (decide (a16 < (2 : Int))) then
  some ((0 : Int), ((a17, (a18, ())), ()))
  else (F59_0 n a16 (0 : Int) a17 a18 (fun z70 z71 z72 z73 =>
  (bif (!(decide (z70 = (0 : Int)))) then
  some ((z71.tmod z70), ((z72, ((IntKind.wrap .i64 (z73 + (1 : Int))), ())), ()))
  else none))))
noncomputable def F59e (n : Nat) : Ent G := ⟨59, (.cons (.ptr 0 0) (.cons (.int .i64) .nil)), [(.box 64 (.cons (.imm 1) (.cons (.int .i64) .nil)))], (.int .i64), [(.box 64 (.cons (.imm 1) (.cons (.int .i64) .nil)))], fun x y => F59 n x.2.1 y.1.1 y.1.2.1⟩
theorem F59_eq (n : Nat) (x : ShL.den G (.cons (.ptr 0 0) (.cons (.int .i64) .nil))) (y : denO G [(.box 64 (.cons (.imm 1) (.cons (.int .i64) .nil)))]) : (F59e n).F x y = runFn prog G (ro G (tabOf (E1 n)) (frOf [F59_0z n]) _) Go.Proofs.Try.f59 (.nd .no (.nd .no (.nd .no (.nd (.use 0) .no)))) [(0, .fz)] (ShL.enc G (.cons (.ptr 0 0) (.cons (.int .i64) .nil)) x) (encO G [(.box 64 (.cons (.imm 1) (.cons (.int .i64) .nil)))] y) (decR (.int .i64) [(.box 64 (.cons (.imm 1) (.cons (.int .i64) .nil)))]) := by kernel_rfl
theorem F59_ok (n : Nat) : EntOK prog G (F59e n) :=
  ent_ok (fr := frOf [F59_0z n]) (ann := (.nd .no (.nd .no (.nd .no (.nd (.use 0) .no))))) (frm := [(0, .fz)]) laws fnok (E1_ok n).tab (e := F59e n) (fn := Go.Proofs.Try.f59) (by kernel_rfl) (AllF.ofB (cd := F59c) (l := [(0, codeAt F59c [1, 1, 1, 0])]) (by kernel_rfl) (by kernel_rfl) (AllF.cons (F59_0_ok n) AllF.nil)) (F59_eq n)
noncomputable def E2 (n : Nat) : List (Ent G) := F59e n :: E1 n
theorem E2_ok (n : Nat) : AllE prog G (E2 n) := AllE.cons (F59_ok n) (E1_ok n)
noncomputable def F58 (n : Nat) (a12 : List Int) (a13 : List Int) (a14 : Int) : Option (Int × ((List Int × (Int × Unit)) × Unit)) :=
  (andThen (F59 n ((a12.length) : Int) a13 a14) fun r76 =>
  (bif (decide ((0 : Int) ≤ r76.1)) then
  (bif (decide (r76.1 < ((a12.length) : Int))) then
  some ((a12.getD (r76.1.toNat) (0 : Int)), ((r76.2.1.1, (r76.2.1.2.1, ())), ()))
  else none)
  else none))
noncomputable def F58e (n : Nat) : Ent G := ⟨58, (.cons (.ptr 0 0) (.cons (.imm 0) .nil)), [(.box 64 (.cons (.imm 1) (.cons (.int .i64) .nil)))], (.int .i64), [(.box 64 (.cons (.imm 1) (.cons (.int .i64) .nil)))], fun x y => F58 n x.2.1 y.1.1 y.1.2.1⟩
theorem F58_eq (n : Nat) (x : ShL.den G (.cons (.ptr 0 0) (.cons (.imm 0) .nil))) (y : denO G [(.box 64 (.cons (.imm 1) (.cons (.int .i64) .nil)))]) : (F58e n).F x y = runFn prog G (ro G (tabOf (E2 n)) (frOf []) _) Go.Proofs.Try.f58 .no [(0, .fz)] (ShL.enc G (.cons (.ptr 0 0) (.cons (.imm 0) .nil)) x) (encO G [(.box 64 (.cons (.imm 1) (.cons (.int .i64) .nil)))] y) (decR (.int .i64) [(.box 64 (.cons (.imm 1) (.cons (.int .i64) .nil)))]) := by kernel_rfl
theorem F58_ok (n : Nat) : EntOK prog G (F58e n) :=
  ent_ok (fr := frOf []) (ann := .no) (frm := [(0, .fz)]) laws fnok (E2_ok n).tab (e := F58e n) (fn := Go.Proofs.Try.f58) (by kernel_rfl) (AllF.ofB (cd := F58c) (l := []) (by kernel_rfl) (by kernel_rfl) AllF.nil) (F58_eq n)
noncomputable def E3 (n : Nat) : List (Ent G) := F58e n :: E2 n
theorem E3_ok (n : Nat) : AllE prog G (E3 n) := AllE.cons (F58_ok n) (E2_ok n)
-- 61 (*loop.example/slowworm/spec.rnd).of
noncomputable def F61c : Code := bodyOf Go.Proofs.Try.f61
noncomputable def F61 (n : Nat) (a94 : List ByteArray) (a95 : List Int) (a96 : Int) : Option (ByteArray × ((List Int × (Int × Unit)) × Unit)) :=
  (andThen (F59 n ((a94.length) : Int) a95 a96) fun r98 =>
  (bif (decide ((0 : Int) ≤ r98.1)) then
  (bif (decide (r98.1 < ((a94.length) : Int))) then
  some ((a94.getD (r98.1.toNat) ({ data := #[] } : ByteArray)), ((r98.2.1.1, (r98.2.1.2.1, ())), ()))
  else none)
  else none))
noncomputable def F61e (n : Nat) : Ent G := ⟨61, (.cons (.ptr 0 0) (.cons (.imm 2) .nil)), [(.box 64 (.cons (.imm 1) (.cons (.int .i64) .nil)))], .str, [(.box 64 (.cons (.imm 1) (.cons (.int .i64) .nil)))], fun x y => F61 n x.2.1 y.1.1 y.1.2.1⟩
theorem F61_eq (n : Nat) (x : ShL.den G (.cons (.ptr 0 0) (.cons (.imm 2) .nil))) (y : denO G [(.box 64 (.cons (.imm 1) (.cons (.int .i64) .nil)))]) : (F61e n).F x y = runFn prog G (ro G (tabOf (E3 n)) (frOf []) _) Go.Proofs.Try.f61 .no [(0, .fz)] (ShL.enc G (.cons (.ptr 0 0) (.cons (.imm 2) .nil)) x) (encO G [(.box 64 (.cons (.imm 1) (.cons (.int .i64) .nil)))] y) (decR .str [(.box 64 (.cons (.imm 1) (.cons (.int .i64) .nil)))]) := by kernel_rfl
theorem F61_ok (n : Nat) : EntOK prog G (F61e n) :=
  ent_ok (fr := frOf []) (ann := .no) (frm := [(0, .fz)]) laws fnok (E3_ok n).tab (e := F61e n) (fn := Go.Proofs.Try.f61) (by kernel_rfl) (AllF.ofB (cd := F61c) (l := []) (by kernel_rfl) (by kernel_rfl) AllF.nil) (F61_eq n)
noncomputable def E4 (n : Nat) : List (Ent G) := F61e n :: E3 n
theorem E4_ok (n : Nat) : AllE prog G (E4 n) := AllE.cons (F61_ok n) (E3_ok n)
-- 76 (*loop.example/slowworm/spec.rnd).small
noncomputable def F76c : Code := bodyOf Go.Proofs.Try.f76
-- 89 loop.example/slowworm/spec.decimal
noncomputable def F89c : Code := bodyOf Go.Proofs.Try.f89
-- 93 loop.example/slowworm/spec.positive
noncomputable def F93c : Code := bodyOf Go.Proofs.Try.f93
noncomputable def F93_0x0 : SSh := ⟨23, [(0, (.int .i64)), (3, .str), (4, (.int .i64))], []⟩
noncomputable def F93_0s : SSh := ⟨23, [(0, (.int .i64)), (3, .str), (4, (.int .i64))], []⟩
noncomputable def F93_0 {R : Type} (n : Nat) (x126 : Int) (x127 : ByteArray) (x128 : Int) (k0 : Int → ByteArray → Int → Option R) : Option R :=
  (bif (decide (x128 < (0 : Int))) then
  (k0 x126 x127 (IntKind.wrap .i64 ((0 : Int) - x128)))
  else (k0 x126 x127 x128))
noncomputable def F93_0z (n : Nat) : Sm G := inZ G 0 ⟨[0, 3, 4], []⟩ F93_0s fun R x K => F93_0 n x.1.1 x.1.2.1 x.1.2.2.1 (fun u0 u1 u2 => K .normal (SSh.enc G F93_0x0 ((u0, (u1, (u2, ()))), ())))
theorem F93_0_eq (n : Nat) (R : Type) (x : SSh.den G F93_0s) (K : AE → St G → Option R) :
  F93_0 n x.1.1 x.1.2.1 x.1.2.2.1 (fun u0 u1 u2 => K .normal (SSh.enc G F93_0x0 ((u0, (u1, (u2, ()))), ()))) = exec prog G (ro G (tabOf (E4 n)) (frOf []) R) 0 (codeAt F93c [1, 1, 0, 0, 0, 1, 0]) .no (SSh.enc G F93_0s x) (kNrm G (ro G (tabOf (E4 n)) (frOf []) R) 0 ⟨⟨[0, 3, 4], []⟩, ⟨[2], []⟩, [(1, ⟨[0, 3], []⟩), (0, ⟨[2], []⟩)]⟩ K) := by kernel_rfl
theorem F93_0_ok (n : Nat) : FragOK prog G 0 (codeAt F93c [1, 1, 0, 0, 0, 1, 0]) (F93_0z n) :=
  frag_plain laws fnok (E4_ok n).tab (AllF.of (l := []) (by kernel_rfl) AllF.nil) (F93_0_eq n)
noncomputable def F93_1x0 : SSh := ⟨23, [(2, .str)], []⟩
noncomputable def F93_1s : SSh := ⟨23, [(0, (.int .i64)), (3, .str)], []⟩
noncomputable def F93_1_step {R : Type} (n : Nat) (k0 : ByteArray → Option R) (rec : Int → ByteArray → Option R) (x123 : Int) (x124 : ByteArray) : Option R :=
  (F93_0 n x123 x124 (x123.tmod (10 : Int)) (fun z131 z132 z133 =>
  let v137 := (bytesOfInts (List.map (fun y138 => y138) ((IntKind.wrap .u8 (IntKind.wrap .i64 ((48 : Int) + z133))) :: [])))
  (bif (decide (((v137.size) + (z132.size)) ≤ (68719476736 : Nat))) then
  let v139 := (v137 ++ z132)
  let v140 := (IntKind.wrap .i64 (z131.tdiv (10 : Int)))
  (bif (v140 == (0 : Int)) then
  (k0 v139)
  else (rec v140 v139))
  else none)))
noncomputable def F93_1_it {R : Type} (n : Nat) (k0 : ByteArray → Option R) : Nat → Int → ByteArray → Option R
  | 0, _, _ => none
  | k + 1, x123, x124 => F93_1_step n k0 (F93_1_it n k0 k) x123 x124
noncomputable def F93_1 {R : Type} (n : Nat) (x123 : Int) (x124 : ByteArray) (k0 : ByteArray → Option R) : Option R := F93_1_it n k0 n x123 x124
noncomputable def F93_1z (n : Nat) : Sm G := inZ G 0 ⟨[0, 3], []⟩ F93_1s fun R x K => F93_1_it n (fun u0 => K .ret (SSh.enc G F93_1x0 ((u0, ()), ()))) n x.1.1 x.1.2.1
theorem F93_1_eq (n : Nat) (R : Type) (rec : SSh.den G F93_1s → Option R) (x : SSh.den G F93_1s) (K : AE → St G → Option R) :
  F93_1_step n (fun u0 => K .ret (SSh.enc G F93_1x0 ((u0, ()), ()))) (fun x123 x124 => rec ((x123, (x124, ())), ())) x.1.1 x.1.2.1 = exec prog G (ro G (tabOf (E4 n)) (frOf [F93_0z n]) R) 0 (codeAt F93c [1, 1, 0, 0]) (.nd (.nd .no (.nd (.use 0) .no)) .no) (SSh.enc G F93_1s x) (kLoop G (ro G (tabOf (E4 n)) (frOf [F93_0z n]) R) 0 ⟨[0, 3], []⟩ F93_1s ⟨⟨[2], []⟩, ⟨[2], []⟩, [(0, ⟨[2], []⟩)]⟩ rec K) := by kernel_rfl
theorem F93_1_ok (n : Nat) : FragOK prog G 0 (codeAt F93c [1, 1, 0]) (F93_1z n) :=
  frag_loop (Z := fun R k (x : SSh.den G F93_1s) K => F93_1_it n (fun u0 => K .ret (SSh.enc G F93_1x0 ((u0, ()), ()))) k x.1.1 x.1.2.1) laws fnok (E4_ok n).tab (AllF.of (l := [(0, codeAt F93c [1, 1, 0, 0, 0, 1, 0])]) (by kernel_rfl) (AllF.cons (F93_0_ok n) AllF.nil)) (fun _ _ _ => rfl) (fun R k y K => F93_1_eq n R (fun (x : SSh.den G F93_1s) => F93_1_it n (fun u0 => K .ret (SSh.enc G F93_1x0 ((u0, ()), ()))) k x.1.1 x.1.2.1) y K) n
noncomputable def F93 (n : Nat) (a122 : Int) : Option (ByteArray × Unit) :=
  (F93_1 n a122 ({ data := #[] } : ByteArray) (fun z142 =>
  some (z142, ())))
noncomputable def F93e (n : Nat) : Ent G := ⟨93, (.cons (.int .i64) .nil), [], .str, [], fun x y => F93 n x.1⟩
theorem F93_eq (n : Nat) (x : ShL.den G (.cons (.int .i64) .nil)) (y : denO G []) : (F93e n).F x y = runFn prog G (ro G (tabOf (E4 n)) (frOf [F93_0z n, F93_1z n]) _) Go.Proofs.Try.f93 (.nd .no (.nd .no (.nd (.use 1) .no))) [(0, .fz)] (ShL.enc G (.cons (.int .i64) .nil) x) (encO G [] y) (decR .str []) := by kernel_rfl
theorem F93_ok (n : Nat) : EntOK prog G (F93e n) :=
  ent_ok (fr := frOf [F93_0z n, F93_1z n]) (ann := (.nd .no (.nd .no (.nd (.use 1) .no)))) (frm := [(0, .fz)]) laws fnok (E4_ok n).tab (e := F93e n) (fn := Go.Proofs.Try.f93) (by kernel_rfl) (AllF.ofB (cd := F93c) (l := [(1, codeAt F93c [1, 1, 0])]) (by kernel_rfl) (by kernel_rfl) (AllF.cons (F93_1_ok n) AllF.nil)) (F93_eq n)
noncomputable def E5 (n : Nat) : List (Ent G) := F93e n :: E4 n
theorem E5_ok (n : Nat) : AllE prog G (E5 n) := AllE.cons (F93_ok n) (E4_ok n)
noncomputable def F89 (n : Nat) (a120 : Int) : Option (ByteArray × Unit) :=
  (bif (decide (a120 < (0 : Int))) then
  (andThen (F93 n a120) fun r143 =>
  (bif (decide (((1 : Nat) + (r143.1.size)) ≤ (68719476736 : Nat))) then
  some ((({ data := #[45] } : ByteArray) ++ r143.1), ())
  else none))
  else (andThen (F93 n a120) fun r145 =>
  some (r145.1, ())))
noncomputable def F89e (n : Nat) : Ent G := ⟨89, (.cons (.int .i64) .nil), [], .str, [], fun x y => F89 n x.1⟩
theorem F89_eq (n : Nat) (x : ShL.den G (.cons (.int .i64) .nil)) (y : denO G []) : (F89e n).F x y = runFn prog G (ro G (tabOf (E5 n)) (frOf []) _) Go.Proofs.Try.f89 .no [(0, .fz)] (ShL.enc G (.cons (.int .i64) .nil) x) (encO G [] y) (decR .str []) := by kernel_rfl
theorem F89_ok (n : Nat) : EntOK prog G (F89e n) :=
  ent_ok (fr := frOf []) (ann := .no) (frm := [(0, .fz)]) laws fnok (E5_ok n).tab (e := F89e n) (fn := Go.Proofs.Try.f89) (by kernel_rfl) (AllF.ofB (cd := F89c) (l := []) (by kernel_rfl) (by kernel_rfl) AllF.nil) (F89_eq n)
noncomputable def E6 (n : Nat) : List (Ent G) := F89e n :: E5 n
theorem E6_ok (n : Nat) : AllE prog G (E6 n) := AllE.cons (F89_ok n) (E5_ok n)
noncomputable def F76 (n : Nat) (a115 : List Int) (a116 : Int) : Option (ByteArray × ((List Int × (Int × Unit)) × Unit)) :=
  (andThen (F59 n (100 : Int) a115 a116) fun r117 =>
  (andThen (F58 n ((0 : Int) :: ((1 : Int) :: ((2 : Int) :: ((3 : Int) :: ((4 : Int) :: ((5 : Int) :: ((7 : Int) :: ((10 : Int) :: (r117.1 :: []))))))))) r117.2.1.1 r117.2.1.2.1) fun r119 =>
  (andThen (F89 n r119.1) fun r146 =>
  some (r146.1, ((r119.2.1.1, (r119.2.1.2.1, ())), ())))))
noncomputable def F76e (n : Nat) : Ent G := ⟨76, (.cons (.ptr 0 0) .nil), [(.box 64 (.cons (.imm 1) (.cons (.int .i64) .nil)))], .str, [(.box 64 (.cons (.imm 1) (.cons (.int .i64) .nil)))], fun x y => F76 n y.1.1 y.1.2.1⟩
theorem F76_eq (n : Nat) (x : ShL.den G (.cons (.ptr 0 0) .nil)) (y : denO G [(.box 64 (.cons (.imm 1) (.cons (.int .i64) .nil)))]) : (F76e n).F x y = runFn prog G (ro G (tabOf (E6 n)) (frOf []) _) Go.Proofs.Try.f76 .no [(0, .fz)] (ShL.enc G (.cons (.ptr 0 0) .nil) x) (encO G [(.box 64 (.cons (.imm 1) (.cons (.int .i64) .nil)))] y) (decR .str [(.box 64 (.cons (.imm 1) (.cons (.int .i64) .nil)))]) := by kernel_rfl
theorem F76_ok (n : Nat) : EntOK prog G (F76e n) :=
  ent_ok (fr := frOf []) (ann := .no) (frm := [(0, .fz)]) laws fnok (E6_ok n).tab (e := F76e n) (fn := Go.Proofs.Try.f76) (by kernel_rfl) (AllF.ofB (cd := F76c) (l := []) (by kernel_rfl) (by kernel_rfl) AllF.nil) (F76_eq n)
noncomputable def E7 (n : Nat) : List (Ent G) := F76e n :: E6 n
theorem E7_ok (n : Nat) : AllE prog G (E7 n) := AllE.cons (F76_ok n) (E6_ok n)
-- 77 (*loop.example/slowworm/spec.rnd).name
noncomputable def F77c : Code := bodyOf Go.Proofs.Try.f77
noncomputable def F77 (n : Nat) (a156 : List Int) (a157 : Int) : Option (ByteArray × ((List Int × (Int × Unit)) × Unit)) :=
  (andThen (F61 n (({ data := #[97] } : ByteArray) :: (({ data := #[98] } : ByteArray) :: (({ data := #[99] } : ByteArray) :: (({ data := #[120] } : ByteArray) :: (({ data := #[120, 115] } : ByteArray) :: (({ data := #[102] } : ByteArray) :: [])))))) a156 a157) fun r159 =>
  some (r159.1, ((r159.2.1.1, (r159.2.1.2.1, ())), ())))
noncomputable def F77e (n : Nat) : Ent G := ⟨77, (.cons (.ptr 0 0) .nil), [(.box 64 (.cons (.imm 1) (.cons (.int .i64) .nil)))], .str, [(.box 64 (.cons (.imm 1) (.cons (.int .i64) .nil)))], fun x y => F77 n y.1.1 y.1.2.1⟩
theorem F77_eq (n : Nat) (x : ShL.den G (.cons (.ptr 0 0) .nil)) (y : denO G [(.box 64 (.cons (.imm 1) (.cons (.int .i64) .nil)))]) : (F77e n).F x y = runFn prog G (ro G (tabOf (E7 n)) (frOf []) _) Go.Proofs.Try.f77 .no [(0, .fz)] (ShL.enc G (.cons (.ptr 0 0) .nil) x) (encO G [(.box 64 (.cons (.imm 1) (.cons (.int .i64) .nil)))] y) (decR .str [(.box 64 (.cons (.imm 1) (.cons (.int .i64) .nil)))]) := by kernel_rfl
theorem F77_ok (n : Nat) : EntOK prog G (F77e n) :=
  ent_ok (fr := frOf []) (ann := .no) (frm := [(0, .fz)]) laws fnok (E7_ok n).tab (e := F77e n) (fn := Go.Proofs.Try.f77) (by kernel_rfl) (AllF.ofB (cd := F77c) (l := []) (by kernel_rfl) (by kernel_rfl) AllF.nil) (F77_eq n)
noncomputable def E8 (n : Nat) : List (Ent G) := F77e n :: E7 n
theorem E8_ok (n : Nat) : AllE prog G (E8 n) := AllE.cons (F77_ok n) (E7_ok n)
-- 80 loop.example/slowworm/spec.binaryOps
noncomputable def F80c : Code := bodyOf Go.Proofs.Try.f80
noncomputable def F80 (n : Nat)  : Option (Unit × (List ByteArray × Unit)) :=
  some ((), ((({ data := #[43] } : ByteArray) :: (({ data := #[45] } : ByteArray) :: (({ data := #[42] } : ByteArray) :: (({ data := #[47, 47] } : ByteArray) :: (({ data := #[37] } : ByteArray) :: (({ data := #[42, 42] } : ByteArray) :: (({ data := #[61, 61] } : ByteArray) :: (({ data := #[33, 61] } : ByteArray) :: (({ data := #[60] } : ByteArray) :: (({ data := #[60, 61] } : ByteArray) :: (({ data := #[62] } : ByteArray) :: (({ data := #[62, 61] } : ByteArray) :: (({ data := #[105, 110] } : ByteArray) :: (({ data := #[105, 115] } : ByteArray) :: [])))))))))))))), ()))
noncomputable def F80e (n : Nat) : Ent G := ⟨80, .nil, [], (.own 0), [(.arr 2 true)], fun x y => F80 n⟩
theorem F80_eq (n : Nat) (x : ShL.den G .nil) (y : denO G []) : (F80e n).F x y = runFn prog G (ro G (tabOf (E8 n)) (frOf []) _) Go.Proofs.Try.f80 .no [] (ShL.enc G .nil x) (encO G [] y) (decR (.own 0) [(.arr 2 true)]) := by kernel_rfl
theorem F80_ok (n : Nat) : EntOK prog G (F80e n) :=
  ent_ok (fr := frOf []) (ann := .no) (frm := []) laws fnok (E8_ok n).tab (e := F80e n) (fn := Go.Proofs.Try.f80) (by kernel_rfl) (AllF.ofB (cd := F80c) (l := []) (by kernel_rfl) (by kernel_rfl) AllF.nil) (F80_eq n)
noncomputable def E9 (n : Nat) : List (Ent G) := F80e n :: E8 n
theorem E9_ok (n : Nat) : AllE prog G (E9 n) := AllE.cons (F80_ok n) (E8_ok n)
-- 81 (*loop.example/slowworm/spec.rnd).params
noncomputable def F81c : Code := bodyOf Go.Proofs.Try.f81
noncomputable def F81 (n : Nat) (a382 : List Int) (a383 : Int) : Option (List ByteArray × ((List Int × (Int × Unit)) × Unit)) :=
  let v388 := ([] :: ((({ data := #[97] } : ByteArray) :: []) :: ((({ data := #[120] } : ByteArray) :: []) :: ((({ data := #[97] } : ByteArray) :: (({ data := #[98] } : ByteArray) :: [])) :: ((({ data := #[120] } : ByteArray) :: (({ data := #[99] } : ByteArray) :: [])) :: [])))))
  (andThen (F59 n (5 : Int) a382 a383) fun r389 =>
  (bif (decide ((0 : Int) ≤ r389.1)) then
  (bif (decide (r389.1 < ((v388.length) : Int))) then
  some ((v388.getD (r389.1.toNat) []), ((r389.2.1.1, (r389.2.1.2.1, ())), ()))
  else none)
  else none))
noncomputable def F81e (n : Nat) : Ent G := ⟨81, (.cons (.ptr 0 0) .nil), [(.box 64 (.cons (.imm 1) (.cons (.int .i64) .nil)))], (.imm 2), [(.box 64 (.cons (.imm 1) (.cons (.int .i64) .nil)))], fun x y => F81 n y.1.1 y.1.2.1⟩
theorem F81_eq (n : Nat) (x : ShL.den G (.cons (.ptr 0 0) .nil)) (y : denO G [(.box 64 (.cons (.imm 1) (.cons (.int .i64) .nil)))]) : (F81e n).F x y = runFn prog G (ro G (tabOf (E9 n)) (frOf []) _) Go.Proofs.Try.f81 .no [(0, .fz)] (ShL.enc G (.cons (.ptr 0 0) .nil) x) (encO G [(.box 64 (.cons (.imm 1) (.cons (.int .i64) .nil)))] y) (decR (.imm 2) [(.box 64 (.cons (.imm 1) (.cons (.int .i64) .nil)))]) := by kernel_rfl
theorem F81_ok (n : Nat) : EntOK prog G (F81e n) :=
  ent_ok (fr := frOf []) (ann := .no) (frm := [(0, .fz)]) laws fnok (E9_ok n).tab (e := F81e n) (fn := Go.Proofs.Try.f81) (by kernel_rfl) (AllF.ofB (cd := F81c) (l := []) (by kernel_rfl) (by kernel_rfl) AllF.nil) (F81_eq n)
noncomputable def E10 (n : Nat) : List (Ent G) := F81e n :: E9 n
theorem E10_ok (n : Nat) : AllE prog G (E10 n) := AllE.cons (F81_ok n) (E9_ok n)
abbrev Q57RC : Type := (Int → List Int → Int → Option ((Int × (ByteArray × (List ByteArray × (List Ex × Unit)))) × ((List Int × (Int × Unit)) × Unit))) × (Int → Int → List Int → Int → Option (List Ex × ((List Int × (Int × Unit)) × Unit))) × (Int → List Int → Int → Option (Unit × ((List Int × (Int × Unit)) × (List Ex × Unit)))) × (Int → List Int → Int → Option ((Int × (ByteArray × (List ByteArray × (List Ex × Unit)))) × ((List Int × (Int × Unit)) × Unit))) × Unit
noncomputable def Q57L (n : Nat) (rc : Q57RC) : List (Ent G) := ⟨57, (.cons (.ptr 0 0) (.cons (.int .i64) .nil)), [(.box 64 (.cons (.imm 1) (.cons (.int .i64) .nil)))], (.agg (.cons (.int .i64) (.cons .str (.cons (.imm 2) (.cons (.imm 3) .nil))))), [(.box 64 (.cons (.imm 1) (.cons (.int .i64) .nil)))], fun x y => rc.1 x.2.1 y.1.1 y.1.2.1⟩ :: ⟨78, (.cons (.ptr 0 0) (.cons (.int .i64) (.cons (.int .i64) .nil))), [(.box 64 (.cons (.imm 1) (.cons (.int .i64) .nil)))], (.imm 3), [(.box 64 (.cons (.imm 1) (.cons (.int .i64) .nil)))], fun x y => rc.2.1 x.2.1 x.2.2.1 y.1.1 y.1.2.1⟩ :: ⟨79, (.cons (.ptr 0 0) (.cons (.int .i64) .nil)), [(.box 64 (.cons (.imm 1) (.cons (.int .i64) .nil)))], (.own 1), [(.box 64 (.cons (.imm 1) (.cons (.int .i64) .nil))), (.arr 3 true)], fun x y => rc.2.2.1 x.2.1 y.1.1 y.1.2.1⟩ :: ⟨82, (.cons (.ptr 0 0) (.cons (.int .i64) .nil)), [(.box 64 (.cons (.imm 1) (.cons (.int .i64) .nil)))], (.agg (.cons (.int .i64) (.cons .str (.cons (.imm 2) (.cons (.imm 3) .nil))))), [(.box 64 (.cons (.imm 1) (.cons (.int .i64) .nil)))], fun x y => rc.2.2.2.1 x.2.1 y.1.1 y.1.2.1⟩ :: E10 n
-- 57 (*loop.example/slowworm/spec.rnd).expr
noncomputable def F57bc : Code := bodyOf Go.Proofs.Try.f57
noncomputable def F57b_0x0 : SSh := ⟨152, [(0, (.ptr 0 0)), (4, (.ptr 1 0)), (26, .bool)], [(.box 64 (.cons (.imm 1) (.cons (.int .i64) .nil))), (.box 30 (.cons (.int .i64) (.cons .str (.cons .nil0 (.cons .nil0 .nil)))))]⟩
noncomputable def F57b_0s : SSh := ⟨152, [(0, (.ptr 0 0)), (4, (.ptr 1 0)), (13, (.int .i64))], [(.box 64 (.cons (.imm 1) (.cons (.int .i64) .nil))), (.box 30 (.cons (.int .i64) (.cons .str (.cons .nil0 (.cons .nil0 .nil)))))]⟩
noncomputable def F57b_0 {R : Type} (n : Nat) (rc : Q57RC) (x710 : Int) (x711 : List Int) (x712 : Int) (x713 : Int) (x714 : ByteArray) (k0 : Bool → List Int → Int → Int → ByteArray → Option R) : Option R :=
  (bif (x710 == (2 : Int)) then
  (k0 true x711 x712 x713 x714)
  else (bif (x710 == (3 : Int)) then
  (k0 true x711 x712 x713 x714)
  else (k0 (x710 == (4 : Int)) x711 x712 x713 x714)))
noncomputable def F57b_0z (n : Nat) (rc : Q57RC) : Sm G := inZ G 1 ⟨[0, 4, 13], []⟩ F57b_0s fun R x K => F57b_0 n rc x.1.2.2.1 x.2.1.1 x.2.1.2.1 x.2.2.1.1 x.2.2.1.2.1 (fun u0 u1 u2 u3 u4 => K .normal (SSh.enc G F57b_0x0 (((), ((), (u0, ()))), ((u1, (u2, ())), ((u3, (u4, ((), ((), ())))), ())))))
theorem F57b_0_eq (n : Nat) (rc : Q57RC) (R : Type) (x : SSh.den G F57b_0s) (K : AE → St G → Option R) :
  F57b_0 n rc x.1.2.2.1 x.2.1.1 x.2.1.2.1 x.2.2.1.1 x.2.2.1.2.1 (fun u0 u1 u2 u3 u4 => K .normal (SSh.enc G F57b_0x0 (((), ((), (u0, ()))), ((u1, (u2, ())), ((u3, (u4, ((), ((), ())))), ()))))) = exec prog G (ro G (tabOf (Q57L n rc)) (frOf []) R) 1 (codeAt F57bc [1, 0, 1, 0, 0, 1, 0, 1, 1, 1, 1, 0]) .no (SSh.enc G F57b_0s x) (kNrm G (ro G (tabOf (Q57L n rc)) (frOf []) R) 1 ⟨⟨[0, 4, 26], []⟩, ⟨[4], []⟩, [(0, ⟨[0, 4], []⟩)]⟩ K) := by kernel_rfl
theorem F57b_0_ok (n : Nat) (rc : Q57RC) (h : AllE prog G (Q57L n rc)) : FragOK prog G 1 (codeAt F57bc [1, 0, 1, 0, 0, 1, 0, 1, 1, 1, 1, 0]) (F57b_0z n rc) :=
  frag_plain laws fnok h.tab (AllF.of (l := []) (by kernel_rfl) AllF.nil) (F57b_0_eq n rc)
noncomputable def F57b_1x0 : SSh := ⟨152, [(4, (.ptr 1 0))], [(.box 64 (.cons (.imm 1) (.cons (.int .i64) .nil))), (.box 30 (.cons (.int .i64) (.cons .str (.cons .nil0 (.cons .nil0 .nil)))))]⟩
noncomputable def F57b_1x1 : SSh := ⟨152, [(0, (.ptr 0 0)), (4, (.ptr 1 0))], [(.box 64 (.cons (.imm 1) (.cons (.int .i64) .nil))), (.box 30 (.cons (.int .i64) (.cons .str (.cons .nil0 (.cons .nil0 .nil)))))]⟩
noncomputable def F57b_1s : SSh := ⟨152, [(0, (.ptr 0 0)), (4, (.ptr 1 0))], [(.box 64 (.cons (.imm 1) (.cons (.int .i64) .nil))), (.box 30 (.cons (.int .i64) (.cons .str (.cons .nil0 (.cons .nil0 .nil)))))]⟩
noncomputable def F57b_1 {R : Type} (n : Nat) (rc : Q57RC) (x699 : List Int) (x700 : Int) (x701 : Int) (x702 : ByteArray) (k0 : List Int → Int → Int → ByteArray → Option R) (k1 : List Int → Int → Int → ByteArray → Option R) : Option R :=
  (andThen (F59 n (9 : Int) x699 x700) fun r703 =>
  (bif (r703.1 == (0 : Int)) then
  (andThen (F59 n (3 : Int) r703.2.1.1 r703.2.1.2.1) fun r705 =>
  (k0 r705.2.1.1 r705.2.1.2.1 (IntKind.wrap .i64 ((1 : Int) + r705.1)) ({ data := #[] } : ByteArray)))
  else (bif (r703.1 == (1 : Int)) then
  (andThen (F61 n (({ data := #[] } : ByteArray) :: (({ data := #[97] } : ByteArray) :: (({ data := #[97, 98] } : ByteArray) :: (({ data := #[98, 39] } : ByteArray) :: (({ data := #[120, 32, 121] } : ByteArray) :: []))))) r703.2.1.1 r703.2.1.2.1) fun r709 =>
  (k0 r709.2.1.1 r709.2.1.2.1 (5 : Int) r709.1))
  else (F57b_0 n rc r703.1 r703.2.1.1 r703.2.1.2.1 x701 x702 (fun z718 z719 z720 z721 z722 =>
  (bif z718 then
  (andThen (F76 n z719 z720) fun r723 =>
  (k0 r723.2.1.1 r723.2.1.2.1 (4 : Int) r723.1))
  else (k1 z719 z720 z721 z722)))))))
noncomputable def F57b_1z (n : Nat) (rc : Q57RC) : Sm G := inZ G 1 ⟨[0, 4], []⟩ F57b_1s fun R x K => F57b_1 n rc x.2.1.1 x.2.1.2.1 x.2.2.1.1 x.2.2.1.2.1 (fun u0 u1 u2 u3 => K .ret (SSh.enc G F57b_1x0 (((), ()), ((u0, (u1, ())), ((u2, (u3, ((), ((), ())))), ()))))) (fun u0 u1 u2 u3 => K .normal (SSh.enc G F57b_1x1 (((), ((), ())), ((u0, (u1, ())), ((u2, (u3, ((), ((), ())))), ())))))
theorem F57b_1_eq (n : Nat) (rc : Q57RC) (R : Type) (x : SSh.den G F57b_1s) (K : AE → St G → Option R) :
  F57b_1 n rc x.2.1.1 x.2.1.2.1 x.2.2.1.1 x.2.2.1.2.1 (fun u0 u1 u2 u3 => K .ret (SSh.enc G F57b_1x0 (((), ()), ((u0, (u1, ())), ((u2, (u3, ((), ((), ())))), ()))))) (fun u0 u1 u2 u3 => K .normal (SSh.enc G F57b_1x1 (((), ((), ())), ((u0, (u1, ())), ((u2, (u3, ((), ((), ())))), ()))))) = exec prog G (ro G (tabOf (Q57L n rc)) (frOf [F57b_0z n rc]) R) 1 (codeAt F57bc [1, 0, 1, 0, 0]) (.nd .no (.nd (.nd .no (.nd .no (.nd .no (.nd .no (.nd (.use 0) .no))))) .no)) (SSh.enc G F57b_1s x) (kNrm G (ro G (tabOf (Q57L n rc)) (frOf [F57b_0z n rc]) R) 1 ⟨⟨[0, 4], []⟩, ⟨[4], []⟩, []⟩ K) := by kernel_rfl
theorem F57b_1_ok (n : Nat) (rc : Q57RC) (h : AllE prog G (Q57L n rc)) : FragOK prog G 1 (codeAt F57bc [1, 0, 1, 0, 0]) (F57b_1z n rc) :=
  frag_plain laws fnok h.tab (AllF.of (l := [(0, codeAt F57bc [1, 0, 1, 0, 0, 1, 0, 1, 1, 1, 1, 0])]) (by kernel_rfl) (AllF.cons (F57b_0_ok n rc h) AllF.nil)) (F57b_1_eq n rc)
noncomputable def F57b_2x0 : SSh := ⟨152, [(0, (.ptr 0 0)), (1, (.int .i64)), (4, (.ptr 1 0)), (37, (.int .i64)), (65, .bool)], [(.box 64 (.cons (.imm 1) (.cons (.int .i64) .nil))), (.box 30 (.cons (.int .i64) (.cons .str (.cons .nil0 (.cons .nil0 .nil)))))]⟩
noncomputable def F57b_2s : SSh := ⟨152, [(0, (.ptr 0 0)), (1, (.int .i64)), (4, (.ptr 1 0)), (37, (.int .i64))], [(.box 64 (.cons (.imm 1) (.cons (.int .i64) .nil))), (.box 30 (.cons (.int .i64) (.cons .str (.cons .nil0 (.cons .nil0 .nil)))))]⟩
noncomputable def F57b_2 {R : Type} (n : Nat) (rc : Q57RC) (x762 : Int) (x763 : Int) (x764 : List Int) (x765 : Int) (x766 : Int) (x767 : ByteArray) (k0 : Int → Int → Bool → List Int → Int → Int → ByteArray → Option R) : Option R :=
  (bif (x763 == (3 : Int)) then
  (k0 x762 x763 true x764 x765 x766 x767)
  else (bif (x763 == (4 : Int)) then
  (k0 x762 x763 true x764 x765 x766 x767)
  else (bif (x763 == (5 : Int)) then
  (k0 x762 x763 true x764 x765 x766 x767)
  else (k0 x762 x763 (x763 == (6 : Int)) x764 x765 x766 x767))))
noncomputable def F57b_2z (n : Nat) (rc : Q57RC) : Sm G := inZ G 1 ⟨[0, 1, 4, 37], []⟩ F57b_2s fun R x K => F57b_2 n rc x.1.2.1 x.1.2.2.2.1 x.2.1.1 x.2.1.2.1 x.2.2.1.1 x.2.2.1.2.1 (fun u0 u1 u2 u3 u4 u5 u6 => K .normal (SSh.enc G F57b_2x0 (((), (u0, ((), (u1, (u2, ()))))), ((u3, (u4, ())), ((u5, (u6, ((), ((), ())))), ())))))
theorem F57b_2_eq (n : Nat) (rc : Q57RC) (R : Type) (x : SSh.den G F57b_2s) (K : AE → St G → Option R) :
  F57b_2 n rc x.1.2.1 x.1.2.2.2.1 x.2.1.1 x.2.1.2.1 x.2.2.1.1 x.2.2.1.2.1 (fun u0 u1 u2 u3 u4 u5 u6 => K .normal (SSh.enc G F57b_2x0 (((), (u0, ((), (u1, (u2, ()))))), ((u3, (u4, ())), ((u5, (u6, ((), ((), ())))), ()))))) = exec prog G (ro G (tabOf (Q57L n rc)) (frOf [F57b_0z n rc, F57b_1z n rc]) R) 1 (codeAt F57bc [1, 1, 0, 1, 0, 1, 1, 1, 1, 1, 1, 0]) .no (SSh.enc G F57b_2s x) (kNrm G (ro G (tabOf (Q57L n rc)) (frOf [F57b_0z n rc, F57b_1z n rc]) R) 1 ⟨⟨[0, 1, 4, 37, 65], []⟩, ⟨[4], []⟩, [(1, ⟨[0, 1, 4], []⟩)]⟩ K) := by kernel_rfl
theorem F57b_2_ok (n : Nat) (rc : Q57RC) (h : AllE prog G (Q57L n rc)) : FragOK prog G 1 (codeAt F57bc [1, 1, 0, 1, 0, 1, 1, 1, 1, 1, 1, 0]) (F57b_2z n rc) :=
  frag_plain laws fnok h.tab (AllF.of (l := []) (by kernel_rfl) AllF.nil) (F57b_2_eq n rc)
noncomputable def F57b_3x0 : SSh := ⟨152, [(4, (.ptr 1 0))], [(.box 64 (.cons (.imm 1) (.cons (.int .i64) .nil))), (.box 30 (.cons (.int .i64) (.cons .str (.cons .nil0 (.cons (.imm 3) .nil)))))]⟩
noncomputable def F57b_3x1 : SSh := ⟨152, [(4, (.ptr 1 0))], [(.box 64 (.cons (.imm 1) (.cons (.int .i64) .nil))), (.box 30 (.cons (.int .i64) (.cons .str (.cons .nil0 (.cons (.own 2) .nil))))), (.arr 3 true)]⟩
noncomputable def F57b_3x2 : SSh := ⟨152, [(4, (.ptr 1 0))], [(.box 64 (.cons (.imm 1) (.cons (.int .i64) .nil))), (.box 30 (.cons (.int .i64) (.cons .str (.cons (.imm 2) (.cons (.own 2) .nil))))), (.arr 3 true)]⟩
noncomputable def F57b_3x3 : SSh := ⟨152, [(0, (.ptr 0 0)), (1, (.int .i64)), (4, (.ptr 1 0))], [(.box 64 (.cons (.imm 1) (.cons (.int .i64) .nil))), (.box 30 (.cons (.int .i64) (.cons .str (.cons .nil0 (.cons .nil0 .nil)))))]⟩
noncomputable def F57b_3s : SSh := ⟨152, [(0, (.ptr 0 0)), (1, (.int .i64)), (4, (.ptr 1 0))], [(.box 64 (.cons (.imm 1) (.cons (.int .i64) .nil))), (.box 30 (.cons (.int .i64) (.cons .str (.cons .nil0 (.cons .nil0 .nil)))))]⟩
noncomputable def F57b_3 {R : Type} (n : Nat) (rc : Q57RC) (x744 : Int) (x745 : List Int) (x746 : Int) (x747 : Int) (x748 : ByteArray) (k0 : List Int → Int → Int → ByteArray → List Ex → Option R) (k1 : List Int → Int → Int → ByteArray → List Ex → Option R) (k2 : List Int → Int → Int → ByteArray → List ByteArray → List Ex → Option R) (k3 : Int → List Int → Int → Int → ByteArray → Option R) : Option R :=
  (andThen (F59 n (13 : Int) x745 x746) fun r749 =>
  (bif (r749.1 == (0 : Int)) then
  (andThen (rc.2.1 x744 (3 : Int) r749.2.1.1 r749.2.1.2.1) fun r751 =>
  (k0 r751.2.1.1 r751.2.1.2.1 (7 : Int) ({ data := #[] } : ByteArray) r751.1))
  else (bif (r749.1 == (1 : Int)) then
  (andThen (rc.2.2.1 x744 r749.2.1.1 r749.2.1.2.1) fun r753 =>
  (andThen (rc.2.2.1 x744 r753.2.1.1 r753.2.1.2.1) fun r754 =>
  (bif (decide (((r753.2.2.1.length) + (r754.2.2.1.length)) ≤ (68719476736 : Nat))) then
  (k1 r754.2.1.1 r754.2.1.2.1 (8 : Int) ({ data := #[] } : ByteArray) (r753.2.2.1 ++ r754.2.2.1))
  else none)))
  else (bif (r749.1 == (2 : Int)) then
  (andThen (F61 n (({ data := #[45] } : ByteArray) :: (({ data := #[110, 111, 116] } : ByteArray) :: [])) r749.2.1.1 r749.2.1.2.1) fun r758 =>
  (andThen (rc.1 (IntKind.wrap .i64 (x744 - (1 : Int))) r758.2.1.1 r758.2.1.2.1) fun r760 =>
  (k1 r760.2.1.1 r760.2.1.2.1 (9 : Int) r758.1 ((Ex.mk r760.1.1 r760.1.2.1 r760.1.2.2.1 r760.1.2.2.2.1) :: []))))
  else (F57b_2 n rc x744 r749.1 r749.2.1.1 r749.2.1.2.1 x747 x748 (fun z772 z773 z774 z775 z776 z777 z778 =>
  (bif z774 then
  (andThen (F80 n) fun r779 =>
  let v780 := (({ data := #[43] } : ByteArray) :: (({ data := #[45] } : ByteArray) :: (({ data := #[42] } : ByteArray) :: (({ data := #[60] } : ByteArray) :: (({ data := #[61, 61] } : ByteArray) :: [])))))
  (bif (decide (((r779.2.1.length) + (v780.length)) ≤ (68719476736 : Nat))) then
  (andThen (F61 n (r779.2.1 ++ v780) z775 z776) fun r782 =>
  (andThen (rc.1 (IntKind.wrap .i64 (z772 - (1 : Int))) r782.2.1.1 r782.2.1.2.1) fun r784 =>
  (andThen (rc.1 (IntKind.wrap .i64 (z772 - (1 : Int))) r784.2.1.1 r784.2.1.2.1) fun r786 =>
  (k1 r786.2.1.1 r786.2.1.2.1 (10 : Int) r782.1 ((Ex.mk r784.1.1 r784.1.2.1 r784.1.2.2.1 r784.1.2.2.2.1) :: ((Ex.mk r786.1.1 r786.1.2.1 r786.1.2.2.1 r786.1.2.2.2.1) :: []))))))
  else none))
  else (bif (z773 == (7 : Int)) then
  (andThen (F61 n (({ data := #[97, 110, 100] } : ByteArray) :: (({ data := #[111, 114] } : ByteArray) :: [])) z775 z776) fun r790 =>
  (andThen (rc.1 (IntKind.wrap .i64 (z772 - (1 : Int))) r790.2.1.1 r790.2.1.2.1) fun r792 =>
  (andThen (rc.1 (IntKind.wrap .i64 (z772 - (1 : Int))) r792.2.1.1 r792.2.1.2.1) fun r794 =>
  (k1 r794.2.1.1 r794.2.1.2.1 (11 : Int) r790.1 ((Ex.mk r792.1.1 r792.1.2.1 r792.1.2.2.1 r792.1.2.2.2.1) :: ((Ex.mk r794.1.1 r794.1.2.1 r794.1.2.2.1 r794.1.2.2.2.1) :: []))))))
  else (bif (z773 == (8 : Int)) then
  (andThen (rc.1 (IntKind.wrap .i64 (z772 - (1 : Int))) z775 z776) fun r798 =>
  (andThen (rc.1 (IntKind.wrap .i64 (z772 - (1 : Int))) r798.2.1.1 r798.2.1.2.1) fun r800 =>
  (andThen (rc.1 (IntKind.wrap .i64 (z772 - (1 : Int))) r800.2.1.1 r800.2.1.2.1) fun r802 =>
  (k1 r802.2.1.1 r802.2.1.2.1 (12 : Int) ({ data := #[] } : ByteArray) ((Ex.mk r798.1.1 r798.1.2.1 r798.1.2.2.1 r798.1.2.2.2.1) :: ((Ex.mk r800.1.1 r800.1.2.1 r800.1.2.2.1 r800.1.2.2.2.1) :: ((Ex.mk r802.1.1 r802.1.2.1 r802.1.2.2.1 r802.1.2.2.2.1) :: [])))))))
  else (bif (z773 == (9 : Int)) then
  (andThen (rc.1 (IntKind.wrap .i64 (z772 - (1 : Int))) z775 z776) fun r806 =>
  (andThen (rc.1 (IntKind.wrap .i64 (z772 - (1 : Int))) r806.2.1.1 r806.2.1.2.1) fun r808 =>
  (k1 r808.2.1.1 r808.2.1.2.1 (14 : Int) ({ data := #[] } : ByteArray) ((Ex.mk r806.1.1 r806.1.2.1 r806.1.2.2.1 r806.1.2.2.2.1) :: ((Ex.mk r808.1.1 r808.1.2.1 r808.1.2.2.1 r808.1.2.2.2.1) :: [])))))
  else (bif (z773 == (10 : Int)) then
  (andThen (F61 n (({ data := #[97, 112, 112, 101, 110, 100] } : ByteArray) :: (({ data := #[112, 111, 112] } : ByteArray) :: (({ data := #[107, 101, 121, 115] } : ByteArray) :: (({ data := #[116, 101, 120, 116] } : ByteArray) :: (({ data := #[118] } : ByteArray) :: []))))) z775 z776) fun r812 =>
  (andThen (rc.1 (IntKind.wrap .i64 (z772 - (1 : Int))) r812.2.1.1 r812.2.1.2.1) fun r814 =>
  (k1 r814.2.1.1 r814.2.1.2.1 (15 : Int) r812.1 ((Ex.mk r814.1.1 r814.1.2.1 r814.1.2.2.1 r814.1.2.2.2.1) :: []))))
  else (bif (z773 == (11 : Int)) then
  (andThen (F81 n z775 z776) fun r817 =>
  (andThen (rc.1 (IntKind.wrap .i64 (z772 - (1 : Int))) r817.2.1.1 r817.2.1.2.1) fun r819 =>
  (k2 r819.2.1.1 r819.2.1.2.1 (16 : Int) ({ data := #[] } : ByteArray) r817.1 ((Ex.mk r819.1.1 r819.1.2.1 r819.1.2.2.1 r819.1.2.2.2.1) :: []))))
  else (k3 z772 z775 z776 z777 z778)))))))))))))
noncomputable def F57b_3z (n : Nat) (rc : Q57RC) : Sm G := inZ G 1 ⟨[0, 1, 4], []⟩ F57b_3s fun R x K => F57b_3 n rc x.1.2.1 x.2.1.1 x.2.1.2.1 x.2.2.1.1 x.2.2.1.2.1 (fun u0 u1 u2 u3 u4 => K .ret (SSh.enc G F57b_3x0 (((), ()), ((u0, (u1, ())), ((u2, (u3, ((), (u4, ())))), ()))))) (fun u0 u1 u2 u3 u4 => K .ret (SSh.enc G F57b_3x1 (((), ()), ((u0, (u1, ())), ((u2, (u3, ((), ((), ())))), (u4, ())))))) (fun u0 u1 u2 u3 u4 u5 => K .ret (SSh.enc G F57b_3x2 (((), ()), ((u0, (u1, ())), ((u2, (u3, (u4, ((), ())))), (u5, ())))))) (fun u0 u1 u2 u3 u4 => K .normal (SSh.enc G F57b_3x3 (((), (u0, ((), ()))), ((u1, (u2, ())), ((u3, (u4, ((), ((), ())))), ())))))
theorem F57b_3_eq (n : Nat) (rc : Q57RC) (R : Type) (x : SSh.den G F57b_3s) (K : AE → St G → Option R) :
  F57b_3 n rc x.1.2.1 x.2.1.1 x.2.1.2.1 x.2.2.1.1 x.2.2.1.2.1 (fun u0 u1 u2 u3 u4 => K .ret (SSh.enc G F57b_3x0 (((), ()), ((u0, (u1, ())), ((u2, (u3, ((), (u4, ())))), ()))))) (fun u0 u1 u2 u3 u4 => K .ret (SSh.enc G F57b_3x1 (((), ()), ((u0, (u1, ())), ((u2, (u3, ((), ((), ())))), (u4, ())))))) (fun u0 u1 u2 u3 u4 u5 => K .ret (SSh.enc G F57b_3x2 (((), ()), ((u0, (u1, ())), ((u2, (u3, (u4, ((), ())))), (u5, ())))))) (fun u0 u1 u2 u3 u4 => K .normal (SSh.enc G F57b_3x3 (((), (u0, ((), ()))), ((u1, (u2, ())), ((u3, (u4, ((), ((), ())))), ()))))) = exec prog G (ro G (tabOf (Q57L n rc)) (frOf [F57b_0z n rc, F57b_1z n rc, F57b_2z n rc]) R) 1 (codeAt F57bc [1, 1, 0]) (.nd .no (.nd (.nd .no (.nd .no (.nd .no (.nd .no (.nd .no (.nd .no (.nd (.use 2) .no))))))) .no)) (SSh.enc G F57b_3s x) (kNrm G (ro G (tabOf (Q57L n rc)) (frOf [F57b_0z n rc, F57b_1z n rc, F57b_2z n rc]) R) 1 ⟨⟨[0, 1, 4], []⟩, ⟨[4], []⟩, []⟩ K) := by kernel_rfl
theorem F57b_3_ok (n : Nat) (rc : Q57RC) (h : AllE prog G (Q57L n rc)) : FragOK prog G 1 (codeAt F57bc [1, 1, 0]) (F57b_3z n rc) :=
  frag_plain laws fnok h.tab (AllF.of (l := [(2, codeAt F57bc [1, 1, 0, 1, 0, 1, 1, 1, 1, 1, 1, 0])]) (by kernel_rfl) (AllF.cons (F57b_2_ok n rc h) AllF.nil)) (F57b_3_eq n rc)
noncomputable def F57b (n : Nat) (rc : Q57RC) (a695 : Int) (a696 : List Int) (a697 : Int) : Option ((Int × (ByteArray × (List ByteArray × (List Ex × Unit)))) × ((List Int × (Int × Unit)) × Unit)) :=
  (bif (decide (a695 ≤ (1 : Int))) then
  (F57b_1 n rc a696 a697 (0 : Int) ({ data := #[] } : ByteArray) (fun z724 z725 z726 z727 =>
  some ((z726, (z727, ([], ([], ())))), ((z724, (z725, ())), ()))) (fun z728 z729 z730 z731 =>
  (andThen (F77 n z728 z729) fun r732 =>
  some (((6 : Int), (r732.1, ([], ([], ())))), ((r732.2.1.1, (r732.2.1.2.1, ())), ())))))
  else (andThen (F59 n (4 : Int) a696 a697) fun r733 =>
  (bif (r733.1 == (0 : Int)) then
  (F57b_1 n rc r733.2.1.1 r733.2.1.2.1 (0 : Int) ({ data := #[] } : ByteArray) (fun z735 z736 z737 z738 =>
  some ((z737, (z738, ([], ([], ())))), ((z735, (z736, ())), ()))) (fun z739 z740 z741 z742 =>
  (andThen (F77 n z739 z740) fun r743 =>
  some (((6 : Int), (r743.1, ([], ([], ())))), ((r743.2.1.1, (r743.2.1.2.1, ())), ())))))
  else (F57b_3 n rc a695 r733.2.1.1 r733.2.1.2.1 (0 : Int) ({ data := #[] } : ByteArray) (fun z821 z822 z823 z824 z825 =>
  some ((z823, (z824, ([], (z825, ())))), ((z821, (z822, ())), ()))) (fun z826 z827 z828 z829 z830 =>
  some ((z828, (z829, ([], (z830, ())))), ((z826, (z827, ())), ()))) (fun z831 z832 z833 z834 z835 z836 =>
  some ((z833, (z834, (z835, (z836, ())))), ((z831, (z832, ())), ()))) (fun z837 z838 z839 z840 z841 =>
  (andThen (rc.2.2.2.1 z837 z838 z839) fun r842 =>
  some ((r842.1.1, (r842.1.2.1, (r842.1.2.2.1, (r842.1.2.2.2.1, ())))), ((r842.2.1.1, (r842.2.1.2.1, ())), ()))))))))
noncomputable def F57be (n : Nat) (rc : Q57RC) : Ent G := ⟨57, (.cons (.ptr 0 0) (.cons (.int .i64) .nil)), [(.box 64 (.cons (.imm 1) (.cons (.int .i64) .nil)))], (.agg (.cons (.int .i64) (.cons .str (.cons (.imm 2) (.cons (.imm 3) .nil))))), [(.box 64 (.cons (.imm 1) (.cons (.int .i64) .nil)))], fun x y => F57b n rc x.2.1 y.1.1 y.1.2.1⟩
theorem F57b_eq (n : Nat) (rc : Q57RC) (x : ShL.den G (.cons (.ptr 0 0) (.cons (.int .i64) .nil))) (y : denO G [(.box 64 (.cons (.imm 1) (.cons (.int .i64) .nil)))]) : (F57be n rc).F x y = runFn prog G (ro G (tabOf (Q57L n rc)) (frOf [F57b_0z n rc, F57b_1z n rc, F57b_2z n rc, F57b_3z n rc]) _) Go.Proofs.Try.f57 (.nd .no (.nd (.nd .no (.nd (.nd (.use 1) .no) .no)) (.nd (.use 3) .no))) [(0, .fz)] (ShL.enc G (.cons (.ptr 0 0) (.cons (.int .i64) .nil)) x) (encO G [(.box 64 (.cons (.imm 1) (.cons (.int .i64) .nil)))] y) (decR (.agg (.cons (.int .i64) (.cons .str (.cons (.imm 2) (.cons (.imm 3) .nil))))) [(.box 64 (.cons (.imm 1) (.cons (.int .i64) .nil)))]) := by kernel_rfl
theorem F57b_ok (n : Nat) (rc : Q57RC) (h : AllE prog G (Q57L n rc)) : EntOK prog G (F57be n rc) :=
  ent_ok (fr := frOf [F57b_0z n rc, F57b_1z n rc, F57b_2z n rc, F57b_3z n rc]) (ann := (.nd .no (.nd (.nd .no (.nd (.nd (.use 1) .no) .no)) (.nd (.use 3) .no)))) (frm := [(0, .fz)]) laws fnok h.tab (e := F57be n rc) (fn := Go.Proofs.Try.f57) (by kernel_rfl) (AllF.ofB (cd := F57bc) (l := [(1, codeAt F57bc [1, 0, 1, 0, 0]), (3, codeAt F57bc [1, 1, 0])]) (by kernel_rfl) (by kernel_rfl) (AllF.cons (F57b_1_ok n rc h) (AllF.cons (F57b_3_ok n rc h) AllF.nil))) (F57b_eq n rc)
-- 78 (*loop.example/slowworm/spec.rnd).kids
noncomputable def F78bc : Code := bodyOf Go.Proofs.Try.f78
noncomputable def F78b_0x0 : SSh := ⟨26, [(7, (.own 1))], [(.box 64 (.cons (.imm 1) (.cons (.int .i64) .nil))), (.arr 3 true)]⟩
noncomputable def F78b_0s : SSh := ⟨26, [(0, (.ptr 0 0)), (1, (.int .i64)), (7, (.own 1)), (8, (.int .i64))], [(.box 64 (.cons (.imm 1) (.cons (.int .i64) .nil))), (.arr 3 true)]⟩
noncomputable def F78b_0_step {R : Type} (n : Nat) (rc : Q57RC) (k0 : List Int → Int → List Ex → Option R) (rec : Int → Int → List Int → Int → List Ex → Option R) (x850 : Int) (x851 : Int) (x852 : List Int) (x853 : Int) (x854 : List Ex) : Option R :=
  (bif (decide (x851 > (0 : Int))) then
  (andThen (rc.1 (IntKind.wrap .i64 (x850 - (1 : Int))) x852 x853) fun r857 =>
  let v858 := ((Ex.mk r857.1.1 r857.1.2.1 r857.1.2.2.1 r857.1.2.2.2.1) :: [])
  (bif (decide (((x854.length) + (v858.length)) ≤ (68719476736 : Nat))) then
  (rec x850 (IntKind.wrap .i64 (x851 - (1 : Int))) r857.2.1.1 r857.2.1.2.1 (x854 ++ v858))
  else none))
  else (k0 x852 x853 x854))
noncomputable def F78b_0_it {R : Type} (n : Nat) (rc : Q57RC) (k0 : List Int → Int → List Ex → Option R) : Nat → Int → Int → List Int → Int → List Ex → Option R
  | 0, _, _, _, _, _ => none
  | k + 1, x850, x851, x852, x853, x854 => F78b_0_step n rc k0 (F78b_0_it n rc k0 k) x850 x851 x852 x853 x854
noncomputable def F78b_0 {R : Type} (n : Nat) (rc : Q57RC) (x850 : Int) (x851 : Int) (x852 : List Int) (x853 : Int) (x854 : List Ex) (k0 : List Int → Int → List Ex → Option R) : Option R := F78b_0_it n rc k0 n x850 x851 x852 x853 x854
noncomputable def F78b_0z (n : Nat) (rc : Q57RC) : Sm G := inZ G 1 ⟨[0, 1, 7, 8], []⟩ F78b_0s fun R x K => F78b_0_it n rc (fun u0 u1 u2 => K (.exit 0) (SSh.enc G F78b_0x0 (((), ()), ((u0, (u1, ())), (u2, ()))))) n x.1.2.1 x.1.2.2.2.1 x.2.1.1 x.2.1.2.1 x.2.2.1
theorem F78b_0_eq (n : Nat) (rc : Q57RC) (R : Type) (rec : SSh.den G F78b_0s → Option R) (x : SSh.den G F78b_0s) (K : AE → St G → Option R) :
  F78b_0_step n rc (fun u0 u1 u2 => K (.exit 0) (SSh.enc G F78b_0x0 (((), ()), ((u0, (u1, ())), (u2, ()))))) (fun x850 x851 x852 x853 x854 => rec (((), (x850, ((), (x851, ())))), ((x852, (x853, ())), (x854, ())))) x.1.2.1 x.1.2.2.2.1 x.2.1.1 x.2.1.2.1 x.2.2.1 = exec prog G (ro G (tabOf (Q57L n rc)) (frOf []) R) 1 (codeAt F78bc [1, 1, 0, 1, 0, 0]) .no (SSh.enc G F78b_0s x) (kLoop G (ro G (tabOf (Q57L n rc)) (frOf []) R) 1 ⟨[0, 1, 7, 8], []⟩ F78b_0s ⟨⟨[7], []⟩, ⟨[6], []⟩, [(0, ⟨[7], []⟩)]⟩ rec K) := by kernel_rfl
theorem F78b_0_ok (n : Nat) (rc : Q57RC) (h : AllE prog G (Q57L n rc)) : FragOK prog G 1 (codeAt F78bc [1, 1, 0, 1, 0]) (F78b_0z n rc) :=
  frag_loop (Z := fun R k (x : SSh.den G F78b_0s) K => F78b_0_it n rc (fun u0 u1 u2 => K (.exit 0) (SSh.enc G F78b_0x0 (((), ()), ((u0, (u1, ())), (u2, ()))))) k x.1.2.1 x.1.2.2.2.1 x.2.1.1 x.2.1.2.1 x.2.2.1) laws fnok h.tab (AllF.of (l := []) (by kernel_rfl) AllF.nil) (fun _ _ _ => rfl) (fun R k y K => F78b_0_eq n rc R (fun (x : SSh.den G F78b_0s) => F78b_0_it n rc (fun u0 u1 u2 => K (.exit 0) (SSh.enc G F78b_0x0 (((), ()), ((u0, (u1, ())), (u2, ()))))) k x.1.2.1 x.1.2.2.2.1 x.2.1.1 x.2.1.2.1 x.2.2.1) y K) n
noncomputable def F78b (n : Nat) (rc : Q57RC) (a843 : Int) (a844 : Int) (a845 : List Int) (a846 : Int) : Option (List Ex × ((List Int × (Int × Unit)) × Unit)) :=
  (andThen (F59 n (IntKind.wrap .i64 (a844 + (1 : Int))) a845 a846) fun r849 =>
  (F78b_0 n rc a843 r849.1 r849.2.1.1 r849.2.1.2.1 [] (fun z861 z862 z863 =>
  some (z863, ((z861, (z862, ())), ())))))
noncomputable def F78be (n : Nat) (rc : Q57RC) : Ent G := ⟨78, (.cons (.ptr 0 0) (.cons (.int .i64) (.cons (.int .i64) .nil))), [(.box 64 (.cons (.imm 1) (.cons (.int .i64) .nil)))], (.imm 3), [(.box 64 (.cons (.imm 1) (.cons (.int .i64) .nil)))], fun x y => F78b n rc x.2.1 x.2.2.1 y.1.1 y.1.2.1⟩
theorem F78b_eq (n : Nat) (rc : Q57RC) (x : ShL.den G (.cons (.ptr 0 0) (.cons (.int .i64) (.cons (.int .i64) .nil)))) (y : denO G [(.box 64 (.cons (.imm 1) (.cons (.int .i64) .nil)))]) : (F78be n rc).F x y = runFn prog G (ro G (tabOf (Q57L n rc)) (frOf [F78b_0z n rc]) _) Go.Proofs.Try.f78 (.nd .no (.nd .no (.nd (.nd .no (.nd (.use 0) .no)) .no))) [(0, .fz)] (ShL.enc G (.cons (.ptr 0 0) (.cons (.int .i64) (.cons (.int .i64) .nil))) x) (encO G [(.box 64 (.cons (.imm 1) (.cons (.int .i64) .nil)))] y) (decR (.imm 3) [(.box 64 (.cons (.imm 1) (.cons (.int .i64) .nil)))]) := by kernel_rfl
theorem F78b_ok (n : Nat) (rc : Q57RC) (h : AllE prog G (Q57L n rc)) : EntOK prog G (F78be n rc) :=
  ent_ok (fr := frOf [F78b_0z n rc]) (ann := (.nd .no (.nd .no (.nd (.nd .no (.nd (.use 0) .no)) .no)))) (frm := [(0, .fz)]) laws fnok h.tab (e := F78be n rc) (fn := Go.Proofs.Try.f78) (by kernel_rfl) (AllF.ofB (cd := F78bc) (l := [(0, codeAt F78bc [1, 1, 0, 1, 0])]) (by kernel_rfl) (by kernel_rfl) (AllF.cons (F78b_0_ok n rc h) AllF.nil)) (F78b_eq n rc)
-- 79 (*loop.example/slowworm/spec.rnd).pair
noncomputable def F79bc : Code := bodyOf Go.Proofs.Try.f79
noncomputable def F79b (n : Nat) (rc : Q57RC) (a864 : Int) (a865 : List Int) (a866 : Int) : Option (Unit × ((List Int × (Int × Unit)) × (List Ex × Unit))) :=
  (andThen (F59 n (2 : Int) a865 a866) fun r867 =>
  (bif (r867.1 == (0 : Int)) then
  some ((), ((r867.2.1.1, (r867.2.1.2.1, ())), ([], ())))
  else (andThen (F61 n (({ data := #[97] } : ByteArray) :: (({ data := #[98] } : ByteArray) :: [])) r867.2.1.1 r867.2.1.2.1) fun r870 =>
  (andThen (rc.1 (IntKind.wrap .i64 (a864 - (1 : Int))) r870.2.1.1 r870.2.1.2.1) fun r872 =>
  some ((), ((r872.2.1.1, (r872.2.1.2.1, ())), (((Ex.mk (5 : Int) r870.1 [] []) :: ((Ex.mk r872.1.1 r872.1.2.1 r872.1.2.2.1 r872.1.2.2.2.1) :: [])), ())))))))
noncomputable def F79be (n : Nat) (rc : Q57RC) : Ent G := ⟨79, (.cons (.ptr 0 0) (.cons (.int .i64) .nil)), [(.box 64 (.cons (.imm 1) (.cons (.int .i64) .nil)))], (.own 1), [(.box 64 (.cons (.imm 1) (.cons (.int .i64) .nil))), (.arr 3 true)], fun x y => F79b n rc x.2.1 y.1.1 y.1.2.1⟩
theorem F79b_eq (n : Nat) (rc : Q57RC) (x : ShL.den G (.cons (.ptr 0 0) (.cons (.int .i64) .nil))) (y : denO G [(.box 64 (.cons (.imm 1) (.cons (.int .i64) .nil)))]) : (F79be n rc).F x y = runFn prog G (ro G (tabOf (Q57L n rc)) (frOf []) _) Go.Proofs.Try.f79 .no [(0, (.own 3))] (ShL.enc G (.cons (.ptr 0 0) (.cons (.int .i64) .nil)) x) (encO G [(.box 64 (.cons (.imm 1) (.cons (.int .i64) .nil)))] y) (decR (.own 1) [(.box 64 (.cons (.imm 1) (.cons (.int .i64) .nil))), (.arr 3 true)]) := by kernel_rfl
theorem F79b_ok (n : Nat) (rc : Q57RC) (h : AllE prog G (Q57L n rc)) : EntOK prog G (F79be n rc) :=
  ent_ok (fr := frOf []) (ann := .no) (frm := [(0, (.own 3))]) laws fnok h.tab (e := F79be n rc) (fn := Go.Proofs.Try.f79) (by kernel_rfl) (AllF.ofB (cd := F79bc) (l := []) (by kernel_rfl) (by kernel_rfl) AllF.nil) (F79b_eq n rc)
-- 82 (*loop.example/slowworm/spec.rnd).callExpr
noncomputable def F82bc : Code := bodyOf Go.Proofs.Try.f82
noncomputable def F82b_0x0 : SSh := ⟨42, [(0, (.ptr 0 0)), (1, (.int .i64)), (4, (.ptr 1 0)), (5, (.ptr 2 0))], [(.box 64 (.cons (.imm 1) (.cons (.int .i64) .nil))), (.box 30 (.cons (.int .i64) (.cons .str (.cons .nil0 (.cons .nil0 .nil))))), (.box 30 (.cons (.int .i64) (.cons .str (.cons (.imm 2) (.cons (.imm 3) .nil)))))]⟩
noncomputable def F82b_0x1 : SSh := ⟨42, [(0, (.ptr 0 0)), (1, (.int .i64)), (4, (.ptr 1 0)), (5, (.ptr 2 0))], [(.box 64 (.cons (.imm 1) (.cons (.int .i64) .nil))), (.box 30 (.cons (.int .i64) (.cons .str (.cons .nil0 (.cons .nil0 .nil))))), (.box 30 (.cons (.int .i64) (.cons .str (.cons .nil0 (.cons .nil0 .nil)))))]⟩
noncomputable def F82b_0s : SSh := ⟨42, [(0, (.ptr 0 0)), (1, (.int .i64)), (4, (.ptr 1 0)), (5, (.ptr 2 0))], [(.box 64 (.cons (.imm 1) (.cons (.int .i64) .nil))), (.box 30 (.cons (.int .i64) (.cons .str (.cons .nil0 (.cons .nil0 .nil))))), (.box 30 (.cons (.int .i64) (.cons .str (.cons .nil0 (.cons .nil0 .nil)))))]⟩
noncomputable def F82b_0 {R : Type} (n : Nat) (rc : Q57RC) (x879 : Int) (x880 : List Int) (x881 : Int) (x882 : Int) (x883 : ByteArray) (x884 : Int) (x885 : ByteArray) (k0 : Int → List Int → Int → Int → ByteArray → Int → ByteArray → List ByteArray → List Ex → Option R) (k1 : Int → List Int → Int → Int → ByteArray → Int → ByteArray → Option R) : Option R :=
  (andThen (F59 n (5 : Int) x880 x881) fun r886 =>
  (bif (r886.1 == (0 : Int)) then
  (andThen (rc.1 (IntKind.wrap .i64 (x879 - (1 : Int))) r886.2.1.1 r886.2.1.2.1) fun r889 =>
  (k0 x879 r889.2.1.1 r889.2.1.2.1 x882 x883 r889.1.1 r889.1.2.1 r889.1.2.2.1 r889.1.2.2.2.1))
  else (k1 x879 r886.2.1.1 r886.2.1.2.1 x882 x883 x884 x885)))
noncomputable def F82b_0z (n : Nat) (rc : Q57RC) : Sm G := inZ G 1 ⟨[0, 1, 4, 5], []⟩ F82b_0s fun R x K => F82b_0 n rc x.1.2.1 x.2.1.1 x.2.1.2.1 x.2.2.1.1 x.2.2.1.2.1 x.2.2.2.1.1 x.2.2.2.1.2.1 (fun u0 u1 u2 u3 u4 u5 u6 u7 u8 => K .normal (SSh.enc G F82b_0x0 (((), (u0, ((), ((), ())))), ((u1, (u2, ())), ((u3, (u4, ((), ((), ())))), ((u5, (u6, (u7, (u8, ())))), ())))))) (fun u0 u1 u2 u3 u4 u5 u6 => K .normal (SSh.enc G F82b_0x1 (((), (u0, ((), ((), ())))), ((u1, (u2, ())), ((u3, (u4, ((), ((), ())))), ((u5, (u6, ((), ((), ())))), ()))))))
theorem F82b_0_eq (n : Nat) (rc : Q57RC) (R : Type) (x : SSh.den G F82b_0s) (K : AE → St G → Option R) :
  F82b_0 n rc x.1.2.1 x.2.1.1 x.2.1.2.1 x.2.2.1.1 x.2.2.1.2.1 x.2.2.2.1.1 x.2.2.2.1.2.1 (fun u0 u1 u2 u3 u4 u5 u6 u7 u8 => K .normal (SSh.enc G F82b_0x0 (((), (u0, ((), ((), ())))), ((u1, (u2, ())), ((u3, (u4, ((), ((), ())))), ((u5, (u6, (u7, (u8, ())))), ())))))) (fun u0 u1 u2 u3 u4 u5 u6 => K .normal (SSh.enc G F82b_0x1 (((), (u0, ((), ((), ())))), ((u1, (u2, ())), ((u3, (u4, ((), ((), ())))), ((u5, (u6, ((), ((), ())))), ())))))) = exec prog G (ro G (tabOf (Q57L n rc)) (frOf []) R) 1 (codeAt F82bc [1, 1, 0]) .no (SSh.enc G F82b_0s x) (kNrm G (ro G (tabOf (Q57L n rc)) (frOf []) R) 1 ⟨⟨[0, 1, 4, 5], []⟩, ⟨[4], []⟩, []⟩ K) := by kernel_rfl
theorem F82b_0_ok (n : Nat) (rc : Q57RC) (h : AllE prog G (Q57L n rc)) : FragOK prog G 1 (codeAt F82bc [1, 1, 0]) (F82b_0z n rc) :=
  frag_plain laws fnok h.tab (AllF.of (l := []) (by kernel_rfl) AllF.nil) (F82b_0_eq n rc)
noncomputable def F82b_1x0 : SSh := ⟨42, [(4, (.ptr 1 0)), (6, (.ptr 2 0))], [(.box 64 (.cons (.imm 1) (.cons (.int .i64) .nil))), (.box 30 (.cons (.int .i64) (.cons .str (.cons .nil0 (.cons .nil0 .nil))))), (.box 30 (.cons (.int .i64) (.cons .str (.cons (.own 3) (.cons (.own 4) .nil))))), (.arr 2 true), (.arr 3 true)]⟩
noncomputable def F82b_1x1 : SSh := ⟨42, [(4, (.ptr 1 0)), (6, (.ptr 2 0))], [(.box 64 (.cons (.imm 1) (.cons (.int .i64) .nil))), (.box 30 (.cons (.int .i64) (.cons .str (.cons .nil0 (.cons .nil0 .nil))))), (.box 30 (.cons (.int .i64) (.cons .str (.cons .nil0 (.cons (.own 3) .nil))))), (.arr 3 true)]⟩
noncomputable def F82b_1s : SSh := ⟨42, [(0, (.ptr 0 0)), (1, (.int .i64)), (4, (.ptr 1 0)), (6, (.ptr 2 0))], [(.box 64 (.cons (.imm 1) (.cons (.int .i64) .nil))), (.box 30 (.cons (.int .i64) (.cons .str (.cons .nil0 (.cons .nil0 .nil))))), (.box 30 (.cons (.int .i64) (.cons .str (.cons .nil0 (.cons (.own 3) .nil))))), (.arr 3 true)]⟩
noncomputable def F82b_1 {R : Type} (n : Nat) (rc : Q57RC) (x902 : Int) (x903 : List Int) (x904 : Int) (x905 : Int) (x906 : ByteArray) (x907 : Int) (x908 : ByteArray) (x909 : List Ex) (k0 : List Int → Int → Int → ByteArray → Int → ByteArray → List ByteArray → List Ex → Option R) (k1 : List Int → Int → Int → ByteArray → Int → ByteArray → List Ex → Option R) : Option R :=
  (andThen (F59 n (6 : Int) x903 x904) fun r910 =>
  (bif (r910.1 == (0 : Int)) then
  (andThen (rc.1 (IntKind.wrap .i64 (x902 - (1 : Int))) r910.2.1.1 r910.2.1.2.1) fun r913 =>
  let v914 := ((Ex.mk r913.1.1 r913.1.2.1 r913.1.2.2.1 r913.1.2.2.2.1) :: [])
  (bif (decide (((x909.length) + (v914.length)) ≤ (68719476736 : Nat))) then
  (andThen (F77 n r913.2.1.1 r913.2.1.2.1) fun r916 =>
  (k0 r916.2.1.1 r916.2.1.2.1 x905 x906 x907 x908 (r916.1 :: []) (x909 ++ v914)))
  else none))
  else (k1 r910.2.1.1 r910.2.1.2.1 x905 x906 x907 x908 x909)))
noncomputable def F82b_1z (n : Nat) (rc : Q57RC) : Sm G := inZ G 1 ⟨[0, 1, 4, 6], []⟩ F82b_1s fun R x K => F82b_1 n rc x.1.2.1 x.2.1.1 x.2.1.2.1 x.2.2.1.1 x.2.2.1.2.1 x.2.2.2.1.1 x.2.2.2.1.2.1 x.2.2.2.2.1 (fun u0 u1 u2 u3 u4 u5 u6 u7 => K .normal (SSh.enc G F82b_1x0 (((), ((), ())), ((u0, (u1, ())), ((u2, (u3, ((), ((), ())))), ((u4, (u5, ((), ((), ())))), (u6, (u7, ())))))))) (fun u0 u1 u2 u3 u4 u5 u6 => K .normal (SSh.enc G F82b_1x1 (((), ((), ())), ((u0, (u1, ())), ((u2, (u3, ((), ((), ())))), ((u4, (u5, ((), ((), ())))), (u6, ())))))))
theorem F82b_1_eq (n : Nat) (rc : Q57RC) (R : Type) (x : SSh.den G F82b_1s) (K : AE → St G → Option R) :
  F82b_1 n rc x.1.2.1 x.2.1.1 x.2.1.2.1 x.2.2.1.1 x.2.2.1.2.1 x.2.2.2.1.1 x.2.2.2.1.2.1 x.2.2.2.2.1 (fun u0 u1 u2 u3 u4 u5 u6 u7 => K .normal (SSh.enc G F82b_1x0 (((), ((), ())), ((u0, (u1, ())), ((u2, (u3, ((), ((), ())))), ((u4, (u5, ((), ((), ())))), (u6, (u7, ())))))))) (fun u0 u1 u2 u3 u4 u5 u6 => K .normal (SSh.enc G F82b_1x1 (((), ((), ())), ((u0, (u1, ())), ((u2, (u3, ((), ((), ())))), ((u4, (u5, ((), ((), ())))), (u6, ()))))))) = exec prog G (ro G (tabOf (Q57L n rc)) (frOf [F82b_0z n rc]) R) 1 (codeAt F82bc [1, 1, 1, 1, 0]) .no (SSh.enc G F82b_1s x) (kNrm G (ro G (tabOf (Q57L n rc)) (frOf [F82b_0z n rc]) R) 1 ⟨⟨[4, 6], []⟩, ⟨[4], []⟩, []⟩ K) := by kernel_rfl
theorem F82b_1_ok (n : Nat) (rc : Q57RC) (h : AllE prog G (Q57L n rc)) : FragOK prog G 1 (codeAt F82bc [1, 1, 1, 1, 0]) (F82b_1z n rc) :=
  frag_plain laws fnok h.tab (AllF.of (l := []) (by kernel_rfl) AllF.nil) (F82b_1_eq n rc)
noncomputable def F82b (n : Nat) (rc : Q57RC) (a874 : Int) (a875 : List Int) (a876 : Int) : Option ((Int × (ByteArray × (List ByteArray × (List Ex × Unit)))) × ((List Int × (Int × Unit)) × Unit)) :=
  (andThen (F61 n (({ data := #[108, 101, 110] } : ByteArray) :: (({ data := #[114, 97, 110, 103, 101] } : ByteArray) :: (({ data := #[115, 116, 114] } : ByteArray) :: (({ data := #[112, 114, 105, 110, 116] } : ByteArray) :: (({ data := #[105, 115, 97] } : ByteArray) :: (({ data := #[110, 101, 120, 116] } : ByteArray) :: (({ data := #[102] } : ByteArray) :: (({ data := #[86, 97, 108, 117, 101, 69, 114, 114, 111, 114] } : ByteArray) :: [])))))))) a875 a876) fun r878 =>
  (F82b_0 n rc a874 r878.2.1.1 r878.2.1.2.1 (0 : Int) ({ data := #[] } : ByteArray) (6 : Int) r878.1 (fun z890 z891 z892 z893 z894 z895 z896 z897 z898 =>
  let v899 := ((Ex.mk z895 z896 z897 z898) :: [])
  (andThen (rc.2.1 z890 (2 : Int) z891 z892) fun r900 =>
  (bif (decide (((v899.length) + (r900.1.length)) ≤ (68719476736 : Nat))) then
  (F82b_1 n rc z890 r900.2.1.1 r900.2.1.2.1 z893 z894 (13 : Int) ({ data := #[] } : ByteArray) (v899 ++ r900.1) (fun z918 z919 z920 z921 z922 z923 z924 z925 =>
  some ((z922, (z923, (z924, (z925, ())))), ((z918, (z919, ())), ()))) (fun z926 z927 z928 z929 z930 z931 z932 =>
  some ((z930, (z931, ([], (z932, ())))), ((z926, (z927, ())), ()))))
  else none))) (fun z933 z934 z935 z936 z937 z938 z939 =>
  let v940 := ((Ex.mk z938 z939 [] []) :: [])
  (andThen (rc.2.1 z933 (2 : Int) z934 z935) fun r941 =>
  (bif (decide (((v940.length) + (r941.1.length)) ≤ (68719476736 : Nat))) then
  (F82b_1 n rc z933 r941.2.1.1 r941.2.1.2.1 z936 z937 (13 : Int) ({ data := #[] } : ByteArray) (v940 ++ r941.1) (fun z943 z944 z945 z946 z947 z948 z949 z950 =>
  some ((z947, (z948, (z949, (z950, ())))), ((z943, (z944, ())), ()))) (fun z951 z952 z953 z954 z955 z956 z957 =>
  some ((z955, (z956, ([], (z957, ())))), ((z951, (z952, ())), ()))))
  else none)))))
noncomputable def F82be (n : Nat) (rc : Q57RC) : Ent G := ⟨82, (.cons (.ptr 0 0) (.cons (.int .i64) .nil)), [(.box 64 (.cons (.imm 1) (.cons (.int .i64) .nil)))], (.agg (.cons (.int .i64) (.cons .str (.cons (.imm 2) (.cons (.imm 3) .nil))))), [(.box 64 (.cons (.imm 1) (.cons (.int .i64) .nil)))], fun x y => F82b n rc x.2.1 y.1.1 y.1.2.1⟩
theorem F82b_eq (n : Nat) (rc : Q57RC) (x : ShL.den G (.cons (.ptr 0 0) (.cons (.int .i64) .nil))) (y : denO G [(.box 64 (.cons (.imm 1) (.cons (.int .i64) .nil)))]) : (F82be n rc).F x y = runFn prog G (ro G (tabOf (Q57L n rc)) (frOf [F82b_0z n rc, F82b_1z n rc]) _) Go.Proofs.Try.f82 (.nd .no (.nd .no (.nd (.use 0) (.nd .no (.nd (.use 1) .no))))) [(0, .fz)] (ShL.enc G (.cons (.ptr 0 0) (.cons (.int .i64) .nil)) x) (encO G [(.box 64 (.cons (.imm 1) (.cons (.int .i64) .nil)))] y) (decR (.agg (.cons (.int .i64) (.cons .str (.cons (.imm 2) (.cons (.imm 3) .nil))))) [(.box 64 (.cons (.imm 1) (.cons (.int .i64) .nil)))]) := by kernel_rfl
theorem F82b_ok (n : Nat) (rc : Q57RC) (h : AllE prog G (Q57L n rc)) : EntOK prog G (F82be n rc) :=
  ent_ok (fr := frOf [F82b_0z n rc, F82b_1z n rc]) (ann := (.nd .no (.nd .no (.nd (.use 0) (.nd .no (.nd (.use 1) .no)))))) (frm := [(0, .fz)]) laws fnok h.tab (e := F82be n rc) (fn := Go.Proofs.Try.f82) (by kernel_rfl) (AllF.ofB (cd := F82bc) (l := [(0, codeAt F82bc [1, 1, 0]), (1, codeAt F82bc [1, 1, 1, 1, 0])]) (by kernel_rfl) (by kernel_rfl) (AllF.cons (F82b_0_ok n rc h) (AllF.cons (F82b_1_ok n rc h) AllF.nil))) (F82b_eq n rc)
noncomputable def Q57it (n : Nat) : Nat → Q57RC
  | 0 => (fun _ _ _ => none, fun _ _ _ _ => none, fun _ _ _ => none, fun _ _ _ => none, ())
  | k + 1 => (F57b n (Q57it n k), F78b n (Q57it n k), F79b n (Q57it n k), F82b n (Q57it n k), ())
theorem Q57it_ok (n : Nat) : ∀ k, AllE prog G (Q57L n (Q57it n k))
  | 0 => (AllE.cons (EntOK.none fun _ _ => rfl) (AllE.cons (EntOK.none fun _ _ => rfl) (AllE.cons (EntOK.none fun _ _ => rfl) (AllE.cons (EntOK.none fun _ _ => rfl) (E10_ok n)))))
  | k + 1 => (AllE.cons (F57b_ok n _ (Q57it_ok n k)) (AllE.cons (F78b_ok n _ (Q57it_ok n k)) (AllE.cons (F79b_ok n _ (Q57it_ok n k)) (AllE.cons (F82b_ok n _ (Q57it_ok n k)) (E10_ok n)))))
noncomputable def F57 (n : Nat) (a0 : Int) (a1 : List Int) (a2 : Int) : Option ((Int × (ByteArray × (List ByteArray × (List Ex × Unit)))) × ((List Int × (Int × Unit)) × Unit)) := (Q57it n n).1 a0 a1 a2
noncomputable def F57e (n : Nat) : Ent G := ⟨57, (.cons (.ptr 0 0) (.cons (.int .i64) .nil)), [(.box 64 (.cons (.imm 1) (.cons (.int .i64) .nil)))], (.agg (.cons (.int .i64) (.cons .str (.cons (.imm 2) (.cons (.imm 3) .nil))))), [(.box 64 (.cons (.imm 1) (.cons (.int .i64) .nil)))], fun x y => F57 n x.2.1 y.1.1 y.1.2.1⟩
noncomputable def F78 (n : Nat) (a0 : Int) (a1 : Int) (a2 : List Int) (a3 : Int) : Option (List Ex × ((List Int × (Int × Unit)) × Unit)) := (Q57it n n).2.1 a0 a1 a2 a3
noncomputable def F78e (n : Nat) : Ent G := ⟨78, (.cons (.ptr 0 0) (.cons (.int .i64) (.cons (.int .i64) .nil))), [(.box 64 (.cons (.imm 1) (.cons (.int .i64) .nil)))], (.imm 3), [(.box 64 (.cons (.imm 1) (.cons (.int .i64) .nil)))], fun x y => F78 n x.2.1 x.2.2.1 y.1.1 y.1.2.1⟩
noncomputable def F79 (n : Nat) (a0 : Int) (a1 : List Int) (a2 : Int) : Option (Unit × ((List Int × (Int × Unit)) × (List Ex × Unit))) := (Q57it n n).2.2.1 a0 a1 a2
noncomputable def F79e (n : Nat) : Ent G := ⟨79, (.cons (.ptr 0 0) (.cons (.int .i64) .nil)), [(.box 64 (.cons (.imm 1) (.cons (.int .i64) .nil)))], (.own 1), [(.box 64 (.cons (.imm 1) (.cons (.int .i64) .nil))), (.arr 3 true)], fun x y => F79 n x.2.1 y.1.1 y.1.2.1⟩
noncomputable def F82 (n : Nat) (a0 : Int) (a1 : List Int) (a2 : Int) : Option ((Int × (ByteArray × (List ByteArray × (List Ex × Unit)))) × ((List Int × (Int × Unit)) × Unit)) := (Q57it n n).2.2.2.1 a0 a1 a2
noncomputable def F82e (n : Nat) : Ent G := ⟨82, (.cons (.ptr 0 0) (.cons (.int .i64) .nil)), [(.box 64 (.cons (.imm 1) (.cons (.int .i64) .nil)))], (.agg (.cons (.int .i64) (.cons .str (.cons (.imm 2) (.cons (.imm 3) .nil))))), [(.box 64 (.cons (.imm 1) (.cons (.int .i64) .nil)))], fun x y => F82 n x.2.1 y.1.1 y.1.2.1⟩
noncomputable def E11 (n : Nat) : List (Ent G) := F57e n :: F78e n :: F79e n :: F82e n :: E10 n
theorem E11_ok (n : Nat) : AllE prog G (E11 n) := Q57it_ok n n
-- 60 (*loop.example/slowworm/spec.rnd).often
noncomputable def F60c : Code := bodyOf Go.Proofs.Try.f60
-- 83 (*loop.example/slowworm/spec.rnd).odd
noncomputable def F83c : Code := bodyOf Go.Proofs.Try.f83
noncomputable def F83 (n : Nat) (a975 : List Int) (a976 : Int) : Option (Int × ((List Int × (Int × Unit)) × Unit)) :=
  (andThen (F58 n ((-1 : Int) :: ((4611686018427387904 : Int) :: ((-4611686018427387904 : Int) :: ((1001 : Int) :: ((7 : Int) :: ((1000001 : Int) :: ((-9223372036854775808 : Int) :: ((9223372036854775807 : Int) :: [])))))))) a975 a976) fun r978 =>
  some (r978.1, ((r978.2.1.1, (r978.2.1.2.1, ())), ())))
noncomputable def F83e (n : Nat) : Ent G := ⟨83, (.cons (.ptr 0 0) .nil), [(.box 64 (.cons (.imm 1) (.cons (.int .i64) .nil)))], (.int .i64), [(.box 64 (.cons (.imm 1) (.cons (.int .i64) .nil)))], fun x y => F83 n y.1.1 y.1.2.1⟩
theorem F83_eq (n : Nat) (x : ShL.den G (.cons (.ptr 0 0) .nil)) (y : denO G [(.box 64 (.cons (.imm 1) (.cons (.int .i64) .nil)))]) : (F83e n).F x y = runFn prog G (ro G (tabOf (E11 n)) (frOf []) _) Go.Proofs.Try.f83 .no [(0, .fz)] (ShL.enc G (.cons (.ptr 0 0) .nil) x) (encO G [(.box 64 (.cons (.imm 1) (.cons (.int .i64) .nil)))] y) (decR (.int .i64) [(.box 64 (.cons (.imm 1) (.cons (.int .i64) .nil)))]) := by kernel_rfl
theorem F83_ok (n : Nat) : EntOK prog G (F83e n) :=
  ent_ok (fr := frOf []) (ann := .no) (frm := [(0, .fz)]) laws fnok (E11_ok n).tab (e := F83e n) (fn := Go.Proofs.Try.f83) (by kernel_rfl) (AllF.ofB (cd := F83c) (l := []) (by kernel_rfl) (by kernel_rfl) AllF.nil) (F83_eq n)
noncomputable def E12 (n : Nat) : List (Ent G) := F83e n :: E11 n
theorem E12_ok (n : Nat) : AllE prog G (E12 n) := AllE.cons (F83_ok n) (E11_ok n)
noncomputable def F60 (n : Nat) (a970 : Int) (a971 : List Int) (a972 : Int) : Option (Int × ((List Int × (Int × Unit)) × Unit)) :=
  (andThen (F59 n (16 : Int) a971 a972) fun r973 =>
  (bif (r973.1 == (0 : Int)) then
  (andThen (F83 n r973.2.1.1 r973.2.1.2.1) fun r979 =>
  some (r979.1, ((r979.2.1.1, (r979.2.1.2.1, ())), ())))
  else some (a970, ((r973.2.1.1, (r973.2.1.2.1, ())), ()))))
noncomputable def F60e (n : Nat) : Ent G := ⟨60, (.cons (.ptr 0 0) (.cons (.int .i64) .nil)), [(.box 64 (.cons (.imm 1) (.cons (.int .i64) .nil)))], (.int .i64), [(.box 64 (.cons (.imm 1) (.cons (.int .i64) .nil)))], fun x y => F60 n x.2.1 y.1.1 y.1.2.1⟩
theorem F60_eq (n : Nat) (x : ShL.den G (.cons (.ptr 0 0) (.cons (.int .i64) .nil))) (y : denO G [(.box 64 (.cons (.imm 1) (.cons (.int .i64) .nil)))]) : (F60e n).F x y = runFn prog G (ro G (tabOf (E12 n)) (frOf []) _) Go.Proofs.Try.f60 .no [(0, .fz)] (ShL.enc G (.cons (.ptr 0 0) (.cons (.int .i64) .nil)) x) (encO G [(.box 64 (.cons (.imm 1) (.cons (.int .i64) .nil)))] y) (decR (.int .i64) [(.box 64 (.cons (.imm 1) (.cons (.int .i64) .nil)))]) := by kernel_rfl
theorem F60_ok (n : Nat) : EntOK prog G (F60e n) :=
  ent_ok (fr := frOf []) (ann := .no) (frm := [(0, .fz)]) laws fnok (E12_ok n).tab (e := F60e n) (fn := Go.Proofs.Try.f60) (by kernel_rfl) (AllF.ofB (cd := F60c) (l := []) (by kernel_rfl) (by kernel_rfl) AllF.nil) (F60_eq n)
noncomputable def E13 (n : Nat) : List (Ent G) := F60e n :: E12 n
theorem E13_ok (n : Nat) : AllE prog G (E13 n) := AllE.cons (F60_ok n) (E12_ok n)
-- 62 (*loop.example/slowworm/spec.rnd).word
noncomputable def F62c : Code := bodyOf Go.Proofs.Try.f62
noncomputable def F62 (n : Nat) (a987 : List Int) (a988 : Int) : Option (ByteArray × ((List Int × (Int × Unit)) × Unit)) :=
  (andThen (F61 n (({ data := #[97] } : ByteArray) :: (({ data := #[98] } : ByteArray) :: (({ data := #[120] } : ByteArray) :: (({ data := #[102] } : ByteArray) :: (({ data := #[120, 115] } : ByteArray) :: (({ data := #[95, 49] } : ByteArray) :: (({ data := #[78, 97, 109, 101, 57] } : ByteArray) :: (({ data := #[105, 102] } : ByteArray) :: (({ data := #[78, 111, 110, 101] } : ByteArray) :: (({ data := #[108, 97, 109, 98, 100, 97] } : ByteArray) :: (({ data := #[49, 97] } : ByteArray) :: (({ data := #[] } : ByteArray) :: (({ data := #[97, 45, 98] } : ByteArray) :: (({ data := #[97, 98, 99, 100, 101, 102, 103, 104, 105, 106, 107, 108] } : ByteArray) :: (({ data := #[97, 98, 99, 100, 101, 102, 103, 104, 105, 106, 107, 108, 109] } : ByteArray) :: (({ data := #[105, 115] } : ByteArray) :: (({ data := #[105, 115, 97] } : ByteArray) :: []))))))))))))))))) a987 a988) fun r990 =>
  some (r990.1, ((r990.2.1.1, (r990.2.1.2.1, ())), ())))
noncomputable def F62e (n : Nat) : Ent G := ⟨62, (.cons (.ptr 0 0) .nil), [(.box 64 (.cons (.imm 1) (.cons (.int .i64) .nil)))], .str, [(.box 64 (.cons (.imm 1) (.cons (.int .i64) .nil)))], fun x y => F62 n y.1.1 y.1.2.1⟩
theorem F62_eq (n : Nat) (x : ShL.den G (.cons (.ptr 0 0) .nil)) (y : denO G [(.box 64 (.cons (.imm 1) (.cons (.int .i64) .nil)))]) : (F62e n).F x y = runFn prog G (ro G (tabOf (E13 n)) (frOf []) _) Go.Proofs.Try.f62 .no [(0, .fz)] (ShL.enc G (.cons (.ptr 0 0) .nil) x) (encO G [(.box 64 (.cons (.imm 1) (.cons (.int .i64) .nil)))] y) (decR .str [(.box 64 (.cons (.imm 1) (.cons (.int .i64) .nil)))]) := by kernel_rfl
theorem F62_ok (n : Nat) : EntOK prog G (F62e n) :=
  ent_ok (fr := frOf []) (ann := .no) (frm := [(0, .fz)]) laws fnok (E13_ok n).tab (e := F62e n) (fn := Go.Proofs.Try.f62) (by kernel_rfl) (AllF.ofB (cd := F62c) (l := []) (by kernel_rfl) (by kernel_rfl) AllF.nil) (F62_eq n)
noncomputable def E14 (n : Nat) : List (Ent G) := F62e n :: E13 n
theorem E14_ok (n : Nat) : AllE prog G (E14 n) := AllE.cons (F62_ok n) (E13_ok n)
noncomputable def F41_0x0 : SSh := ⟨36, [(2, (.ptr 1 0)), (3, (.ptr 2 0))], [(.box 64 (.cons (.imm 1) (.cons (.int .i64) .nil))), (.box 30 (.cons (.int .i64) (.cons .str (.cons .nil0 (.cons .nil0 .nil))))), (.box 30 (.cons (.int .i64) (.cons .str (.cons (.imm 2) (.cons (.imm 3) .nil)))))]⟩
noncomputable def F41_0x1 : SSh := ⟨36, [(2, (.ptr 1 0)), (3, (.ptr 2 0))], [(.box 64 (.cons (.imm 1) (.cons (.int .i64) .nil))), (.box 30 (.cons (.int .i64) (.cons .str (.cons .nil0 (.cons .nil0 .nil))))), (.box 30 (.cons (.int .i64) (.cons .str (.cons (.own 3) (.cons (.imm 3) .nil))))), (.arr 2 true)]⟩
noncomputable def F41_0s : SSh := ⟨36, [(0, (.ptr 0 0)), (2, (.ptr 1 0)), (3, (.ptr 2 0))], [(.box 64 (.cons (.imm 1) (.cons (.int .i64) .nil))), (.box 30 (.cons (.int .i64) (.cons .str (.cons .nil0 (.cons .nil0 .nil))))), (.box 30 (.cons (.int .i64) (.cons .str (.cons (.imm 2) (.cons (.imm 3) .nil)))))]⟩
noncomputable def F41_0 {R : Type} (n : Nat) (x959 : List Int) (x960 : Int) (x961 : Int) (x962 : ByteArray) (x963 : Int) (x964 : ByteArray) (x965 : List ByteArray) (x966 : List Ex) (k0 : List Int → Int → Int → ByteArray → Int → ByteArray → List ByteArray → List Ex → Option R) (k1 : List Int → Int → Int → ByteArray → Int → ByteArray → List Ex → List ByteArray → Option R) : Option R :=
  (andThen (F59 n (14 : Int) x959 x960) fun r967 =>
  (bif (r967.1 == (0 : Int)) then
  (andThen (F59 n (19 : Int) r967.2.1.1 r967.2.1.2.1) fun r969 =>
  (andThen (F60 n r969.1 r969.2.1.1 r969.2.1.2.1) fun r980 =>
  (k0 r980.2.1.1 r980.2.1.2.1 x961 x962 r980.1 x964 x965 x966)))
  else (bif (r967.1 == (1 : Int)) then
  (andThen (F61 n (({ data := #[] } : ByteArray) :: (({ data := #[97] } : ByteArray) :: (({ data := #[45, 49] } : ByteArray) :: (({ data := #[43] } : ByteArray) :: (({ data := #[105, 102] } : ByteArray) :: (({ data := #[48, 49] } : ByteArray) :: [])))))) r967.2.1.1 r967.2.1.2.1) fun r983 =>
  (k0 r983.2.1.1 r983.2.1.2.1 x961 x962 x963 r983.1 x965 x966))
  else (bif (r967.1 == (2 : Int)) then
  let v985 := []
  (bif (decide (((v985.length) + (x965.length)) ≤ (68719476736 : Nat))) then
  let v986 := (v985 ++ x965)
  (andThen (F62 n r967.2.1.1 r967.2.1.2.1) fun r991 =>
  let v992 := (r991.1 :: [])
  (bif (decide (((v986.length) + (v992.length)) ≤ (68719476736 : Nat))) then
  (k1 r991.2.1.1 r991.2.1.2.1 x961 x962 x963 x964 x966 (v986 ++ v992))
  else none))
  else none)
  else (k0 r967.2.1.1 r967.2.1.2.1 x961 x962 x963 x964 x965 x966)))))
noncomputable def F41_0z (n : Nat) : Sm G := inZ G 1 ⟨[0, 2, 3], []⟩ F41_0s fun R x K => F41_0 n x.2.1.1 x.2.1.2.1 x.2.2.1.1 x.2.2.1.2.1 x.2.2.2.1.1 x.2.2.2.1.2.1 x.2.2.2.1.2.2.1 x.2.2.2.1.2.2.2.1 (fun u0 u1 u2 u3 u4 u5 u6 u7 => K .normal (SSh.enc G F41_0x0 (((), ((), ())), ((u0, (u1, ())), ((u2, (u3, ((), ((), ())))), ((u4, (u5, (u6, (u7, ())))), ())))))) (fun u0 u1 u2 u3 u4 u5 u6 u7 => K .normal (SSh.enc G F41_0x1 (((), ((), ())), ((u0, (u1, ())), ((u2, (u3, ((), ((), ())))), ((u4, (u5, ((), (u6, ())))), (u7, ())))))))
theorem F41_0_eq (n : Nat) (R : Type) (x : SSh.den G F41_0s) (K : AE → St G → Option R) :
  F41_0 n x.2.1.1 x.2.1.2.1 x.2.2.1.1 x.2.2.1.2.1 x.2.2.2.1.1 x.2.2.2.1.2.1 x.2.2.2.1.2.2.1 x.2.2.2.1.2.2.2.1 (fun u0 u1 u2 u3 u4 u5 u6 u7 => K .normal (SSh.enc G F41_0x0 (((), ((), ())), ((u0, (u1, ())), ((u2, (u3, ((), ((), ())))), ((u4, (u5, (u6, (u7, ())))), ())))))) (fun u0 u1 u2 u3 u4 u5 u6 u7 => K .normal (SSh.enc G F41_0x1 (((), ((), ())), ((u0, (u1, ())), ((u2, (u3, ((), ((), ())))), ((u4, (u5, ((), (u6, ())))), (u7, ()))))))) = exec prog G (ro G (tabOf (E14 n)) (frOf []) R) 1 (codeAt F41c [1, 1, 0]) .no (SSh.enc G F41_0s x) (kNrm G (ro G (tabOf (E14 n)) (frOf []) R) 1 ⟨⟨[2, 3], []⟩, ⟨[2], []⟩, []⟩ K) := by kernel_rfl
theorem F41_0_ok (n : Nat) : FragOK prog G 1 (codeAt F41c [1, 1, 0]) (F41_0z n) :=
  frag_plain laws fnok (E14_ok n).tab (AllF.of (l := []) (by kernel_rfl) AllF.nil) (F41_0_eq n)
noncomputable def F41 (n : Nat) (a9 : List Int) (a10 : Int) : Option ((Int × (ByteArray × (List ByteArray × (List Ex × Unit)))) × ((List Int × (Int × Unit)) × Unit)) :=
  (andThen (F58 n ((1 : Int) :: ((2 : Int) :: ((3 : Int) :: ((4 : Int) :: ((5 : Int) :: ((8 : Int) :: [])))))) a9 a10) fun r79 =>
  (andThen (F57 n r79.1 r79.2.1.1 r79.2.1.2.1) fun r958 =>
  (F41_0 n r958.2.1.1 r958.2.1.2.1 (0 : Int) ({ data := #[] } : ByteArray) r958.1.1 r958.1.2.1 r958.1.2.2.1 r958.1.2.2.2.1 (fun z994 z995 z996 z997 z998 z999 z1000 z1001 =>
  some ((z998, (z999, (z1000, (z1001, ())))), ((z994, (z995, ())), ()))) (fun z1002 z1003 z1004 z1005 z1006 z1007 z1008 z1009 =>
  some ((z1006, (z1007, (z1009, (z1008, ())))), ((z1002, (z1003, ())), ()))))))
noncomputable def F41e (n : Nat) : Ent G := ⟨41, (.cons (.ptr 0 0) .nil), [(.box 64 (.cons (.imm 1) (.cons (.int .i64) .nil)))], (.agg (.cons (.int .i64) (.cons .str (.cons (.imm 2) (.cons (.imm 3) .nil))))), [(.box 64 (.cons (.imm 1) (.cons (.int .i64) .nil)))], fun x y => F41 n y.1.1 y.1.2.1⟩
theorem F41_eq (n : Nat) (x : ShL.den G (.cons (.ptr 0 0) .nil)) (y : denO G [(.box 64 (.cons (.imm 1) (.cons (.int .i64) .nil)))]) : (F41e n).F x y = runFn prog G (ro G (tabOf (E14 n)) (frOf [F41_0z n]) _) Go.Proofs.Try.f41 (.nd .no (.nd .no (.nd (.use 0) .no))) [(0, .fz)] (ShL.enc G (.cons (.ptr 0 0) .nil) x) (encO G [(.box 64 (.cons (.imm 1) (.cons (.int .i64) .nil)))] y) (decR (.agg (.cons (.int .i64) (.cons .str (.cons (.imm 2) (.cons (.imm 3) .nil))))) [(.box 64 (.cons (.imm 1) (.cons (.int .i64) .nil)))]) := by kernel_rfl
theorem F41_ok (n : Nat) : EntOK prog G (F41e n) :=
  ent_ok (fr := frOf [F41_0z n]) (ann := (.nd .no (.nd .no (.nd (.use 0) .no)))) (frm := [(0, .fz)]) laws fnok (E14_ok n).tab (e := F41e n) (fn := Go.Proofs.Try.f41) (by kernel_rfl) (AllF.ofB (cd := F41c) (l := [(0, codeAt F41c [1, 1, 0])]) (by kernel_rfl) (by kernel_rfl) (AllF.cons (F41_0_ok n) AllF.nil)) (F41_eq n)
noncomputable def E15 (n : Nat) : List (Ent G) := F41e n :: E14 n
theorem E15_ok (n : Nat) : AllE prog G (E15 n) := AllE.cons (F41_ok n) (E14_ok n)
noncomputable def F18 (n : Nat) (a3 : List Int) : Option ((Int × (ByteArray × (List ByteArray × (List Ex × Unit)))) × Unit) :=
  (andThen (F40 n a3) fun r8 =>
  (andThen (F41 n r8.2.1.1 r8.2.1.2.1) fun r1010 =>
  some ((r1010.1.1, (r1010.1.2.1, (r1010.1.2.2.1, (r1010.1.2.2.2.1, ())))), ())))
noncomputable def F18e (n : Nat) : Ent G := ⟨18, (.cons (.imm 1) .nil), [], (.agg (.cons (.int .i64) (.cons .str (.cons (.imm 2) (.cons (.imm 3) .nil))))), [], fun x y => F18 n x.1⟩
theorem F18_eq (n : Nat) (x : ShL.den G (.cons (.imm 1) .nil)) (y : denO G []) : (F18e n).F x y = runFn prog G (ro G (tabOf (E15 n)) (frOf []) _) Go.Proofs.Try.f18 .no [(0, .fz)] (ShL.enc G (.cons (.imm 1) .nil) x) (encO G [] y) (decR (.agg (.cons (.int .i64) (.cons .str (.cons (.imm 2) (.cons (.imm 3) .nil))))) []) := by kernel_rfl
theorem F18_ok (n : Nat) : EntOK prog G (F18e n) :=
  ent_ok (fr := frOf []) (ann := .no) (frm := [(0, .fz)]) laws fnok (E15_ok n).tab (e := F18e n) (fn := Go.Proofs.Try.f18) (by kernel_rfl) (AllF.ofB (cd := F18c) (l := []) (by kernel_rfl) (by kernel_rfl) AllF.nil) (F18_eq n)
noncomputable def E16 (n : Nat) : List (Ent G) := F18e n :: E15 n
theorem E16_ok (n : Nat) : AllE prog G (E16 n) := AllE.cons (F18_ok n) (E15_ok n)
-- 15 loop.example/slowworm/impl.ExprSize
noncomputable def F15c : Code := bodyOf Go.Proofs.Try.f15
-- 12 loop.example/slowworm/impl.ExprOk
noncomputable def F12c : Code := bodyOf Go.Proofs.Try.f12
-- 54 (loop.example/slowworm/impl.Expr).shapeOk
noncomputable def F54c : Code := bodyOf Go.Proofs.Try.f54
noncomputable def F54_0x0 : SSh := ⟨175, [(1, (.ptr 0 0)), (3, (.ptr 1 0)), (4, (.ptr 2 0)), (5, (.int .i64)), (6, (.clo 72 (.cons (.ptr 1 0) (.cons (.ptr 2 0) .nil)))), (29, (.int .i64)), (30, .bool)], [(.box 30 (.cons (.int .i64) (.cons .str (.cons (.imm 2) (.cons (.imm 3) .nil))))), (.box 3 (.cons (.int .i64) .nil)), (.box 9 (.cons .str .nil))]⟩
noncomputable def F54_0s : SSh := ⟨175, [(1, (.ptr 0 0)), (3, (.ptr 1 0)), (4, (.ptr 2 0)), (5, (.int .i64)), (6, (.clo 72 (.cons (.ptr 1 0) (.cons (.ptr 2 0) .nil)))), (29, (.int .i64))], [(.box 30 (.cons (.int .i64) (.cons .str (.cons (.imm 2) (.cons (.imm 3) .nil))))), (.box 3 (.cons (.int .i64) .nil)), (.box 9 (.cons .str .nil))]⟩
noncomputable def F54_0 {R : Type} (n : Nat) (x1042 : Int) (x1043 : Int) (x1044 : Int) (x1045 : ByteArray) (x1046 : List ByteArray) (x1047 : List Ex) (x1048 : Int) (x1049 : ByteArray) (k0 : Int → Int → Bool → Int → ByteArray → List ByteArray → List Ex → Int → ByteArray → Option R) : Option R :=
  (bif (x1043 == (1 : Int)) then
  (k0 x1042 x1043 true x1044 x1045 x1046 x1047 x1048 x1049)
  else (bif (x1043 == (2 : Int)) then
  (k0 x1042 x1043 true x1044 x1045 x1046 x1047 x1048 x1049)
  else (k0 x1042 x1043 (x1043 == (3 : Int)) x1044 x1045 x1046 x1047 x1048 x1049)))
noncomputable def F54_0z (n : Nat) : Sm G := inZ G 0 ⟨[1, 3, 4, 5, 6, 29], []⟩ F54_0s fun R x K => F54_0 n x.1.2.2.2.1 x.1.2.2.2.2.2.1 x.2.1.1 x.2.1.2.1 x.2.1.2.2.1 x.2.1.2.2.2.1 x.2.2.1.1 x.2.2.2.1.1 (fun u0 u1 u2 u3 u4 u5 u6 u7 u8 => K .normal (SSh.enc G F54_0x0 (((), ((), ((), (u0, (((), ((), ())), (u1, (u2, ()))))))), ((u3, (u4, (u5, (u6, ())))), ((u7, ()), ((u8, ()), ()))))))
theorem F54_0_eq (n : Nat) (R : Type) (x : SSh.den G F54_0s) (K : AE → St G → Option R) :
  F54_0 n x.1.2.2.2.1 x.1.2.2.2.2.2.1 x.2.1.1 x.2.1.2.1 x.2.1.2.2.1 x.2.1.2.2.2.1 x.2.2.1.1 x.2.2.2.1.1 (fun u0 u1 u2 u3 u4 u5 u6 u7 u8 => K .normal (SSh.enc G F54_0x0 (((), ((), ((), (u0, (((), ((), ())), (u1, (u2, ()))))))), ((u3, (u4, (u5, (u6, ())))), ((u7, ()), ((u8, ()), ())))))) = exec prog G (ro G (tabOf (E16 n)) (frOf []) R) 0 (codeAt F54c [1, 1, 1, 1, 0, 1, 0, 0]) .no (SSh.enc G F54_0s x) (kNrm G (ro G (tabOf (E16 n)) (frOf []) R) 0 ⟨⟨[1, 3, 4, 5, 6, 29, 30], []⟩, ⟨[2], []⟩, [(0, ⟨[], []⟩)]⟩ K) := by kernel_rfl
theorem F54_0_ok (n : Nat) : FragOK prog G 0 (codeAt F54c [1, 1, 1, 1, 0, 1, 0, 0]) (F54_0z n) :=
  frag_plain laws fnok (E16_ok n).tab (AllF.of (l := []) (by kernel_rfl) AllF.nil) (F54_0_eq n)
-- 72 (loop.example/slowworm/impl.Expr).shapeOk$1
noncomputable def F72c : Code := bodyOf Go.Proofs.Try.f72
noncomputable def F72 (n : Nat) (a1062 : Int) (a1063 : Int) (a1064 : ByteArray) : Option (Bool × ((Int × Unit) × ((ByteArray × Unit) × Unit))) :=
  (bif (a1063 == a1062) then
  some (((a1064.toList) == (({ data := #[] } : ByteArray).toList)), ((a1063, ()), ((a1064, ()), ())))
  else some (false, ((a1063, ()), ((a1064, ()), ()))))
noncomputable def F72e (n : Nat) : Ent G := ⟨72, (.cons (.int .i64) (.cons (.ptr 0 0) (.cons (.ptr 1 0) .nil))), [(.box 3 (.cons (.int .i64) .nil)), (.box 9 (.cons .str .nil))], .bool, [(.box 3 (.cons (.int .i64) .nil)), (.box 9 (.cons .str .nil))], fun x y => F72 n x.1 y.1.1 y.2.1.1⟩
theorem F72_eq (n : Nat) (x : ShL.den G (.cons (.int .i64) (.cons (.ptr 0 0) (.cons (.ptr 1 0) .nil)))) (y : denO G [(.box 3 (.cons (.int .i64) .nil)), (.box 9 (.cons .str .nil))]) : (F72e n).F x y = runFn prog G (ro G (tabOf (E16 n)) (frOf []) _) Go.Proofs.Try.f72 .no [(0, .fz)] (ShL.enc G (.cons (.int .i64) (.cons (.ptr 0 0) (.cons (.ptr 1 0) .nil))) x) (encO G [(.box 3 (.cons (.int .i64) .nil)), (.box 9 (.cons .str .nil))] y) (decR .bool [(.box 3 (.cons (.int .i64) .nil)), (.box 9 (.cons .str .nil))]) := by kernel_rfl
theorem F72_ok (n : Nat) : EntOK prog G (F72e n) :=
  ent_ok (fr := frOf []) (ann := .no) (frm := [(0, .fz)]) laws fnok (E16_ok n).tab (e := F72e n) (fn := Go.Proofs.Try.f72) (by kernel_rfl) (AllF.ofB (cd := F72c) (l := []) (by kernel_rfl) (by kernel_rfl) AllF.nil) (F72_eq n)
noncomputable def E17 (n : Nat) : List (Ent G) := F72e n :: E16 n
theorem E17_ok (n : Nat) : AllE prog G (E17 n) := AllE.cons (F72_ok n) (E16_ok n)
-- 73 loop.example/slowworm/impl.IntOk
noncomputable def F73c : Code := bodyOf Go.Proofs.Try.f73
-- 91 strings.CutPrefix
noncomputable def F91c : Code := bodyOf Go.Proofs.Try.f91
-- 94 internal/stringslite.CutPrefix
noncomputable def F94c : Code := bodyOf Go.Proofs.Try.f94
-- 95 internal/stringslite.HasPrefix
noncomputable def F95c : Code := bodyOf Go.Proofs.Try.f95
noncomputable def F95 (n : Nat) (a1076 : ByteArray) (a1077 : ByteArray) : Option (Bool × Unit) :=
  (bif (decide (((a1076.size) : Int) ≥ ((a1077.size) : Int))) then
  let v1081 := ((a1077.size) : Int)
  (bif (decide ((0 : Int) ≤ v1081)) then
  (bif (decide (v1081 ≤ ((a1076.size) : Int))) then
  some ((((a1076.extract (0 : Nat) (v1081.toNat)).toList) == (a1077.toList)), ())
  else none)
  else none)
  else some (false, ()))
noncomputable def F95e (n : Nat) : Ent G := ⟨95, (.cons .str (.cons .str .nil)), [], .bool, [], fun x y => F95 n x.1 x.2.1⟩
theorem F95_eq (n : Nat) (x : ShL.den G (.cons .str (.cons .str .nil))) (y : denO G []) : (F95e n).F x y = runFn prog G (ro G (tabOf (E17 n)) (frOf []) _) Go.Proofs.Try.f95 .no [(0, .fz)] (ShL.enc G (.cons .str (.cons .str .nil)) x) (encO G [] y) (decR .bool []) := by kernel_rfl
theorem F95_ok (n : Nat) : EntOK prog G (F95e n) :=
  ent_ok (fr := frOf []) (ann := .no) (frm := [(0, .fz)]) laws fnok (E17_ok n).tab (e := F95e n) (fn := Go.Proofs.Try.f95) (by kernel_rfl) (AllF.ofB (cd := F95c) (l := []) (by kernel_rfl) (by kernel_rfl) AllF.nil) (F95_eq n)
noncomputable def E18 (n : Nat) : List (Ent G) := F95e n :: E17 n
theorem E18_ok (n : Nat) : AllE prog G (E18 n) := AllE.cons (F95_ok n) (E17_ok n)
noncomputable def F94 (n : Nat) (a1074 : ByteArray) (a1075 : ByteArray) : Option ((ByteArray × (Bool × Unit)) × Unit) :=
  (andThen (F95 n a1074 a1075) fun r1084 =>
  (bif (!r1084.1) then
  some ((a1074, (false, ())), ())
  else let v1086 := ((a1075.size) : Int)
  (bif (decide ((0 : Int) ≤ v1086)) then
  (bif (decide (v1086 ≤ ((a1074.size) : Int))) then
  (bif (decide (((a1074.size) : Int) ≤ ((a1074.size) : Int))) then
  some (((a1074.extract (v1086.toNat) (((a1074.size) : Int).toNat)), (true, ())), ())
  else none)
  else none)
  else none)))
noncomputable def F94e (n : Nat) : Ent G := ⟨94, (.cons .str (.cons .str .nil)), [], (.tup (.cons .str (.cons .bool .nil))), [], fun x y => F94 n x.1 x.2.1⟩
theorem F94_eq (n : Nat) (x : ShL.den G (.cons .str (.cons .str .nil))) (y : denO G []) : (F94e n).F x y = runFn prog G (ro G (tabOf (E18 n)) (frOf []) _) Go.Proofs.Try.f94 .no [(0, .fz), (1, .fz)] (ShL.enc G (.cons .str (.cons .str .nil)) x) (encO G [] y) (decR (.tup (.cons .str (.cons .bool .nil))) []) := by kernel_rfl
theorem F94_ok (n : Nat) : EntOK prog G (F94e n) :=
  ent_ok (fr := frOf []) (ann := .no) (frm := [(0, .fz), (1, .fz)]) laws fnok (E18_ok n).tab (e := F94e n) (fn := Go.Proofs.Try.f94) (by kernel_rfl) (AllF.ofB (cd := F94c) (l := []) (by kernel_rfl) (by kernel_rfl) AllF.nil) (F94_eq n)
noncomputable def E19 (n : Nat) : List (Ent G) := F94e n :: E18 n
theorem E19_ok (n : Nat) : AllE prog G (E19 n) := AllE.cons (F94_ok n) (E18_ok n)
noncomputable def F91 (n : Nat) (a1072 : ByteArray) (a1073 : ByteArray) : Option ((ByteArray × (Bool × Unit)) × Unit) :=
  (andThen (F94 n a1072 a1073) fun r1088 =>
  some ((r1088.1.1, (r1088.1.2.1, ())), ()))
noncomputable def F91e (n : Nat) : Ent G := ⟨91, (.cons .str (.cons .str .nil)), [], (.tup (.cons .str (.cons .bool .nil))), [], fun x y => F91 n x.1 x.2.1⟩
theorem F91_eq (n : Nat) (x : ShL.den G (.cons .str (.cons .str .nil))) (y : denO G []) : (F91e n).F x y = runFn prog G (ro G (tabOf (E19 n)) (frOf []) _) Go.Proofs.Try.f91 .no [(0, .fz), (1, .fz)] (ShL.enc G (.cons .str (.cons .str .nil)) x) (encO G [] y) (decR (.tup (.cons .str (.cons .bool .nil))) []) := by kernel_rfl
theorem F91_ok (n : Nat) : EntOK prog G (F91e n) :=
  ent_ok (fr := frOf []) (ann := .no) (frm := [(0, .fz), (1, .fz)]) laws fnok (E19_ok n).tab (e := F91e n) (fn := Go.Proofs.Try.f91) (by kernel_rfl) (AllF.ofB (cd := F91c) (l := []) (by kernel_rfl) (by kernel_rfl) AllF.nil) (F91_eq n)
noncomputable def E20 (n : Nat) : List (Ent G) := F91e n :: E19 n
theorem E20_ok (n : Nat) : AllE prog G (E20 n) := AllE.cons (F91_ok n) (E19_ok n)
-- 92 loop.example/slowworm/impl.trimmed
noncomputable def F92c : Code := bodyOf Go.Proofs.Try.f92
noncomputable def F92_0x0 : SSh := ⟨21, [(0, (.imm 0))], []⟩
noncomputable def F92_0s : SSh := ⟨21, [(0, (.imm 0))], []⟩
noncomputable def F92_0_step {R : Type} (n : Nat) (k0 : List Int → Option R) (rec : List Int → Option R) (x1149 : List Int) : Option R :=
  (bif (decide (((x1149.length) : Int) > (0 : Int))) then
  let v1153 := (IntKind.wrap .i64 (((x1149.length) : Int) - (1 : Int)))
  (bif (decide ((0 : Int) ≤ v1153)) then
  (bif (decide (v1153 < ((x1149.length) : Int))) then
  (bif ((x1149.getD (v1153.toNat) (0 : Int)) == (0 : Int)) then
  let v1158 := (IntKind.wrap .i64 (((x1149.length) : Int) - (1 : Int)))
  (bif (decide ((0 : Int) ≤ v1158)) then
  (bif (decide (v1158 ≤ ((x1149.length) : Int))) then
  (rec ((x1149.take (v1158.toNat)).drop (0 : Nat)))
  else none)
  else none)
  else (k0 x1149))
  else none)
  else none)
  else (k0 x1149))
noncomputable def F92_0_it {R : Type} (n : Nat) (k0 : List Int → Option R) : Nat → List Int → Option R
  | 0, _ => none
  | k + 1, x1149 => F92_0_step n k0 (F92_0_it n k0 k) x1149
noncomputable def F92_0 {R : Type} (n : Nat) (x1149 : List Int) (k0 : List Int → Option R) : Option R := F92_0_it n k0 n x1149
noncomputable def F92_0z (n : Nat) : Sm G := inZ G 0 ⟨[0], []⟩ F92_0s fun R x K => F92_0_it n (fun u0 => K (.exit 0) (SSh.enc G F92_0x0 ((u0, ()), ()))) n x.1.1
theorem F92_0_eq (n : Nat) (R : Type) (rec : SSh.den G F92_0s → Option R) (x : SSh.den G F92_0s) (K : AE → St G → Option R) :
  F92_0_step n (fun u0 => K (.exit 0) (SSh.enc G F92_0x0 ((u0, ()), ()))) (fun x1149 => rec ((x1149, ()), ())) x.1.1 = exec prog G (ro G (tabOf (E20 n)) (frOf []) R) 0 (codeAt F92c [1, 0, 0, 0]) .no (SSh.enc G F92_0s x) (kLoop G (ro G (tabOf (E20 n)) (frOf []) R) 0 ⟨[0], []⟩ F92_0s ⟨⟨[0], []⟩, ⟨[2], []⟩, [(0, ⟨[0], []⟩)]⟩ rec K) := by kernel_rfl
theorem F92_0_ok (n : Nat) : FragOK prog G 0 (codeAt F92c [1, 0, 0]) (F92_0z n) :=
  frag_loop (Z := fun R k (x : SSh.den G F92_0s) K => F92_0_it n (fun u0 => K (.exit 0) (SSh.enc G F92_0x0 ((u0, ()), ()))) k x.1.1) laws fnok (E20_ok n).tab (AllF.of (l := []) (by kernel_rfl) AllF.nil) (fun _ _ _ => rfl) (fun R k y K => F92_0_eq n R (fun (x : SSh.den G F92_0s) => F92_0_it n (fun u0 => K (.exit 0) (SSh.enc G F92_0x0 ((u0, ()), ()))) k x.1.1) y K) n
noncomputable def F92 (n : Nat) (a1148 : List Int) : Option (List Int × Unit) :=
  (F92_0 n a1148 (fun z1160 =>
  some (z1160, ())))
noncomputable def F92e (n : Nat) : Ent G := ⟨92, (.cons (.imm 0) .nil), [], (.imm 0), [], fun x y => F92 n x.1⟩
theorem F92_eq (n : Nat) (x : ShL.den G (.cons (.imm 0) .nil)) (y : denO G []) : (F92e n).F x y = runFn prog G (ro G (tabOf (E20 n)) (frOf [F92_0z n]) _) Go.Proofs.Try.f92 (.nd .no (.nd (.nd (.use 0) .no) .no)) [(0, .fz)] (ShL.enc G (.cons (.imm 0) .nil) x) (encO G [] y) (decR (.imm 0) []) := by kernel_rfl
theorem F92_ok (n : Nat) : EntOK prog G (F92e n) :=
  ent_ok (fr := frOf [F92_0z n]) (ann := (.nd .no (.nd (.nd (.use 0) .no) .no))) (frm := [(0, .fz)]) laws fnok (E20_ok n).tab (e := F92e n) (fn := Go.Proofs.Try.f92) (by kernel_rfl) (AllF.ofB (cd := F92c) (l := [(0, codeAt F92c [1, 0, 0])]) (by kernel_rfl) (by kernel_rfl) (AllF.cons (F92_0_ok n) AllF.nil)) (F92_eq n)
noncomputable def E21 (n : Nat) : List (Ent G) := F92e n :: E20 n
theorem E21_ok (n : Nat) : AllE prog G (E21 n) := AllE.cons (F92_ok n) (E20_ok n)
-- 88 loop.example/slowworm/impl.parseNumber
noncomputable def F88c : Code := bodyOf Go.Proofs.Try.f88
noncomputable def F88_0x0 : SSh := ⟨70, [(2, (.ptr 0 0)), (3, .bool)], [(.box 82 (.cons .bool (.cons .nil0 .nil)))]⟩
noncomputable def F88_0x1 : SSh := ⟨70, [(2, (.ptr 0 0)), (6, (.ptr 1 0))], [(.box 82 (.cons .bool (.cons .nil0 .nil))), (.box 82 (.cons .bool (.cons (.own 2) .nil))), (.arr 0 true)]⟩
noncomputable def F88_0s : SSh := ⟨70, [(2, (.ptr 0 0)), (4, .str), (6, (.ptr 1 0)), (7, (.int .i64))], [(.box 82 (.cons .bool (.cons .nil0 .nil))), (.box 82 (.cons .bool (.cons (.own 2) .nil))), (.arr 0 true)]⟩
noncomputable def F88_0_step {R : Type} (n : Nat) (k0 : Bool → Bool → Option R) (k1 : Bool → Bool → List Int → Option R) (rec : ByteArray → Int → Bool → Bool → List Int → Option R) (x1174 : ByteArray) (x1175 : Int) (x1176 : Bool) (x1177 : Bool) (x1178 : List Int) : Option R :=
  (bif (decide (x1175 ≥ (0 : Int))) then
  (bif (decide ((0 : Int) ≤ x1175)) then
  (bif (decide (x1175 < ((x1174.size) : Int))) then
  (bif (decide ((strOf x1174 (x1175.toNat)) < (48 : Int))) then
  (k0 false false)
  else (bif (decide ((0 : Int) ≤ x1175)) then
  (bif (decide (x1175 < ((x1174.size) : Int))) then
  (bif (decide ((strOf x1174 (x1175.toNat)) > (57 : Int))) then
  (k0 false false)
  else (bif (decide ((0 : Int) ≤ x1175)) then
  (bif (decide (x1175 < ((x1174.size) : Int))) then
  let v1187 := ((IntKind.wrap .i64 (IntKind.wrap .u8 ((strOf x1174 (x1175.toNat)) - (48 : Int)))) :: [])
  (bif (decide (((x1178.length) + (v1187.length)) ≤ (68719476736 : Nat))) then
  (rec x1174 (IntKind.wrap .i64 (x1175 - (1 : Int))) x1176 x1177 (x1178 ++ v1187))
  else none)
  else none)
  else none))
  else none)
  else none))
  else none)
  else none)
  else (k1 x1176 x1177 x1178))
noncomputable def F88_0_it {R : Type} (n : Nat) (k0 : Bool → Bool → Option R) (k1 : Bool → Bool → List Int → Option R) : Nat → ByteArray → Int → Bool → Bool → List Int → Option R
  | 0, _, _, _, _, _ => none
  | k + 1, x1174, x1175, x1176, x1177, x1178 => F88_0_step n k0 k1 (F88_0_it n k0 k1 k) x1174 x1175 x1176 x1177 x1178
noncomputable def F88_0 {R : Type} (n : Nat) (x1174 : ByteArray) (x1175 : Int) (x1176 : Bool) (x1177 : Bool) (x1178 : List Int) (k0 : Bool → Bool → Option R) (k1 : Bool → Bool → List Int → Option R) : Option R := F88_0_it n k0 k1 n x1174 x1175 x1176 x1177 x1178
noncomputable def F88_0z (n : Nat) : Sm G := inZ G 0 ⟨[2, 4, 6, 7], [(6, (.cell 1 (.own 0)))]⟩ F88_0s fun R x K => F88_0_it n (fun u0 u1 => K .ret (SSh.enc G F88_0x0 (((), (u0, ())), ((u1, ((), ())), ())))) (fun u0 u1 u2 => K (.exit 0) (SSh.enc G F88_0x1 (((), ((), ())), ((u0, ((), ())), ((u1, ((), ())), (u2, ())))))) n x.1.2.1 x.1.2.2.2.1 x.2.1.1 x.2.2.1.1 x.2.2.2.1
theorem F88_0_eq (n : Nat) (R : Type) (rec : SSh.den G F88_0s → Option R) (x : SSh.den G F88_0s) (K : AE → St G → Option R) :
  F88_0_step n (fun u0 u1 => K .ret (SSh.enc G F88_0x0 (((), (u0, ())), ((u1, ((), ())), ())))) (fun u0 u1 u2 => K (.exit 0) (SSh.enc G F88_0x1 (((), ((), ())), ((u0, ((), ())), ((u1, ((), ())), (u2, ())))))) (fun x1174 x1175 x1176 x1177 x1178 => rec (((), (x1174, ((), (x1175, ())))), ((x1176, ((), ())), ((x1177, ((), ())), (x1178, ()))))) x.1.2.1 x.1.2.2.2.1 x.2.1.1 x.2.2.1.1 x.2.2.2.1 = exec prog G (ro G (tabOf (E21 n)) (frOf []) R) 0 (codeAt F88c [1, 1, 1, 1, 0, 1, 0, 0]) .no (SSh.enc G F88_0s x) (kLoop G (ro G (tabOf (E21 n)) (frOf []) R) 0 ⟨[2, 4, 6, 7], [(6, (.cell 1 (.own 0)))]⟩ F88_0s ⟨⟨[2, 6], []⟩, ⟨[2, 3], []⟩, [(0, ⟨[2, 6], []⟩)]⟩ rec K) := by kernel_rfl
theorem F88_0_ok (n : Nat) : FragOK prog G 0 (codeAt F88c [1, 1, 1, 1, 0, 1, 0]) (F88_0z n) :=
  frag_loop (Z := fun R k (x : SSh.den G F88_0s) K => F88_0_it n (fun u0 u1 => K .ret (SSh.enc G F88_0x0 (((), (u0, ())), ((u1, ((), ())), ())))) (fun u0 u1 u2 => K (.exit 0) (SSh.enc G F88_0x1 (((), ((), ())), ((u0, ((), ())), ((u1, ((), ())), (u2, ())))))) k x.1.2.1 x.1.2.2.2.1 x.2.1.1 x.2.2.1.1 x.2.2.2.1) laws fnok (E21_ok n).tab (AllF.of (l := []) (by kernel_rfl) AllF.nil) (fun _ _ _ => rfl) (fun R k y K => F88_0_eq n R (fun (x : SSh.den G F88_0s) => F88_0_it n (fun u0 u1 => K .ret (SSh.enc G F88_0x0 (((), (u0, ())), ((u1, ((), ())), ())))) (fun u0 u1 u2 => K (.exit 0) (SSh.enc G F88_0x1 (((), ((), ())), ((u0, ((), ())), ((u1, ((), ())), (u2, ())))))) k x.1.2.1 x.1.2.2.2.1 x.2.1.1 x.2.2.1.1 x.2.2.2.1) y K) n
noncomputable def F88 (n : Nat) (a1162 : ByteArray) : Option (((Bool × (List Int × Unit)) × (Bool × Unit)) × Unit) :=
  (andThen (F91 n a1162 ({ data := #[45] } : ByteArray)) fun r1163 =>
  (bif (decide (((r1163.1.1.size) : Int) < (1 : Int))) then
  some (((false, ([], ())), (false, ())), ())
  else (bif (decide (((r1163.1.1.size) : Int) > (40 : Int))) then
  some (((false, ([], ())), (false, ())), ())
  else (bif (decide ((0 : Int) < ((r1163.1.1.size) : Int))) then
  (bif ((strOf r1163.1.1 (0 : Nat)) == (48 : Int)) then
  (bif (decide (((r1163.1.1.size) : Int) > (1 : Int))) then
  some (((false, ([], ())), (false, ())), ())
  else (bif r1163.1.2.1 then
  some (((false, ([], ())), (false, ())), ())
  else (F88_0 n r1163.1.1 (IntKind.wrap .i64 (((r1163.1.1.size) : Int) - (1 : Int))) false r1163.1.2.1 [] (fun z1190 z1191 =>
  some (((z1191, ([], ())), (z1190, ())), ())) (fun z1192 z1193 z1194 =>
  (andThen (F92 n z1194) fun r1195 =>
  some (((z1193, (r1195.1, ())), (true, ())), ()))))))
  else (F88_0 n r1163.1.1 (IntKind.wrap .i64 (((r1163.1.1.size) : Int) - (1 : Int))) false r1163.1.2.1 [] (fun z1198 z1199 =>
  some (((z1199, ([], ())), (z1198, ())), ())) (fun z1200 z1201 z1202 =>
  (andThen (F92 n z1202) fun r1203 =>
  some (((z1201, (r1203.1, ())), (true, ())), ())))))
  else none))))
noncomputable def F88e (n : Nat) : Ent G := ⟨88, (.cons .str .nil), [], (.tup (.cons (.agg (.cons .bool (.cons (.imm 0) .nil))) (.cons .bool .nil))), [], fun x y => F88 n x.1⟩
theorem F88_eq (n : Nat) (x : ShL.den G (.cons .str .nil)) (y : denO G []) : (F88e n).F x y = runFn prog G (ro G (tabOf (E21 n)) (frOf [F88_0z n]) _) Go.Proofs.Try.f88 (.nd .no (.nd .no (.nd .no (.nd .no (.nd (.nd .no (.nd (.use 0) .no)) .no))))) [(0, .fz), (1, .fz)] (ShL.enc G (.cons .str .nil) x) (encO G [] y) (decR (.tup (.cons (.agg (.cons .bool (.cons (.imm 0) .nil))) (.cons .bool .nil))) []) := by kernel_rfl
theorem F88_ok (n : Nat) : EntOK prog G (F88e n) :=
  ent_ok (fr := frOf [F88_0z n]) (ann := (.nd .no (.nd .no (.nd .no (.nd .no (.nd (.nd .no (.nd (.use 0) .no)) .no)))))) (frm := [(0, .fz), (1, .fz)]) laws fnok (E21_ok n).tab (e := F88e n) (fn := Go.Proofs.Try.f88) (by kernel_rfl) (AllF.ofB (cd := F88c) (l := [(0, codeAt F88c [1, 1, 1, 1, 0, 1, 0])]) (by kernel_rfl) (by kernel_rfl) (AllF.cons (F88_0_ok n) AllF.nil)) (F88_eq n)
noncomputable def E22 (n : Nat) : List (Ent G) := F88e n :: E21 n
theorem E22_ok (n : Nat) : AllE prog G (E22 n) := AllE.cons (F88_ok n) (E21_ok n)
noncomputable def F73 (n : Nat) (a1070 : ByteArray) : Option (Bool × Unit) :=
  (andThen (F88 n a1070) fun r1204 =>
  some (r1204.1.2.1, ()))
noncomputable def F73e (n : Nat) : Ent G := ⟨73, (.cons .str .nil), [], .bool, [], fun x y => F73 n x.1⟩
theorem F73_eq (n : Nat) (x : ShL.den G (.cons .str .nil)) (y : denO G []) : (F73e n).F x y = runFn prog G (ro G (tabOf (E22 n)) (frOf []) _) Go.Proofs.Try.f73 .no [(0, .fz)] (ShL.enc G (.cons .str .nil) x) (encO G [] y) (decR .bool []) := by kernel_rfl
theorem F73_ok (n : Nat) : EntOK prog G (F73e n) :=
  ent_ok (fr := frOf []) (ann := .no) (frm := [(0, .fz)]) laws fnok (E22_ok n).tab (e := F73e n) (fn := Go.Proofs.Try.f73) (by kernel_rfl) (AllF.ofB (cd := F73c) (l := []) (by kernel_rfl) (by kernel_rfl) AllF.nil) (F73_eq n)
noncomputable def E23 (n : Nat) : List (Ent G) := F73e n :: E22 n
theorem E23_ok (n : Nat) : AllE prog G (E23 n) := AllE.cons (F73_ok n) (E22_ok n)
-- 27 loop.example/slowworm/impl.NameOk
noncomputable def F27c : Code := bodyOf Go.Proofs.Try.f27
-- 49 loop.example/slowworm/impl.isDigit
noncomputable def F49c : Code := bodyOf Go.Proofs.Try.f49
noncomputable def F49 (n : Nat) (a1220 : Int) : Option (Bool × Unit) :=
  (bif (decide (a1220 ≥ (48 : Int))) then
  some ((decide (a1220 ≤ (57 : Int))), ())
  else some (false, ()))
noncomputable def F49e (n : Nat) : Ent G := ⟨49, (.cons (.int .u8) .nil), [], .bool, [], fun x y => F49 n x.1⟩
theorem F49_eq (n : Nat) (x : ShL.den G (.cons (.int .u8) .nil)) (y : denO G []) : (F49e n).F x y = runFn prog G (ro G (tabOf (E23 n)) (frOf []) _) Go.Proofs.Try.f49 .no [(0, .fz)] (ShL.enc G (.cons (.int .u8) .nil) x) (encO G [] y) (decR .bool []) := by kernel_rfl
theorem F49_ok (n : Nat) : EntOK prog G (F49e n) :=
  ent_ok (fr := frOf []) (ann := .no) (frm := [(0, .fz)]) laws fnok (E23_ok n).tab (e := F49e n) (fn := Go.Proofs.Try.f49) (by kernel_rfl) (AllF.ofB (cd := F49c) (l := []) (by kernel_rfl) (by kernel_rfl) AllF.nil) (F49_eq n)
noncomputable def E24 (n : Nat) : List (Ent G) := F49e n :: E23 n
theorem E24_ok (n : Nat) : AllE prog G (E24 n) := AllE.cons (F49_ok n) (E23_ok n)
-- 50 loop.example/slowworm/impl.IsKeyword
noncomputable def F50c : Code := bodyOf Go.Proofs.Try.f50
-- 65 loop.example/slowworm/impl.keywords
noncomputable def F65c : Code := bodyOf Go.Proofs.Try.f65
noncomputable def F65 (n : Nat)  : Option (List ByteArray × Unit) :=
  some ((({ data := #[78, 111, 110, 101] } : ByteArray) :: (({ data := #[84, 114, 117, 101] } : ByteArray) :: (({ data := #[70, 97, 108, 115, 101] } : ByteArray) :: (({ data := #[97, 110, 100] } : ByteArray) :: (({ data := #[111, 114] } : ByteArray) :: (({ data := #[110, 111, 116] } : ByteArray) :: (({ data := #[105, 110] } : ByteArray) :: (({ data := #[105, 115] } : ByteArray) :: (({ data := #[105, 102] } : ByteArray) :: (({ data := #[101, 108, 105, 102] } : ByteArray) :: (({ data := #[101, 108, 115, 101] } : ByteArray) :: (({ data := #[119, 104, 105, 108, 101] } : ByteArray) :: (({ data := #[102, 111, 114] } : ByteArray) :: (({ data := #[98, 114, 101, 97, 107] } : ByteArray) :: (({ data := #[99, 111, 110, 116, 105, 110, 117, 101] } : ByteArray) :: (({ data := #[112, 97, 115, 115] } : ByteArray) :: (({ data := #[100, 101, 102] } : ByteArray) :: (({ data := #[114, 101, 116, 117, 114, 110] } : ByteArray) :: (({ data := #[108, 97, 109, 98, 100, 97] } : ByteArray) :: (({ data := #[99, 108, 97, 115, 115] } : ByteArray) :: (({ data := #[116, 114, 121] } : ByteArray) :: (({ data := #[101, 120, 99, 101, 112, 116] } : ByteArray) :: (({ data := #[102, 105, 110, 97, 108, 108, 121] } : ByteArray) :: (({ data := #[114, 97, 105, 115, 101] } : ByteArray) :: (({ data := #[97, 115] } : ByteArray) :: (({ data := #[103, 108, 111, 98, 97, 108] } : ByteArray) :: (({ data := #[110, 111, 110, 108, 111, 99, 97, 108] } : ByteArray) :: (({ data := #[121, 105, 101, 108, 100] } : ByteArray) :: (({ data := #[105, 109, 112, 111, 114, 116] } : ByteArray) :: (({ data := #[100, 101, 108] } : ByteArray) :: (({ data := #[97, 115, 115, 101, 114, 116] } : ByteArray) :: []))))))))))))))))))))))))))))))), ())
noncomputable def F65e (n : Nat) : Ent G := ⟨65, .nil, [], (.imm 2), [], fun x y => F65 n⟩
theorem F65_eq (n : Nat) (x : ShL.den G .nil) (y : denO G []) : (F65e n).F x y = runFn prog G (ro G (tabOf (E24 n)) (frOf []) _) Go.Proofs.Try.f65 .no [(0, .fz)] (ShL.enc G .nil x) (encO G [] y) (decR (.imm 2) []) := by kernel_rfl
theorem F65_ok (n : Nat) : EntOK prog G (F65e n) :=
  ent_ok (fr := frOf []) (ann := .no) (frm := [(0, .fz)]) laws fnok (E24_ok n).tab (e := F65e n) (fn := Go.Proofs.Try.f65) (by kernel_rfl) (AllF.ofB (cd := F65c) (l := []) (by kernel_rfl) (by kernel_rfl) AllF.nil) (F65_eq n)
noncomputable def E25 (n : Nat) : List (Ent G) := F65e n :: E24 n
theorem E25_ok (n : Nat) : AllE prog G (E25 n) := AllE.cons (F65_ok n) (E24_ok n)
-- 45 slices.Contains[[]string,string]
noncomputable def F45c : Code := bodyOf Go.Proofs.Try.f45
-- 64 slices.Index[[]string,string]
noncomputable def F64c : Code := bodyOf Go.Proofs.Try.f64
noncomputable def F64_0x0 : SSh := ⟨19, [(4, (.int .i64))], []⟩
noncomputable def F64_0x1 : SSh := ⟨19, [], []⟩
noncomputable def F64_0s : SSh := ⟨19, [(0, (.imm 2)), (1, .str), (7, (.int .i64)), (8, (.int .i64))], []⟩
noncomputable def F64_0_step {R : Type} (n : Nat) (k0 : Int → Option R) (k1 : Option R) (rec : List ByteArray → ByteArray → Int → Int → Option R) (x1232 : List ByteArray) (x1233 : ByteArray) (x1234 : Int) (x1235 : Int) : Option R :=
  (bif (decide (x1235 < x1234)) then
  (bif (decide ((0 : Int) ≤ x1235)) then
  (bif (decide (x1235 < ((x1232.length) : Int))) then
  (bif ((x1233.toList) == ((x1232.getD (x1235.toNat) ({ data := #[] } : ByteArray)).toList)) then
  (k0 x1235)
  else (rec x1232 x1233 x1234 (IntKind.wrap .i64 (x1235 + (1 : Int)))))
  else none)
  else none)
  else k1)
noncomputable def F64_0_it {R : Type} (n : Nat) (k0 : Int → Option R) (k1 : Option R) : Nat → List ByteArray → ByteArray → Int → Int → Option R
  | 0, _, _, _, _ => none
  | k + 1, x1232, x1233, x1234, x1235 => F64_0_step n k0 k1 (F64_0_it n k0 k1 k) x1232 x1233 x1234 x1235
noncomputable def F64_0 {R : Type} (n : Nat) (x1232 : List ByteArray) (x1233 : ByteArray) (x1234 : Int) (x1235 : Int) (k0 : Int → Option R) (k1 : Option R) : Option R := F64_0_it n k0 k1 n x1232 x1233 x1234 x1235
noncomputable def F64_0z (n : Nat) : Sm G := inZ G 0 ⟨[0, 1, 7, 8], []⟩ F64_0s fun R x K => F64_0_it n (fun u0 => K .ret (SSh.enc G F64_0x0 ((u0, ()), ()))) (K (.exit 0) (SSh.enc G F64_0x1 ((), ()))) n x.1.1 x.1.2.1 x.1.2.2.1 x.1.2.2.2.1
theorem F64_0_eq (n : Nat) (R : Type) (rec : SSh.den G F64_0s → Option R) (x : SSh.den G F64_0s) (K : AE → St G → Option R) :
  F64_0_step n (fun u0 => K .ret (SSh.enc G F64_0x0 ((u0, ()), ()))) (K (.exit 0) (SSh.enc G F64_0x1 ((), ()))) (fun x1232 x1233 x1234 x1235 => rec ((x1232, (x1233, (x1234, (x1235, ())))), ())) x.1.1 x.1.2.1 x.1.2.2.1 x.1.2.2.2.1 = exec prog G (ro G (tabOf (E25 n)) (frOf []) R) 0 (codeAt F64c [1, 0, 1, 0, 0]) .no (SSh.enc G F64_0s x) (kLoop G (ro G (tabOf (E25 n)) (frOf []) R) 0 ⟨[0, 1, 7, 8], []⟩ F64_0s ⟨⟨[], []⟩, ⟨[4], []⟩, [(0, ⟨[], []⟩)]⟩ rec K) := by kernel_rfl
theorem F64_0_ok (n : Nat) : FragOK prog G 0 (codeAt F64c [1, 0, 1, 0]) (F64_0z n) :=
  frag_loop (Z := fun R k (x : SSh.den G F64_0s) K => F64_0_it n (fun u0 => K .ret (SSh.enc G F64_0x0 ((u0, ()), ()))) (K (.exit 0) (SSh.enc G F64_0x1 ((), ()))) k x.1.1 x.1.2.1 x.1.2.2.1 x.1.2.2.2.1) laws fnok (E25_ok n).tab (AllF.of (l := []) (by kernel_rfl) AllF.nil) (fun _ _ _ => rfl) (fun R k y K => F64_0_eq n R (fun (x : SSh.den G F64_0s) => F64_0_it n (fun u0 => K .ret (SSh.enc G F64_0x0 ((u0, ()), ()))) (K (.exit 0) (SSh.enc G F64_0x1 ((), ()))) k x.1.1 x.1.2.1 x.1.2.2.1 x.1.2.2.2.1) y K) n
noncomputable def F64 (n : Nat) (a1229 : List ByteArray) (a1230 : ByteArray) : Option (Int × Unit) :=
  (F64_0 n a1229 a1230 ((a1229.length) : Int) (0 : Int) (fun z1241 =>
  some (z1241, ())) (
  some ((-1 : Int), ())))
noncomputable def F64e (n : Nat) : Ent G := ⟨64, (.cons (.imm 2) (.cons .str .nil)), [], (.int .i64), [], fun x y => F64 n x.1 x.2.1⟩
theorem F64_eq (n : Nat) (x : ShL.den G (.cons (.imm 2) (.cons .str .nil))) (y : denO G []) : (F64e n).F x y = runFn prog G (ro G (tabOf (E25 n)) (frOf [F64_0z n]) _) Go.Proofs.Try.f64 (.nd .no (.nd (.nd .no (.nd (.use 0) .no)) .no)) [(0, .fz)] (ShL.enc G (.cons (.imm 2) (.cons .str .nil)) x) (encO G [] y) (decR (.int .i64) []) := by kernel_rfl
theorem F64_ok (n : Nat) : EntOK prog G (F64e n) :=
  ent_ok (fr := frOf [F64_0z n]) (ann := (.nd .no (.nd (.nd .no (.nd (.use 0) .no)) .no))) (frm := [(0, .fz)]) laws fnok (E25_ok n).tab (e := F64e n) (fn := Go.Proofs.Try.f64) (by kernel_rfl) (AllF.ofB (cd := F64c) (l := [(0, codeAt F64c [1, 0, 1, 0])]) (by kernel_rfl) (by kernel_rfl) (AllF.cons (F64_0_ok n) AllF.nil)) (F64_eq n)
noncomputable def E26 (n : Nat) : List (Ent G) := F64e n :: E25 n
theorem E26_ok (n : Nat) : AllE prog G (E26 n) := AllE.cons (F64_ok n) (E25_ok n)
noncomputable def F45 (n : Nat) (a1227 : List ByteArray) (a1228 : ByteArray) : Option (Bool × Unit) :=
  (andThen (F64 n a1227 a1228) fun r1242 =>
  some ((decide (r1242.1 ≥ (0 : Int))), ()))
noncomputable def F45e (n : Nat) : Ent G := ⟨45, (.cons (.imm 2) (.cons .str .nil)), [], .bool, [], fun x y => F45 n x.1 x.2.1⟩
theorem F45_eq (n : Nat) (x : ShL.den G (.cons (.imm 2) (.cons .str .nil))) (y : denO G []) : (F45e n).F x y = runFn prog G (ro G (tabOf (E26 n)) (frOf []) _) Go.Proofs.Try.f45 .no [(0, .fz)] (ShL.enc G (.cons (.imm 2) (.cons .str .nil)) x) (encO G [] y) (decR .bool []) := by kernel_rfl
theorem F45_ok (n : Nat) : EntOK prog G (F45e n) :=
  ent_ok (fr := frOf []) (ann := .no) (frm := [(0, .fz)]) laws fnok (E26_ok n).tab (e := F45e n) (fn := Go.Proofs.Try.f45) (by kernel_rfl) (AllF.ofB (cd := F45c) (l := []) (by kernel_rfl) (by kernel_rfl) AllF.nil) (F45_eq n)
noncomputable def E27 (n : Nat) : List (Ent G) := F45e n :: E26 n
theorem E27_ok (n : Nat) : AllE prog G (E27 n) := AllE.cons (F45_ok n) (E26_ok n)
noncomputable def F50 (n : Nat) (a1224 : ByteArray) : Option (Bool × Unit) :=
  (andThen (F65 n) fun r1226 =>
  (andThen (F45 n r1226.1 a1224) fun r1244 =>
  some (r1244.1, ())))
noncomputable def F50e (n : Nat) : Ent G := ⟨50, (.cons .str .nil), [], .bool, [], fun x y => F50 n x.1⟩
theorem F50_eq (n : Nat) (x : ShL.den G (.cons .str .nil)) (y : denO G []) : (F50e n).F x y = runFn prog G (ro G (tabOf (E27 n)) (frOf []) _) Go.Proofs.Try.f50 .no [(0, .fz)] (ShL.enc G (.cons .str .nil) x) (encO G [] y) (decR .bool []) := by kernel_rfl
theorem F50_ok (n : Nat) : EntOK prog G (F50e n) :=
  ent_ok (fr := frOf []) (ann := .no) (frm := [(0, .fz)]) laws fnok (E27_ok n).tab (e := F50e n) (fn := Go.Proofs.Try.f50) (by kernel_rfl) (AllF.ofB (cd := F50c) (l := []) (by kernel_rfl) (by kernel_rfl) AllF.nil) (F50_eq n)
noncomputable def E28 (n : Nat) : List (Ent G) := F50e n :: E27 n
theorem E28_ok (n : Nat) : AllE prog G (E28 n) := AllE.cons (F50_ok n) (E27_ok n)
-- 51 loop.example/slowworm/impl.isLetter
noncomputable def F51c : Code := bodyOf Go.Proofs.Try.f51
noncomputable def F51 (n : Nat) (a1252 : Int) : Option (Bool × Unit) :=
  (bif (a1252 == (95 : Int)) then
  some (true, ())
  else (bif (decide (a1252 ≥ (97 : Int))) then
  (bif (decide (a1252 ≤ (122 : Int))) then
  some (true, ())
  else (bif (decide (a1252 ≥ (65 : Int))) then
  some ((decide (a1252 ≤ (90 : Int))), ())
  else some (false, ())))
  else (bif (decide (a1252 ≥ (65 : Int))) then
  some ((decide (a1252 ≤ (90 : Int))), ())
  else some (false, ()))))
noncomputable def F51e (n : Nat) : Ent G := ⟨51, (.cons (.int .u8) .nil), [], .bool, [], fun x y => F51 n x.1⟩
theorem F51_eq (n : Nat) (x : ShL.den G (.cons (.int .u8) .nil)) (y : denO G []) : (F51e n).F x y = runFn prog G (ro G (tabOf (E28 n)) (frOf []) _) Go.Proofs.Try.f51 .no [(0, .fz)] (ShL.enc G (.cons (.int .u8) .nil) x) (encO G [] y) (decR .bool []) := by kernel_rfl
theorem F51_ok (n : Nat) : EntOK prog G (F51e n) :=
  ent_ok (fr := frOf []) (ann := .no) (frm := [(0, .fz)]) laws fnok (E28_ok n).tab (e := F51e n) (fn := Go.Proofs.Try.f51) (by kernel_rfl) (AllF.ofB (cd := F51c) (l := []) (by kernel_rfl) (by kernel_rfl) AllF.nil) (F51_eq n)
noncomputable def E29 (n : Nat) : List (Ent G) := F51e n :: E28 n
theorem E29_ok (n : Nat) : AllE prog G (E29 n) := AllE.cons (F51_ok n) (E28_ok n)
noncomputable def F27_0x0 : SSh := ⟨39, [(2, .bool)], []⟩
noncomputable def F27_0x1 : SSh := ⟨39, [], []⟩
noncomputable def F27_0s : SSh := ⟨39, [(0, .str), (22, (.int .i64)), (23, (.int .i64))], []⟩
noncomputable def F27_0_step {R : Type} (n : Nat) (k0 : Bool → Option R) (k1 : Option R) (rec : ByteArray → Int → Int → Option R) (x1247 : ByteArray) (x1248 : Int) (x1249 : Int) : Option R :=
  (bif (decide (x1249 < x1248)) then
  (bif (decide ((0 : Int) ≤ x1249)) then
  (bif (decide (x1249 < ((x1247.size) : Int))) then
  (andThen (F51 n (strOf x1247 (x1249.toNat))) fun r1260 =>
  (bif (!r1260.1) then
  (bif (decide ((0 : Int) ≤ x1249)) then
  (bif (decide (x1249 < ((x1247.size) : Int))) then
  (andThen (F49 n (strOf x1247 (x1249.toNat))) fun r1263 =>
  (bif (!r1263.1) then
  (k0 false)
  else (rec x1247 x1248 (IntKind.wrap .i64 (x1249 + (1 : Int))))))
  else none)
  else none)
  else (rec x1247 x1248 (IntKind.wrap .i64 (x1249 + (1 : Int))))))
  else none)
  else none)
  else k1)
noncomputable def F27_0_it {R : Type} (n : Nat) (k0 : Bool → Option R) (k1 : Option R) : Nat → ByteArray → Int → Int → Option R
  | 0, _, _, _ => none
  | k + 1, x1247, x1248, x1249 => F27_0_step n k0 k1 (F27_0_it n k0 k1 k) x1247 x1248 x1249
noncomputable def F27_0 {R : Type} (n : Nat) (x1247 : ByteArray) (x1248 : Int) (x1249 : Int) (k0 : Bool → Option R) (k1 : Option R) : Option R := F27_0_it n k0 k1 n x1247 x1248 x1249
noncomputable def F27_0z (n : Nat) : Sm G := inZ G 0 ⟨[0, 22, 23], []⟩ F27_0s fun R x K => F27_0_it n (fun u0 => K .ret (SSh.enc G F27_0x0 ((u0, ()), ()))) (K (.exit 0) (SSh.enc G F27_0x1 ((), ()))) n x.1.1 x.1.2.1 x.1.2.2.1
theorem F27_0_eq (n : Nat) (R : Type) (rec : SSh.den G F27_0s → Option R) (x : SSh.den G F27_0s) (K : AE → St G → Option R) :
  F27_0_step n (fun u0 => K .ret (SSh.enc G F27_0x0 ((u0, ()), ()))) (K (.exit 0) (SSh.enc G F27_0x1 ((), ()))) (fun x1247 x1248 x1249 => rec ((x1247, (x1248, (x1249, ()))), ())) x.1.1 x.1.2.1 x.1.2.2.1 = exec prog G (ro G (tabOf (E29 n)) (frOf []) R) 0 (codeAt F27c [1, 1, 0, 1, 0, 0]) .no (SSh.enc G F27_0s x) (kLoop G (ro G (tabOf (E29 n)) (frOf []) R) 0 ⟨[0, 22, 23], []⟩ F27_0s ⟨⟨[], []⟩, ⟨[2], []⟩, [(0, ⟨[], []⟩)]⟩ rec K) := by kernel_rfl
theorem F27_0_ok (n : Nat) : FragOK prog G 0 (codeAt F27c [1, 1, 0, 1, 0]) (F27_0z n) :=
  frag_loop (Z := fun R k (x : SSh.den G F27_0s) K => F27_0_it n (fun u0 => K .ret (SSh.enc G F27_0x0 ((u0, ()), ()))) (K (.exit 0) (SSh.enc G F27_0x1 ((), ()))) k x.1.1 x.1.2.1 x.1.2.2.1) laws fnok (E29_ok n).tab (AllF.of (l := []) (by kernel_rfl) AllF.nil) (fun _ _ _ => rfl) (fun R k y K => F27_0_eq n R (fun (x : SSh.den G F27_0s) => F27_0_it n (fun u0 => K .ret (SSh.enc G F27_0x0 ((u0, ()), ()))) (K (.exit 0) (SSh.enc G F27_0x1 ((), ()))) k x.1.1 x.1.2.1 x.1.2.2.1) y K) n
noncomputable def F27 (n : Nat) (a1214 : ByteArray) : Option (Bool × Unit) :=
  (bif (decide (((a1214.size) : Int) < (1 : Int))) then
  some (false, ())
  else (bif (decide (((a1214.size) : Int) > (12 : Int))) then
  some (false, ())
  else (bif (decide ((0 : Int) < ((a1214.size) : Int))) then
  (andThen (F49 n (strOf a1214 (0 : Nat))) fun r1223 =>
  (bif r1223.1 then
  some (false, ())
  else (andThen (F50 n a1214) fun r1245 =>
  (bif r1245.1 then
  some (false, ())
  else (F27_0 n a1214 ((a1214.size) : Int) (0 : Int) (fun z1267 =>
  some (z1267, ())) (
  some (true, ())))))))
  else none)))
noncomputable def F27e (n : Nat) : Ent G := ⟨27, (.cons .str .nil), [], .bool, [], fun x y => F27 n x.1⟩
theorem F27_eq (n : Nat) (x : ShL.den G (.cons .str .nil)) (y : denO G []) : (F27e n).F x y = runFn prog G (ro G (tabOf (E29 n)) (frOf [F27_0z n]) _) Go.Proofs.Try.f27 (.nd .no (.nd .no (.nd (.nd .no (.nd (.use 0) .no)) .no))) [(0, .fz)] (ShL.enc G (.cons .str .nil) x) (encO G [] y) (decR .bool []) := by kernel_rfl
theorem F27_ok (n : Nat) : EntOK prog G (F27e n) :=
  ent_ok (fr := frOf [F27_0z n]) (ann := (.nd .no (.nd .no (.nd (.nd .no (.nd (.use 0) .no)) .no)))) (frm := [(0, .fz)]) laws fnok (E29_ok n).tab (e := F27e n) (fn := Go.Proofs.Try.f27) (by kernel_rfl) (AllF.ofB (cd := F27c) (l := [(0, codeAt F27c [1, 1, 0, 1, 0])]) (by kernel_rfl) (by kernel_rfl) (AllF.cons (F27_0_ok n) AllF.nil)) (F27_eq n)
noncomputable def E30 (n : Nat) : List (Ent G) := F27e n :: E29 n
theorem E30_ok (n : Nat) : AllE prog G (E30 n) := AllE.cons (F27_ok n) (E29_ok n)
-- 74 loop.example/slowworm/impl.binaryOps
noncomputable def F74c : Code := bodyOf Go.Proofs.Try.f74
noncomputable def F74 (n : Nat)  : Option (List ByteArray × Unit) :=
  some ((({ data := #[43] } : ByteArray) :: (({ data := #[45] } : ByteArray) :: (({ data := #[42] } : ByteArray) :: (({ data := #[47, 47] } : ByteArray) :: (({ data := #[37] } : ByteArray) :: (({ data := #[42, 42] } : ByteArray) :: (({ data := #[60] } : ByteArray) :: (({ data := #[60, 61] } : ByteArray) :: (({ data := #[62] } : ByteArray) :: (({ data := #[62, 61] } : ByteArray) :: (({ data := #[61, 61] } : ByteArray) :: (({ data := #[33, 61] } : ByteArray) :: (({ data := #[105, 110] } : ByteArray) :: (({ data := #[105, 115] } : ByteArray) :: [])))))))))))))), ())
noncomputable def F74e (n : Nat) : Ent G := ⟨74, .nil, [], (.imm 2), [], fun x y => F74 n⟩
theorem F74_eq (n : Nat) (x : ShL.den G .nil) (y : denO G []) : (F74e n).F x y = runFn prog G (ro G (tabOf (E30 n)) (frOf []) _) Go.Proofs.Try.f74 .no [(0, .fz)] (ShL.enc G .nil x) (encO G [] y) (decR (.imm 2) []) := by kernel_rfl
theorem F74_ok (n : Nat) : EntOK prog G (F74e n) :=
  ent_ok (fr := frOf []) (ann := .no) (frm := [(0, .fz)]) laws fnok (E30_ok n).tab (e := F74e n) (fn := Go.Proofs.Try.f74) (by kernel_rfl) (AllF.ofB (cd := F74c) (l := []) (by kernel_rfl) (by kernel_rfl) AllF.nil) (F74_eq n)
noncomputable def E31 (n : Nat) : List (Ent G) := F74e n :: E30 n
theorem E31_ok (n : Nat) : AllE prog G (E31 n) := AllE.cons (F74_ok n) (E30_ok n)
-- 75 loop.example/slowworm/impl.allNames
noncomputable def F75c : Code := bodyOf Go.Proofs.Try.f75
noncomputable def F75_0x0 : SSh := ⟨23, [(2, .bool)], []⟩
noncomputable def F75_0x1 : SSh := ⟨23, [], []⟩
noncomputable def F75_0s : SSh := ⟨23, [(0, (.imm 2)), (5, (.imm 2)), (6, (.int .i64)), (7, (.int .i64))], []⟩
noncomputable def F75_0_step {R : Type} (n : Nat) (k0 : Bool → Option R) (k1 : Option R) (rec : List ByteArray → List ByteArray → Int → Int → Option R) (x1299 : List ByteArray) (x1300 : List ByteArray) (x1301 : Int) (x1302 : Int) : Option R :=
  (bif (decide (x1302 < x1301)) then
  (bif (decide ((0 : Int) ≤ x1302)) then
  (bif (decide (x1302 < ((x1300.length) : Int))) then
  let v1305 := (x1300.getD (x1302.toNat) ({ data := #[] } : ByteArray))
  (andThen (F27 n v1305) fun r1306 =>
  (bif (!r1306.1) then
  (k0 false)
  else (bif (decide ((0 : Int) ≤ x1302)) then
  (bif (decide (x1302 ≤ ((x1299.length) : Int))) then
  (andThen (F45 n ((x1299.take (x1302.toNat)).drop (0 : Nat)) v1305) fun r1309 =>
  (bif r1309.1 then
  (k0 false)
  else (rec x1299 x1300 x1301 (IntKind.wrap .i64 (x1302 + (1 : Int))))))
  else none)
  else none)))
  else none)
  else none)
  else k1)
noncomputable def F75_0_it {R : Type} (n : Nat) (k0 : Bool → Option R) (k1 : Option R) : Nat → List ByteArray → List ByteArray → Int → Int → Option R
  | 0, _, _, _, _ => none
  | k + 1, x1299, x1300, x1301, x1302 => F75_0_step n k0 k1 (F75_0_it n k0 k1 k) x1299 x1300 x1301 x1302
noncomputable def F75_0 {R : Type} (n : Nat) (x1299 : List ByteArray) (x1300 : List ByteArray) (x1301 : Int) (x1302 : Int) (k0 : Bool → Option R) (k1 : Option R) : Option R := F75_0_it n k0 k1 n x1299 x1300 x1301 x1302
noncomputable def F75_0z (n : Nat) : Sm G := inZ G 0 ⟨[0, 5, 6, 7], []⟩ F75_0s fun R x K => F75_0_it n (fun u0 => K .ret (SSh.enc G F75_0x0 ((u0, ()), ()))) (K (.exit 0) (SSh.enc G F75_0x1 ((), ()))) n x.1.1 x.1.2.1 x.1.2.2.1 x.1.2.2.2.1
theorem F75_0_eq (n : Nat) (R : Type) (rec : SSh.den G F75_0s → Option R) (x : SSh.den G F75_0s) (K : AE → St G → Option R) :
  F75_0_step n (fun u0 => K .ret (SSh.enc G F75_0x0 ((u0, ()), ()))) (K (.exit 0) (SSh.enc G F75_0x1 ((), ()))) (fun x1299 x1300 x1301 x1302 => rec ((x1299, (x1300, (x1301, (x1302, ())))), ())) x.1.1 x.1.2.1 x.1.2.2.1 x.1.2.2.2.1 = exec prog G (ro G (tabOf (E31 n)) (frOf []) R) 0 (codeAt F75c [1, 0, 1, 0, 0]) .no (SSh.enc G F75_0s x) (kLoop G (ro G (tabOf (E31 n)) (frOf []) R) 0 ⟨[0, 5, 6, 7], []⟩ F75_0s ⟨⟨[], []⟩, ⟨[2], []⟩, [(0, ⟨[], []⟩)]⟩ rec K) := by kernel_rfl
theorem F75_0_ok (n : Nat) : FragOK prog G 0 (codeAt F75c [1, 0, 1, 0]) (F75_0z n) :=
  frag_loop (Z := fun R k (x : SSh.den G F75_0s) K => F75_0_it n (fun u0 => K .ret (SSh.enc G F75_0x0 ((u0, ()), ()))) (K (.exit 0) (SSh.enc G F75_0x1 ((), ()))) k x.1.1 x.1.2.1 x.1.2.2.1 x.1.2.2.2.1) laws fnok (E31_ok n).tab (AllF.of (l := []) (by kernel_rfl) AllF.nil) (fun _ _ _ => rfl) (fun R k y K => F75_0_eq n R (fun (x : SSh.den G F75_0s) => F75_0_it n (fun u0 => K .ret (SSh.enc G F75_0x0 ((u0, ()), ()))) (K (.exit 0) (SSh.enc G F75_0x1 ((), ()))) k x.1.1 x.1.2.1 x.1.2.2.1 x.1.2.2.2.1) y K) n
noncomputable def F75 (n : Nat) (a1297 : List ByteArray) : Option (Bool × Unit) :=
  (F75_0 n a1297 a1297 ((a1297.length) : Int) (0 : Int) (fun z1311 =>
  some (z1311, ())) (
  some (true, ())))
noncomputable def F75e (n : Nat) : Ent G := ⟨75, (.cons (.imm 2) .nil), [], .bool, [], fun x y => F75 n x.1⟩
theorem F75_eq (n : Nat) (x : ShL.den G (.cons (.imm 2) .nil)) (y : denO G []) : (F75e n).F x y = runFn prog G (ro G (tabOf (E31 n)) (frOf [F75_0z n]) _) Go.Proofs.Try.f75 (.nd .no (.nd (.nd .no (.nd (.use 0) .no)) .no)) [(0, .fz)] (ShL.enc G (.cons (.imm 2) .nil) x) (encO G [] y) (decR .bool []) := by kernel_rfl
theorem F75_ok (n : Nat) : EntOK prog G (F75e n) :=
  ent_ok (fr := frOf [F75_0z n]) (ann := (.nd .no (.nd (.nd .no (.nd (.use 0) .no)) .no))) (frm := [(0, .fz)]) laws fnok (E31_ok n).tab (e := F75e n) (fn := Go.Proofs.Try.f75) (by kernel_rfl) (AllF.ofB (cd := F75c) (l := [(0, codeAt F75c [1, 0, 1, 0])]) (by kernel_rfl) (by kernel_rfl) (AllF.cons (F75_0_ok n) AllF.nil)) (F75_eq n)
noncomputable def E32 (n : Nat) : List (Ent G) := F75e n :: E31 n
theorem E32_ok (n : Nat) : AllE prog G (E32 n) := AllE.cons (F75_ok n) (E31_ok n)
noncomputable def F54_1x0 : SSh := ⟨175, [(2, .bool)], []⟩
noncomputable def F54_1x1 : SSh := ⟨175, [], []⟩
noncomputable def F54_1s : SSh := ⟨175, [(1, (.ptr 0 0)), (3, (.ptr 1 0)), (4, (.ptr 2 0)), (5, (.int .i64)), (6, (.clo 72 (.cons (.ptr 1 0) (.cons (.ptr 2 0) .nil))))], [(.box 30 (.cons (.int .i64) (.cons .str (.cons (.imm 2) (.cons (.imm 3) .nil))))), (.box 3 (.cons (.int .i64) .nil)), (.box 9 (.cons .str .nil))]⟩
noncomputable def F54_1 {R : Type} (n : Nat) (x1035 : Int) (x1036 : Int) (x1037 : ByteArray) (x1038 : List ByteArray) (x1039 : List Ex) (x1040 : Int) (x1041 : ByteArray) (k0 : Bool → Option R) (k1 : Option R) : Option R :=
  (F54_0 n x1035 x1036 x1036 x1037 x1038 x1039 x1040 x1041 (fun z1053 z1054 z1055 z1056 z1057 z1058 z1059 z1060 z1061 =>
  (bif z1055 then
  (andThen (F72 n (0 : Int) z1060 z1061) fun r1067 =>
  (k0 r1067.1))
  else (bif (z1054 == (4 : Int)) then
  (bif (z1060 == (0 : Int)) then
  (andThen (F73 n z1061) fun r1205 =>
  (bif r1205.1 then
  (bif (decide ((0 : Int) < ((z1061.size) : Int))) then
  (k0 ((strOf z1061 (0 : Nat)) != (45 : Int)))
  else none)
  else (k0 false)))
  else (k0 false))
  else (bif (z1054 == (5 : Int)) then
  (bif (z1060 == (0 : Int)) then
  (k0 (decide (((z1061.size) : Int) ≤ (400 : Int))))
  else (k0 false))
  else (bif (z1054 == (6 : Int)) then
  (bif (z1060 == (0 : Int)) then
  (andThen (F27 n z1061) fun r1268 =>
  (k0 r1268.1))
  else (k0 false))
  else (bif (z1054 == (7 : Int)) then
  (bif (decide (z1060 ≤ (6 : Int))) then
  (k0 ((z1061.toList) == (({ data := #[] } : ByteArray).toList)))
  else (k0 false))
  else (bif (z1054 == (8 : Int)) then
  (bif (decide (z1060 ≤ (12 : Int))) then
  (bif ((z1060.tmod (2 : Int)) == (0 : Int)) then
  (k0 ((z1061.toList) == (({ data := #[] } : ByteArray).toList)))
  else (k0 false))
  else (k0 false))
  else (bif (z1054 == (9 : Int)) then
  (bif (z1060 == (1 : Int)) then
  (bif ((z1061.toList) == (({ data := #[45] } : ByteArray).toList)) then
  (k0 true)
  else (k0 ((z1061.toList) == (({ data := #[110, 111, 116] } : ByteArray).toList))))
  else (k0 false))
  else (bif (z1054 == (10 : Int)) then
  (bif (z1060 == (2 : Int)) then
  (andThen (F74 n) fun r1284 =>
  (andThen (F45 n r1284.1 z1061) fun r1285 =>
  (k0 r1285.1)))
  else (k0 false))
  else (bif (z1054 == (11 : Int)) then
  (bif (z1060 == (2 : Int)) then
  (bif ((z1061.toList) == (({ data := #[97, 110, 100] } : ByteArray).toList)) then
  (k0 true)
  else (k0 ((z1061.toList) == (({ data := #[111, 114] } : ByteArray).toList))))
  else (k0 false))
  else (bif (z1054 == (12 : Int)) then
  (andThen (F72 n (3 : Int) z1060 z1061) fun r1291 =>
  (k0 r1291.1))
  else (bif (z1054 == (13 : Int)) then
  (bif (decide (z1060 ≥ (1 : Int))) then
  (bif (decide (z1060 ≤ (7 : Int))) then
  (bif ((z1061.toList) == (({ data := #[] } : ByteArray).toList)) then
  (bif (decide (z1053 < z1060)) then
  (andThen (F75 n z1058) fun r1312 =>
  (k0 r1312.1))
  else (k0 false))
  else (k0 false))
  else (k0 false))
  else (k0 false))
  else (bif (z1054 == (14 : Int)) then
  (andThen (F72 n (2 : Int) z1060 z1061) fun r1314 =>
  (k0 r1314.1))
  else (bif (z1054 == (15 : Int)) then
  (bif (z1060 == (1 : Int)) then
  (andThen (F27 n z1061) fun r1317 =>
  (k0 r1317.1))
  else (k0 false))
  else (bif (z1054 == (16 : Int)) then
  (andThen (F72 n (1 : Int) z1060 z1061) fun r1319 =>
  (bif r1319.1 then
  (bif (decide (z1053 ≤ (6 : Int))) then
  (andThen (F75 n z1058) fun r1321 =>
  (k0 r1321.1))
  else (k0 false))
  else (k0 false)))
  else (bif (z1054 == (17 : Int)) then
  (andThen (F72 n (1 : Int) z1060 z1061) fun r1323 =>
  (k0 r1323.1))
  else k1)))))))))))))))))
noncomputable def F54_1z (n : Nat) : Sm G := inZ G 0 ⟨[1, 3, 4, 5, 6], []⟩ F54_1s fun R x K => F54_1 n x.1.2.2.2.1 x.2.1.1 x.2.1.2.1 x.2.1.2.2.1 x.2.1.2.2.2.1 x.2.2.1.1 x.2.2.2.1.1 (fun u0 => K .ret (SSh.enc G F54_1x0 ((u0, ()), ()))) (K .normal (SSh.enc G F54_1x1 ((), ())))
theorem F54_1_eq (n : Nat) (R : Type) (x : SSh.den G F54_1s) (K : AE → St G → Option R) :
  F54_1 n x.1.2.2.2.1 x.2.1.1 x.2.1.2.1 x.2.1.2.2.1 x.2.1.2.2.2.1 x.2.2.1.1 x.2.2.2.1.1 (fun u0 => K .ret (SSh.enc G F54_1x0 ((u0, ()), ()))) (K .normal (SSh.enc G F54_1x1 ((), ()))) = exec prog G (ro G (tabOf (E32 n)) (frOf [F54_0z n]) R) 0 (codeAt F54c [1, 1, 1, 1, 0]) (.nd .no (.nd (.nd (.use 0) .no) .no)) (SSh.enc G F54_1s x) (kNrm G (ro G (tabOf (E32 n)) (frOf [F54_0z n]) R) 0 ⟨⟨[], []⟩, ⟨[2], []⟩, []⟩ K) := by kernel_rfl
theorem F54_1_ok (n : Nat) : FragOK prog G 0 (codeAt F54c [1, 1, 1, 1, 0]) (F54_1z n) :=
  frag_plain laws fnok (E32_ok n).tab (AllF.of (l := [(0, codeAt F54c [1, 1, 1, 1, 0, 1, 0, 0])]) (by kernel_rfl) (AllF.cons (F54_0_ok n) AllF.nil)) (F54_1_eq n)
noncomputable def F54 (n : Nat) (a1026 : Int) (a1027 : ByteArray) (a1028 : List ByteArray) (a1029 : List Ex) : Option (Bool × Unit) :=
  let v1030 := ((a1029.length) : Int)
  let v1031 := ((a1028.length) : Int)
  (bif (decide (v1031 > (0 : Int))) then
  (bif (a1026 != (13 : Int)) then
  (bif (a1026 != (16 : Int)) then
  some (false, ())
  else (F54_1 n v1031 a1026 a1027 a1028 a1029 v1030 a1027 (fun z1324 =>
  some (z1324, ())) (
  some (false, ()))))
  else (F54_1 n v1031 a1026 a1027 a1028 a1029 v1030 a1027 (fun z1325 =>
  some (z1325, ())) (
  some (false, ()))))
  else (F54_1 n v1031 a1026 a1027 a1028 a1029 v1030 a1027 (fun z1326 =>
  some (z1326, ())) (
  some (false, ()))))
noncomputable def F54e (n : Nat) : Ent G := ⟨54, (.cons (.agg (.cons (.int .i64) (.cons .str (.cons (.imm 2) (.cons (.imm 3) .nil))))) .nil), [], .bool, [], fun x y => F54 n x.1.1 x.1.2.1 x.1.2.2.1 x.1.2.2.2.1⟩
theorem F54_eq (n : Nat) (x : ShL.den G (.cons (.agg (.cons (.int .i64) (.cons .str (.cons (.imm 2) (.cons (.imm 3) .nil))))) .nil)) (y : denO G []) : (F54e n).F x y = runFn prog G (ro G (tabOf (E32 n)) (frOf [F54_0z n, F54_1z n]) _) Go.Proofs.Try.f54 (.nd .no (.nd .no (.nd .no (.nd .no (.nd (.use 1) .no))))) [(0, .fz)] (ShL.enc G (.cons (.agg (.cons (.int .i64) (.cons .str (.cons (.imm 2) (.cons (.imm 3) .nil))))) .nil) x) (encO G [] y) (decR .bool []) := by kernel_rfl
theorem F54_ok (n : Nat) : EntOK prog G (F54e n) :=
  ent_ok (fr := frOf [F54_0z n, F54_1z n]) (ann := (.nd .no (.nd .no (.nd .no (.nd .no (.nd (.use 1) .no)))))) (frm := [(0, .fz)]) laws fnok (E32_ok n).tab (e := F54e n) (fn := Go.Proofs.Try.f54) (by kernel_rfl) (AllF.ofB (cd := F54c) (l := [(1, codeAt F54c [1, 1, 1, 1, 0])]) (by kernel_rfl) (by kernel_rfl) (AllF.cons (F54_1_ok n) AllF.nil)) (F54_eq n)
noncomputable def E33 (n : Nat) : List (Ent G) := F54e n :: E32 n
theorem E33_ok (n : Nat) : AllE prog G (E33 n) := AllE.cons (F54_ok n) (E32_ok n)
abbrev Q34RC : Type := (Int → ByteArray → List ByteArray → List Ex → Int → Option (Bool × Unit)) × Unit
noncomputable def Q34L (n : Nat) (rc : Q34RC) : List (Ent G) := ⟨34, (.cons (.agg (.cons (.int .i64) (.cons .str (.cons (.imm 2) (.cons (.imm 3) .nil))))) (.cons (.int .i64) .nil)), [], .bool, [], fun x y => rc.1 x.1.1 x.1.2.1 x.1.2.2.1 x.1.2.2.2.1 x.2.1⟩ :: E33 n
-- 34 (loop.example/slowworm/impl.Expr).fits
noncomputable def F34bc : Code := bodyOf Go.Proofs.Try.f34
noncomputable def F34b_0x0 : SSh := ⟨27, [(4, .bool)], []⟩
noncomputable def F34b_0x1 : SSh := ⟨27, [], []⟩
noncomputable def F34b_0s : SSh := ⟨27, [(1, (.int .i64)), (15, (.imm 3)), (16, (.int .i64)), (17, (.int .i64))], []⟩
noncomputable def F34b_0_step {R : Type} (n : Nat) (rc : Q34RC) (k0 : Bool → Option R) (k1 : Option R) (rec : Int → List Ex → Int → Int → Option R) (x1374 : Int) (x1375 : List Ex) (x1376 : Int) (x1377 : Int) : Option R :=
  (bif (decide (x1377 < x1376)) then
  (bif (decide ((0 : Int) ≤ x1377)) then
  (bif (decide (x1377 < ((x1375.length) : Int))) then
  let v1379 := (x1375.getD (x1377.toNat) (Ex.mk (0 : Int) ({ data := #[] } : ByteArray) [] []))
  (andThen (rc.1 v1379.kind v1379.text v1379.names v1379.kids (IntKind.wrap .i64 (x1374 - (1 : Int)))) fun r1385 =>
  (bif (!r1385.1) then
  (k0 false)
  else (rec x1374 x1375 x1376 (IntKind.wrap .i64 (x1377 + (1 : Int))))))
  else none)
  else none)
  else k1)
noncomputable def F34b_0_it {R : Type} (n : Nat) (rc : Q34RC) (k0 : Bool → Option R) (k1 : Option R) : Nat → Int → List Ex → Int → Int → Option R
  | 0, _, _, _, _ => none
  | k + 1, x1374, x1375, x1376, x1377 => F34b_0_step n rc k0 k1 (F34b_0_it n rc k0 k1 k) x1374 x1375 x1376 x1377
noncomputable def F34b_0 {R : Type} (n : Nat) (rc : Q34RC) (x1374 : Int) (x1375 : List Ex) (x1376 : Int) (x1377 : Int) (k0 : Bool → Option R) (k1 : Option R) : Option R := F34b_0_it n rc k0 k1 n x1374 x1375 x1376 x1377
noncomputable def F34b_0z (n : Nat) (rc : Q34RC) : Sm G := inZ G 0 ⟨[1, 15, 16, 17], []⟩ F34b_0s fun R x K => F34b_0_it n rc (fun u0 => K .ret (SSh.enc G F34b_0x0 ((u0, ()), ()))) (K (.exit 0) (SSh.enc G F34b_0x1 ((), ()))) n x.1.1 x.1.2.1 x.1.2.2.1 x.1.2.2.2.1
theorem F34b_0_eq (n : Nat) (rc : Q34RC) (R : Type) (rec : SSh.den G F34b_0s → Option R) (x : SSh.den G F34b_0s) (K : AE → St G → Option R) :
  F34b_0_step n rc (fun u0 => K .ret (SSh.enc G F34b_0x0 ((u0, ()), ()))) (K (.exit 0) (SSh.enc G F34b_0x1 ((), ()))) (fun x1374 x1375 x1376 x1377 => rec ((x1374, (x1375, (x1376, (x1377, ())))), ())) x.1.1 x.1.2.1 x.1.2.2.1 x.1.2.2.2.1 = exec prog G (ro G (tabOf (Q34L n rc)) (frOf []) R) 0 (codeAt F34bc [1, 1, 0, 1, 0, 0]) .no (SSh.enc G F34b_0s x) (kLoop G (ro G (tabOf (Q34L n rc)) (frOf []) R) 0 ⟨[1, 15, 16, 17], []⟩ F34b_0s ⟨⟨[], []⟩, ⟨[4], []⟩, [(0, ⟨[], []⟩)]⟩ rec K) := by kernel_rfl
theorem F34b_0_ok (n : Nat) (rc : Q34RC) (h : AllE prog G (Q34L n rc)) : FragOK prog G 0 (codeAt F34bc [1, 1, 0, 1, 0]) (F34b_0z n rc) :=
  frag_loop (Z := fun R k (x : SSh.den G F34b_0s) K => F34b_0_it n rc (fun u0 => K .ret (SSh.enc G F34b_0x0 ((u0, ()), ()))) (K (.exit 0) (SSh.enc G F34b_0x1 ((), ()))) k x.1.1 x.1.2.1 x.1.2.2.1 x.1.2.2.2.1) laws fnok h.tab (AllF.of (l := []) (by kernel_rfl) AllF.nil) (fun _ _ _ => rfl) (fun R k y K => F34b_0_eq n rc R (fun (x : SSh.den G F34b_0s) => F34b_0_it n rc (fun u0 => K .ret (SSh.enc G F34b_0x0 ((u0, ()), ()))) (K (.exit 0) (SSh.enc G F34b_0x1 ((), ()))) k x.1.1 x.1.2.1 x.1.2.2.1 x.1.2.2.2.1) y K) n
noncomputable def F34b (n : Nat) (rc : Q34RC) (a1365 : Int) (a1366 : ByteArray) (a1367 : List ByteArray) (a1368 : List Ex) (a1369 : Int) : Option (Bool × Unit) :=
  (bif (decide (a1369 < (1 : Int))) then
  some (false, ())
  else (andThen (F54 n a1365 a1366 a1367 a1368) fun r1371 =>
  (bif (!r1371.1) then
  some (false, ())
  else (F34b_0 n rc a1369 a1368 ((a1368.length) : Int) (0 : Int) (fun z1388 =>
  some (z1388, ())) (
  some (true, ()))))))
noncomputable def F34be (n : Nat) (rc : Q34RC) : Ent G := ⟨34, (.cons (.agg (.cons (.int .i64) (.cons .str (.cons (.imm 2) (.cons (.imm 3) .nil))))) (.cons (.int .i64) .nil)), [], .bool, [], fun x y => F34b n rc x.1.1 x.1.2.1 x.1.2.2.1 x.1.2.2.2.1 x.2.1⟩
theorem F34b_eq (n : Nat) (rc : Q34RC) (x : ShL.den G (.cons (.agg (.cons (.int .i64) (.cons .str (.cons (.imm 2) (.cons (.imm 3) .nil))))) (.cons (.int .i64) .nil))) (y : denO G []) : (F34be n rc).F x y = runFn prog G (ro G (tabOf (Q34L n rc)) (frOf [F34b_0z n rc]) _) Go.Proofs.Try.f34 (.nd .no (.nd .no (.nd (.nd .no (.nd (.use 0) .no)) .no))) [(0, .fz)] (ShL.enc G (.cons (.agg (.cons (.int .i64) (.cons .str (.cons (.imm 2) (.cons (.imm 3) .nil))))) (.cons (.int .i64) .nil)) x) (encO G [] y) (decR .bool []) := by kernel_rfl
theorem F34b_ok (n : Nat) (rc : Q34RC) (h : AllE prog G (Q34L n rc)) : EntOK prog G (F34be n rc) :=
  ent_ok (fr := frOf [F34b_0z n rc]) (ann := (.nd .no (.nd .no (.nd (.nd .no (.nd (.use 0) .no)) .no)))) (frm := [(0, .fz)]) laws fnok h.tab (e := F34be n rc) (fn := Go.Proofs.Try.f34) (by kernel_rfl) (AllF.ofB (cd := F34bc) (l := [(0, codeAt F34bc [1, 1, 0, 1, 0])]) (by kernel_rfl) (by kernel_rfl) (AllF.cons (F34b_0_ok n rc h) AllF.nil)) (F34b_eq n rc)
noncomputable def Q34it (n : Nat) : Nat → Q34RC
  | 0 => (fun _ _ _ _ _ => none, ())
  | k + 1 => (F34b n (Q34it n k), ())
theorem Q34it_ok (n : Nat) : ∀ k, AllE prog G (Q34L n (Q34it n k))
  | 0 => (AllE.cons (EntOK.none fun _ _ => rfl) (E33_ok n))
  | k + 1 => (AllE.cons (F34b_ok n _ (Q34it_ok n k)) (E33_ok n))
noncomputable def F34 (n : Nat) (a0 : Int) (a1 : ByteArray) (a2 : List ByteArray) (a3 : List Ex) (a4 : Int) : Option (Bool × Unit) := (Q34it n n).1 a0 a1 a2 a3 a4
noncomputable def F34e (n : Nat) : Ent G := ⟨34, (.cons (.agg (.cons (.int .i64) (.cons .str (.cons (.imm 2) (.cons (.imm 3) .nil))))) (.cons (.int .i64) .nil)), [], .bool, [], fun x y => F34 n x.1.1 x.1.2.1 x.1.2.2.1 x.1.2.2.2.1 x.2.1⟩
noncomputable def E34 (n : Nat) : List (Ent G) := F34e n :: E33 n
theorem E34_ok (n : Nat) : AllE prog G (E34 n) := Q34it_ok n n
noncomputable def F12 (n : Nat) (a1016 : Int) (a1017 : ByteArray) (a1018 : List ByteArray) (a1019 : List Ex) : Option (Bool × Unit) :=
  (andThen (F34 n a1016 a1017 a1018 a1019 (7 : Int)) fun r1389 =>
  some (r1389.1, ()))
noncomputable def F12e (n : Nat) : Ent G := ⟨12, (.cons (.agg (.cons (.int .i64) (.cons .str (.cons (.imm 2) (.cons (.imm 3) .nil))))) .nil), [], .bool, [], fun x y => F12 n x.1.1 x.1.2.1 x.1.2.2.1 x.1.2.2.2.1⟩
theorem F12_eq (n : Nat) (x : ShL.den G (.cons (.agg (.cons (.int .i64) (.cons .str (.cons (.imm 2) (.cons (.imm 3) .nil))))) .nil)) (y : denO G []) : (F12e n).F x y = runFn prog G (ro G (tabOf (E34 n)) (frOf []) _) Go.Proofs.Try.f12 .no [(0, .fz)] (ShL.enc G (.cons (.agg (.cons (.int .i64) (.cons .str (.cons (.imm 2) (.cons (.imm 3) .nil))))) .nil) x) (encO G [] y) (decR .bool []) := by kernel_rfl
theorem F12_ok (n : Nat) : EntOK prog G (F12e n) :=
  ent_ok (fr := frOf []) (ann := .no) (frm := [(0, .fz)]) laws fnok (E34_ok n).tab (e := F12e n) (fn := Go.Proofs.Try.f12) (by kernel_rfl) (AllF.ofB (cd := F12c) (l := []) (by kernel_rfl) (by kernel_rfl) AllF.nil) (F12_eq n)
noncomputable def E35 (n : Nat) : List (Ent G) := F12e n :: E34 n
theorem E35_ok (n : Nat) : AllE prog G (E35 n) := AllE.cons (F12_ok n) (E34_ok n)
abbrev Q37RC : Type := (Int → ByteArray → List ByteArray → List Ex → Option (Int × Unit)) × Unit
noncomputable def Q37L (n : Nat) (rc : Q37RC) : List (Ent G) := ⟨37, (.cons (.agg (.cons (.int .i64) (.cons .str (.cons (.imm 2) (.cons (.imm 3) .nil))))) .nil), [], (.int .i64), [], fun x y => rc.1 x.1.1 x.1.2.1 x.1.2.2.1 x.1.2.2.2.1⟩ :: E35 n
-- 37 (loop.example/slowworm/impl.Expr).size
noncomputable def F37bc : Code := bodyOf Go.Proofs.Try.f37
noncomputable def F37b_0x0 : SSh := ⟨19, [(3, (.int .i64))], []⟩
noncomputable def F37b_0s : SSh := ⟨19, [(3, (.int .i64)), (7, (.imm 3)), (8, (.int .i64)), (9, (.int .i64))], []⟩
noncomputable def F37b_0_step {R : Type} (n : Nat) (rc : Q37RC) (k0 : Int → Option R) (rec : Int → List Ex → Int → Int → Option R) (x1431 : Int) (x1432 : List Ex) (x1433 : Int) (x1434 : Int) : Option R :=
  (bif (decide (x1434 < x1433)) then
  (bif (decide ((0 : Int) ≤ x1434)) then
  (bif (decide (x1434 < ((x1432.length) : Int))) then
  let v1436 := (x1432.getD (x1434.toNat) (Ex.mk (0 : Int) ({ data := #[] } : ByteArray) [] []))
  (andThen (rc.1 v1436.kind v1436.text v1436.names v1436.kids) fun r1441 =>
  (rec (IntKind.wrap .i64 (x1431 + r1441.1)) x1432 x1433 (IntKind.wrap .i64 (x1434 + (1 : Int)))))
  else none)
  else none)
  else (k0 x1431))
noncomputable def F37b_0_it {R : Type} (n : Nat) (rc : Q37RC) (k0 : Int → Option R) : Nat → Int → List Ex → Int → Int → Option R
  | 0, _, _, _, _ => none
  | k + 1, x1431, x1432, x1433, x1434 => F37b_0_step n rc k0 (F37b_0_it n rc k0 k) x1431 x1432 x1433 x1434
noncomputable def F37b_0 {R : Type} (n : Nat) (rc : Q37RC) (x1431 : Int) (x1432 : List Ex) (x1433 : Int) (x1434 : Int) (k0 : Int → Option R) : Option R := F37b_0_it n rc k0 n x1431 x1432 x1433 x1434
noncomputable def F37b_0z (n : Nat) (rc : Q37RC) : Sm G := inZ G 0 ⟨[3, 7, 8, 9], []⟩ F37b_0s fun R x K => F37b_0_it n rc (fun u0 => K (.exit 0) (SSh.enc G F37b_0x0 ((u0, ()), ()))) n x.1.1 x.1.2.1 x.1.2.2.1 x.1.2.2.2.1
theorem F37b_0_eq (n : Nat) (rc : Q37RC) (R : Type) (rec : SSh.den G F37b_0s → Option R) (x : SSh.den G F37b_0s) (K : AE → St G → Option R) :
  F37b_0_step n rc (fun u0 => K (.exit 0) (SSh.enc G F37b_0x0 ((u0, ()), ()))) (fun x1431 x1432 x1433 x1434 => rec ((x1431, (x1432, (x1433, (x1434, ())))), ())) x.1.1 x.1.2.1 x.1.2.2.1 x.1.2.2.2.1 = exec prog G (ro G (tabOf (Q37L n rc)) (frOf []) R) 0 (codeAt F37bc [1, 1, 0, 1, 0, 0]) .no (SSh.enc G F37b_0s x) (kLoop G (ro G (tabOf (Q37L n rc)) (frOf []) R) 0 ⟨[3, 7, 8, 9], []⟩ F37b_0s ⟨⟨[3], []⟩, ⟨[2], []⟩, [(0, ⟨[3], []⟩)]⟩ rec K) := by kernel_rfl
theorem F37b_0_ok (n : Nat) (rc : Q37RC) (h : AllE prog G (Q37L n rc)) : FragOK prog G 0 (codeAt F37bc [1, 1, 0, 1, 0]) (F37b_0z n rc) :=
  frag_loop (Z := fun R k (x : SSh.den G F37b_0s) K => F37b_0_it n rc (fun u0 => K (.exit 0) (SSh.enc G F37b_0x0 ((u0, ()), ()))) k x.1.1 x.1.2.1 x.1.2.2.1 x.1.2.2.2.1) laws fnok h.tab (AllF.of (l := []) (by kernel_rfl) AllF.nil) (fun _ _ _ => rfl) (fun R k y K => F37b_0_eq n rc R (fun (x : SSh.den G F37b_0s) => F37b_0_it n rc (fun u0 => K (.exit 0) (SSh.enc G F37b_0x0 ((u0, ()), ()))) k x.1.1 x.1.2.1 x.1.2.2.1 x.1.2.2.2.1) y K) n
noncomputable def F37b (n : Nat) (rc : Q37RC) (a1426 : Int) (a1427 : ByteArray) (a1428 : List ByteArray) (a1429 : List Ex) : Option (Int × Unit) :=
  (F37b_0 n rc (1 : Int) a1429 ((a1429.length) : Int) (0 : Int) (fun z1444 =>
  some (z1444, ())))
noncomputable def F37be (n : Nat) (rc : Q37RC) : Ent G := ⟨37, (.cons (.agg (.cons (.int .i64) (.cons .str (.cons (.imm 2) (.cons (.imm 3) .nil))))) .nil), [], (.int .i64), [], fun x y => F37b n rc x.1.1 x.1.2.1 x.1.2.2.1 x.1.2.2.2.1⟩
theorem F37b_eq (n : Nat) (rc : Q37RC) (x : ShL.den G (.cons (.agg (.cons (.int .i64) (.cons .str (.cons (.imm 2) (.cons (.imm 3) .nil))))) .nil)) (y : denO G []) : (F37be n rc).F x y = runFn prog G (ro G (tabOf (Q37L n rc)) (frOf [F37b_0z n rc]) _) Go.Proofs.Try.f37 (.nd .no (.nd .no (.nd (.nd .no (.nd (.use 0) .no)) .no))) [(0, .fz)] (ShL.enc G (.cons (.agg (.cons (.int .i64) (.cons .str (.cons (.imm 2) (.cons (.imm 3) .nil))))) .nil) x) (encO G [] y) (decR (.int .i64) []) := by kernel_rfl
theorem F37b_ok (n : Nat) (rc : Q37RC) (h : AllE prog G (Q37L n rc)) : EntOK prog G (F37be n rc) :=
  ent_ok (fr := frOf [F37b_0z n rc]) (ann := (.nd .no (.nd .no (.nd (.nd .no (.nd (.use 0) .no)) .no)))) (frm := [(0, .fz)]) laws fnok h.tab (e := F37be n rc) (fn := Go.Proofs.Try.f37) (by kernel_rfl) (AllF.ofB (cd := F37bc) (l := [(0, codeAt F37bc [1, 1, 0, 1, 0])]) (by kernel_rfl) (by kernel_rfl) (AllF.cons (F37b_0_ok n rc h) AllF.nil)) (F37b_eq n rc)
noncomputable def Q37it (n : Nat) : Nat → Q37RC
  | 0 => (fun _ _ _ _ => none, ())
  | k + 1 => (F37b n (Q37it n k), ())
theorem Q37it_ok (n : Nat) : ∀ k, AllE prog G (Q37L n (Q37it n k))
  | 0 => (AllE.cons (EntOK.none fun _ _ => rfl) (E35_ok n))
  | k + 1 => (AllE.cons (F37b_ok n _ (Q37it_ok n k)) (E35_ok n))
noncomputable def F37 (n : Nat) (a0 : Int) (a1 : ByteArray) (a2 : List ByteArray) (a3 : List Ex) : Option (Int × Unit) := (Q37it n n).1 a0 a1 a2 a3
noncomputable def F37e (n : Nat) : Ent G := ⟨37, (.cons (.agg (.cons (.int .i64) (.cons .str (.cons (.imm 2) (.cons (.imm 3) .nil))))) .nil), [], (.int .i64), [], fun x y => F37 n x.1.1 x.1.2.1 x.1.2.2.1 x.1.2.2.2.1⟩
noncomputable def E36 (n : Nat) : List (Ent G) := F37e n :: E35 n
theorem E36_ok (n : Nat) : AllE prog G (E36 n) := Q37it_ok n n
noncomputable def F15 (n : Nat) (a1012 : Int) (a1013 : ByteArray) (a1014 : List ByteArray) (a1015 : List Ex) : Option (Int × Unit) :=
  (andThen (F12 n a1012 a1013 a1014 a1015) fun r1390 =>
  (bif (!r1390.1) then
  some ((0 : Int), ())
  else (andThen (F37 n a1012 a1013 a1014 a1015) fun r1445 =>
  some (r1445.1, ()))))
noncomputable def F15e (n : Nat) : Ent G := ⟨15, (.cons (.agg (.cons (.int .i64) (.cons .str (.cons (.imm 2) (.cons (.imm 3) .nil))))) .nil), [], (.int .i64), [], fun x y => F15 n x.1.1 x.1.2.1 x.1.2.2.1 x.1.2.2.2.1⟩
theorem F15_eq (n : Nat) (x : ShL.den G (.cons (.agg (.cons (.int .i64) (.cons .str (.cons (.imm 2) (.cons (.imm 3) .nil))))) .nil)) (y : denO G []) : (F15e n).F x y = runFn prog G (ro G (tabOf (E36 n)) (frOf []) _) Go.Proofs.Try.f15 .no [(0, .fz)] (ShL.enc G (.cons (.agg (.cons (.int .i64) (.cons .str (.cons (.imm 2) (.cons (.imm 3) .nil))))) .nil) x) (encO G [] y) (decR (.int .i64) []) := by kernel_rfl
theorem F15_ok (n : Nat) : EntOK prog G (F15e n) :=
  ent_ok (fr := frOf []) (ann := .no) (frm := [(0, .fz)]) laws fnok (E36_ok n).tab (e := F15e n) (fn := Go.Proofs.Try.f15) (by kernel_rfl) (AllF.ofB (cd := F15c) (l := []) (by kernel_rfl) (by kernel_rfl) AllF.nil) (F15_eq n)
noncomputable def E37 (n : Nat) : List (Ent G) := F15e n :: E36 n
theorem E37_ok (n : Nat) : AllE prog G (E37 n) := AllE.cons (F15_ok n) (E36_ok n)
-- 14 loop.example/slowworm/spec.ExprSize
noncomputable def F14c : Code := bodyOf Go.Proofs.Try.f14
-- 53 loop.example/slowworm/spec.plainExpr
noncomputable def F53c : Code := bodyOf Go.Proofs.Try.f53
noncomputable def F53_0x0 : SSh := ⟨208, [(1, (.ptr 0 0)), (3, (.int .i64)), (25, (.int .i64)), (26, .bool)], [(.box 30 (.cons (.int .i64) (.cons .str (.cons (.imm 2) (.cons (.imm 3) .nil)))))]⟩
noncomputable def F53_0s : SSh := ⟨208, [(1, (.ptr 0 0)), (3, (.int .i64)), (25, (.int .i64))], [(.box 30 (.cons (.int .i64) (.cons .str (.cons (.imm 2) (.cons (.imm 3) .nil)))))]⟩
noncomputable def F53_0 {R : Type} (n : Nat) (x1468 : Int) (x1469 : Int) (x1470 : Int) (x1471 : ByteArray) (x1472 : List ByteArray) (x1473 : List Ex) (k0 : Int → Int → Bool → Int → ByteArray → List ByteArray → List Ex → Option R) : Option R :=
  (bif (x1469 == (1 : Int)) then
  (k0 x1468 x1469 true x1470 x1471 x1472 x1473)
  else (bif (x1469 == (2 : Int)) then
  (k0 x1468 x1469 true x1470 x1471 x1472 x1473)
  else (k0 x1468 x1469 (x1469 == (3 : Int)) x1470 x1471 x1472 x1473)))
noncomputable def F53_0z (n : Nat) : Sm G := inZ G 0 ⟨[1, 3, 25], []⟩ F53_0s fun R x K => F53_0 n x.1.2.1 x.1.2.2.1 x.2.1.1 x.2.1.2.1 x.2.1.2.2.1 x.2.1.2.2.2.1 (fun u0 u1 u2 u3 u4 u5 u6 => K .normal (SSh.enc G F53_0x0 (((), (u0, (u1, (u2, ())))), ((u3, (u4, (u5, (u6, ())))), ()))))
theorem F53_0_eq (n : Nat) (R : Type) (x : SSh.den G F53_0s) (K : AE → St G → Option R) :
  F53_0 n x.1.2.1 x.1.2.2.1 x.2.1.1 x.2.1.2.1 x.2.1.2.2.1 x.2.1.2.2.2.1 (fun u0 u1 u2 u3 u4 u5 u6 => K .normal (SSh.enc G F53_0x0 (((), (u0, (u1, (u2, ())))), ((u3, (u4, (u5, (u6, ())))), ())))) = exec prog G (ro G (tabOf (E37 n)) (frOf []) R) 0 (codeAt F53c [1, 1, 1, 1, 0, 1, 0, 0]) .no (SSh.enc G F53_0s x) (kNrm G (ro G (tabOf (E37 n)) (frOf []) R) 0 ⟨⟨[1, 3, 25, 26], []⟩, ⟨[2], []⟩, [(0, ⟨[], []⟩)]⟩ K) := by kernel_rfl
theorem F53_0_ok (n : Nat) : FragOK prog G 0 (codeAt F53c [1, 1, 1, 1, 0, 1, 0, 0]) (F53_0z n) :=
  frag_plain laws fnok (E37_ok n).tab (AllF.of (l := []) (by kernel_rfl) AllF.nil) (F53_0_eq n)
-- 66 loop.example/slowworm/spec.validInt
noncomputable def F66c : Code := bodyOf Go.Proofs.Try.f66
noncomputable def F66_0x0 : SSh := ⟨44, [(0, .str), (3, .str)], []⟩
noncomputable def F66_0s : SSh := ⟨44, [(0, .str), (3, .str)], []⟩
noncomputable def F66_0 {R : Type} (n : Nat) (x1489 : ByteArray) (x1490 : ByteArray) (k0 : ByteArray → ByteArray → Option R) : Option R :=
  (bif (decide (((x1490.size) : Int) > (0 : Int))) then
  (bif (decide ((0 : Int) < ((x1490.size) : Int))) then
  (bif ((strOf x1490 (0 : Nat)) == (45 : Int)) then
  (bif (decide ((1 : Int) ≤ ((x1490.size) : Int))) then
  (bif (decide (((x1490.size) : Int) ≤ ((x1490.size) : Int))) then
  (k0 x1489 (x1490.extract (1 : Nat) (((x1490.size) : Int).toNat)))
  else none)
  else none)
  else (k0 x1489 x1490))
  else none)
  else (k0 x1489 x1490))
noncomputable def F66_0z (n : Nat) : Sm G := inZ G 0 ⟨[0, 3], []⟩ F66_0s fun R x K => F66_0 n x.1.1 x.1.2.1 (fun u0 u1 => K .normal (SSh.enc G F66_0x0 ((u0, (u1, ())), ())))
theorem F66_0_eq (n : Nat) (R : Type) (x : SSh.den G F66_0s) (K : AE → St G → Option R) :
  F66_0 n x.1.1 x.1.2.1 (fun u0 u1 => K .normal (SSh.enc G F66_0x0 ((u0, (u1, ())), ()))) = exec prog G (ro G (tabOf (E37 n)) (frOf []) R) 0 (codeAt F66c [1, 1, 0]) .no (SSh.enc G F66_0s x) (kNrm G (ro G (tabOf (E37 n)) (frOf []) R) 0 ⟨⟨[0, 3], []⟩, ⟨[2], []⟩, []⟩ K) := by kernel_rfl
theorem F66_0_ok (n : Nat) : FragOK prog G 0 (codeAt F66c [1, 1, 0]) (F66_0z n) :=
  frag_plain laws fnok (E37_ok n).tab (AllF.of (l := []) (by kernel_rfl) AllF.nil) (F66_0_eq n)
noncomputable def F66_1x0 : SSh := ⟨44, [(2, .bool)], []⟩
noncomputable def F66_1x1 : SSh := ⟨44, [(0, .str), (3, .str)], []⟩
noncomputable def F66_1s : SSh := ⟨44, [(0, .str), (3, .str), (4, (.int .i64))], []⟩
noncomputable def F66_1_step {R : Type} (n : Nat) (k0 : Bool → Option R) (k1 : ByteArray → ByteArray → Option R) (rec : ByteArray → ByteArray → Int → Option R) (x1498 : ByteArray) (x1499 : ByteArray) (x1500 : Int) : Option R :=
  (bif (decide (x1500 < ((x1499.size) : Int))) then
  (bif (decide ((0 : Int) ≤ x1500)) then
  (bif (decide (x1500 < ((x1499.size) : Int))) then
  (bif (decide ((strOf x1499 (x1500.toNat)) < (48 : Int))) then
  (k0 false)
  else (bif (decide ((0 : Int) ≤ x1500)) then
  (bif (decide (x1500 < ((x1499.size) : Int))) then
  (bif (decide ((strOf x1499 (x1500.toNat)) > (57 : Int))) then
  (k0 false)
  else (rec x1498 x1499 (IntKind.wrap .i64 (x1500 + (1 : Int)))))
  else none)
  else none))
  else none)
  else none)
  else (k1 x1498 x1499))
noncomputable def F66_1_it {R : Type} (n : Nat) (k0 : Bool → Option R) (k1 : ByteArray → ByteArray → Option R) : Nat → ByteArray → ByteArray → Int → Option R
  | 0, _, _, _ => none
  | k + 1, x1498, x1499, x1500 => F66_1_step n k0 k1 (F66_1_it n k0 k1 k) x1498 x1499 x1500
noncomputable def F66_1 {R : Type} (n : Nat) (x1498 : ByteArray) (x1499 : ByteArray) (x1500 : Int) (k0 : Bool → Option R) (k1 : ByteArray → ByteArray → Option R) : Option R := F66_1_it n k0 k1 n x1498 x1499 x1500
noncomputable def F66_1z (n : Nat) : Sm G := inZ G 0 ⟨[0, 3, 4], []⟩ F66_1s fun R x K => F66_1_it n (fun u0 => K .ret (SSh.enc G F66_1x0 ((u0, ()), ()))) (fun u0 u1 => K (.exit 0) (SSh.enc G F66_1x1 ((u0, (u1, ())), ()))) n x.1.1 x.1.2.1 x.1.2.2.1
theorem F66_1_eq (n : Nat) (R : Type) (rec : SSh.den G F66_1s → Option R) (x : SSh.den G F66_1s) (K : AE → St G → Option R) :
  F66_1_step n (fun u0 => K .ret (SSh.enc G F66_1x0 ((u0, ()), ()))) (fun u0 u1 => K (.exit 0) (SSh.enc G F66_1x1 ((u0, (u1, ())), ()))) (fun x1498 x1499 x1500 => rec ((x1498, (x1499, (x1500, ()))), ())) x.1.1 x.1.2.1 x.1.2.2.1 = exec prog G (ro G (tabOf (E37 n)) (frOf [F66_0z n]) R) 0 (codeAt F66c [1, 1, 1, 0, 1, 0, 0]) .no (SSh.enc G F66_1s x) (kLoop G (ro G (tabOf (E37 n)) (frOf [F66_0z n]) R) 0 ⟨[0, 3, 4], []⟩ F66_1s ⟨⟨[0, 3], []⟩, ⟨[2], []⟩, [(0, ⟨[0, 3], []⟩)]⟩ rec K) := by kernel_rfl
theorem F66_1_ok (n : Nat) : FragOK prog G 0 (codeAt F66c [1, 1, 1, 0, 1, 0]) (F66_1z n) :=
  frag_loop (Z := fun R k (x : SSh.den G F66_1s) K => F66_1_it n (fun u0 => K .ret (SSh.enc G F66_1x0 ((u0, ()), ()))) (fun u0 u1 => K (.exit 0) (SSh.enc G F66_1x1 ((u0, (u1, ())), ()))) k x.1.1 x.1.2.1 x.1.2.2.1) laws fnok (E37_ok n).tab (AllF.of (l := []) (by kernel_rfl) AllF.nil) (fun _ _ _ => rfl) (fun R k y K => F66_1_eq n R (fun (x : SSh.den G F66_1s) => F66_1_it n (fun u0 => K .ret (SSh.enc G F66_1x0 ((u0, ()), ()))) (fun u0 u1 => K (.exit 0) (SSh.enc G F66_1x1 ((u0, (u1, ())), ()))) k x.1.1 x.1.2.1 x.1.2.2.1) y K) n
-- 70 loop.example/slowworm/spec.inRange
noncomputable def F70c : Code := bodyOf Go.Proofs.Try.f70
noncomputable def F70 (n : Nat) (a1512 : Int) (a1513 : Int) (a1514 : Int) : Option (Bool × Unit) :=
  (bif (decide (a1512 ≥ a1513)) then
  some ((decide (a1512 ≤ a1514)), ())
  else some (false, ()))
noncomputable def F70e (n : Nat) : Ent G := ⟨70, (.cons (.int .i64) (.cons (.int .i64) (.cons (.int .i64) .nil))), [], .bool, [], fun x y => F70 n x.1 x.2.1 x.2.2.1⟩
theorem F70_eq (n : Nat) (x : ShL.den G (.cons (.int .i64) (.cons (.int .i64) (.cons (.int .i64) .nil)))) (y : denO G []) : (F70e n).F x y = runFn prog G (ro G (tabOf (E37 n)) (frOf []) _) Go.Proofs.Try.f70 .no [(0, .fz)] (ShL.enc G (.cons (.int .i64) (.cons (.int .i64) (.cons (.int .i64) .nil))) x) (encO G [] y) (decR .bool []) := by kernel_rfl
theorem F70_ok (n : Nat) : EntOK prog G (F70e n) :=
  ent_ok (fr := frOf []) (ann := .no) (frm := [(0, .fz)]) laws fnok (E37_ok n).tab (e := F70e n) (fn := Go.Proofs.Try.f70) (by kernel_rfl) (AllF.ofB (cd := F70c) (l := []) (by kernel_rfl) (by kernel_rfl) AllF.nil) (F70_eq n)
noncomputable def E38 (n : Nat) : List (Ent G) := F70e n :: E37 n
theorem E38_ok (n : Nat) : AllE prog G (E38 n) := AllE.cons (F70_ok n) (E37_ok n)
noncomputable def F66 (n : Nat) (a1488 : ByteArray) : Option (Bool × Unit) :=
  (F66_0 n a1488 a1488 (fun z1496 z1497 =>
  (F66_1 n z1496 z1497 (0 : Int) (fun z1508 =>
  some (z1508, ())) (fun z1509 z1510 =>
  (andThen (F70 n ((z1510.size) : Int) (1 : Int) (40 : Int)) fun r1517 =>
  (bif r1517.1 then
  (bif (decide ((0 : Int) < ((z1510.size) : Int))) then
  (bif ((strOf z1510 (0 : Nat)) != (48 : Int)) then
  some (true, ())
  else some (((z1509.toList) == (({ data := #[48] } : ByteArray).toList)), ()))
  else none)
  else some (false, ())))))))
noncomputable def F66e (n : Nat) : Ent G := ⟨66, (.cons .str .nil), [], .bool, [], fun x y => F66 n x.1⟩
theorem F66_eq (n : Nat) (x : ShL.den G (.cons .str .nil)) (y : denO G []) : (F66e n).F x y = runFn prog G (ro G (tabOf (E38 n)) (frOf [F66_0z n, F66_1z n]) _) Go.Proofs.Try.f66 (.nd .no (.nd .no (.nd (.use 0) (.nd (.nd .no (.nd (.use 1) .no)) .no)))) [(0, .fz)] (ShL.enc G (.cons .str .nil) x) (encO G [] y) (decR .bool []) := by kernel_rfl
theorem F66_ok (n : Nat) : EntOK prog G (F66e n) :=
  ent_ok (fr := frOf [F66_0z n, F66_1z n]) (ann := (.nd .no (.nd .no (.nd (.use 0) (.nd (.nd .no (.nd (.use 1) .no)) .no))))) (frm := [(0, .fz)]) laws fnok (E38_ok n).tab (e := F66e n) (fn := Go.Proofs.Try.f66) (by kernel_rfl) (AllF.ofB (cd := F66c) (l := [(0, codeAt F66c [1, 1, 0]), (1, codeAt F66c [1, 1, 1, 0, 1, 0])]) (by kernel_rfl) (by kernel_rfl) (AllF.cons (F66_0_ok n) (AllF.cons (F66_1_ok n) AllF.nil))) (F66_eq n)
noncomputable def E39 (n : Nat) : List (Ent G) := F66e n :: E38 n
theorem E39_ok (n : Nat) : AllE prog G (E39 n) := AllE.cons (F66_ok n) (E38_ok n)
-- 67 loop.example/slowworm/spec.validText
noncomputable def F67c : Code := bodyOf Go.Proofs.Try.f67
noncomputable def F67 (n : Nat) (a1526 : ByteArray) : Option (Bool × Unit) :=
  some ((decide (((a1526.size) : Int) ≤ (400 : Int))), ())
noncomputable def F67e (n : Nat) : Ent G := ⟨67, (.cons .str .nil), [], .bool, [], fun x y => F67 n x.1⟩
theorem F67_eq (n : Nat) (x : ShL.den G (.cons .str .nil)) (y : denO G []) : (F67e n).F x y = runFn prog G (ro G (tabOf (E39 n)) (frOf []) _) Go.Proofs.Try.f67 .no [(0, .fz)] (ShL.enc G (.cons .str .nil) x) (encO G [] y) (decR .bool []) := by kernel_rfl
theorem F67_ok (n : Nat) : EntOK prog G (F67e n) :=
  ent_ok (fr := frOf []) (ann := .no) (frm := [(0, .fz)]) laws fnok (E39_ok n).tab (e := F67e n) (fn := Go.Proofs.Try.f67) (by kernel_rfl) (AllF.ofB (cd := F67c) (l := []) (by kernel_rfl) (by kernel_rfl) AllF.nil) (F67_eq n)
noncomputable def E40 (n : Nat) : List (Ent G) := F67e n :: E39 n
theorem E40_ok (n : Nat) : AllE prog G (E40 n) := AllE.cons (F67_ok n) (E39_ok n)
-- 68 loop.example/slowworm/spec.validName
noncomputable def F68c : Code := bodyOf Go.Proofs.Try.f68
-- 85 loop.example/slowworm/spec.letter
noncomputable def F85c : Code := bodyOf Go.Proofs.Try.f85
noncomputable def F85 (n : Nat) (a1538 : Int) : Option (Bool × Unit) :=
  (bif (decide (a1538 ≥ (97 : Int))) then
  (bif (decide (a1538 ≤ (122 : Int))) then
  some (true, ())
  else (bif (decide (a1538 ≥ (65 : Int))) then
  (bif (decide (a1538 ≤ (90 : Int))) then
  some (true, ())
  else some ((a1538 == (95 : Int)), ()))
  else some ((a1538 == (95 : Int)), ())))
  else (bif (decide (a1538 ≥ (65 : Int))) then
  (bif (decide (a1538 ≤ (90 : Int))) then
  some (true, ())
  else some ((a1538 == (95 : Int)), ()))
  else some ((a1538 == (95 : Int)), ())))
noncomputable def F85e (n : Nat) : Ent G := ⟨85, (.cons (.int .u8) .nil), [], .bool, [], fun x y => F85 n x.1⟩
theorem F85_eq (n : Nat) (x : ShL.den G (.cons (.int .u8) .nil)) (y : denO G []) : (F85e n).F x y = runFn prog G (ro G (tabOf (E40 n)) (frOf []) _) Go.Proofs.Try.f85 .no [(0, .fz)] (ShL.enc G (.cons (.int .u8) .nil) x) (encO G [] y) (decR .bool []) := by kernel_rfl
theorem F85_ok (n : Nat) : EntOK prog G (F85e n) :=
  ent_ok (fr := frOf []) (ann := .no) (frm := [(0, .fz)]) laws fnok (E40_ok n).tab (e := F85e n) (fn := Go.Proofs.Try.f85) (by kernel_rfl) (AllF.ofB (cd := F85c) (l := []) (by kernel_rfl) (by kernel_rfl) AllF.nil) (F85_eq n)
noncomputable def E41 (n : Nat) : List (Ent G) := F85e n :: E40 n
theorem E41_ok (n : Nat) : AllE prog G (E41 n) := AllE.cons (F85_ok n) (E40_ok n)
-- 86 loop.example/slowworm/spec.digit
noncomputable def F86c : Code := bodyOf Go.Proofs.Try.f86
noncomputable def F86 (n : Nat) (a1553 : Int) : Option (Bool × Unit) :=
  (bif (decide (a1553 ≥ (48 : Int))) then
  some ((decide (a1553 ≤ (57 : Int))), ())
  else some (false, ()))
noncomputable def F86e (n : Nat) : Ent G := ⟨86, (.cons (.int .u8) .nil), [], .bool, [], fun x y => F86 n x.1⟩
theorem F86_eq (n : Nat) (x : ShL.den G (.cons (.int .u8) .nil)) (y : denO G []) : (F86e n).F x y = runFn prog G (ro G (tabOf (E41 n)) (frOf []) _) Go.Proofs.Try.f86 .no [(0, .fz)] (ShL.enc G (.cons (.int .u8) .nil) x) (encO G [] y) (decR .bool []) := by kernel_rfl
theorem F86_ok (n : Nat) : EntOK prog G (F86e n) :=
  ent_ok (fr := frOf []) (ann := .no) (frm := [(0, .fz)]) laws fnok (E41_ok n).tab (e := F86e n) (fn := Go.Proofs.Try.f86) (by kernel_rfl) (AllF.ofB (cd := F86c) (l := []) (by kernel_rfl) (by kernel_rfl) AllF.nil) (F86_eq n)
noncomputable def E42 (n : Nat) : List (Ent G) := F86e n :: E41 n
theorem E42_ok (n : Nat) : AllE prog G (E42 n) := AllE.cons (F86_ok n) (E41_ok n)
noncomputable def F68_0x0 : SSh := ⟨34, [(2, .bool)], []⟩
noncomputable def F68_0x1 : SSh := ⟨34, [(0, .str)], []⟩
noncomputable def F68_0s : SSh := ⟨34, [(0, .str), (3, (.int .i64))], []⟩
noncomputable def F68_0_step {R : Type} (n : Nat) (k0 : Bool → Option R) (k1 : ByteArray → Option R) (rec : ByteArray → Int → Option R) (x1533 : ByteArray) (x1534 : Int) : Option R :=
  (bif (decide (x1534 < ((x1533.size) : Int))) then
  (bif (decide ((0 : Int) ≤ x1534)) then
  (bif (decide (x1534 < ((x1533.size) : Int))) then
  (andThen (F85 n (strOf x1533 (x1534.toNat))) fun r1549 =>
  (bif (!r1549.1) then
  (bif (x1534 == (0 : Int)) then
  (k0 false)
  else (bif (decide ((0 : Int) ≤ x1534)) then
  (bif (decide (x1534 < ((x1533.size) : Int))) then
  (andThen (F86 n (strOf x1533 (x1534.toNat))) fun r1556 =>
  (bif (!r1556.1) then
  (k0 false)
  else (rec x1533 (IntKind.wrap .i64 (x1534 + (1 : Int))))))
  else none)
  else none))
  else (rec x1533 (IntKind.wrap .i64 (x1534 + (1 : Int))))))
  else none)
  else none)
  else (k1 x1533))
noncomputable def F68_0_it {R : Type} (n : Nat) (k0 : Bool → Option R) (k1 : ByteArray → Option R) : Nat → ByteArray → Int → Option R
  | 0, _, _ => none
  | k + 1, x1533, x1534 => F68_0_step n k0 k1 (F68_0_it n k0 k1 k) x1533 x1534
noncomputable def F68_0 {R : Type} (n : Nat) (x1533 : ByteArray) (x1534 : Int) (k0 : Bool → Option R) (k1 : ByteArray → Option R) : Option R := F68_0_it n k0 k1 n x1533 x1534
noncomputable def F68_0z (n : Nat) : Sm G := inZ G 0 ⟨[0, 3], []⟩ F68_0s fun R x K => F68_0_it n (fun u0 => K .ret (SSh.enc G F68_0x0 ((u0, ()), ()))) (fun u0 => K (.exit 0) (SSh.enc G F68_0x1 ((u0, ()), ()))) n x.1.1 x.1.2.1
theorem F68_0_eq (n : Nat) (R : Type) (rec : SSh.den G F68_0s → Option R) (x : SSh.den G F68_0s) (K : AE → St G → Option R) :
  F68_0_step n (fun u0 => K .ret (SSh.enc G F68_0x0 ((u0, ()), ()))) (fun u0 => K (.exit 0) (SSh.enc G F68_0x1 ((u0, ()), ()))) (fun x1533 x1534 => rec ((x1533, (x1534, ())), ())) x.1.1 x.1.2.1 = exec prog G (ro G (tabOf (E42 n)) (frOf []) R) 0 (codeAt F68c [1, 0, 1, 0, 0]) .no (SSh.enc G F68_0s x) (kLoop G (ro G (tabOf (E42 n)) (frOf []) R) 0 ⟨[0, 3], []⟩ F68_0s ⟨⟨[0], []⟩, ⟨[2], []⟩, [(0, ⟨[0], []⟩)]⟩ rec K) := by kernel_rfl
theorem F68_0_ok (n : Nat) : FragOK prog G 0 (codeAt F68c [1, 0, 1, 0]) (F68_0z n) :=
  frag_loop (Z := fun R k (x : SSh.den G F68_0s) K => F68_0_it n (fun u0 => K .ret (SSh.enc G F68_0x0 ((u0, ()), ()))) (fun u0 => K (.exit 0) (SSh.enc G F68_0x1 ((u0, ()), ()))) k x.1.1 x.1.2.1) laws fnok (E42_ok n).tab (AllF.of (l := []) (by kernel_rfl) AllF.nil) (fun _ _ _ => rfl) (fun R k y K => F68_0_eq n R (fun (x : SSh.den G F68_0s) => F68_0_it n (fun u0 => K .ret (SSh.enc G F68_0x0 ((u0, ()), ()))) (fun u0 => K (.exit 0) (SSh.enc G F68_0x1 ((u0, ()), ()))) k x.1.1 x.1.2.1) y K) n
-- 87 loop.example/slowworm/spec.isKeyword
noncomputable def F87c : Code := bodyOf Go.Proofs.Try.f87
-- 90 loop.example/slowworm/spec.keywords
noncomputable def F90c : Code := bodyOf Go.Proofs.Try.f90
noncomputable def F90 (n : Nat)  : Option (List ByteArray × Unit) :=
  some ((({ data := #[78, 111, 110, 101] } : ByteArray) :: (({ data := #[84, 114, 117, 101] } : ByteArray) :: (({ data := #[70, 97, 108, 115, 101] } : ByteArray) :: (({ data := #[97, 110, 100] } : ByteArray) :: (({ data := #[111, 114] } : ByteArray) :: (({ data := #[110, 111, 116] } : ByteArray) :: (({ data := #[105, 110] } : ByteArray) :: (({ data := #[105, 115] } : ByteArray) :: (({ data := #[105, 102] } : ByteArray) :: (({ data := #[101, 108, 105, 102] } : ByteArray) :: (({ data := #[101, 108, 115, 101] } : ByteArray) :: (({ data := #[119, 104, 105, 108, 101] } : ByteArray) :: (({ data := #[102, 111, 114] } : ByteArray) :: (({ data := #[98, 114, 101, 97, 107] } : ByteArray) :: (({ data := #[99, 111, 110, 116, 105, 110, 117, 101] } : ByteArray) :: (({ data := #[112, 97, 115, 115] } : ByteArray) :: (({ data := #[100, 101, 102] } : ByteArray) :: (({ data := #[114, 101, 116, 117, 114, 110] } : ByteArray) :: (({ data := #[108, 97, 109, 98, 100, 97] } : ByteArray) :: (({ data := #[99, 108, 97, 115, 115] } : ByteArray) :: (({ data := #[116, 114, 121] } : ByteArray) :: (({ data := #[101, 120, 99, 101, 112, 116] } : ByteArray) :: (({ data := #[102, 105, 110, 97, 108, 108, 121] } : ByteArray) :: (({ data := #[114, 97, 105, 115, 101] } : ByteArray) :: (({ data := #[97, 115] } : ByteArray) :: (({ data := #[103, 108, 111, 98, 97, 108] } : ByteArray) :: (({ data := #[110, 111, 110, 108, 111, 99, 97, 108] } : ByteArray) :: (({ data := #[121, 105, 101, 108, 100] } : ByteArray) :: (({ data := #[105, 109, 112, 111, 114, 116] } : ByteArray) :: (({ data := #[100, 101, 108] } : ByteArray) :: (({ data := #[97, 115, 115, 101, 114, 116] } : ByteArray) :: []))))))))))))))))))))))))))))))), ())
noncomputable def F90e (n : Nat) : Ent G := ⟨90, .nil, [], (.imm 2), [], fun x y => F90 n⟩
theorem F90_eq (n : Nat) (x : ShL.den G .nil) (y : denO G []) : (F90e n).F x y = runFn prog G (ro G (tabOf (E42 n)) (frOf []) _) Go.Proofs.Try.f90 .no [(0, .fz)] (ShL.enc G .nil x) (encO G [] y) (decR (.imm 2) []) := by kernel_rfl
theorem F90_ok (n : Nat) : EntOK prog G (F90e n) :=
  ent_ok (fr := frOf []) (ann := .no) (frm := [(0, .fz)]) laws fnok (E42_ok n).tab (e := F90e n) (fn := Go.Proofs.Try.f90) (by kernel_rfl) (AllF.ofB (cd := F90c) (l := []) (by kernel_rfl) (by kernel_rfl) AllF.nil) (F90_eq n)
noncomputable def E43 (n : Nat) : List (Ent G) := F90e n :: E42 n
theorem E43_ok (n : Nat) : AllE prog G (E43 n) := AllE.cons (F90_ok n) (E42_ok n)
-- 52 loop.example/slowworm/spec.isOne
noncomputable def F52c : Code := bodyOf Go.Proofs.Try.f52
noncomputable def F52_0x0 : SSh := ⟨18, [(4, .bool)], []⟩
noncomputable def F52_0x1 : SSh := ⟨18, [], []⟩
noncomputable def F52_0s : SSh := ⟨18, [(0, (.imm 2)), (1, .str), (5, (.int .i64))], []⟩
noncomputable def F52_0_step {R : Type} (n : Nat) (k0 : Bool → Option R) (k1 : Option R) (rec : List ByteArray → ByteArray → Int → Option R) (x1569 : List ByteArray) (x1570 : ByteArray) (x1571 : Int) : Option R :=
  (bif (decide (x1571 < ((x1569.length) : Int))) then
  (bif (decide ((0 : Int) ≤ x1571)) then
  (bif (decide (x1571 < ((x1569.length) : Int))) then
  (bif (((x1569.getD (x1571.toNat) ({ data := #[] } : ByteArray)).toList) == (x1570.toList)) then
  (k0 true)
  else (rec x1569 x1570 (IntKind.wrap .i64 (x1571 + (1 : Int)))))
  else none)
  else none)
  else k1)
noncomputable def F52_0_it {R : Type} (n : Nat) (k0 : Bool → Option R) (k1 : Option R) : Nat → List ByteArray → ByteArray → Int → Option R
  | 0, _, _, _ => none
  | k + 1, x1569, x1570, x1571 => F52_0_step n k0 k1 (F52_0_it n k0 k1 k) x1569 x1570 x1571
noncomputable def F52_0 {R : Type} (n : Nat) (x1569 : List ByteArray) (x1570 : ByteArray) (x1571 : Int) (k0 : Bool → Option R) (k1 : Option R) : Option R := F52_0_it n k0 k1 n x1569 x1570 x1571
noncomputable def F52_0z (n : Nat) : Sm G := inZ G 0 ⟨[0, 1, 5], []⟩ F52_0s fun R x K => F52_0_it n (fun u0 => K .ret (SSh.enc G F52_0x0 ((u0, ()), ()))) (K (.exit 0) (SSh.enc G F52_0x1 ((), ()))) n x.1.1 x.1.2.1 x.1.2.2.1
theorem F52_0_eq (n : Nat) (R : Type) (rec : SSh.den G F52_0s → Option R) (x : SSh.den G F52_0s) (K : AE → St G → Option R) :
  F52_0_step n (fun u0 => K .ret (SSh.enc G F52_0x0 ((u0, ()), ()))) (K (.exit 0) (SSh.enc G F52_0x1 ((), ()))) (fun x1569 x1570 x1571 => rec ((x1569, (x1570, (x1571, ()))), ())) x.1.1 x.1.2.1 x.1.2.2.1 = exec prog G (ro G (tabOf (E43 n)) (frOf []) R) 0 (codeAt F52c [1, 0, 1, 0, 0]) .no (SSh.enc G F52_0s x) (kLoop G (ro G (tabOf (E43 n)) (frOf []) R) 0 ⟨[0, 1, 5], []⟩ F52_0s ⟨⟨[], []⟩, ⟨[4], []⟩, [(0, ⟨[], []⟩)]⟩ rec K) := by kernel_rfl
theorem F52_0_ok (n : Nat) : FragOK prog G 0 (codeAt F52c [1, 0, 1, 0]) (F52_0z n) :=
  frag_loop (Z := fun R k (x : SSh.den G F52_0s) K => F52_0_it n (fun u0 => K .ret (SSh.enc G F52_0x0 ((u0, ()), ()))) (K (.exit 0) (SSh.enc G F52_0x1 ((), ()))) k x.1.1 x.1.2.1 x.1.2.2.1) laws fnok (E43_ok n).tab (AllF.of (l := []) (by kernel_rfl) AllF.nil) (fun _ _ _ => rfl) (fun R k y K => F52_0_eq n R (fun (x : SSh.den G F52_0s) => F52_0_it n (fun u0 => K .ret (SSh.enc G F52_0x0 ((u0, ()), ()))) (K (.exit 0) (SSh.enc G F52_0x1 ((), ()))) k x.1.1 x.1.2.1 x.1.2.2.1) y K) n
noncomputable def F52 (n : Nat) (a1567 : List ByteArray) (a1568 : ByteArray) : Option (Bool × Unit) :=
  (F52_0 n a1567 a1568 (0 : Int) (fun z1578 =>
  some (z1578, ())) (
  some (false, ())))
noncomputable def F52e (n : Nat) : Ent G := ⟨52, (.cons (.imm 2) (.cons .str .nil)), [], .bool, [], fun x y => F52 n x.1 x.2.1⟩
theorem F52_eq (n : Nat) (x : ShL.den G (.cons (.imm 2) (.cons .str .nil))) (y : denO G []) : (F52e n).F x y = runFn prog G (ro G (tabOf (E43 n)) (frOf [F52_0z n]) _) Go.Proofs.Try.f52 (.nd .no (.nd (.nd .no (.nd (.use 0) .no)) .no)) [(0, .fz)] (ShL.enc G (.cons (.imm 2) (.cons .str .nil)) x) (encO G [] y) (decR .bool []) := by kernel_rfl
theorem F52_ok (n : Nat) : EntOK prog G (F52e n) :=
  ent_ok (fr := frOf [F52_0z n]) (ann := (.nd .no (.nd (.nd .no (.nd (.use 0) .no)) .no))) (frm := [(0, .fz)]) laws fnok (E43_ok n).tab (e := F52e n) (fn := Go.Proofs.Try.f52) (by kernel_rfl) (AllF.ofB (cd := F52c) (l := [(0, codeAt F52c [1, 0, 1, 0])]) (by kernel_rfl) (by kernel_rfl) (AllF.cons (F52_0_ok n) AllF.nil)) (F52_eq n)
noncomputable def E44 (n : Nat) : List (Ent G) := F52e n :: E43 n
theorem E44_ok (n : Nat) : AllE prog G (E44 n) := AllE.cons (F52_ok n) (E43_ok n)
noncomputable def F87 (n : Nat) (a1564 : ByteArray) : Option (Bool × Unit) :=
  (andThen (F90 n) fun r1566 =>
  (andThen (F52 n r1566.1 a1564) fun r1579 =>
  some (r1579.1, ())))
noncomputable def F87e (n : Nat) : Ent G := ⟨87, (.cons .str .nil), [], .bool, [], fun x y => F87 n x.1⟩
theorem F87_eq (n : Nat) (x : ShL.den G (.cons .str .nil)) (y : denO G []) : (F87e n).F x y = runFn prog G (ro G (tabOf (E44 n)) (frOf []) _) Go.Proofs.Try.f87 .no [(0, .fz)] (ShL.enc G (.cons .str .nil) x) (encO G [] y) (decR .bool []) := by kernel_rfl
theorem F87_ok (n : Nat) : EntOK prog G (F87e n) :=
  ent_ok (fr := frOf []) (ann := .no) (frm := [(0, .fz)]) laws fnok (E44_ok n).tab (e := F87e n) (fn := Go.Proofs.Try.f87) (by kernel_rfl) (AllF.ofB (cd := F87c) (l := []) (by kernel_rfl) (by kernel_rfl) AllF.nil) (F87_eq n)
noncomputable def E45 (n : Nat) : List (Ent G) := F87e n :: E44 n
theorem E45_ok (n : Nat) : AllE prog G (E45 n) := AllE.cons (F87_ok n) (E44_ok n)
noncomputable def F68 (n : Nat) (a1532 : ByteArray) : Option (Bool × Unit) :=
  (F68_0 n a1532 (0 : Int) (fun z1560 =>
  some (z1560, ())) (fun z1561 =>
  (andThen (F70 n ((z1561.size) : Int) (1 : Int) (12 : Int)) fun r1563 =>
  (bif r1563.1 then
  (andThen (F87 n z1561) fun r1580 =>
  some ((!r1580.1), ()))
  else some (false, ())))))
noncomputable def F68e (n : Nat) : Ent G := ⟨68, (.cons .str .nil), [], .bool, [], fun x y => F68 n x.1⟩
theorem F68_eq (n : Nat) (x : ShL.den G (.cons .str .nil)) (y : denO G []) : (F68e n).F x y = runFn prog G (ro G (tabOf (E45 n)) (frOf [F68_0z n]) _) Go.Proofs.Try.f68 (.nd .no (.nd (.nd .no (.nd (.use 0) .no)) .no)) [(0, .fz)] (ShL.enc G (.cons .str .nil) x) (encO G [] y) (decR .bool []) := by kernel_rfl
theorem F68_ok (n : Nat) : EntOK prog G (F68e n) :=
  ent_ok (fr := frOf [F68_0z n]) (ann := (.nd .no (.nd (.nd .no (.nd (.use 0) .no)) .no))) (frm := [(0, .fz)]) laws fnok (E45_ok n).tab (e := F68e n) (fn := Go.Proofs.Try.f68) (by kernel_rfl) (AllF.ofB (cd := F68c) (l := [(0, codeAt F68c [1, 0, 1, 0])]) (by kernel_rfl) (by kernel_rfl) (AllF.cons (F68_0_ok n) AllF.nil)) (F68_eq n)
noncomputable def E46 (n : Nat) : List (Ent G) := F68e n :: E45 n
theorem E46_ok (n : Nat) : AllE prog G (E46 n) := AllE.cons (F68_ok n) (E45_ok n)
-- 69 loop.example/slowworm/spec.opLevel
end Go.Proofs.Ytdfnlaikelijeaa.Am
