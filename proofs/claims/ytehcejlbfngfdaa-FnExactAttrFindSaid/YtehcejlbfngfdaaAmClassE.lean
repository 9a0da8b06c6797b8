/- The functions of the seat of classes, printed. -/
import Derived.Test.YtehcejlbfngfdaaAmClassSig
namespace Go.Proofs.Ytehcejlbfngfdaa.Am
open Go Go.Proofs.Try
set_option autoImplicit false
set_option linter.unusedVariables false
set_option maxRecDepth 100000
noncomputable def E0 (n : Nat) : List (Ent G) := []
theorem E0_ok (n : Nat) : AllE prog G (E0 n) := AllE.nil
-- 3 loop.example/slowworm/laws.FnClassesOk
noncomputable def F3c : Code := bodyOf Go.Proofs.Try.f3
-- 10 loop.example/slowworm/spec.DrawClassesOk
noncomputable def F10c : Code := bodyOf Go.Proofs.Try.f10
-- 31 loop.example/slowworm/spec.newRnd
noncomputable def F31c : Code := bodyOf Go.Proofs.Try.f31
noncomputable def F31 (n : Nat) (a4 : List Int) : Option (Unit × ((List Int × (Int × Unit)) × Unit)) :=
  let v5 := ((a4.length) : Int)
  let v6 := (if ((4000 : Int) < v5) then (4000 : Int) else v5)
  (bif (decide ((0 : Int) ≤ v6)) then
  (bif (decide (v6 ≤ ((a4.length) : Int))) then
  some ((), ((((a4.take (v6.toNat)).drop (0 : Nat)), ((0 : Int), ())), ()))
  else none)
  else none)
noncomputable def F31e (n : Nat) : Ent G := ⟨31, (.cons (.imm 1) .nil), [], (.ptr 0 0), [(.box 88 (.cons (.imm 1) (.cons (.int .i64) .nil)))], fun x y => F31 n x.1⟩
theorem F31_eq (n : Nat) (x : ShL.den G (.cons (.imm 1) .nil)) (y : denO G []) : (F31e n).F x y = runFn prog G (ro G (tabOf (E0 n)) (frOf []) _) Go.Proofs.Try.f31 .no [(0, .fz)] (ShL.enc G (.cons (.imm 1) .nil) x) (encO G [] y) (decR (.ptr 0 0) [(.box 88 (.cons (.imm 1) (.cons (.int .i64) .nil)))]) := by kernel_rfl
theorem F31_ok (n : Nat) : EntOK prog G (F31e n) :=
  ent_ok (fr := frOf []) (ann := .no) (frm := [(0, .fz)]) laws fnok (E0_ok n).tab (e := F31e n) (fn := Go.Proofs.Try.f31) (by kernel_rfl) (AllF.ofB (cd := F31c) (l := []) (by kernel_rfl) (by kernel_rfl) AllF.nil) (F31_eq n)
noncomputable def E1 (n : Nat) : List (Ent G) := F31e n :: E0 n
theorem E1_ok (n : Nat) : AllE prog G (E1 n) := AllE.cons (F31_ok n) (E0_ok n)
-- 43 (*loop.example/slowworm/spec.rnd).pick
noncomputable def F43c : Code := bodyOf Go.Proofs.Try.f43
noncomputable def F43_0x0 : SSh := ⟨101, [(0, (.ptr 0 0)), (1, (.int .i64)), (5, (.int .i64))], [(.box 88 (.cons (.imm 1) (.cons (.int .i64) .nil)))]⟩
noncomputable def F43_0s : SSh := ⟨101, [(0, (.ptr 0 0)), (1, (.int .i64)), (5, (.int .i64))], [(.box 88 (.cons (.imm 1) (.cons (.int .i64) .nil)))]⟩
noncomputable def F43_0 {R : Type} (n : Nat) (x16 : Int) (x17 : Int) (x18 : List Int) (x19 : Int) (k0 : Int → Int → List Int → Int → Option R) : Option R :=
  (bif (decide (((x18.length) : Int) > (0 : Int))) then
  let v22 := ((x18.length) : Int)
  (bif (!(decide (v22 = (0 : Int)))) then
  let v23 := (x19.tmod v22)
  (bif (decide ((0 : Int) ≤ v23)) then
  (bif (decide (v23 < ((x18.length) : Int))) then
  let v26 := (IntKind.wrap .i64 (x18.getD (v23.toNat) (0 : Int)))
  (bif (decide (x16 > (256 : Int))) then
  let v31 := ((x18.length) : Int)
  (bif (!(decide (v31 = (0 : Int)))) then
  let v32 := ((IntKind.wrap .i64 ((IntKind.wrap .i64 (x19 * (7 : Int))) + (3 : Int))).tmod v31)
  (bif (decide ((0 : Int) ≤ v32)) then
  (bif (decide (v32 < ((x18.length) : Int))) then
  let v40 := ((x18.length) : Int)
  (bif (!(decide (v40 = (0 : Int)))) then
  let v43 := (IntKind.wrap .i64 ((IntKind.wrap .i64 ((IntKind.wrap .i64 ((IntKind.wrap .i64 (v26 * (131 : Int))) + (IntKind.wrap .i64 ((IntKind.wrap .i64 (x18.getD (v32.toNat) (0 : Int))) * (1117 : Int))))) + (IntKind.wrap .i64 (x19 * (29 : Int))))) + (IntKind.wrap .i64 ((IntKind.wrap .i64 (x19.tdiv v40)) * (53 : Int)))))
  (k0 x16 (IntKind.wrap .i64 ((((BitVec.ofInt (64 : Nat) v43) ^^^ (BitVec.ofInt (64 : Nat) (IntKind.wrap .i64 (v43.tdiv (64 : Int))))).toNat) : Int)) x18 x19)
  else none)
  else none)
  else none)
  else none)
  else (bif (decide (x19 ≥ ((x18.length) : Int))) then
  let v51 := ((x18.length) : Int)
  (bif (!(decide (v51 = (0 : Int)))) then
  let v52 := ((IntKind.wrap .i64 ((IntKind.wrap .i64 (x19 * (7 : Int))) + (3 : Int))).tmod v51)
  (bif (decide ((0 : Int) ≤ v52)) then
  (bif (decide (v52 < ((x18.length) : Int))) then
  let v60 := ((x18.length) : Int)
  (bif (!(decide (v60 = (0 : Int)))) then
  let v63 := (IntKind.wrap .i64 ((IntKind.wrap .i64 ((IntKind.wrap .i64 ((IntKind.wrap .i64 (v26 * (131 : Int))) + (IntKind.wrap .i64 ((IntKind.wrap .i64 (x18.getD (v52.toNat) (0 : Int))) * (1117 : Int))))) + (IntKind.wrap .i64 (x19 * (29 : Int))))) + (IntKind.wrap .i64 ((IntKind.wrap .i64 (x19.tdiv v60)) * (53 : Int)))))
  (k0 x16 (IntKind.wrap .i64 ((((BitVec.ofInt (64 : Nat) v63) ^^^ (BitVec.ofInt (64 : Nat) (IntKind.wrap .i64 (v63.tdiv (64 : Int))))).toNat) : Int)) x18 x19)
  else none)
  else none)
  else none)
  else none)
  else (k0 x16 v26 x18 x19)))
  else none)
  else none)
  else none)
  else (k0 x16 x17 x18 x19))
noncomputable def F43_0z (n : Nat) : Sm G := inZ G 1 ⟨[0, 1, 5], []⟩ F43_0s fun R x K => F43_0 n x.1.2.1 x.1.2.2.1 x.2.1.1 x.2.1.2.1 (fun u0 u1 u2 u3 => K .normal (SSh.enc G F43_0x0 (((), (u0, (u1, ()))), ((u2, (u3, ())), ()))))
theorem F43_0_eq (n : Nat) (R : Type) (x : SSh.den G F43_0s) (K : AE → St G → Option R) :
  F43_0 n x.1.2.1 x.1.2.2.1 x.2.1.1 x.2.1.2.1 (fun u0 u1 u2 u3 => K .normal (SSh.enc G F43_0x0 (((), (u0, (u1, ()))), ((u2, (u3, ())), ())))) = exec prog G (ro G (tabOf (E1 n)) (frOf []) R) 1 (codeAt F43c [1, 1, 1, 0]) .no (SSh.enc G F43_0s x) (kNrm G (ro G (tabOf (E1 n)) (frOf []) R) 1 ⟨⟨[0, 1, 5], []⟩, ⟨[4], []⟩, []⟩ K) := by kernel_rfl
theorem F43_0_ok (n : Nat) : FragOK prog G 1 (codeAt F43c [1, 1, 1, 0]) (F43_0z n) :=
  frag_plain laws fnok (E1_ok n).tab (AllF.of (l := []) (by kernel_rfl) AllF.nil) (F43_0_eq n)
noncomputable def F43 (n : Nat) (a12 : Int) (a13 : List Int) (a14 : Int) : Option (Int × ((List Int × (Int × Unit)) × Unit)) :=
  (bif (decide (a12 < (2 : Int))) then
  some ((0 : Int), ((a13, (a14, ())), ()))
  else (F43_0 n a12 (0 : Int) a13 a14 (fun z66 z67 z68 z69 =>
  (bif (!(decide (z66 = (0 : Int)))) then
  some ((z67.tmod z66), ((z68, ((IntKind.wrap .i64 (z69 + (1 : Int))), ())), ()))
  else none))))
noncomputable def F43e (n : Nat) : Ent G := ⟨43, (.cons (.ptr 0 0) (.cons (.int .i64) .nil)), [(.box 88 (.cons (.imm 1) (.cons (.int .i64) .nil)))], (.int .i64), [(.box 88 (.cons (.imm 1) (.cons (.int .i64) .nil)))], fun x y => F43 n x.2.1 y.1.1 y.1.2.1⟩
theorem F43_eq (n : Nat) (x : ShL.den G (.cons (.ptr 0 0) (.cons (.int .i64) .nil))) (y : denO G [(.box 88 (.cons (.imm 1) (.cons (.int .i64) .nil)))]) : (F43e n).F x y = runFn prog G (ro G (tabOf (E1 n)) (frOf [F43_0z n]) _) Go.Proofs.Try.f43 (.nd .no (.nd .no (.nd .no (.nd (.use 0) .no)))) [(0, .fz)] (ShL.enc G (.cons (.ptr 0 0) (.cons (.int .i64) .nil)) x) (encO G [(.box 88 (.cons (.imm 1) (.cons (.int .i64) .nil)))] y) (decR (.int .i64) [(.box 88 (.cons (.imm 1) (.cons (.int .i64) .nil)))]) := by kernel_rfl
theorem F43_ok (n : Nat) : EntOK prog G (F43e n) :=
  ent_ok (fr := frOf [F43_0z n]) (ann := (.nd .no (.nd .no (.nd .no (.nd (.use 0) .no))))) (frm := [(0, .fz)]) laws fnok (E1_ok n).tab (e := F43e n) (fn := Go.Proofs.Try.f43) (by kernel_rfl) (AllF.ofB (cd := F43c) (l := [(0, codeAt F43c [1, 1, 1, 0])]) (by kernel_rfl) (by kernel_rfl) (AllF.cons (F43_0_ok n) AllF.nil)) (F43_eq n)
noncomputable def E2 (n : Nat) : List (Ent G) := F43e n :: E1 n
theorem E2_ok (n : Nat) : AllE prog G (E2 n) := AllE.cons (F43_ok n) (E1_ok n)
-- 42 (*loop.example/slowworm/spec.rnd).often
noncomputable def F42c : Code := bodyOf Go.Proofs.Try.f42
-- 71 (*loop.example/slowworm/spec.rnd).odd
noncomputable def F71c : Code := bodyOf Go.Proofs.Try.f71
-- 76 (*loop.example/slowworm/spec.rnd).one
noncomputable def F76c : Code := bodyOf Go.Proofs.Try.f76
noncomputable def F76 (n : Nat) (a103 : List Int) (a104 : List Int) (a105 : Int) : Option (Int × ((List Int × (Int × Unit)) × Unit)) :=
  (andThen (F43 n ((a103.length) : Int) a104 a105) fun r107 =>
  (bif (decide ((0 : Int) ≤ r107.1)) then
  (bif (decide (r107.1 < ((a103.length) : Int))) then
  some ((a103.getD (r107.1.toNat) (0 : Int)), ((r107.2.1.1, (r107.2.1.2.1, ())), ()))
  else none)
  else none))
noncomputable def F76e (n : Nat) : Ent G := ⟨76, (.cons (.ptr 0 0) (.cons (.imm 0) .nil)), [(.box 88 (.cons (.imm 1) (.cons (.int .i64) .nil)))], (.int .i64), [(.box 88 (.cons (.imm 1) (.cons (.int .i64) .nil)))], fun x y => F76 n x.2.1 y.1.1 y.1.2.1⟩
theorem F76_eq (n : Nat) (x : ShL.den G (.cons (.ptr 0 0) (.cons (.imm 0) .nil))) (y : denO G [(.box 88 (.cons (.imm 1) (.cons (.int .i64) .nil)))]) : (F76e n).F x y = runFn prog G (ro G (tabOf (E2 n)) (frOf []) _) Go.Proofs.Try.f76 .no [(0, .fz)] (ShL.enc G (.cons (.ptr 0 0) (.cons (.imm 0) .nil)) x) (encO G [(.box 88 (.cons (.imm 1) (.cons (.int .i64) .nil)))] y) (decR (.int .i64) [(.box 88 (.cons (.imm 1) (.cons (.int .i64) .nil)))]) := by kernel_rfl
theorem F76_ok (n : Nat) : EntOK prog G (F76e n) :=
  ent_ok (fr := frOf []) (ann := .no) (frm := [(0, .fz)]) laws fnok (E2_ok n).tab (e := F76e n) (fn := Go.Proofs.Try.f76) (by kernel_rfl) (AllF.ofB (cd := F76c) (l := []) (by kernel_rfl) (by kernel_rfl) AllF.nil) (F76_eq n)
noncomputable def E3 (n : Nat) : List (Ent G) := F76e n :: E2 n
theorem E3_ok (n : Nat) : AllE prog G (E3 n) := AllE.cons (F76_ok n) (E2_ok n)
noncomputable def F71 (n : Nat) (a100 : List Int) (a101 : Int) : Option (Int × ((List Int × (Int × Unit)) × Unit)) :=
  (andThen (F76 n ((-1 : Int) :: ((4611686018427387904 : Int) :: ((-4611686018427387904 : Int) :: ((1001 : Int) :: ((7 : Int) :: ((1000001 : Int) :: ((-9223372036854775808 : Int) :: ((9223372036854775807 : Int) :: [])))))))) a100 a101) fun r110 =>
  some (r110.1, ((r110.2.1.1, (r110.2.1.2.1, ())), ())))
noncomputable def F71e (n : Nat) : Ent G := ⟨71, (.cons (.ptr 0 0) .nil), [(.box 88 (.cons (.imm 1) (.cons (.int .i64) .nil)))], (.int .i64), [(.box 88 (.cons (.imm 1) (.cons (.int .i64) .nil)))], fun x y => F71 n y.1.1 y.1.2.1⟩
theorem F71_eq (n : Nat) (x : ShL.den G (.cons (.ptr 0 0) .nil)) (y : denO G [(.box 88 (.cons (.imm 1) (.cons (.int .i64) .nil)))]) : (F71e n).F x y = runFn prog G (ro G (tabOf (E3 n)) (frOf []) _) Go.Proofs.Try.f71 .no [(0, .fz)] (ShL.enc G (.cons (.ptr 0 0) .nil) x) (encO G [(.box 88 (.cons (.imm 1) (.cons (.int .i64) .nil)))] y) (decR (.int .i64) [(.box 88 (.cons (.imm 1) (.cons (.int .i64) .nil)))]) := by kernel_rfl
theorem F71_ok (n : Nat) : EntOK prog G (F71e n) :=
  ent_ok (fr := frOf []) (ann := .no) (frm := [(0, .fz)]) laws fnok (E3_ok n).tab (e := F71e n) (fn := Go.Proofs.Try.f71) (by kernel_rfl) (AllF.ofB (cd := F71c) (l := []) (by kernel_rfl) (by kernel_rfl) AllF.nil) (F71_eq n)
noncomputable def E4 (n : Nat) : List (Ent G) := F71e n :: E3 n
theorem E4_ok (n : Nat) : AllE prog G (E4 n) := AllE.cons (F71_ok n) (E3_ok n)
noncomputable def F42 (n : Nat) (a95 : Int) (a96 : List Int) (a97 : Int) : Option (Int × ((List Int × (Int × Unit)) × Unit)) :=
  (andThen (F43 n (16 : Int) a96 a97) fun r98 =>
  (bif (r98.1 == (0 : Int)) then
  (andThen (F71 n r98.2.1.1 r98.2.1.2.1) fun r111 =>
  some (r111.1, ((r111.2.1.1, (r111.2.1.2.1, ())), ())))
  else some (a95, ((r98.2.1.1, (r98.2.1.2.1, ())), ()))))
noncomputable def F42e (n : Nat) : Ent G := ⟨42, (.cons (.ptr 0 0) (.cons (.int .i64) .nil)), [(.box 88 (.cons (.imm 1) (.cons (.int .i64) .nil)))], (.int .i64), [(.box 88 (.cons (.imm 1) (.cons (.int .i64) .nil)))], fun x y => F42 n x.2.1 y.1.1 y.1.2.1⟩
theorem F42_eq (n : Nat) (x : ShL.den G (.cons (.ptr 0 0) (.cons (.int .i64) .nil))) (y : denO G [(.box 88 (.cons (.imm 1) (.cons (.int .i64) .nil)))]) : (F42e n).F x y = runFn prog G (ro G (tabOf (E4 n)) (frOf []) _) Go.Proofs.Try.f42 .no [(0, .fz)] (ShL.enc G (.cons (.ptr 0 0) (.cons (.int .i64) .nil)) x) (encO G [(.box 88 (.cons (.imm 1) (.cons (.int .i64) .nil)))] y) (decR (.int .i64) [(.box 88 (.cons (.imm 1) (.cons (.int .i64) .nil)))]) := by kernel_rfl
theorem F42_ok (n : Nat) : EntOK prog G (F42e n) :=
  ent_ok (fr := frOf []) (ann := .no) (frm := [(0, .fz)]) laws fnok (E4_ok n).tab (e := F42e n) (fn := Go.Proofs.Try.f42) (by kernel_rfl) (AllF.ofB (cd := F42c) (l := []) (by kernel_rfl) (by kernel_rfl) AllF.nil) (F42_eq n)
noncomputable def E5 (n : Nat) : List (Ent G) := F42e n :: E4 n
theorem E5_ok (n : Nat) : AllE prog G (E5 n) := AllE.cons (F42_ok n) (E4_ok n)
-- 51 loop.example/slowworm/spec.inList
noncomputable def F51c : Code := bodyOf Go.Proofs.Try.f51
noncomputable def F51_0x0 : SSh := ⟨18, [(4, .bool)], []⟩
noncomputable def F51_0x1 : SSh := ⟨18, [], []⟩
noncomputable def F51_0s : SSh := ⟨18, [(0, (.imm 0)), (1, (.int .i64)), (5, (.int .i64))], []⟩
noncomputable def F51_0_step {R : Type} (n : Nat) (k0 : Bool → Option R) (k1 : Option R) (rec : List Int → Int → Int → Option R) (x116 : List Int) (x117 : Int) (x118 : Int) : Option R :=
  (bif (decide (x118 < ((x116.length) : Int))) then
  (bif (decide ((0 : Int) ≤ x118)) then
  (bif (decide (x118 < ((x116.length) : Int))) then
  (bif ((x116.getD (x118.toNat) (0 : Int)) == x117) then
  (k0 true)
  else (rec x116 x117 (IntKind.wrap .i64 (x118 + (1 : Int)))))
  else none)
  else none)
  else k1)
noncomputable def F51_0_it {R : Type} (n : Nat) (k0 : Bool → Option R) (k1 : Option R) : Nat → List Int → Int → Int → Option R
  | 0, _, _, _ => none
  | k + 1, x116, x117, x118 => F51_0_step n k0 k1 (F51_0_it n k0 k1 k) x116 x117 x118
noncomputable def F51_0 {R : Type} (n : Nat) (x116 : List Int) (x117 : Int) (x118 : Int) (k0 : Bool → Option R) (k1 : Option R) : Option R := F51_0_it n k0 k1 n x116 x117 x118
noncomputable def F51_0z (n : Nat) : Sm G := inZ G 0 ⟨[0, 1, 5], []⟩ F51_0s fun R x K => F51_0_it n (fun u0 => K .ret (SSh.enc G F51_0x0 ((u0, ()), ()))) (K (.exit 0) (SSh.enc G F51_0x1 ((), ()))) n x.1.1 x.1.2.1 x.1.2.2.1
theorem F51_0_eq (n : Nat) (R : Type) (rec : SSh.den G F51_0s → Option R) (x : SSh.den G F51_0s) (K : AE → St G → Option R) :
  F51_0_step n (fun u0 => K .ret (SSh.enc G F51_0x0 ((u0, ()), ()))) (K (.exit 0) (SSh.enc G F51_0x1 ((), ()))) (fun x116 x117 x118 => rec ((x116, (x117, (x118, ()))), ())) x.1.1 x.1.2.1 x.1.2.2.1 = exec prog G (ro G (tabOf (E5 n)) (frOf []) R) 0 (codeAt F51c [1, 0, 1, 0, 0]) .no (SSh.enc G F51_0s x) (kLoop G (ro G (tabOf (E5 n)) (frOf []) R) 0 ⟨[0, 1, 5], []⟩ F51_0s ⟨⟨[], []⟩, ⟨[4], []⟩, [(0, ⟨[], []⟩)]⟩ rec K) := by kernel_rfl
theorem F51_0_ok (n : Nat) : FragOK prog G 0 (codeAt F51c [1, 0, 1, 0]) (F51_0z n) :=
  frag_loop (Z := fun R k (x : SSh.den G F51_0s) K => F51_0_it n (fun u0 => K .ret (SSh.enc G F51_0x0 ((u0, ()), ()))) (K (.exit 0) (SSh.enc G F51_0x1 ((), ()))) k x.1.1 x.1.2.1 x.1.2.2.1) laws fnok (E5_ok n).tab (AllF.of (l := []) (by kernel_rfl) AllF.nil) (fun _ _ _ => rfl) (fun R k y K => F51_0_eq n R (fun (x : SSh.den G F51_0s) => F51_0_it n (fun u0 => K .ret (SSh.enc G F51_0x0 ((u0, ()), ()))) (K (.exit 0) (SSh.enc G F51_0x1 ((), ()))) k x.1.1 x.1.2.1 x.1.2.2.1) y K) n
noncomputable def F51 (n : Nat) (a114 : List Int) (a115 : Int) : Option (Bool × Unit) :=
  (F51_0 n a114 a115 (0 : Int) (fun z125 =>
  some (z125, ())) (
  some (false, ())))
noncomputable def F51e (n : Nat) : Ent G := ⟨51, (.cons (.imm 0) (.cons (.int .i64) .nil)), [], .bool, [], fun x y => F51 n x.1 x.2.1⟩
theorem F51_eq (n : Nat) (x : ShL.den G (.cons (.imm 0) (.cons (.int .i64) .nil))) (y : denO G []) : (F51e n).F x y = runFn prog G (ro G (tabOf (E5 n)) (frOf [F51_0z n]) _) Go.Proofs.Try.f51 (.nd .no (.nd (.nd .no (.nd (.use 0) .no)) .no)) [(0, .fz)] (ShL.enc G (.cons (.imm 0) (.cons (.int .i64) .nil)) x) (encO G [] y) (decR .bool []) := by kernel_rfl
theorem F51_ok (n : Nat) : EntOK prog G (F51e n) :=
  ent_ok (fr := frOf [F51_0z n]) (ann := (.nd .no (.nd (.nd .no (.nd (.use 0) .no)) .no))) (frm := [(0, .fz)]) laws fnok (E5_ok n).tab (e := F51e n) (fn := Go.Proofs.Try.f51) (by kernel_rfl) (AllF.ofB (cd := F51c) (l := [(0, codeAt F51c [1, 0, 1, 0])]) (by kernel_rfl) (by kernel_rfl) (AllF.cons (F51_0_ok n) AllF.nil)) (F51_eq n)
noncomputable def E6 (n : Nat) : List (Ent G) := F51e n :: E5 n
theorem E6_ok (n : Nat) : AllE prog G (E6 n) := AllE.cons (F51_ok n) (E5_ok n)
-- 32 (*loop.example/slowworm/spec.rnd).classes
noncomputable def F32c : Code := bodyOf Go.Proofs.Try.f32
noncomputable def F32_0x0 : SSh := ⟨53, [(0, (.ptr 0 0)), (3, (.own 1)), (4, (.int .i64)), (5, (.int .i64)), (6, (.ptr 2 0)), (7, (.int .i64))], [(.box 88 (.cons (.imm 1) (.cons (.int .i64) .nil))), (.arr 4 true), (.box 45 (.cons (.own 3) (.cons .nil0 .nil))), (.arr 0 true)]⟩
noncomputable def F32_0s : SSh := ⟨53, [(0, (.ptr 0 0)), (3, (.own 1)), (4, (.int .i64)), (5, (.int .i64)), (6, (.ptr 2 0)), (7, (.int .i64))], [(.box 88 (.cons (.imm 1) (.cons (.int .i64) .nil))), (.arr 4 true), (.box 45 (.cons (.own 3) (.cons .nil0 .nil))), (.arr 0 true)]⟩
noncomputable def F32_0 {R : Type} (n : Nat) (x157 : Int) (x158 : Int) (x159 : Int) (x160 : List Int) (x161 : Int) (x162 : List Cls) (x163 : List Int) (k0 : Int → Int → Int → List Int → Int → List Cls → List Int → Option R) : Option R :=
  (andThen (F43 n (if (x158 > (1 : Int)) then x158 else (1 : Int)) x160 x161) fun r165 =>
  (andThen (F42 n r165.1 r165.2.1.1 r165.2.1.2.1) fun r166 =>
  (bif (decide (x158 > (0 : Int))) then
  (andThen (F51 n x163 r166.1) fun r168 =>
  (bif (!r168.1) then
  let v170 := (r166.1 :: [])
  (bif (decide (((x163.length) + (v170.length)) ≤ (68719476736 : Nat))) then
  (k0 x157 x158 x159 r166.2.1.1 r166.2.1.2.1 x162 (x163 ++ v170))
  else none)
  else (k0 x157 x158 x159 r166.2.1.1 r166.2.1.2.1 x162 x163)))
  else (k0 x157 x158 x159 r166.2.1.1 r166.2.1.2.1 x162 x163))))
noncomputable def F32_0z (n : Nat) : Sm G := inZ G 1 ⟨[0, 3, 4, 5, 6, 7], []⟩ F32_0s fun R x K => F32_0 n x.1.2.2.1 x.1.2.2.2.1 x.1.2.2.2.2.2.1 x.2.1.1 x.2.1.2.1 x.2.2.1 x.2.2.2.2.1 (fun u0 u1 u2 u3 u4 u5 u6 => K .normal (SSh.enc G F32_0x0 (((), ((), (u0, (u1, ((), (u2, ())))))), ((u3, (u4, ())), (u5, (((), ((), ())), (u6, ())))))))
theorem F32_0_eq (n : Nat) (R : Type) (x : SSh.den G F32_0s) (K : AE → St G → Option R) :
  F32_0 n x.1.2.2.1 x.1.2.2.2.1 x.1.2.2.2.2.2.1 x.2.1.1 x.2.1.2.1 x.2.2.1 x.2.2.2.2.1 (fun u0 u1 u2 u3 u4 u5 u6 => K .normal (SSh.enc G F32_0x0 (((), ((), (u0, (u1, ((), (u2, ())))))), ((u3, (u4, ())), (u5, (((), ((), ())), (u6, ()))))))) = exec prog G (ro G (tabOf (E6 n)) (frOf []) R) 1 (codeAt F32c [1, 1, 1, 0, 1, 0, 0, 1, 0, 0, 1, 0, 1, 0, 0, 1, 0]) .no (SSh.enc G F32_0s x) (kNrm G (ro G (tabOf (E6 n)) (frOf []) R) 1 ⟨⟨[0, 3, 4, 5, 6, 7], []⟩, ⟨[2], []⟩, [(2, ⟨[0, 3, 4, 5, 6], []⟩), (1, ⟨[0, 3, 4, 5], []⟩), (0, ⟨[3], []⟩)]⟩ K) := by kernel_rfl
theorem F32_0_ok (n : Nat) : FragOK prog G 1 (codeAt F32c [1, 1, 1, 0, 1, 0, 0, 1, 0, 0, 1, 0, 1, 0, 0, 1, 0]) (F32_0z n) :=
  frag_plain laws fnok (E6_ok n).tab (AllF.of (l := []) (by kernel_rfl) AllF.nil) (F32_0_eq n)
noncomputable def F32_1x0 : SSh := ⟨53, [(0, (.ptr 0 0)), (3, (.own 1)), (4, (.int .i64)), (5, (.int .i64)), (6, (.ptr 2 0))], [(.box 88 (.cons (.imm 1) (.cons (.int .i64) .nil))), (.arr 4 true), (.box 45 (.cons (.own 3) (.cons .nil0 .nil))), (.arr 0 true)]⟩
noncomputable def F32_1s : SSh := ⟨53, [(0, (.ptr 0 0)), (3, (.own 1)), (4, (.int .i64)), (5, (.int .i64)), (6, (.ptr 2 0)), (7, (.int .i64))], [(.box 88 (.cons (.imm 1) (.cons (.int .i64) .nil))), (.arr 4 true), (.box 45 (.cons (.own 3) (.cons .nil0 .nil))), (.arr 0 true)]⟩
noncomputable def F32_1_step {R : Type} (n : Nat) (k0 : Int → Int → List Int → Int → List Cls → List Int → Option R) (rec : Int → Int → Int → List Int → Int → List Cls → List Int → Option R) (x149 : Int) (x150 : Int) (x151 : Int) (x152 : List Int) (x153 : Int) (x154 : List Cls) (x155 : List Int) : Option R :=
  (bif (decide (x151 > (0 : Int))) then
  (F32_0 n x149 x150 x151 x152 x153 x154 x155 (fun z172 z173 z174 z175 z176 z177 z178 =>
  (rec z172 z173 (IntKind.wrap .i64 (z174 - (1 : Int))) z175 z176 z177 z178)))
  else (k0 x149 x150 x152 x153 x154 x155))
noncomputable def F32_1_it {R : Type} (n : Nat) (k0 : Int → Int → List Int → Int → List Cls → List Int → Option R) : Nat → Int → Int → Int → List Int → Int → List Cls → List Int → Option R
  | 0, _, _, _, _, _, _, _ => none
  | k + 1, x149, x150, x151, x152, x153, x154, x155 => F32_1_step n k0 (F32_1_it n k0 k) x149 x150 x151 x152 x153 x154 x155
noncomputable def F32_1 {R : Type} (n : Nat) (x149 : Int) (x150 : Int) (x151 : Int) (x152 : List Int) (x153 : Int) (x154 : List Cls) (x155 : List Int) (k0 : Int → Int → List Int → Int → List Cls → List Int → Option R) : Option R := F32_1_it n k0 n x149 x150 x151 x152 x153 x154 x155
noncomputable def F32_1z (n : Nat) : Sm G := inZ G 1 ⟨[0, 3, 4, 5, 6, 7], [(6, (.cell 0 (.own 0)))]⟩ F32_1s fun R x K => F32_1_it n (fun u0 u1 u2 u3 u4 u5 => K (.exit 2) (SSh.enc G F32_1x0 (((), ((), (u0, (u1, ((), ()))))), ((u2, (u3, ())), (u4, (((), ((), ())), (u5, ()))))))) n x.1.2.2.1 x.1.2.2.2.1 x.1.2.2.2.2.2.1 x.2.1.1 x.2.1.2.1 x.2.2.1 x.2.2.2.2.1
theorem F32_1_eq (n : Nat) (R : Type) (rec : SSh.den G F32_1s → Option R) (x : SSh.den G F32_1s) (K : AE → St G → Option R) :
  F32_1_step n (fun u0 u1 u2 u3 u4 u5 => K (.exit 2) (SSh.enc G F32_1x0 (((), ((), (u0, (u1, ((), ()))))), ((u2, (u3, ())), (u4, (((), ((), ())), (u5, ()))))))) (fun x149 x150 x151 x152 x153 x154 x155 => rec (((), ((), (x149, (x150, ((), (x151, ())))))), ((x152, (x153, ())), (x154, (((), ((), ())), (x155, ())))))) x.1.2.2.1 x.1.2.2.2.1 x.1.2.2.2.2.2.1 x.2.1.1 x.2.1.2.1 x.2.2.1 x.2.2.2.2.1 = exec prog G (ro G (tabOf (E6 n)) (frOf [F32_0z n]) R) 1 (codeAt F32c [1, 1, 1, 0, 1, 0, 0, 1, 0, 0, 1, 0, 1, 0, 0]) (.nd .no (.nd (.use 0) .no)) (SSh.enc G F32_1s x) (kLoop G (ro G (tabOf (E6 n)) (frOf [F32_0z n]) R) 1 ⟨[0, 3, 4, 5, 6, 7], [(6, (.cell 0 (.own 0)))]⟩ F32_1s ⟨⟨[0, 3, 4, 5, 6], []⟩, ⟨[2], []⟩, [(2, ⟨[0, 3, 4, 5, 6], []⟩), (1, ⟨[0, 3, 4, 5], []⟩), (0, ⟨[3], []⟩)]⟩ rec K) := by kernel_rfl
theorem F32_1_ok (n : Nat) : FragOK prog G 1 (codeAt F32c [1, 1, 1, 0, 1, 0, 0, 1, 0, 0, 1, 0, 1, 0]) (F32_1z n) :=
  frag_loop (Z := fun R k (x : SSh.den G F32_1s) K => F32_1_it n (fun u0 u1 u2 u3 u4 u5 => K (.exit 2) (SSh.enc G F32_1x0 (((), ((), (u0, (u1, ((), ()))))), ((u2, (u3, ())), (u4, (((), ((), ())), (u5, ()))))))) k x.1.2.2.1 x.1.2.2.2.1 x.1.2.2.2.2.2.1 x.2.1.1 x.2.1.2.1 x.2.2.1 x.2.2.2.2.1) laws fnok (E6_ok n).tab (AllF.of (l := [(0, codeAt F32c [1, 1, 1, 0, 1, 0, 0, 1, 0, 0, 1, 0, 1, 0, 0, 1, 0])]) (by kernel_rfl) (AllF.cons (F32_0_ok n) AllF.nil)) (fun _ _ _ => rfl) (fun R k y K => F32_1_eq n R (fun (x : SSh.den G F32_1s) => F32_1_it n (fun u0 u1 u2 u3 u4 u5 => K (.exit 2) (SSh.enc G F32_1x0 (((), ((), (u0, (u1, ((), ()))))), ((u2, (u3, ())), (u4, (((), ((), ())), (u5, ()))))))) k x.1.2.2.1 x.1.2.2.2.1 x.1.2.2.2.2.2.1 x.2.1.1 x.2.1.2.1 x.2.2.1 x.2.2.2.2.1) y K) n
-- 52 (*loop.example/slowworm/spec.rnd).attrs
noncomputable def F52c : Code := bodyOf Go.Proofs.Try.f52
noncomputable def F52_0x0 : SSh := ⟨40, [(0, (.ptr 0 0)), (1, .bool), (5, (.own 1)), (6, (.own 2)), (7, (.int .i64)), (8, (.int .i64))], [(.box 88 (.cons (.imm 1) (.cons (.int .i64) .nil))), (.arr 3 true), (.arr 2 true)]⟩
noncomputable def F52_0s : SSh := ⟨40, [(0, (.ptr 0 0)), (1, .bool), (5, (.own 1)), (6, (.own 2)), (7, (.int .i64)), (8, (.int .i64))], [(.box 88 (.cons (.imm 1) (.cons (.int .i64) .nil))), (.arr 3 true), (.arr 2 true)]⟩
noncomputable def F52_0 {R : Type} (n : Nat) (x207 : Bool) (x208 : Int) (x209 : Int) (x210 : List Int) (x211 : Int) (x212 : List Atr) (x213 : List ByteArray) (k0 : Bool → Int → Int → List Int → Int → List Atr → List ByteArray → Option R) : Option R :=
  (bif x207 then
  (andThen (F76 n ((1 : Int) :: ((2 : Int) :: ((3 : Int) :: []))) x210 x211) fun r215 =>
  (k0 x207 x208 r215.1 r215.2.1.1 r215.2.1.2.1 x212 x213))
  else (k0 x207 x208 x209 x210 x211 x212 x213))
noncomputable def F52_0z (n : Nat) : Sm G := inZ G 1 ⟨[0, 1, 5, 6, 7, 8], []⟩ F52_0s fun R x K => F52_0 n x.1.2.1 x.1.2.2.2.2.1 x.1.2.2.2.2.2.1 x.2.1.1 x.2.1.2.1 x.2.2.1 x.2.2.2.1 (fun u0 u1 u2 u3 u4 u5 u6 => K .normal (SSh.enc G F52_0x0 (((), (u0, ((), ((), (u1, (u2, ())))))), ((u3, (u4, ())), (u5, (u6, ()))))))
theorem F52_0_eq (n : Nat) (R : Type) (x : SSh.den G F52_0s) (K : AE → St G → Option R) :
  F52_0 n x.1.2.1 x.1.2.2.2.2.1 x.1.2.2.2.2.2.1 x.2.1.1 x.2.1.2.1 x.2.2.1 x.2.2.2.1 (fun u0 u1 u2 u3 u4 u5 u6 => K .normal (SSh.enc G F52_0x0 (((), (u0, ((), ((), (u1, (u2, ())))))), ((u3, (u4, ())), (u5, (u6, ())))))) = exec prog G (ro G (tabOf (E6 n)) (frOf []) R) 1 (codeAt F52c [1, 1, 1, 0, 1, 0, 0, 1, 0, 0, 1, 0, 1, 0]) .no (SSh.enc G F52_0s x) (kNrm G (ro G (tabOf (E6 n)) (frOf []) R) 1 ⟨⟨[0, 1, 5, 6, 7, 8], []⟩, ⟨[4], []⟩, [(1, ⟨[0, 1, 5, 6, 7], []⟩), (0, ⟨[5], []⟩)]⟩ K) := by kernel_rfl
theorem F52_0_ok (n : Nat) : FragOK prog G 1 (codeAt F52c [1, 1, 1, 0, 1, 0, 0, 1, 0, 0, 1, 0, 1, 0]) (F52_0z n) :=
  frag_plain laws fnok (E6_ok n).tab (AllF.of (l := []) (by kernel_rfl) AllF.nil) (F52_0_eq n)
noncomputable def F52_1x0 : SSh := ⟨40, [(0, (.ptr 0 0)), (1, .bool), (5, (.own 1)), (6, (.own 2)), (7, (.int .i64))], [(.box 88 (.cons (.imm 1) (.cons (.int .i64) .nil))), (.arr 3 true), (.arr 2 true)]⟩
noncomputable def F52_1s : SSh := ⟨40, [(0, (.ptr 0 0)), (1, .bool), (5, (.own 1)), (6, (.own 2)), (7, (.int .i64))], [(.box 88 (.cons (.imm 1) (.cons (.int .i64) .nil))), (.arr 3 true), (.arr 2 true)]⟩
noncomputable def F52_1 {R : Type} (n : Nat) (x199 : Bool) (x200 : Int) (x201 : List Int) (x202 : Int) (x203 : List Atr) (x204 : List ByteArray) (k0 : Bool → Int → List Int → Int → List Atr → List ByteArray → Option R) : Option R :=
  (andThen (F43 n (2 : Int) x201 x202) fun r205 =>
  (bif (r205.1 == (0 : Int)) then
  (F52_0 n x199 x200 (1 : Int) r205.2.1.1 r205.2.1.2.1 x203 x204 (fun z216 z217 z218 z219 z220 z221 z222 =>
  (bif (decide ((0 : Int) ≤ z217)) then
  (bif (decide (z217 < ((z222.length) : Int))) then
  (andThen (F42 n z218 z219 z220) fun r225 =>
  (andThen (F43 n (20 : Int) r225.2.1.1 r225.2.1.2.1) fun r226 =>
  (andThen (F42 n r226.1 r226.2.1.1 r226.2.1.2.1) fun r227 =>
  let v228 := ((Atr.mk (z222.getD (z217.toNat) ({ data := #[] } : ByteArray)) r225.1 r227.1) :: [])
  (bif (decide (((z221.length) + (v228.length)) ≤ (68719476736 : Nat))) then
  (k0 z216 z217 r227.2.1.1 r227.2.1.2.1 (z221 ++ v228) z222)
  else none))))
  else none)
  else none)))
  else (k0 x199 x200 r205.2.1.1 r205.2.1.2.1 x203 x204)))
noncomputable def F52_1z (n : Nat) : Sm G := inZ G 1 ⟨[0, 1, 5, 6, 7], []⟩ F52_1s fun R x K => F52_1 n x.1.2.1 x.1.2.2.2.2.1 x.2.1.1 x.2.1.2.1 x.2.2.1 x.2.2.2.1 (fun u0 u1 u2 u3 u4 u5 => K .normal (SSh.enc G F52_1x0 (((), (u0, ((), ((), (u1, ()))))), ((u2, (u3, ())), (u4, (u5, ()))))))
theorem F52_1_eq (n : Nat) (R : Type) (x : SSh.den G F52_1s) (K : AE → St G → Option R) :
  F52_1 n x.1.2.1 x.1.2.2.2.2.1 x.2.1.1 x.2.1.2.1 x.2.2.1 x.2.2.2.1 (fun u0 u1 u2 u3 u4 u5 => K .normal (SSh.enc G F52_1x0 (((), (u0, ((), ((), (u1, ()))))), ((u2, (u3, ())), (u4, (u5, ())))))) = exec prog G (ro G (tabOf (E6 n)) (frOf [F52_0z n]) R) 1 (codeAt F52c [1, 1, 1, 0, 1, 0, 0, 1, 0]) (.nd (.nd .no (.nd (.nd .no (.nd (.use 0) .no)) .no)) .no) (SSh.enc G F52_1s x) (kNrm G (ro G (tabOf (E6 n)) (frOf [F52_0z n]) R) 1 ⟨⟨[0, 1, 5, 6, 7], []⟩, ⟨[4], []⟩, [(0, ⟨[5], []⟩)]⟩ K) := by kernel_rfl
theorem F52_1_ok (n : Nat) : FragOK prog G 1 (codeAt F52c [1, 1, 1, 0, 1, 0, 0, 1, 0]) (F52_1z n) :=
  frag_plain laws fnok (E6_ok n).tab (AllF.of (l := [(0, codeAt F52c [1, 1, 1, 0, 1, 0, 0, 1, 0, 0, 1, 0, 1, 0])]) (by kernel_rfl) (AllF.cons (F52_0_ok n) AllF.nil)) (F52_1_eq n)
noncomputable def F52_2x0 : SSh := ⟨40, [(5, (.own 1))], [(.box 88 (.cons (.imm 1) (.cons (.int .i64) .nil))), (.arr 3 true)]⟩
noncomputable def F52_2s : SSh := ⟨40, [(0, (.ptr 0 0)), (1, .bool), (5, (.own 1)), (6, (.own 2)), (7, (.int .i64))], [(.box 88 (.cons (.imm 1) (.cons (.int .i64) .nil))), (.arr 3 true), (.arr 2 true)]⟩
noncomputable def F52_2_step {R : Type} (n : Nat) (k0 : List Int → Int → List Atr → Option R) (rec : Bool → Int → List Int → Int → List Atr → List ByteArray → Option R) (x191 : Bool) (x192 : Int) (x193 : List Int) (x194 : Int) (x195 : List Atr) (x196 : List ByteArray) : Option R :=
  (bif (decide (x192 < ((x196.length) : Int))) then
  (F52_1 n x191 x192 x193 x194 x195 x196 (fun z230 z231 z232 z233 z234 z235 =>
  (rec z230 (IntKind.wrap .i64 (z231 + (1 : Int))) z232 z233 z234 z235)))
  else (k0 x193 x194 x195))
noncomputable def F52_2_it {R : Type} (n : Nat) (k0 : List Int → Int → List Atr → Option R) : Nat → Bool → Int → List Int → Int → List Atr → List ByteArray → Option R
  | 0, _, _, _, _, _, _ => none
  | k + 1, x191, x192, x193, x194, x195, x196 => F52_2_step n k0 (F52_2_it n k0 k) x191 x192 x193 x194 x195 x196
noncomputable def F52_2 {R : Type} (n : Nat) (x191 : Bool) (x192 : Int) (x193 : List Int) (x194 : Int) (x195 : List Atr) (x196 : List ByteArray) (k0 : List Int → Int → List Atr → Option R) : Option R := F52_2_it n k0 n x191 x192 x193 x194 x195 x196
noncomputable def F52_2z (n : Nat) : Sm G := inZ G 1 ⟨[0, 1, 5, 6, 7], []⟩ F52_2s fun R x K => F52_2_it n (fun u0 u1 u2 => K (.exit 0) (SSh.enc G F52_2x0 (((), ()), ((u0, (u1, ())), (u2, ()))))) n x.1.2.1 x.1.2.2.2.2.1 x.2.1.1 x.2.1.2.1 x.2.2.1 x.2.2.2.1
theorem F52_2_eq (n : Nat) (R : Type) (rec : SSh.den G F52_2s → Option R) (x : SSh.den G F52_2s) (K : AE → St G → Option R) :
  F52_2_step n (fun u0 u1 u2 => K (.exit 0) (SSh.enc G F52_2x0 (((), ()), ((u0, (u1, ())), (u2, ()))))) (fun x191 x192 x193 x194 x195 x196 => rec (((), (x191, ((), ((), (x192, ()))))), ((x193, (x194, ())), (x195, (x196, ()))))) x.1.2.1 x.1.2.2.2.2.1 x.2.1.1 x.2.1.2.1 x.2.2.1 x.2.2.2.1 = exec prog G (ro G (tabOf (E6 n)) (frOf [F52_0z n, F52_1z n]) R) 1 (codeAt F52c [1, 1, 1, 0, 1, 0, 0]) (.nd .no (.nd (.use 1) .no)) (SSh.enc G F52_2s x) (kLoop G (ro G (tabOf (E6 n)) (frOf [F52_0z n, F52_1z n]) R) 1 ⟨[0, 1, 5, 6, 7], []⟩ F52_2s ⟨⟨[5], []⟩, ⟨[4], []⟩, [(0, ⟨[5], []⟩)]⟩ rec K) := by kernel_rfl
theorem F52_2_ok (n : Nat) : FragOK prog G 1 (codeAt F52c [1, 1, 1, 0, 1, 0]) (F52_2z n) :=
  frag_loop (Z := fun R k (x : SSh.den G F52_2s) K => F52_2_it n (fun u0 u1 u2 => K (.exit 0) (SSh.enc G F52_2x0 (((), ()), ((u0, (u1, ())), (u2, ()))))) k x.1.2.1 x.1.2.2.2.2.1 x.2.1.1 x.2.1.2.1 x.2.2.1 x.2.2.2.1) laws fnok (E6_ok n).tab (AllF.of (l := [(1, codeAt F52c [1, 1, 1, 0, 1, 0, 0, 1, 0])]) (by kernel_rfl) (AllF.cons (F52_1_ok n) AllF.nil)) (fun _ _ _ => rfl) (fun R k y K => F52_2_eq n R (fun (x : SSh.den G F52_2s) => F52_2_it n (fun u0 u1 u2 => K (.exit 0) (SSh.enc G F52_2x0 (((), ()), ((u0, (u1, ())), (u2, ()))))) k x.1.2.1 x.1.2.2.2.2.1 x.2.1.1 x.2.1.2.1 x.2.2.1 x.2.2.2.1) y K) n
noncomputable def F52 (n : Nat) (a186 : Bool) (a187 : List Int) (a188 : Int) : Option (List Atr × ((List Int × (Int × Unit)) × Unit)) :=
  (F52_2 n a186 (0 : Int) a187 a188 [] (({ data := #[97] } : ByteArray) :: (({ data := #[98] } : ByteArray) :: (({ data := #[99] } : ByteArray) :: []))) (fun z237 z238 z239 =>
  some (z239, ((z237, (z238, ())), ()))))
noncomputable def F52e (n : Nat) : Ent G := ⟨52, (.cons (.ptr 0 0) (.cons .bool .nil)), [(.box 88 (.cons (.imm 1) (.cons (.int .i64) .nil)))], (.imm 3), [(.box 88 (.cons (.imm 1) (.cons (.int .i64) .nil)))], fun x y => F52 n x.2.1 y.1.1 y.1.2.1⟩
theorem F52_eq (n : Nat) (x : ShL.den G (.cons (.ptr 0 0) (.cons .bool .nil))) (y : denO G [(.box 88 (.cons (.imm 1) (.cons (.int .i64) .nil)))]) : (F52e n).F x y = runFn prog G (ro G (tabOf (E6 n)) (frOf [F52_0z n, F52_1z n, F52_2z n]) _) Go.Proofs.Try.f52 (.nd .no (.nd .no (.nd .no (.nd (.nd .no (.nd (.use 2) .no)) .no)))) [(0, .fz)] (ShL.enc G (.cons (.ptr 0 0) (.cons .bool .nil)) x) (encO G [(.box 88 (.cons (.imm 1) (.cons (.int .i64) .nil)))] y) (decR (.imm 3) [(.box 88 (.cons (.imm 1) (.cons (.int .i64) .nil)))]) := by kernel_rfl
theorem F52_ok (n : Nat) : EntOK prog G (F52e n) :=
  ent_ok (fr := frOf [F52_0z n, F52_1z n, F52_2z n]) (ann := (.nd .no (.nd .no (.nd .no (.nd (.nd .no (.nd (.use 2) .no)) .no))))) (frm := [(0, .fz)]) laws fnok (E6_ok n).tab (e := F52e n) (fn := Go.Proofs.Try.f52) (by kernel_rfl) (AllF.ofB (cd := F52c) (l := [(2, codeAt F52c [1, 1, 1, 0, 1, 0])]) (by kernel_rfl) (by kernel_rfl) (AllF.cons (F52_2_ok n) AllF.nil)) (F52_eq n)
noncomputable def E7 (n : Nat) : List (Ent G) := F52e n :: E6 n
theorem E7_ok (n : Nat) : AllE prog G (E7 n) := AllE.cons (F52_ok n) (E6_ok n)
noncomputable def F32_2x0 : SSh := ⟨53, [(3, (.own 1))], [(.box 88 (.cons (.imm 1) (.cons (.int .i64) .nil))), (.arr 4 true)]⟩
noncomputable def F32_2s : SSh := ⟨53, [(0, (.ptr 0 0)), (3, (.own 1)), (4, (.int .i64)), (5, (.int .i64))], [(.box 88 (.cons (.imm 1) (.cons (.int .i64) .nil))), (.arr 4 true)]⟩
noncomputable def F32_2_step {R : Type} (n : Nat) (k0 : List Int → Int → List Cls → Option R) (rec : Int → Int → List Int → Int → List Cls → Option R) (x142 : Int) (x143 : Int) (x144 : List Int) (x145 : Int) (x146 : List Cls) : Option R :=
  (bif (decide (x143 < x142)) then
  (andThen (F43 n (4 : Int) x144 x145) fun r148 =>
  (F32_1 n x142 x143 r148.1 r148.2.1.1 r148.2.1.2.1 x146 [] (fun z180 z181 z182 z183 z184 z185 =>
  (andThen (F52 n true z182 z183) fun r240 =>
  let v241 := ((Cls.mk z185 r240.1) :: [])
  (bif (decide (((z184.length) + (v241.length)) ≤ (68719476736 : Nat))) then
  (rec z180 (IntKind.wrap .i64 (z181 + (1 : Int))) r240.2.1.1 r240.2.1.2.1 (z184 ++ v241))
  else none)))))
  else (k0 x144 x145 x146))
noncomputable def F32_2_it {R : Type} (n : Nat) (k0 : List Int → Int → List Cls → Option R) : Nat → Int → Int → List Int → Int → List Cls → Option R
  | 0, _, _, _, _, _ => none
  | k + 1, x142, x143, x144, x145, x146 => F32_2_step n k0 (F32_2_it n k0 k) x142 x143 x144 x145 x146
noncomputable def F32_2 {R : Type} (n : Nat) (x142 : Int) (x143 : Int) (x144 : List Int) (x145 : Int) (x146 : List Cls) (k0 : List Int → Int → List Cls → Option R) : Option R := F32_2_it n k0 n x142 x143 x144 x145 x146
noncomputable def F32_2z (n : Nat) : Sm G := inZ G 1 ⟨[0, 3, 4, 5], []⟩ F32_2s fun R x K => F32_2_it n (fun u0 u1 u2 => K (.exit 0) (SSh.enc G F32_2x0 (((), ()), ((u0, (u1, ())), (u2, ()))))) n x.1.2.2.1 x.1.2.2.2.1 x.2.1.1 x.2.1.2.1 x.2.2.1
theorem F32_2_eq (n : Nat) (R : Type) (rec : SSh.den G F32_2s → Option R) (x : SSh.den G F32_2s) (K : AE → St G → Option R) :
  F32_2_step n (fun u0 u1 u2 => K (.exit 0) (SSh.enc G F32_2x0 (((), ()), ((u0, (u1, ())), (u2, ()))))) (fun x142 x143 x144 x145 x146 => rec (((), ((), (x142, (x143, ())))), ((x144, (x145, ())), (x146, ())))) x.1.2.2.1 x.1.2.2.2.1 x.2.1.1 x.2.1.2.1 x.2.2.1 = exec prog G (ro G (tabOf (E7 n)) (frOf [F32_0z n, F32_1z n]) R) 1 (codeAt F32c [1, 1, 1, 0, 1, 0, 0]) (.nd .no (.nd (.nd (.nd .no (.nd (.nd .no (.nd (.use 1) .no)) .no)) .no) .no)) (SSh.enc G F32_2s x) (kLoop G (ro G (tabOf (E7 n)) (frOf [F32_0z n, F32_1z n]) R) 1 ⟨[0, 3, 4, 5], []⟩ F32_2s ⟨⟨[3], []⟩, ⟨[2], []⟩, [(0, ⟨[3], []⟩)]⟩ rec K) := by kernel_rfl
theorem F32_2_ok (n : Nat) : FragOK prog G 1 (codeAt F32c [1, 1, 1, 0, 1, 0]) (F32_2z n) :=
  frag_loop (Z := fun R k (x : SSh.den G F32_2s) K => F32_2_it n (fun u0 u1 u2 => K (.exit 0) (SSh.enc G F32_2x0 (((), ()), ((u0, (u1, ())), (u2, ()))))) k x.1.2.2.1 x.1.2.2.2.1 x.2.1.1 x.2.1.2.1 x.2.2.1) laws fnok (E7_ok n).tab (AllF.of (l := [(1, codeAt F32c [1, 1, 1, 0, 1, 0, 0, 1, 0, 0, 1, 0, 1, 0])]) (by kernel_rfl) (AllF.cons (F32_1_ok n) AllF.nil)) (fun _ _ _ => rfl) (fun R k y K => F32_2_eq n R (fun (x : SSh.den G F32_2s) => F32_2_it n (fun u0 u1 u2 => K (.exit 0) (SSh.enc G F32_2x0 (((), ()), ((u0, (u1, ())), (u2, ()))))) k x.1.2.2.1 x.1.2.2.2.1 x.2.1.1 x.2.1.2.1 x.2.2.1) y K) n
noncomputable def F32 (n : Nat) (a138 : List Int) (a139 : Int) : Option (List Cls × ((List Int × (Int × Unit)) × Unit)) :=
  (andThen (F43 n (7 : Int) a138 a139) fun r141 =>
  (F32_2 n r141.1 (0 : Int) r141.2.1.1 r141.2.1.2.1 [] (fun z244 z245 z246 =>
  some (z246, ((z244, (z245, ())), ())))))
noncomputable def F32e (n : Nat) : Ent G := ⟨32, (.cons (.ptr 0 0) .nil), [(.box 88 (.cons (.imm 1) (.cons (.int .i64) .nil)))], (.imm 4), [(.box 88 (.cons (.imm 1) (.cons (.int .i64) .nil)))], fun x y => F32 n y.1.1 y.1.2.1⟩
theorem F32_eq (n : Nat) (x : ShL.den G (.cons (.ptr 0 0) .nil)) (y : denO G [(.box 88 (.cons (.imm 1) (.cons (.int .i64) .nil)))]) : (F32e n).F x y = runFn prog G (ro G (tabOf (E7 n)) (frOf [F32_0z n, F32_1z n, F32_2z n]) _) Go.Proofs.Try.f32 (.nd .no (.nd .no (.nd .no (.nd (.nd .no (.nd (.use 2) .no)) .no)))) [(0, .fz)] (ShL.enc G (.cons (.ptr 0 0) .nil) x) (encO G [(.box 88 (.cons (.imm 1) (.cons (.int .i64) .nil)))] y) (decR (.imm 4) [(.box 88 (.cons (.imm 1) (.cons (.int .i64) .nil)))]) := by kernel_rfl
theorem F32_ok (n : Nat) : EntOK prog G (F32e n) :=
  ent_ok (fr := frOf [F32_0z n, F32_1z n, F32_2z n]) (ann := (.nd .no (.nd .no (.nd .no (.nd (.nd .no (.nd (.use 2) .no)) .no))))) (frm := [(0, .fz)]) laws fnok (E7_ok n).tab (e := F32e n) (fn := Go.Proofs.Try.f32) (by kernel_rfl) (AllF.ofB (cd := F32c) (l := [(2, codeAt F32c [1, 1, 1, 0, 1, 0])]) (by kernel_rfl) (by kernel_rfl) (AllF.cons (F32_2_ok n) AllF.nil)) (F32_eq n)
noncomputable def E8 (n : Nat) : List (Ent G) := F32e n :: E7 n
theorem E8_ok (n : Nat) : AllE prog G (E8 n) := AllE.cons (F32_ok n) (E7_ok n)
noncomputable def F10 (n : Nat) (a3 : List Int) : Option (List Cls × Unit) :=
  (andThen (F31 n a3) fun r8 =>
  (andThen (F32 n r8.2.1.1 r8.2.1.2.1) fun r247 =>
  some (r247.1, ())))
noncomputable def F10e (n : Nat) : Ent G := ⟨10, (.cons (.imm 1) .nil), [], (.imm 4), [], fun x y => F10 n x.1⟩
theorem F10_eq (n : Nat) (x : ShL.den G (.cons (.imm 1) .nil)) (y : denO G []) : (F10e n).F x y = runFn prog G (ro G (tabOf (E8 n)) (frOf []) _) Go.Proofs.Try.f10 .no [(0, .fz)] (ShL.enc G (.cons (.imm 1) .nil) x) (encO G [] y) (decR (.imm 4) []) := by kernel_rfl
theorem F10_ok (n : Nat) : EntOK prog G (F10e n) :=
  ent_ok (fr := frOf []) (ann := .no) (frm := [(0, .fz)]) laws fnok (E8_ok n).tab (e := F10e n) (fn := Go.Proofs.Try.f10) (by kernel_rfl) (AllF.ofB (cd := F10c) (l := []) (by kernel_rfl) (by kernel_rfl) AllF.nil) (F10_eq n)
noncomputable def E9 (n : Nat) : List (Ent G) := F10e n :: E8 n
theorem E9_ok (n : Nat) : AllE prog G (E9 n) := AllE.cons (F10_ok n) (E8_ok n)
-- 11 loop.example/slowworm/impl.ClassesOk
noncomputable def F11c : Code := bodyOf Go.Proofs.Try.f11
-- 34 loop.example/slowworm/impl.basesOf
noncomputable def F34c : Code := bodyOf Go.Proofs.Try.f34
noncomputable def F34_0x0 : SSh := ⟨19, [(3, (.own 0))], [(.arr 7 true)]⟩
noncomputable def F34_0s : SSh := ⟨19, [(3, (.own 0)), (6, (.imm 4)), (7, (.int .i64)), (8, (.int .i64))], [(.arr 7 true)]⟩
noncomputable def F34_0_step {R : Type} (n : Nat) (k0 : List (List Int) → Option R) (rec : List Cls → Int → Int → List (List Int) → Option R) (x264 : List Cls) (x265 : Int) (x266 : Int) (x267 : List (List Int)) : Option R :=
  (bif (decide (x266 < x265)) then
  (bif (decide ((0 : Int) ≤ x266)) then
  (bif (decide (x266 < ((x264.length) : Int))) then
  let v272 := ((x264.getD (x266.toNat) (Cls.mk [] [])).bases :: [])
  (bif (decide (((x267.length) + (v272.length)) ≤ (68719476736 : Nat))) then
  (rec x264 x265 (IntKind.wrap .i64 (x266 + (1 : Int))) (x267 ++ v272))
  else none)
  else none)
  else none)
  else (k0 x267))
noncomputable def F34_0_it {R : Type} (n : Nat) (k0 : List (List Int) → Option R) : Nat → List Cls → Int → Int → List (List Int) → Option R
  | 0, _, _, _, _ => none
  | k + 1, x264, x265, x266, x267 => F34_0_step n k0 (F34_0_it n k0 k) x264 x265 x266 x267
noncomputable def F34_0 {R : Type} (n : Nat) (x264 : List Cls) (x265 : Int) (x266 : Int) (x267 : List (List Int)) (k0 : List (List Int) → Option R) : Option R := F34_0_it n k0 n x264 x265 x266 x267
noncomputable def F34_0z (n : Nat) : Sm G := inZ G 0 ⟨[3, 6, 7, 8], [(3, (.own 7))]⟩ F34_0s fun R x K => F34_0_it n (fun u0 => K (.exit 0) (SSh.enc G F34_0x0 (((), ()), (u0, ())))) n x.1.2.1 x.1.2.2.1 x.1.2.2.2.1 x.2.1
theorem F34_0_eq (n : Nat) (R : Type) (rec : SSh.den G F34_0s → Option R) (x : SSh.den G F34_0s) (K : AE → St G → Option R) :
  F34_0_step n (fun u0 => K (.exit 0) (SSh.enc G F34_0x0 (((), ()), (u0, ())))) (fun x264 x265 x266 x267 => rec (((), (x264, (x265, (x266, ())))), (x267, ()))) x.1.2.1 x.1.2.2.1 x.1.2.2.2.1 x.2.1 = exec prog G (ro G (tabOf (E9 n)) (frOf []) R) 0 (codeAt F34c [1, 1, 0, 1, 0, 0]) .no (SSh.enc G F34_0s x) (kLoop G (ro G (tabOf (E9 n)) (frOf []) R) 0 ⟨[3, 6, 7, 8], [(3, (.own 7))]⟩ F34_0s ⟨⟨[3], []⟩, ⟨[2], []⟩, [(0, ⟨[3], []⟩)]⟩ rec K) := by kernel_rfl
theorem F34_0_ok (n : Nat) : FragOK prog G 0 (codeAt F34c [1, 1, 0, 1, 0]) (F34_0z n) :=
  frag_loop (Z := fun R k (x : SSh.den G F34_0s) K => F34_0_it n (fun u0 => K (.exit 0) (SSh.enc G F34_0x0 (((), ()), (u0, ())))) k x.1.2.1 x.1.2.2.1 x.1.2.2.2.1 x.2.1) laws fnok (E9_ok n).tab (AllF.of (l := []) (by kernel_rfl) AllF.nil) (fun _ _ _ => rfl) (fun R k y K => F34_0_eq n R (fun (x : SSh.den G F34_0s) => F34_0_it n (fun u0 => K (.exit 0) (SSh.enc G F34_0x0 (((), ()), (u0, ())))) k x.1.2.1 x.1.2.2.1 x.1.2.2.2.1 x.2.1) y K) n
noncomputable def F34 (n : Nat) (a262 : List Cls) : Option (List (List Int) × Unit) :=
  (F34_0 n a262 ((a262.length) : Int) (0 : Int) [] (fun z275 =>
  some (z275, ())))
noncomputable def F34e (n : Nat) : Ent G := ⟨34, (.cons (.imm 4) .nil), [], (.imm 7), [], fun x y => F34 n x.1⟩
theorem F34_eq (n : Nat) (x : ShL.den G (.cons (.imm 4) .nil)) (y : denO G []) : (F34e n).F x y = runFn prog G (ro G (tabOf (E9 n)) (frOf [F34_0z n]) _) Go.Proofs.Try.f34 (.nd .no (.nd .no (.nd (.nd .no (.nd (.use 0) .no)) .no))) [(0, .fz)] (ShL.enc G (.cons (.imm 4) .nil) x) (encO G [] y) (decR (.imm 7) []) := by kernel_rfl
theorem F34_ok (n : Nat) : EntOK prog G (F34e n) :=
  ent_ok (fr := frOf [F34_0z n]) (ann := (.nd .no (.nd .no (.nd (.nd .no (.nd (.use 0) .no)) .no)))) (frm := [(0, .fz)]) laws fnok (E9_ok n).tab (e := F34e n) (fn := Go.Proofs.Try.f34) (by kernel_rfl) (AllF.ofB (cd := F34c) (l := [(0, codeAt F34c [1, 1, 0, 1, 0])]) (by kernel_rfl) (by kernel_rfl) (AllF.cons (F34_0_ok n) AllF.nil)) (F34_eq n)
noncomputable def E10 (n : Nat) : List (Ent G) := F34e n :: E9 n
theorem E10_ok (n : Nat) : AllE prog G (E10 n) := AllE.cons (F34_ok n) (E9_ok n)
-- 33 loop.example/slowworm/impl.BasesOk
noncomputable def F33c : Code := bodyOf Go.Proofs.Try.f33
-- 49 slices.Contains[[]int,int]
noncomputable def F49c : Code := bodyOf Go.Proofs.Try.f49
-- 75 slices.Index[[]int,int]
noncomputable def F75c : Code := bodyOf Go.Proofs.Try.f75
noncomputable def F75_0x0 : SSh := ⟨19, [(4, (.int .i64))], []⟩
noncomputable def F75_0x1 : SSh := ⟨19, [], []⟩
noncomputable def F75_0s : SSh := ⟨19, [(0, (.imm 0)), (1, (.int .i64)), (7, (.int .i64)), (8, (.int .i64))], []⟩
noncomputable def F75_0_step {R : Type} (n : Nat) (k0 : Int → Option R) (k1 : Option R) (rec : List Int → Int → Int → Int → Option R) (x314 : List Int) (x315 : Int) (x316 : Int) (x317 : Int) : Option R :=
  (bif (decide (x317 < x316)) then
  (bif (decide ((0 : Int) ≤ x317)) then
  (bif (decide (x317 < ((x314.length) : Int))) then
  (bif (x315 == (x314.getD (x317.toNat) (0 : Int))) then
  (k0 x317)
  else (rec x314 x315 x316 (IntKind.wrap .i64 (x317 + (1 : Int)))))
  else none)
  else none)
  else k1)
noncomputable def F75_0_it {R : Type} (n : Nat) (k0 : Int → Option R) (k1 : Option R) : Nat → List Int → Int → Int → Int → Option R
  | 0, _, _, _, _ => none
  | k + 1, x314, x315, x316, x317 => F75_0_step n k0 k1 (F75_0_it n k0 k1 k) x314 x315 x316 x317
noncomputable def F75_0 {R : Type} (n : Nat) (x314 : List Int) (x315 : Int) (x316 : Int) (x317 : Int) (k0 : Int → Option R) (k1 : Option R) : Option R := F75_0_it n k0 k1 n x314 x315 x316 x317
noncomputable def F75_0z (n : Nat) : Sm G := inZ G 0 ⟨[0, 1, 7, 8], []⟩ F75_0s fun R x K => F75_0_it n (fun u0 => K .ret (SSh.enc G F75_0x0 ((u0, ()), ()))) (K (.exit 0) (SSh.enc G F75_0x1 ((), ()))) n x.1.1 x.1.2.1 x.1.2.2.1 x.1.2.2.2.1
theorem F75_0_eq (n : Nat) (R : Type) (rec : SSh.den G F75_0s → Option R) (x : SSh.den G F75_0s) (K : AE → St G → Option R) :
  F75_0_step n (fun u0 => K .ret (SSh.enc G F75_0x0 ((u0, ()), ()))) (K (.exit 0) (SSh.enc G F75_0x1 ((), ()))) (fun x314 x315 x316 x317 => rec ((x314, (x315, (x316, (x317, ())))), ())) x.1.1 x.1.2.1 x.1.2.2.1 x.1.2.2.2.1 = exec prog G (ro G (tabOf (E10 n)) (frOf []) R) 0 (codeAt F75c [1, 0, 1, 0, 0]) .no (SSh.enc G F75_0s x) (kLoop G (ro G (tabOf (E10 n)) (frOf []) R) 0 ⟨[0, 1, 7, 8], []⟩ F75_0s ⟨⟨[], []⟩, ⟨[4], []⟩, [(0, ⟨[], []⟩)]⟩ rec K) := by kernel_rfl
theorem F75_0_ok (n : Nat) : FragOK prog G 0 (codeAt F75c [1, 0, 1, 0]) (F75_0z n) :=
  frag_loop (Z := fun R k (x : SSh.den G F75_0s) K => F75_0_it n (fun u0 => K .ret (SSh.enc G F75_0x0 ((u0, ()), ()))) (K (.exit 0) (SSh.enc G F75_0x1 ((), ()))) k x.1.1 x.1.2.1 x.1.2.2.1 x.1.2.2.2.1) laws fnok (E10_ok n).tab (AllF.of (l := []) (by kernel_rfl) AllF.nil) (fun _ _ _ => rfl) (fun R k y K => F75_0_eq n R (fun (x : SSh.den G F75_0s) => F75_0_it n (fun u0 => K .ret (SSh.enc G F75_0x0 ((u0, ()), ()))) (K (.exit 0) (SSh.enc G F75_0x1 ((), ()))) k x.1.1 x.1.2.1 x.1.2.2.1 x.1.2.2.2.1) y K) n
noncomputable def F75 (n : Nat) (a311 : List Int) (a312 : Int) : Option (Int × Unit) :=
  (F75_0 n a311 a312 ((a311.length) : Int) (0 : Int) (fun z323 =>
  some (z323, ())) (
  some ((-1 : Int), ())))
noncomputable def F75e (n : Nat) : Ent G := ⟨75, (.cons (.imm 0) (.cons (.int .i64) .nil)), [], (.int .i64), [], fun x y => F75 n x.1 x.2.1⟩
theorem F75_eq (n : Nat) (x : ShL.den G (.cons (.imm 0) (.cons (.int .i64) .nil))) (y : denO G []) : (F75e n).F x y = runFn prog G (ro G (tabOf (E10 n)) (frOf [F75_0z n]) _) Go.Proofs.Try.f75 (.nd .no (.nd (.nd .no (.nd (.use 0) .no)) .no)) [(0, .fz)] (ShL.enc G (.cons (.imm 0) (.cons (.int .i64) .nil)) x) (encO G [] y) (decR (.int .i64) []) := by kernel_rfl
theorem F75_ok (n : Nat) : EntOK prog G (F75e n) :=
  ent_ok (fr := frOf [F75_0z n]) (ann := (.nd .no (.nd (.nd .no (.nd (.use 0) .no)) .no))) (frm := [(0, .fz)]) laws fnok (E10_ok n).tab (e := F75e n) (fn := Go.Proofs.Try.f75) (by kernel_rfl) (AllF.ofB (cd := F75c) (l := [(0, codeAt F75c [1, 0, 1, 0])]) (by kernel_rfl) (by kernel_rfl) (AllF.cons (F75_0_ok n) AllF.nil)) (F75_eq n)
noncomputable def E11 (n : Nat) : List (Ent G) := F75e n :: E10 n
theorem E11_ok (n : Nat) : AllE prog G (E11 n) := AllE.cons (F75_ok n) (E10_ok n)
noncomputable def F49 (n : Nat) (a309 : List Int) (a310 : Int) : Option (Bool × Unit) :=
  (andThen (F75 n a309 a310) fun r324 =>
  some ((decide (r324.1 ≥ (0 : Int))), ()))
noncomputable def F49e (n : Nat) : Ent G := ⟨49, (.cons (.imm 0) (.cons (.int .i64) .nil)), [], .bool, [], fun x y => F49 n x.1 x.2.1⟩
theorem F49_eq (n : Nat) (x : ShL.den G (.cons (.imm 0) (.cons (.int .i64) .nil))) (y : denO G []) : (F49e n).F x y = runFn prog G (ro G (tabOf (E11 n)) (frOf []) _) Go.Proofs.Try.f49 .no [(0, .fz)] (ShL.enc G (.cons (.imm 0) (.cons (.int .i64) .nil)) x) (encO G [] y) (decR .bool []) := by kernel_rfl
theorem F49_ok (n : Nat) : EntOK prog G (F49e n) :=
  ent_ok (fr := frOf []) (ann := .no) (frm := [(0, .fz)]) laws fnok (E11_ok n).tab (e := F49e n) (fn := Go.Proofs.Try.f49) (by kernel_rfl) (AllF.ofB (cd := F49c) (l := []) (by kernel_rfl) (by kernel_rfl) AllF.nil) (F49_eq n)
noncomputable def E12 (n : Nat) : List (Ent G) := F49e n :: E11 n
theorem E12_ok (n : Nat) : AllE prog G (E12 n) := AllE.cons (F49_ok n) (E11_ok n)
-- 72 slices.Clone[[]int,int]
noncomputable def F72c : Code := bodyOf Go.Proofs.Try.f72
noncomputable def F72 (n : Nat) (a396 : List Int) : Option (List Int × Unit) :=
  (bif (decide ((a396.length) ≤ (0 : Nat))) then
  (both
  (some ([], ()))
  (let v398 := []
  (bif (decide (((v398.length) + (a396.length)) ≤ (68719476736 : Nat))) then
  some ((v398 ++ a396), ())
  else none)))
  else let v400 := []
  (bif (decide (((v400.length) + (a396.length)) ≤ (68719476736 : Nat))) then
  some ((v400 ++ a396), ())
  else none))
noncomputable def F72e (n : Nat) : Ent G := ⟨72, (.cons (.imm 0) .nil), [], (.imm 0), [], fun x y => F72 n x.1⟩
theorem F72_eq (n : Nat) (x : ShL.den G (.cons (.imm 0) .nil)) (y : denO G []) : (F72e n).F x y = runFn prog G (ro G (tabOf (E12 n)) (frOf []) _) Go.Proofs.Try.f72 .no [(0, .fz)] (ShL.enc G (.cons (.imm 0) .nil) x) (encO G [] y) (decR (.imm 0) []) := by kernel_rfl
theorem F72_ok (n : Nat) : EntOK prog G (F72e n) :=
  ent_ok (fr := frOf []) (ann := .no) (frm := [(0, .fz)]) laws fnok (E12_ok n).tab (e := F72e n) (fn := Go.Proofs.Try.f72) (by kernel_rfl) (AllF.ofB (cd := F72c) (l := []) (by kernel_rfl) (by kernel_rfl) AllF.nil) (F72_eq n)
noncomputable def E13 (n : Nat) : List (Ent G) := F72e n :: E12 n
theorem E13_ok (n : Nat) : AllE prog G (E13 n) := AllE.cons (F72_ok n) (E12_ok n)
-- 87 slices.DeleteFunc[[][]int,[]int]
noncomputable def F87c : Code := bodyOf Go.Proofs.Try.f87
-- 96 slices.IndexFunc[[][]int,[]int]
noncomputable def F96c : Code := bodyOf Go.Proofs.Try.f96
-- 88 loop.example/slowworm/impl.mergeOrders$1
noncomputable def F88c : Code := bodyOf Go.Proofs.Try.f88
noncomputable def F88 (n : Nat) (a416 : List Int) : Option (Bool × Unit) :=
  some ((((a416.length) : Int) == (0 : Int)), ())
noncomputable def F88e (n : Nat) : Ent G := ⟨88, (.cons (.imm 0) .nil), [], .bool, [], fun x y => F88 n x.1⟩
theorem F88_eq (n : Nat) (x : ShL.den G (.cons (.imm 0) .nil)) (y : denO G []) : (F88e n).F x y = runFn prog G (ro G (tabOf (E13 n)) (frOf []) _) Go.Proofs.Try.f88 .no [(0, .fz)] (ShL.enc G (.cons (.imm 0) .nil) x) (encO G [] y) (decR .bool []) := by kernel_rfl
theorem F88_ok (n : Nat) : EntOK prog G (F88e n) :=
  ent_ok (fr := frOf []) (ann := .no) (frm := [(0, .fz)]) laws fnok (E13_ok n).tab (e := F88e n) (fn := Go.Proofs.Try.f88) (by kernel_rfl) (AllF.ofB (cd := F88c) (l := []) (by kernel_rfl) (by kernel_rfl) AllF.nil) (F88_eq n)
noncomputable def E14 (n : Nat) : List (Ent G) := F88e n :: E13 n
theorem E14_ok (n : Nat) : AllE prog G (E14 n) := AllE.cons (F88_ok n) (E13_ok n)
noncomputable def F96_0x0 : SSh := ⟨19, [(4, (.int .i64))], [(.arr 7 true)]⟩
noncomputable def F96_0x1 : SSh := ⟨19, [], [(.arr 7 true)]⟩
noncomputable def F96_0s : SSh := ⟨19, [(0, (.own 0)), (1, (.clo 88 .nil)), (7, (.int .i64)), (8, (.int .i64))], [(.arr 7 true)]⟩
noncomputable def F96_0_step {R : Type} (n : Nat) (k0 : Int → List (List Int) → Option R) (k1 : List (List Int) → Option R) (rec : Int → Int → List (List Int) → Option R) (x410 : Int) (x411 : Int) (x412 : List (List Int)) : Option R :=
  (bif (decide (x411 < x410)) then
  (bif (decide ((0 : Int) ≤ x411)) then
  (bif (decide (x411 < ((x412.length) : Int))) then
  (andThen (F88 n (x412.getD (x411.toNat) [])) fun r419 =>
  (bif r419.1 then
  (k0 x411 x412)
  else (rec x410 (IntKind.wrap .i64 (x411 + (1 : Int))) x412)))
  else none)
  else none)
  else (k1 x412))
noncomputable def F96_0_it {R : Type} (n : Nat) (k0 : Int → List (List Int) → Option R) (k1 : List (List Int) → Option R) : Nat → Int → Int → List (List Int) → Option R
  | 0, _, _, _ => none
  | k + 1, x410, x411, x412 => F96_0_step n k0 k1 (F96_0_it n k0 k1 k) x410 x411 x412
noncomputable def F96_0 {R : Type} (n : Nat) (x410 : Int) (x411 : Int) (x412 : List (List Int)) (k0 : Int → List (List Int) → Option R) (k1 : List (List Int) → Option R) : Option R := F96_0_it n k0 k1 n x410 x411 x412
noncomputable def F96_0z (n : Nat) : Sm G := inZ G 1 ⟨[0, 1, 7, 8], []⟩ F96_0s fun R x K => F96_0_it n (fun u0 u1 => K .ret (SSh.enc G F96_0x0 ((u0, ()), (u1, ())))) (fun u0 => K (.exit 0) (SSh.enc G F96_0x1 ((), (u0, ())))) n x.1.2.2.1 x.1.2.2.2.1 x.2.1
theorem F96_0_eq (n : Nat) (R : Type) (rec : SSh.den G F96_0s → Option R) (x : SSh.den G F96_0s) (K : AE → St G → Option R) :
  F96_0_step n (fun u0 u1 => K .ret (SSh.enc G F96_0x0 ((u0, ()), (u1, ())))) (fun u0 => K (.exit 0) (SSh.enc G F96_0x1 ((), (u0, ())))) (fun x410 x411 x412 => rec (((), ((), (x410, (x411, ())))), (x412, ()))) x.1.2.2.1 x.1.2.2.2.1 x.2.1 = exec prog G (ro G (tabOf (E14 n)) (frOf []) R) 1 (codeAt F96c [1, 0, 1, 0, 0]) .no (SSh.enc G F96_0s x) (kLoop G (ro G (tabOf (E14 n)) (frOf []) R) 1 ⟨[0, 1, 7, 8], []⟩ F96_0s ⟨⟨[], []⟩, ⟨[4], []⟩, [(0, ⟨[], []⟩)]⟩ rec K) := by kernel_rfl
theorem F96_0_ok (n : Nat) : FragOK prog G 1 (codeAt F96c [1, 0, 1, 0]) (F96_0z n) :=
  frag_loop (Z := fun R k (x : SSh.den G F96_0s) K => F96_0_it n (fun u0 u1 => K .ret (SSh.enc G F96_0x0 ((u0, ()), (u1, ())))) (fun u0 => K (.exit 0) (SSh.enc G F96_0x1 ((), (u0, ())))) k x.1.2.2.1 x.1.2.2.2.1 x.2.1) laws fnok (E14_ok n).tab (AllF.of (l := []) (by kernel_rfl) AllF.nil) (fun _ _ _ => rfl) (fun R k y K => F96_0_eq n R (fun (x : SSh.den G F96_0s) => F96_0_it n (fun u0 u1 => K .ret (SSh.enc G F96_0x0 ((u0, ()), (u1, ())))) (fun u0 => K (.exit 0) (SSh.enc G F96_0x1 ((), (u0, ())))) k x.1.2.2.1 x.1.2.2.2.1 x.2.1) y K) n
noncomputable def F96 (n : Nat) (a408 : List (List Int)) : Option (Int × (List (List Int) × Unit)) :=
  (F96_0 n ((a408.length) : Int) (0 : Int) a408 (fun z421 z422 =>
  some (z421, (z422, ()))) (fun z423 =>
  some ((-1 : Int), (z423, ()))))
noncomputable def F96e (n : Nat) : Ent G := ⟨96, (.cons (.own 0) (.cons (.clo 88 .nil) .nil)), [(.arr 7 true)], (.int .i64), [(.arr 7 true)], fun x y => F96 n y.1⟩
theorem F96_eq (n : Nat) (x : ShL.den G (.cons (.own 0) (.cons (.clo 88 .nil) .nil))) (y : denO G [(.arr 7 true)]) : (F96e n).F x y = runFn prog G (ro G (tabOf (E14 n)) (frOf [F96_0z n]) _) Go.Proofs.Try.f96 (.nd .no (.nd (.nd .no (.nd (.use 0) .no)) .no)) [(0, .fz)] (ShL.enc G (.cons (.own 0) (.cons (.clo 88 .nil) .nil)) x) (encO G [(.arr 7 true)] y) (decR (.int .i64) [(.arr 7 true)]) := by kernel_rfl
theorem F96_ok (n : Nat) : EntOK prog G (F96e n) :=
  ent_ok (fr := frOf [F96_0z n]) (ann := (.nd .no (.nd (.nd .no (.nd (.use 0) .no)) .no))) (frm := [(0, .fz)]) laws fnok (E14_ok n).tab (e := F96e n) (fn := Go.Proofs.Try.f96) (by kernel_rfl) (AllF.ofB (cd := F96c) (l := [(0, codeAt F96c [1, 0, 1, 0])]) (by kernel_rfl) (by kernel_rfl) (AllF.cons (F96_0_ok n) AllF.nil)) (F96_eq n)
noncomputable def E15 (n : Nat) : List (Ent G) := F96e n :: E14 n
theorem E15_ok (n : Nat) : AllE prog G (E15 n) := AllE.cons (F96_ok n) (E14_ok n)
noncomputable def F87_0x0 : SSh := ⟨42, [(0, (.own 0)), (1, (.clo 88 .nil)), (5, (.int .i64)), (6, (.int .i64))], [(.arr 7 true)]⟩
noncomputable def F87_0s : SSh := ⟨42, [(0, (.own 0)), (1, (.clo 88 .nil)), (5, (.int .i64)), (6, (.int .i64))], [(.arr 7 true)]⟩
noncomputable def F87_0 {R : Type} (n : Nat) (x432 : Int) (x433 : Int) (x434 : List (List Int)) (k0 : Int → Int → List (List Int) → Option R) : Option R :=
  (bif (decide ((0 : Int) ≤ x433)) then
  (bif (decide (x433 < ((x434.length) : Int))) then
  let v436 := (x434.getD (x433.toNat) [])
  (andThen (F88 n v436) fun r437 =>
  (bif (!r437.1) then
  (bif (decide ((0 : Int) ≤ x432)) then
  (bif (decide (x432 < ((x434.length) : Int))) then
  (k0 (IntKind.wrap .i64 (x432 + (1 : Int))) x433 (x434.set (x432.toNat) v436))
  else none)
  else none)
  else (k0 x432 x433 x434)))
  else none)
  else none)
noncomputable def F87_0z (n : Nat) : Sm G := inZ G 1 ⟨[0, 1, 5, 6], []⟩ F87_0s fun R x K => F87_0 n x.1.2.2.1 x.1.2.2.2.1 x.2.1 (fun u0 u1 u2 => K .normal (SSh.enc G F87_0x0 (((), ((), (u0, (u1, ())))), (u2, ()))))
theorem F87_0_eq (n : Nat) (R : Type) (x : SSh.den G F87_0s) (K : AE → St G → Option R) :
  F87_0 n x.1.2.2.1 x.1.2.2.2.1 x.2.1 (fun u0 u1 u2 => K .normal (SSh.enc G F87_0x0 (((), ((), (u0, (u1, ())))), (u2, ())))) = exec prog G (ro G (tabOf (E15 n)) (frOf []) R) 1 (codeAt F87c [1, 1, 1, 0, 1, 0, 0, 1, 0]) .no (SSh.enc G F87_0s x) (kNrm G (ro G (tabOf (E15 n)) (frOf []) R) 1 ⟨⟨[0, 1, 5, 6], []⟩, ⟨[4], []⟩, [(0, ⟨[0, 5], []⟩)]⟩ K) := by kernel_rfl
theorem F87_0_ok (n : Nat) : FragOK prog G 1 (codeAt F87c [1, 1, 1, 0, 1, 0, 0, 1, 0]) (F87_0z n) :=
  frag_plain laws fnok (E15_ok n).tab (AllF.of (l := []) (by kernel_rfl) AllF.nil) (F87_0_eq n)
noncomputable def F87_1x0 : SSh := ⟨42, [(0, (.own 0)), (5, (.int .i64))], [(.arr 7 true)]⟩
noncomputable def F87_1s : SSh := ⟨42, [(0, (.own 0)), (1, (.clo 88 .nil)), (5, (.int .i64)), (6, (.int .i64))], [(.arr 7 true)]⟩
noncomputable def F87_1_step {R : Type} (n : Nat) (k0 : Int → List (List Int) → Option R) (rec : Int → Int → List (List Int) → Option R) (x427 : Int) (x428 : Int) (x429 : List (List Int)) : Option R :=
  (bif (decide (x428 < ((x429.length) : Int))) then
  (F87_0 n x427 x428 x429 (fun z442 z443 z444 =>
  (rec z442 (IntKind.wrap .i64 (z443 + (1 : Int))) z444)))
  else (k0 x427 x429))
noncomputable def F87_1_it {R : Type} (n : Nat) (k0 : Int → List (List Int) → Option R) : Nat → Int → Int → List (List Int) → Option R
  | 0, _, _, _ => none
  | k + 1, x427, x428, x429 => F87_1_step n k0 (F87_1_it n k0 k) x427 x428 x429
noncomputable def F87_1 {R : Type} (n : Nat) (x427 : Int) (x428 : Int) (x429 : List (List Int)) (k0 : Int → List (List Int) → Option R) : Option R := F87_1_it n k0 n x427 x428 x429
noncomputable def F87_1z (n : Nat) : Sm G := inZ G 1 ⟨[0, 1, 5, 6], []⟩ F87_1s fun R x K => F87_1_it n (fun u0 u1 => K (.exit 0) (SSh.enc G F87_1x0 (((), (u0, ())), (u1, ())))) n x.1.2.2.1 x.1.2.2.2.1 x.2.1
theorem F87_1_eq (n : Nat) (R : Type) (rec : SSh.den G F87_1s → Option R) (x : SSh.den G F87_1s) (K : AE → St G → Option R) :
  F87_1_step n (fun u0 u1 => K (.exit 0) (SSh.enc G F87_1x0 (((), (u0, ())), (u1, ())))) (fun x427 x428 x429 => rec (((), ((), (x427, (x428, ())))), (x429, ()))) x.1.2.2.1 x.1.2.2.2.1 x.2.1 = exec prog G (ro G (tabOf (E15 n)) (frOf [F87_0z n]) R) 1 (codeAt F87c [1, 1, 1, 0, 1, 0, 0]) (.nd .no (.nd (.use 0) .no)) (SSh.enc G F87_1s x) (kLoop G (ro G (tabOf (E15 n)) (frOf [F87_0z n]) R) 1 ⟨[0, 1, 5, 6], []⟩ F87_1s ⟨⟨[0, 5], []⟩, ⟨[4], []⟩, [(0, ⟨[0, 5], []⟩)]⟩ rec K) := by kernel_rfl
theorem F87_1_ok (n : Nat) : FragOK prog G 1 (codeAt F87c [1, 1, 1, 0, 1, 0]) (F87_1z n) :=
  frag_loop (Z := fun R k (x : SSh.den G F87_1s) K => F87_1_it n (fun u0 u1 => K (.exit 0) (SSh.enc G F87_1x0 (((), (u0, ())), (u1, ())))) k x.1.2.2.1 x.1.2.2.2.1 x.2.1) laws fnok (E15_ok n).tab (AllF.of (l := [(0, codeAt F87c [1, 1, 1, 0, 1, 0, 0, 1, 0])]) (by kernel_rfl) (AllF.cons (F87_0_ok n) AllF.nil)) (fun _ _ _ => rfl) (fun R k y K => F87_1_eq n R (fun (x : SSh.den G F87_1s) => F87_1_it n (fun u0 u1 => K (.exit 0) (SSh.enc G F87_1x0 (((), (u0, ())), (u1, ())))) k x.1.2.2.1 x.1.2.2.2.1 x.2.1) y K) n
noncomputable def F87 (n : Nat) (a407 : List (List Int)) : Option (Unit × (Unit × (List (List Int) × Unit))) :=
  (andThen (F96 n a407) fun r424 =>
  (bif (r424.1 == (-1 : Int)) then
  some ((), ((), (r424.2.1, ())))
  else (F87_1 n r424.1 (IntKind.wrap .i64 (r424.1 + (1 : Int))) r424.2.1 (fun z446 z447 =>
  (bif (decide ((0 : Int) ≤ z446)) then
  (bif (decide (z446 ≤ ((z447.length) : Int))) then
  (bif (decide (((z447.length) : Int) ≤ ((z447.length) : Int))) then
  let v448 := (z446.toNat)
  let v449 := ((z447.take v448) ++ (List.replicate ((z447.length) - v448) []))
  (bif (decide ((0 : Int) ≤ z446)) then
  (bif (decide (z446 ≤ ((v449.length) : Int))) then
  some ((), ((), ((v449.take (z446.toNat)), ())))
  else none)
  else none)
  else none)
  else none)
  else none)))))
noncomputable def F87e (n : Nat) : Ent G := ⟨87, (.cons (.own 0) (.cons (.clo 88 .nil) .nil)), [(.arr 7 true)], (.own 1), [.dead, (.arr 7 true)], fun x y => F87 n y.1⟩
theorem F87_eq (n : Nat) (x : ShL.den G (.cons (.own 0) (.cons (.clo 88 .nil) .nil))) (y : denO G [(.arr 7 true)]) : (F87e n).F x y = runFn prog G (ro G (tabOf (E15 n)) (frOf [F87_0z n, F87_1z n]) _) Go.Proofs.Try.f87 (.nd .no (.nd .no (.nd .no (.nd (.nd .no (.nd (.use 1) .no)) .no)))) [(0, (.mv 7))] (ShL.enc G (.cons (.own 0) (.cons (.clo 88 .nil) .nil)) x) (encO G [(.arr 7 true)] y) (decR (.own 1) [.dead, (.arr 7 true)]) := by kernel_rfl
theorem F87_ok (n : Nat) : EntOK prog G (F87e n) :=
  ent_ok (fr := frOf [F87_0z n, F87_1z n]) (ann := (.nd .no (.nd .no (.nd .no (.nd (.nd .no (.nd (.use 1) .no)) .no))))) (frm := [(0, (.mv 7))]) laws fnok (E15_ok n).tab (e := F87e n) (fn := Go.Proofs.Try.f87) (by kernel_rfl) (AllF.ofB (cd := F87c) (l := [(1, codeAt F87c [1, 1, 1, 0, 1, 0])]) (by kernel_rfl) (by kernel_rfl) (AllF.cons (F87_1_ok n) AllF.nil)) (F87_eq n)
noncomputable def E16 (n : Nat) : List (Ent G) := F87e n :: E15 n
theorem E16_ok (n : Nat) : AllE prog G (E16 n) := AllE.cons (F87_ok n) (E15_ok n)
-- 89 slices.ContainsFunc[[][]int,[]int]
noncomputable def F89c : Code := bodyOf Go.Proofs.Try.f89
-- 96 slices.IndexFunc[[][]int,[]int]
noncomputable def F96v1c : Code := bodyOf Go.Proofs.Try.f96
-- 90 loop.example/slowworm/impl.mergeOrders$2
noncomputable def F90c : Code := bodyOf Go.Proofs.Try.f90
noncomputable def F90 (n : Nat) (a477 : List Int) (a478 : List Int) : Option (Bool × ((List Int × Unit) × Unit)) :=
  (bif (decide ((1 : Int) ≤ ((a477.length) : Int))) then
  (bif (decide (((a477.length) : Int) ≤ ((a477.length) : Int))) then
  (bif (decide ((0 : Int) < ((a478.length) : Int))) then
  (andThen (F49 n ((a477.take (((a477.length) : Int).toNat)).drop (1 : Nat)) (a478.getD (0 : Nat) (0 : Int))) fun r482 =>
  some (r482.1, ((a478, ()), ())))
  else none)
  else none)
  else none)
noncomputable def F90e (n : Nat) : Ent G := ⟨90, (.cons (.imm 0) (.cons (.ptr 0 0) .nil)), [(.box 38 (.cons (.imm 0) .nil))], .bool, [(.box 38 (.cons (.imm 0) .nil))], fun x y => F90 n x.1 y.1.1⟩
theorem F90_eq (n : Nat) (x : ShL.den G (.cons (.imm 0) (.cons (.ptr 0 0) .nil))) (y : denO G [(.box 38 (.cons (.imm 0) .nil))]) : (F90e n).F x y = runFn prog G (ro G (tabOf (E16 n)) (frOf []) _) Go.Proofs.Try.f90 .no [(0, .fz)] (ShL.enc G (.cons (.imm 0) (.cons (.ptr 0 0) .nil)) x) (encO G [(.box 38 (.cons (.imm 0) .nil))] y) (decR .bool [(.box 38 (.cons (.imm 0) .nil))]) := by kernel_rfl
theorem F90_ok (n : Nat) : EntOK prog G (F90e n) :=
  ent_ok (fr := frOf []) (ann := .no) (frm := [(0, .fz)]) laws fnok (E16_ok n).tab (e := F90e n) (fn := Go.Proofs.Try.f90) (by kernel_rfl) (AllF.ofB (cd := F90c) (l := []) (by kernel_rfl) (by kernel_rfl) AllF.nil) (F90_eq n)
noncomputable def E17 (n : Nat) : List (Ent G) := F90e n :: E16 n
theorem E17_ok (n : Nat) : AllE prog G (E17 n) := AllE.cons (F90_ok n) (E16_ok n)
noncomputable def F96v1_0x0 : SSh := ⟨19, [(4, (.int .i64))], [(.arr 7 true), (.box 38 (.cons (.imm 0) .nil))]⟩
noncomputable def F96v1_0x1 : SSh := ⟨19, [], [(.arr 7 true), (.box 38 (.cons (.imm 0) .nil))]⟩
noncomputable def F96v1_0s : SSh := ⟨19, [(0, (.own 0)), (1, (.clo 90 (.cons (.ptr 1 0) .nil))), (7, (.int .i64)), (8, (.int .i64))], [(.arr 7 true), (.box 38 (.cons (.imm 0) .nil))]⟩
noncomputable def F96v1_0_step {R : Type} (n : Nat) (k0 : Int → List (List Int) → List Int → Option R) (k1 : List (List Int) → List Int → Option R) (rec : Int → Int → List (List Int) → List Int → Option R) (x470 : Int) (x471 : Int) (x472 : List (List Int)) (x473 : List Int) : Option R :=
  (bif (decide (x471 < x470)) then
  (bif (decide ((0 : Int) ≤ x471)) then
  (bif (decide (x471 < ((x472.length) : Int))) then
  (andThen (F90 n (x472.getD (x471.toNat) []) x473) fun r483 =>
  (bif r483.1 then
  (k0 x471 x472 r483.2.1.1)
  else (rec x470 (IntKind.wrap .i64 (x471 + (1 : Int))) x472 r483.2.1.1)))
  else none)
  else none)
  else (k1 x472 x473))
noncomputable def F96v1_0_it {R : Type} (n : Nat) (k0 : Int → List (List Int) → List Int → Option R) (k1 : List (List Int) → List Int → Option R) : Nat → Int → Int → List (List Int) → List Int → Option R
  | 0, _, _, _, _ => none
  | k + 1, x470, x471, x472, x473 => F96v1_0_step n k0 k1 (F96v1_0_it n k0 k1 k) x470 x471 x472 x473
noncomputable def F96v1_0 {R : Type} (n : Nat) (x470 : Int) (x471 : Int) (x472 : List (List Int)) (x473 : List Int) (k0 : Int → List (List Int) → List Int → Option R) (k1 : List (List Int) → List Int → Option R) : Option R := F96v1_0_it n k0 k1 n x470 x471 x472 x473
noncomputable def F96v1_0z (n : Nat) : Sm G := inZ G 2 ⟨[0, 1, 7, 8], []⟩ F96v1_0s fun R x K => F96v1_0_it n (fun u0 u1 u2 => K .ret (SSh.enc G F96v1_0x0 ((u0, ()), (u1, ((u2, ()), ()))))) (fun u0 u1 => K (.exit 0) (SSh.enc G F96v1_0x1 ((), (u0, ((u1, ()), ()))))) n x.1.2.2.1 x.1.2.2.2.1 x.2.1 x.2.2.1.1
theorem F96v1_0_eq (n : Nat) (R : Type) (rec : SSh.den G F96v1_0s → Option R) (x : SSh.den G F96v1_0s) (K : AE → St G → Option R) :
  F96v1_0_step n (fun u0 u1 u2 => K .ret (SSh.enc G F96v1_0x0 ((u0, ()), (u1, ((u2, ()), ()))))) (fun u0 u1 => K (.exit 0) (SSh.enc G F96v1_0x1 ((), (u0, ((u1, ()), ()))))) (fun x470 x471 x472 x473 => rec (((), (((), ()), (x470, (x471, ())))), (x472, ((x473, ()), ())))) x.1.2.2.1 x.1.2.2.2.1 x.2.1 x.2.2.1.1 = exec prog G (ro G (tabOf (E17 n)) (frOf []) R) 2 (codeAt F96v1c [1, 0, 1, 0, 0]) .no (SSh.enc G F96v1_0s x) (kLoop G (ro G (tabOf (E17 n)) (frOf []) R) 2 ⟨[0, 1, 7, 8], []⟩ F96v1_0s ⟨⟨[], []⟩, ⟨[4], []⟩, [(0, ⟨[], []⟩)]⟩ rec K) := by kernel_rfl
theorem F96v1_0_ok (n : Nat) : FragOK prog G 2 (codeAt F96v1c [1, 0, 1, 0]) (F96v1_0z n) :=
  frag_loop (Z := fun R k (x : SSh.den G F96v1_0s) K => F96v1_0_it n (fun u0 u1 u2 => K .ret (SSh.enc G F96v1_0x0 ((u0, ()), (u1, ((u2, ()), ()))))) (fun u0 u1 => K (.exit 0) (SSh.enc G F96v1_0x1 ((), (u0, ((u1, ()), ()))))) k x.1.2.2.1 x.1.2.2.2.1 x.2.1 x.2.2.1.1) laws fnok (E17_ok n).tab (AllF.of (l := []) (by kernel_rfl) AllF.nil) (fun _ _ _ => rfl) (fun R k y K => F96v1_0_eq n R (fun (x : SSh.den G F96v1_0s) => F96v1_0_it n (fun u0 u1 u2 => K .ret (SSh.enc G F96v1_0x0 ((u0, ()), (u1, ((u2, ()), ()))))) (fun u0 u1 => K (.exit 0) (SSh.enc G F96v1_0x1 ((), (u0, ((u1, ()), ()))))) k x.1.2.2.1 x.1.2.2.2.1 x.2.1 x.2.2.1.1) y K) n
noncomputable def F96v1 (n : Nat) (a467 : List (List Int)) (a468 : List Int) : Option (Int × (List (List Int) × ((List Int × Unit) × Unit))) :=
  (F96v1_0 n ((a467.length) : Int) (0 : Int) a467 a468 (fun z485 z486 z487 =>
  some (z485, (z486, ((z487, ()), ())))) (fun z488 z489 =>
  some ((-1 : Int), (z488, ((z489, ()), ())))))
noncomputable def F96v1e (n : Nat) : Ent G := ⟨96, (.cons (.own 0) (.cons (.clo 90 (.cons (.ptr 1 0) .nil)) .nil)), [(.arr 7 true), (.box 38 (.cons (.imm 0) .nil))], (.int .i64), [(.arr 7 true), (.box 38 (.cons (.imm 0) .nil))], fun x y => F96v1 n y.1 y.2.1.1⟩
theorem F96v1_eq (n : Nat) (x : ShL.den G (.cons (.own 0) (.cons (.clo 90 (.cons (.ptr 1 0) .nil)) .nil))) (y : denO G [(.arr 7 true), (.box 38 (.cons (.imm 0) .nil))]) : (F96v1e n).F x y = runFn prog G (ro G (tabOf (E17 n)) (frOf [F96v1_0z n]) _) Go.Proofs.Try.f96 (.nd .no (.nd (.nd .no (.nd (.use 0) .no)) .no)) [(0, .fz)] (ShL.enc G (.cons (.own 0) (.cons (.clo 90 (.cons (.ptr 1 0) .nil)) .nil)) x) (encO G [(.arr 7 true), (.box 38 (.cons (.imm 0) .nil))] y) (decR (.int .i64) [(.arr 7 true), (.box 38 (.cons (.imm 0) .nil))]) := by kernel_rfl
theorem F96v1_ok (n : Nat) : EntOK prog G (F96v1e n) :=
  ent_ok (fr := frOf [F96v1_0z n]) (ann := (.nd .no (.nd (.nd .no (.nd (.use 0) .no)) .no))) (frm := [(0, .fz)]) laws fnok (E17_ok n).tab (e := F96v1e n) (fn := Go.Proofs.Try.f96) (by kernel_rfl) (AllF.ofB (cd := F96v1c) (l := [(0, codeAt F96v1c [1, 0, 1, 0])]) (by kernel_rfl) (by kernel_rfl) (AllF.cons (F96v1_0_ok n) AllF.nil)) (F96v1_eq n)
noncomputable def E18 (n : Nat) : List (Ent G) := F96v1e n :: E17 n
theorem E18_ok (n : Nat) : AllE prog G (E18 n) := AllE.cons (F96v1_ok n) (E17_ok n)
noncomputable def F89 (n : Nat) (a465 : List (List Int)) (a466 : List Int) : Option (Bool × (List (List Int) × ((List Int × Unit) × Unit))) :=
  (andThen (F96v1 n a465 a466) fun r490 =>
  some ((decide (r490.1 ≥ (0 : Int))), (r490.2.1, ((r490.2.2.1.1, ()), ()))))
noncomputable def F89e (n : Nat) : Ent G := ⟨89, (.cons (.own 0) (.cons (.clo 90 (.cons (.ptr 1 0) .nil)) .nil)), [(.arr 7 true), (.box 38 (.cons (.imm 0) .nil))], .bool, [(.arr 7 true), (.box 38 (.cons (.imm 0) .nil))], fun x y => F89 n y.1 y.2.1.1⟩
theorem F89_eq (n : Nat) (x : ShL.den G (.cons (.own 0) (.cons (.clo 90 (.cons (.ptr 1 0) .nil)) .nil))) (y : denO G [(.arr 7 true), (.box 38 (.cons (.imm 0) .nil))]) : (F89e n).F x y = runFn prog G (ro G (tabOf (E18 n)) (frOf []) _) Go.Proofs.Try.f89 .no [(0, .fz)] (ShL.enc G (.cons (.own 0) (.cons (.clo 90 (.cons (.ptr 1 0) .nil)) .nil)) x) (encO G [(.arr 7 true), (.box 38 (.cons (.imm 0) .nil))] y) (decR .bool [(.arr 7 true), (.box 38 (.cons (.imm 0) .nil))]) := by kernel_rfl
theorem F89_ok (n : Nat) : EntOK prog G (F89e n) :=
  ent_ok (fr := frOf []) (ann := .no) (frm := [(0, .fz)]) laws fnok (E18_ok n).tab (e := F89e n) (fn := Go.Proofs.Try.f89) (by kernel_rfl) (AllF.ofB (cd := F89c) (l := []) (by kernel_rfl) (by kernel_rfl) AllF.nil) (F89_eq n)
noncomputable def E19 (n : Nat) : List (Ent G) := F89e n :: E18 n
theorem E19_ok (n : Nat) : AllE prog G (E19 n) := AllE.cons (F89_ok n) (E18_ok n)
-- 73 loop.example/slowworm/impl.mergeOrders
noncomputable def F73c : Code := bodyOf Go.Proofs.Try.f73
noncomputable def F73_0x0 : SSh := ⟨54, [(0, (.own 1)), (4, (.own 2)), (5, (.int .i64))], [.dead, (.arr 7 true), (.arr 0 true)]⟩
noncomputable def F73_0s : SSh := ⟨54, [(0, (.own 1)), (4, (.own 2)), (5, (.int .i64)), (16, (.own 1)), (17, (.int .i64)), (18, (.int .i64))], [.dead, (.arr 7 true), (.arr 0 true)]⟩
noncomputable def F73_0_step {R : Type} (n : Nat) (k0 : Int → List (List Int) → List Int → Option R) (rec : Int → Int → Int → List (List Int) → List Int → Option R) (x597 : Int) (x598 : Int) (x599 : Int) (x600 : List (List Int)) (x601 : List Int) : Option R :=
  (bif (decide (x599 < x598)) then
  (bif (decide ((0 : Int) ≤ x599)) then
  (bif (decide (x599 < ((x600.length) : Int))) then
  (andThen (F89 n x600 (x600.getD (x599.toNat) [])) fun r605 =>
  (bif (!r605.1) then
  (bif (decide ((0 : Int) < ((r605.2.2.1.1.length) : Int))) then
  (k0 (r605.2.2.1.1.getD (0 : Nat) (0 : Int)) r605.2.1 x601)
  else none)
  else (rec x597 x598 (IntKind.wrap .i64 (x599 + (1 : Int))) r605.2.1 x601)))
  else none)
  else none)
  else (k0 x597 x600 x601))
noncomputable def F73_0_it {R : Type} (n : Nat) (k0 : Int → List (List Int) → List Int → Option R) : Nat → Int → Int → Int → List (List Int) → List Int → Option R
  | 0, _, _, _, _, _ => none
  | k + 1, x597, x598, x599, x600, x601 => F73_0_step n k0 (F73_0_it n k0 k) x597 x598 x599 x600 x601
noncomputable def F73_0 {R : Type} (n : Nat) (x597 : Int) (x598 : Int) (x599 : Int) (x600 : List (List Int)) (x601 : List Int) (k0 : Int → List (List Int) → List Int → Option R) : Option R := F73_0_it n k0 n x597 x598 x599 x600 x601
noncomputable def F73_0z (n : Nat) : Sm G := inZ G 1 ⟨[0, 4, 5, 16, 17, 18], []⟩ F73_0s fun R x K => F73_0_it n (fun u0 u1 u2 => K (.exit 2) (SSh.enc G F73_0x0 (((), ((), (u0, ()))), ((), (u1, (u2, ())))))) n x.1.2.2.1 x.1.2.2.2.2.1 x.1.2.2.2.2.2.1 x.2.2.1 x.2.2.2.1
theorem F73_0_eq (n : Nat) (R : Type) (rec : SSh.den G F73_0s → Option R) (x : SSh.den G F73_0s) (K : AE → St G → Option R) :
  F73_0_step n (fun u0 u1 u2 => K (.exit 2) (SSh.enc G F73_0x0 (((), ((), (u0, ()))), ((), (u1, (u2, ())))))) (fun x597 x598 x599 x600 x601 => rec (((), ((), (x597, ((), (x598, (x599, ())))))), ((), (x600, (x601, ()))))) x.1.2.2.1 x.1.2.2.2.2.1 x.1.2.2.2.2.2.1 x.2.2.1 x.2.2.2.1 = exec prog G (ro G (tabOf (E19 n)) (frOf []) R) 1 (codeAt F73c [1, 1, 0, 0, 0, 1, 1, 1, 0, 1, 0, 0]) .no (SSh.enc G F73_0s x) (kLoop G (ro G (tabOf (E19 n)) (frOf []) R) 1 ⟨[0, 4, 5, 16, 17, 18], []⟩ F73_0s ⟨⟨[0, 4, 5], []⟩, ⟨[2, 3], []⟩, [(2, ⟨[0, 4, 5], []⟩), (1, ⟨[0, 4], []⟩), (0, ⟨[2, 3], []⟩)]⟩ rec K) := by kernel_rfl
theorem F73_0_ok (n : Nat) : FragOK prog G 1 (codeAt F73c [1, 1, 0, 0, 0, 1, 1, 1, 0, 1, 0]) (F73_0z n) :=
  frag_loop (Z := fun R k (x : SSh.den G F73_0s) K => F73_0_it n (fun u0 u1 u2 => K (.exit 2) (SSh.enc G F73_0x0 (((), ((), (u0, ()))), ((), (u1, (u2, ())))))) k x.1.2.2.1 x.1.2.2.2.2.1 x.1.2.2.2.2.2.1 x.2.2.1 x.2.2.2.1) laws fnok (E19_ok n).tab (AllF.of (l := []) (by kernel_rfl) AllF.nil) (fun _ _ _ => rfl) (fun R k y K => F73_0_eq n R (fun (x : SSh.den G F73_0s) => F73_0_it n (fun u0 u1 u2 => K (.exit 2) (SSh.enc G F73_0x0 (((), ((), (u0, ()))), ((), (u1, (u2, ())))))) k x.1.2.2.1 x.1.2.2.2.2.1 x.1.2.2.2.2.2.1 x.2.2.1 x.2.2.2.1) y K) n
noncomputable def F73_1x0 : SSh := ⟨54, [(0, (.own 1)), (4, (.own 2)), (5, (.int .i64))], [.dead, (.arr 7 true), (.arr 0 true)]⟩
noncomputable def F73_1s : SSh := ⟨54, [(0, (.own 1)), (4, (.own 2)), (5, (.int .i64))], [.dead, (.arr 7 true), (.arr 0 true)]⟩
noncomputable def F73_1 {R : Type} (n : Nat) (x593 : Int) (x594 : List (List Int)) (x595 : List Int) (k0 : Int → List (List Int) → List Int → Option R) : Option R :=
  (F73_0 n x593 ((x594.length) : Int) (0 : Int) x594 x595 (fun z610 z611 z612 =>
  (k0 z610 z611 z612)))
noncomputable def F73_1z (n : Nat) : Sm G := inZ G 1 ⟨[0, 4, 5], []⟩ F73_1s fun R x K => F73_1 n x.1.2.2.1 x.2.2.1 x.2.2.2.1 (fun u0 u1 u2 => K .normal (SSh.enc G F73_1x0 (((), ((), (u0, ()))), ((), (u1, (u2, ()))))))
theorem F73_1_eq (n : Nat) (R : Type) (x : SSh.den G F73_1s) (K : AE → St G → Option R) :
  F73_1 n x.1.2.2.1 x.2.2.1 x.2.2.2.1 (fun u0 u1 u2 => K .normal (SSh.enc G F73_1x0 (((), ((), (u0, ()))), ((), (u1, (u2, ())))))) = exec prog G (ro G (tabOf (E19 n)) (frOf [F73_0z n]) R) 1 (codeAt F73c [1, 1, 0, 0, 0, 1, 1, 1, 0]) (.nd .no (.nd (.use 0) .no)) (SSh.enc G F73_1s x) (kNrm G (ro G (tabOf (E19 n)) (frOf [F73_0z n]) R) 1 ⟨⟨[0, 4, 5], []⟩, ⟨[2, 3], []⟩, [(1, ⟨[0, 4], []⟩), (0, ⟨[2, 3], []⟩)]⟩ K) := by kernel_rfl
theorem F73_1_ok (n : Nat) : FragOK prog G 1 (codeAt F73c [1, 1, 0, 0, 0, 1, 1, 1, 0]) (F73_1z n) :=
  frag_plain laws fnok (E19_ok n).tab (AllF.of (l := [(0, codeAt F73c [1, 1, 0, 0, 0, 1, 1, 1, 0, 1, 0])]) (by kernel_rfl) (AllF.cons (F73_0_ok n) AllF.nil)) (F73_1_eq n)
noncomputable def F73_2x0 : SSh := ⟨54, [(0, (.own 1)), (4, (.own 2)), (5, (.int .i64)), (36, (.own 1)), (37, (.int .i64)), (38, (.int .i64))], [.dead, (.arr 7 true), (.arr 0 true)]⟩
noncomputable def F73_2s : SSh := ⟨54, [(0, (.own 1)), (4, (.own 2)), (5, (.int .i64)), (36, (.own 1)), (37, (.int .i64)), (38, (.int .i64))], [.dead, (.arr 7 true), (.arr 0 true)]⟩
noncomputable def F73_2 {R : Type} (n : Nat) (x626 : Int) (x627 : Int) (x628 : Int) (x629 : List (List Int)) (x630 : List Int) (k0 : Int → Int → Int → List (List Int) → List Int → Option R) : Option R :=
  (bif (decide ((0 : Int) ≤ x628)) then
  (bif (decide (x628 < ((x629.length) : Int))) then
  let v632 := (x629.getD (x628.toNat) [])
  (bif (decide ((0 : Int) < ((v632.length) : Int))) then
  (bif ((v632.getD (0 : Nat) (0 : Int)) == x626) then
  (bif (decide ((1 : Int) ≤ ((v632.length) : Int))) then
  (bif (decide (((v632.length) : Int) ≤ ((v632.length) : Int))) then
  (bif (decide ((0 : Int) ≤ x628)) then
  (bif (decide (x628 < ((x629.length) : Int))) then
  (k0 x626 x627 x628 (x629.set (x628.toNat) ((v632.take (((v632.length) : Int).toNat)).drop (1 : Nat))) x630)
  else none)
  else none)
  else none)
  else none)
  else (k0 x626 x627 x628 x629 x630))
  else none)
  else none)
  else none)
noncomputable def F73_2z (n : Nat) : Sm G := inZ G 1 ⟨[0, 4, 5, 36, 37, 38], []⟩ F73_2s fun R x K => F73_2 n x.1.2.2.1 x.1.2.2.2.2.1 x.1.2.2.2.2.2.1 x.2.2.1 x.2.2.2.1 (fun u0 u1 u2 u3 u4 => K .normal (SSh.enc G F73_2x0 (((), ((), (u0, ((), (u1, (u2, ())))))), ((), (u3, (u4, ()))))))
theorem F73_2_eq (n : Nat) (R : Type) (x : SSh.den G F73_2s) (K : AE → St G → Option R) :
  F73_2 n x.1.2.2.1 x.1.2.2.2.2.1 x.1.2.2.2.2.2.1 x.2.2.1 x.2.2.2.1 (fun u0 u1 u2 u3 u4 => K .normal (SSh.enc G F73_2x0 (((), ((), (u0, ((), (u1, (u2, ())))))), ((), (u3, (u4, ())))))) = exec prog G (ro G (tabOf (E19 n)) (frOf [F73_0z n, F73_1z n]) R) 1 (codeAt F73c [1, 1, 0, 0, 0, 1, 1, 1, 1, 1, 1, 1, 0, 0, 1, 1, 0]) .no (SSh.enc G F73_2s x) (kNrm G (ro G (tabOf (E19 n)) (frOf [F73_0z n, F73_1z n]) R) 1 ⟨⟨[0, 4, 5, 36, 37, 38], []⟩, ⟨[2, 3], []⟩, [(4, ⟨[0, 4], []⟩), (1, ⟨[0, 4], []⟩), (0, ⟨[2, 3], []⟩)]⟩ K) := by kernel_rfl
theorem F73_2_ok (n : Nat) : FragOK prog G 1 (codeAt F73c [1, 1, 0, 0, 0, 1, 1, 1, 1, 1, 1, 1, 0, 0, 1, 1, 0]) (F73_2z n) :=
  frag_plain laws fnok (E19_ok n).tab (AllF.of (l := []) (by kernel_rfl) AllF.nil) (F73_2_eq n)
noncomputable def F73_3x0 : SSh := ⟨54, [(0, (.own 1)), (4, (.own 2))], [.dead, (.arr 7 true), (.arr 0 true)]⟩
noncomputable def F73_3s : SSh := ⟨54, [(0, (.own 1)), (4, (.own 2)), (5, (.int .i64)), (36, (.own 1)), (37, (.int .i64)), (38, (.int .i64))], [.dead, (.arr 7 true), (.arr 0 true)]⟩
noncomputable def F73_3_step {R : Type} (n : Nat) (k0 : List (List Int) → List Int → Option R) (rec : Int → Int → Int → List (List Int) → List Int → Option R) (x620 : Int) (x621 : Int) (x622 : Int) (x623 : List (List Int)) (x624 : List Int) : Option R :=
  (bif (decide (x622 < x621)) then
  (F73_2 n x620 x621 x622 x623 x624 (fun z639 z640 z641 z642 z643 =>
  (rec z639 z640 (IntKind.wrap .i64 (z641 + (1 : Int))) z642 z643)))
  else (k0 x623 x624))
noncomputable def F73_3_it {R : Type} (n : Nat) (k0 : List (List Int) → List Int → Option R) : Nat → Int → Int → Int → List (List Int) → List Int → Option R
  | 0, _, _, _, _, _ => none
  | k + 1, x620, x621, x622, x623, x624 => F73_3_step n k0 (F73_3_it n k0 k) x620 x621 x622 x623 x624
noncomputable def F73_3 {R : Type} (n : Nat) (x620 : Int) (x621 : Int) (x622 : Int) (x623 : List (List Int)) (x624 : List Int) (k0 : List (List Int) → List Int → Option R) : Option R := F73_3_it n k0 n x620 x621 x622 x623 x624
noncomputable def F73_3z (n : Nat) : Sm G := inZ G 1 ⟨[0, 4, 5, 36, 37, 38], []⟩ F73_3s fun R x K => F73_3_it n (fun u0 u1 => K (.exit 4) (SSh.enc G F73_3x0 (((), ((), ())), ((), (u0, (u1, ())))))) n x.1.2.2.1 x.1.2.2.2.2.1 x.1.2.2.2.2.2.1 x.2.2.1 x.2.2.2.1
theorem F73_3_eq (n : Nat) (R : Type) (rec : SSh.den G F73_3s → Option R) (x : SSh.den G F73_3s) (K : AE → St G → Option R) :
  F73_3_step n (fun u0 u1 => K (.exit 4) (SSh.enc G F73_3x0 (((), ((), ())), ((), (u0, (u1, ())))))) (fun x620 x621 x622 x623 x624 => rec (((), ((), (x620, ((), (x621, (x622, ())))))), ((), (x623, (x624, ()))))) x.1.2.2.1 x.1.2.2.2.2.1 x.1.2.2.2.2.2.1 x.2.2.1 x.2.2.2.1 = exec prog G (ro G (tabOf (E19 n)) (frOf [F73_0z n, F73_1z n, F73_2z n]) R) 1 (codeAt F73c [1, 1, 0, 0, 0, 1, 1, 1, 1, 1, 1, 1, 0, 0]) (.nd .no (.nd .no (.nd (.use 2) .no))) (SSh.enc G F73_3s x) (kLoop G (ro G (tabOf (E19 n)) (frOf [F73_0z n, F73_1z n, F73_2z n]) R) 1 ⟨[0, 4, 5, 36, 37, 38], []⟩ F73_3s ⟨⟨[0, 4], []⟩, ⟨[2, 3], []⟩, [(4, ⟨[0, 4], []⟩), (1, ⟨[0, 4], []⟩), (0, ⟨[2, 3], []⟩)]⟩ rec K) := by kernel_rfl
theorem F73_3_ok (n : Nat) : FragOK prog G 1 (codeAt F73c [1, 1, 0, 0, 0, 1, 1, 1, 1, 1, 1, 1, 0]) (F73_3z n) :=
  frag_loop (Z := fun R k (x : SSh.den G F73_3s) K => F73_3_it n (fun u0 u1 => K (.exit 4) (SSh.enc G F73_3x0 (((), ((), ())), ((), (u0, (u1, ())))))) k x.1.2.2.1 x.1.2.2.2.2.1 x.1.2.2.2.2.2.1 x.2.2.1 x.2.2.2.1) laws fnok (E19_ok n).tab (AllF.of (l := [(2, codeAt F73c [1, 1, 0, 0, 0, 1, 1, 1, 1, 1, 1, 1, 0, 0, 1, 1, 0])]) (by kernel_rfl) (AllF.cons (F73_2_ok n) AllF.nil)) (fun _ _ _ => rfl) (fun R k y K => F73_3_eq n R (fun (x : SSh.den G F73_3s) => F73_3_it n (fun u0 u1 => K (.exit 4) (SSh.enc G F73_3x0 (((), ((), ())), ((), (u0, (u1, ())))))) k x.1.2.2.1 x.1.2.2.2.2.1 x.1.2.2.2.2.2.1 x.2.2.1 x.2.2.2.1) y K) n
noncomputable def F73_4x0 : SSh := ⟨54, [(2, (.own 1)), (3, .bool)], [.dead, (.arr 0 true)]⟩
noncomputable def F73_4x1 : SSh := ⟨54, [(2, .nil0), (3, .bool)], [.dead]⟩
noncomputable def F73_4s : SSh := ⟨54, [(0, (.own 1)), (4, (.own 2))], [.dead, (.arr 7 true), (.arr 0 true)]⟩
noncomputable def F73_4_step {R : Type} (n : Nat) (k0 : Bool → List Int → Option R) (k1 : Bool → Option R) (rec : List (List Int) → List Int → Option R) (x588 : List (List Int)) (x589 : List Int) : Option R :=
  (andThen (F87 n x588) fun r590 =>
  (bif (((r590.2.2.1.length) : Int) == (0 : Int)) then
  (k0 true x589)
  else (F73_1 n (-1 : Int) r590.2.2.1 x589 (fun z613 z614 z615 =>
  (bif (decide (z613 < (0 : Int))) then
  (k1 false)
  else let v617 := (z613 :: [])
  (bif (decide (((z615.length) + (v617.length)) ≤ (68719476736 : Nat))) then
  (F73_3 n z613 ((z614.length) : Int) (0 : Int) z614 (z615 ++ v617) (fun z645 z646 =>
  (rec z645 z646)))
  else none))))))
noncomputable def F73_4_it {R : Type} (n : Nat) (k0 : Bool → List Int → Option R) (k1 : Bool → Option R) : Nat → List (List Int) → List Int → Option R
  | 0, _, _ => none
  | k + 1, x588, x589 => F73_4_step n k0 k1 (F73_4_it n k0 k1 k) x588 x589
noncomputable def F73_4 {R : Type} (n : Nat) (x588 : List (List Int)) (x589 : List Int) (k0 : Bool → List Int → Option R) (k1 : Bool → Option R) : Option R := F73_4_it n k0 k1 n x588 x589
noncomputable def F73_4z (n : Nat) : Sm G := inZ G 1 ⟨[0, 4], [(0, (.mv 7)), (4, (.own 0))]⟩ F73_4s fun R x K => F73_4_it n (fun u0 u1 => K .ret (SSh.enc G F73_4x0 (((), (u0, ())), ((), (u1, ()))))) (fun u0 => K .ret (SSh.enc G F73_4x1 (((), (u0, ())), ((), ())))) n x.2.2.1 x.2.2.2.1
theorem F73_4_eq (n : Nat) (R : Type) (rec : SSh.den G F73_4s → Option R) (x : SSh.den G F73_4s) (K : AE → St G → Option R) :
  F73_4_step n (fun u0 u1 => K .ret (SSh.enc G F73_4x0 (((), (u0, ())), ((), (u1, ()))))) (fun u0 => K .ret (SSh.enc G F73_4x1 (((), (u0, ())), ((), ())))) (fun x588 x589 => rec (((), ((), ())), ((), (x588, (x589, ()))))) x.2.2.1 x.2.2.2.1 = exec prog G (ro G (tabOf (E19 n)) (frOf [F73_0z n, F73_1z n, F73_2z n, F73_3z n]) R) 1 (codeAt F73c [1, 1, 0, 0]) (.nd (.nd .no (.nd .no (.nd .no (.nd (.use 1) (.nd .no (.nd .no (.nd .no (.nd (.use 3) .no)))))))) .no) (SSh.enc G F73_4s x) (kLoop G (ro G (tabOf (E19 n)) (frOf [F73_0z n, F73_1z n, F73_2z n, F73_3z n]) R) 1 ⟨[0, 4], [(0, (.mv 7)), (4, (.own 0))]⟩ F73_4s ⟨⟨[2, 3], []⟩, ⟨[2, 3], []⟩, [(0, ⟨[2, 3], []⟩)]⟩ rec K) := by kernel_rfl
theorem F73_4_ok (n : Nat) : FragOK prog G 1 (codeAt F73c [1, 1, 0]) (F73_4z n) :=
  frag_loop (Z := fun R k (x : SSh.den G F73_4s) K => F73_4_it n (fun u0 u1 => K .ret (SSh.enc G F73_4x0 (((), (u0, ())), ((), (u1, ()))))) (fun u0 => K .ret (SSh.enc G F73_4x1 (((), (u0, ())), ((), ())))) k x.2.2.1 x.2.2.2.1) laws fnok (E19_ok n).tab (AllF.of (l := [(1, codeAt F73c [1, 1, 0, 0, 0, 1, 1, 1, 0]), (3, codeAt F73c [1, 1, 0, 0, 0, 1, 1, 1, 1, 1, 1, 1, 0])]) (by kernel_rfl) (AllF.cons (F73_1_ok n) (AllF.cons (F73_3_ok n) AllF.nil))) (fun _ _ _ => rfl) (fun R k y K => F73_4_eq n R (fun (x : SSh.den G F73_4s) => F73_4_it n (fun u0 u1 => K .ret (SSh.enc G F73_4x0 (((), (u0, ())), ((), (u1, ()))))) (fun u0 => K .ret (SSh.enc G F73_4x1 (((), (u0, ())), ((), ())))) k x.2.2.1 x.2.2.2.1) y K) n
noncomputable def F73 (n : Nat) (a587 : List (List Int)) : Option ((List Int × (Bool × Unit)) × (Unit × Unit)) :=
  (F73_4 n a587 [] (fun z647 z648 =>
  some ((z648, (z647, ())), ((), ()))) (fun z649 =>
  some (([], (z649, ())), ((), ()))))
noncomputable def F73e (n : Nat) : Ent G := ⟨73, (.cons (.own 0) .nil), [(.arr 7 true)], (.tup (.cons (.imm 0) (.cons .bool .nil))), [.dead], fun x y => F73 n y.1⟩
theorem F73_eq (n : Nat) (x : ShL.den G (.cons (.own 0) .nil)) (y : denO G [(.arr 7 true)]) : (F73e n).F x y = runFn prog G (ro G (tabOf (E19 n)) (frOf [F73_0z n, F73_1z n, F73_2z n, F73_3z n, F73_4z n]) _) Go.Proofs.Try.f73 (.nd .no (.nd .no (.nd (.use 4) .no))) [(0, .fz), (1, .fz)] (ShL.enc G (.cons (.own 0) .nil) x) (encO G [(.arr 7 true)] y) (decR (.tup (.cons (.imm 0) (.cons .bool .nil))) [.dead]) := by kernel_rfl
theorem F73_ok (n : Nat) : EntOK prog G (F73e n) :=
  ent_ok (fr := frOf [F73_0z n, F73_1z n, F73_2z n, F73_3z n, F73_4z n]) (ann := (.nd .no (.nd .no (.nd (.use 4) .no)))) (frm := [(0, .fz), (1, .fz)]) laws fnok (E19_ok n).tab (e := F73e n) (fn := Go.Proofs.Try.f73) (by kernel_rfl) (AllF.ofB (cd := F73c) (l := [(4, codeAt F73c [1, 1, 0])]) (by kernel_rfl) (by kernel_rfl) (AllF.cons (F73_4_ok n) AllF.nil)) (F73_eq n)
noncomputable def E20 (n : Nat) : List (Ent G) := F73e n :: E19 n
theorem E20_ok (n : Nat) : AllE prog G (E20 n) := AllE.cons (F73_ok n) (E19_ok n)
abbrev Q45RC : Type := (List (List Int) → Int → Option ((List Int × (Bool × Unit)) × Unit)) × Unit
noncomputable def Q45L (n : Nat) (rc : Q45RC) : List (Ent G) := ⟨45, (.cons (.imm 7) (.cons (.int .i64) .nil)), [], (.tup (.cons (.imm 0) (.cons .bool .nil))), [], fun x y => rc.1 x.1 x.2.1⟩ :: E20 n
-- 45 loop.example/slowworm/impl.mro
noncomputable def F45bc : Code := bodyOf Go.Proofs.Try.f45
noncomputable def F45b_0x0 : SSh := ⟨84, [(4, .nil0), (5, .bool)], []⟩
noncomputable def F45b_0x1 : SSh := ⟨84, [(1, (.int .i64)), (6, (.imm 0)), (7, (.own 0))], [(.arr 7 true)]⟩
noncomputable def F45b_0s : SSh := ⟨84, [(0, (.imm 7)), (1, (.int .i64)), (6, (.imm 0)), (7, (.own 0)), (34, (.imm 0)), (35, (.int .i64)), (36, (.int .i64))], [(.arr 7 true)]⟩
noncomputable def F45b_0_step {R : Type} (n : Nat) (rc : Q45RC) (k0 : Bool → Option R) (k1 : Int → List Int → List (List Int) → Option R) (rec : List (List Int) → Int → List Int → List Int → Int → Int → List (List Int) → Option R) (x666 : List (List Int)) (x667 : Int) (x668 : List Int) (x669 : List Int) (x670 : Int) (x671 : Int) (x672 : List (List Int)) : Option R :=
  (bif (decide (x671 < x670)) then
  (bif (decide ((0 : Int) ≤ x671)) then
  (bif (decide (x671 < ((x669.length) : Int))) then
  let v675 := (x669.getD (x671.toNat) (0 : Int))
  (bif (decide (v675 < (0 : Int))) then
  (k0 false)
  else (bif (decide (v675 ≥ x667)) then
  (k0 false)
  else (bif (decide ((0 : Int) ≤ x671)) then
  (bif (decide (x671 ≤ ((x668.length) : Int))) then
  (andThen (F49 n ((x668.take (x671.toNat)).drop (0 : Nat)) v675) fun r679 =>
  (bif r679.1 then
  (k0 false)
  else (andThen (rc.1 x666 v675) fun r680 =>
  (bif (!r680.1.2.1) then
  (k0 false)
  else let v682 := (r680.1.1 :: [])
  (bif (decide (((x672.length) + (v682.length)) ≤ (68719476736 : Nat))) then
  (rec x666 x667 x668 x669 x670 (IntKind.wrap .i64 (x671 + (1 : Int))) (x672 ++ v682))
  else none)))))
  else none)
  else none)))
  else none)
  else none)
  else (k1 x667 x668 x672))
noncomputable def F45b_0_it {R : Type} (n : Nat) (rc : Q45RC) (k0 : Bool → Option R) (k1 : Int → List Int → List (List Int) → Option R) : Nat → List (List Int) → Int → List Int → List Int → Int → Int → List (List Int) → Option R
  | 0, _, _, _, _, _, _, _ => none
  | k + 1, x666, x667, x668, x669, x670, x671, x672 => F45b_0_step n rc k0 k1 (F45b_0_it n rc k0 k1 k) x666 x667 x668 x669 x670 x671 x672
noncomputable def F45b_0 {R : Type} (n : Nat) (rc : Q45RC) (x666 : List (List Int)) (x667 : Int) (x668 : List Int) (x669 : List Int) (x670 : Int) (x671 : Int) (x672 : List (List Int)) (k0 : Bool → Option R) (k1 : Int → List Int → List (List Int) → Option R) : Option R := F45b_0_it n rc k0 k1 n x666 x667 x668 x669 x670 x671 x672
noncomputable def F45b_0z (n : Nat) (rc : Q45RC) : Sm G := inZ G 0 ⟨[0, 1, 6, 7, 34, 35, 36], [(7, (.own 7))]⟩ F45b_0s fun R x K => F45b_0_it n rc (fun u0 => K .ret (SSh.enc G F45b_0x0 (((), (u0, ())), ()))) (fun u0 u1 u2 => K (.exit 0) (SSh.enc G F45b_0x1 ((u0, (u1, ((), ()))), (u2, ())))) n x.1.1 x.1.2.1 x.1.2.2.1 x.1.2.2.2.2.1 x.1.2.2.2.2.2.1 x.1.2.2.2.2.2.2.1 x.2.1
theorem F45b_0_eq (n : Nat) (rc : Q45RC) (R : Type) (rec : SSh.den G F45b_0s → Option R) (x : SSh.den G F45b_0s) (K : AE → St G → Option R) :
  F45b_0_step n rc (fun u0 => K .ret (SSh.enc G F45b_0x0 (((), (u0, ())), ()))) (fun u0 u1 u2 => K (.exit 0) (SSh.enc G F45b_0x1 ((u0, (u1, ((), ()))), (u2, ())))) (fun x666 x667 x668 x669 x670 x671 x672 => rec ((x666, (x667, (x668, ((), (x669, (x670, (x671, ()))))))), (x672, ()))) x.1.1 x.1.2.1 x.1.2.2.1 x.1.2.2.2.2.1 x.1.2.2.2.2.2.1 x.1.2.2.2.2.2.2.1 x.2.1 = exec prog G (ro G (tabOf (Q45L n rc)) (frOf []) R) 0 (codeAt F45bc [1, 1, 1, 1, 1, 0, 1, 0, 0]) .no (SSh.enc G F45b_0s x) (kLoop G (ro G (tabOf (Q45L n rc)) (frOf []) R) 0 ⟨[0, 1, 6, 7, 34, 35, 36], [(7, (.own 7))]⟩ F45b_0s ⟨⟨[1, 6, 7], []⟩, ⟨[4, 5], []⟩, [(0, ⟨[1, 6, 7], []⟩)]⟩ rec K) := by kernel_rfl
theorem F45b_0_ok (n : Nat) (rc : Q45RC) (h : AllE prog G (Q45L n rc)) : FragOK prog G 0 (codeAt F45bc [1, 1, 1, 1, 1, 0, 1, 0]) (F45b_0z n rc) :=
  frag_loop (Z := fun R k (x : SSh.den G F45b_0s) K => F45b_0_it n rc (fun u0 => K .ret (SSh.enc G F45b_0x0 (((), (u0, ())), ()))) (fun u0 u1 u2 => K (.exit 0) (SSh.enc G F45b_0x1 ((u0, (u1, ((), ()))), (u2, ())))) k x.1.1 x.1.2.1 x.1.2.2.1 x.1.2.2.2.2.1 x.1.2.2.2.2.2.1 x.1.2.2.2.2.2.2.1 x.2.1) laws fnok h.tab (AllF.of (l := []) (by kernel_rfl) AllF.nil) (fun _ _ _ => rfl) (fun R k y K => F45b_0_eq n rc R (fun (x : SSh.den G F45b_0s) => F45b_0_it n rc (fun u0 => K .ret (SSh.enc G F45b_0x0 (((), (u0, ())), ()))) (fun u0 u1 u2 => K (.exit 0) (SSh.enc G F45b_0x1 ((u0, (u1, ((), ()))), (u2, ())))) k x.1.1 x.1.2.1 x.1.2.2.1 x.1.2.2.2.2.1 x.1.2.2.2.2.2.1 x.1.2.2.2.2.2.2.1 x.2.1) y K) n
noncomputable def F45b (n : Nat) (rc : Q45RC) (a654 : List (List Int)) (a655 : Int) : Option ((List Int × (Bool × Unit)) × Unit) :=
  (bif (decide (a655 < (0 : Int))) then
  some (([], (false, ())), ())
  else (bif (decide (a655 ≥ ((a654.length) : Int))) then
  some (([], (false, ())), ())
  else (bif (decide (((a654.length) : Int) > (8 : Int))) then
  some (([], (false, ())), ())
  else (bif (decide ((0 : Int) ≤ a655)) then
  (bif (decide (a655 < ((a654.length) : Int))) then
  let v662 := (a654.getD (a655.toNat) [])
  (bif (decide (((v662.length) : Int) > (6 : Int))) then
  some (([], (false, ())), ())
  else (F45b_0 n rc a654 a655 v662 v662 ((v662.length) : Int) (0 : Int) [] (fun z685 =>
  some (([], (z685, ())), ())) (fun z686 z687 z688 =>
  (andThen (F72 n z687) fun r689 =>
  let v690 := (r689.1 :: [])
  (bif (decide (((z688.length) + (v690.length)) ≤ (68719476736 : Nat))) then
  (andThen (F73 n (z688 ++ v690)) fun r692 =>
  (bif (!r692.1.2.1) then
  some (([], (false, ())), ())
  else let v694 := (z686 :: [])
  (bif (decide (((v694.length) + (r692.1.1.length)) ≤ (68719476736 : Nat))) then
  some (((v694 ++ r692.1.1), (true, ())), ())
  else none)))
  else none)))))
  else none)
  else none))))
noncomputable def F45be (n : Nat) (rc : Q45RC) : Ent G := ⟨45, (.cons (.imm 7) (.cons (.int .i64) .nil)), [], (.tup (.cons (.imm 0) (.cons .bool .nil))), [], fun x y => F45b n rc x.1 x.2.1⟩
theorem F45b_eq (n : Nat) (rc : Q45RC) (x : ShL.den G (.cons (.imm 7) (.cons (.int .i64) .nil))) (y : denO G []) : (F45be n rc).F x y = runFn prog G (ro G (tabOf (Q45L n rc)) (frOf [F45b_0z n rc]) _) Go.Proofs.Try.f45 (.nd .no (.nd .no (.nd .no (.nd .no (.nd .no (.nd (.nd .no (.nd (.use 0) .no)) .no)))))) [(0, .fz), (1, .fz)] (ShL.enc G (.cons (.imm 7) (.cons (.int .i64) .nil)) x) (encO G [] y) (decR (.tup (.cons (.imm 0) (.cons .bool .nil))) []) := by kernel_rfl
theorem F45b_ok (n : Nat) (rc : Q45RC) (h : AllE prog G (Q45L n rc)) : EntOK prog G (F45be n rc) :=
  ent_ok (fr := frOf [F45b_0z n rc]) (ann := (.nd .no (.nd .no (.nd .no (.nd .no (.nd .no (.nd (.nd .no (.nd (.use 0) .no)) .no))))))) (frm := [(0, .fz), (1, .fz)]) laws fnok h.tab (e := F45be n rc) (fn := Go.Proofs.Try.f45) (by kernel_rfl) (AllF.ofB (cd := F45bc) (l := [(0, codeAt F45bc [1, 1, 1, 1, 1, 0, 1, 0])]) (by kernel_rfl) (by kernel_rfl) (AllF.cons (F45b_0_ok n rc h) AllF.nil)) (F45b_eq n rc)
noncomputable def Q45it (n : Nat) : Nat → Q45RC
  | 0 => (fun _ _ => none, ())
  | k + 1 => (F45b n (Q45it n k), ())
theorem Q45it_ok (n : Nat) : ∀ k, AllE prog G (Q45L n (Q45it n k))
  | 0 => (AllE.cons (EntOK.none fun _ _ => rfl) (E20_ok n))
  | k + 1 => (AllE.cons (F45b_ok n _ (Q45it_ok n k)) (E20_ok n))
noncomputable def F45 (n : Nat) (a0 : List (List Int)) (a1 : Int) : Option ((List Int × (Bool × Unit)) × Unit) := (Q45it n n).1 a0 a1
noncomputable def F45e (n : Nat) : Ent G := ⟨45, (.cons (.imm 7) (.cons (.int .i64) .nil)), [], (.tup (.cons (.imm 0) (.cons .bool .nil))), [], fun x y => F45 n x.1 x.2.1⟩
noncomputable def E21 (n : Nat) : List (Ent G) := F45e n :: E20 n
theorem E21_ok (n : Nat) : AllE prog G (E21 n) := Q45it_ok n n
noncomputable def F33_0x0 : SSh := ⟨23, [(2, .bool)], []⟩
noncomputable def F33_0x1 : SSh := ⟨23, [], []⟩
noncomputable def F33_0s : SSh := ⟨23, [(0, (.imm 7)), (10, (.int .i64)), (11, (.int .i64))], []⟩
noncomputable def F33_0_step {R : Type} (n : Nat) (k0 : Bool → Option R) (k1 : Option R) (rec : List (List Int) → Int → Int → Option R) (x281 : List (List Int)) (x282 : Int) (x283 : Int) : Option R :=
  (bif (decide (x283 < x282)) then
  (andThen (F45 n x281 x283) fun r696 =>
  (bif (!r696.1.2.1) then
  (k0 false)
  else (rec x281 x282 (IntKind.wrap .i64 (x283 + (1 : Int))))))
  else k1)
noncomputable def F33_0_it {R : Type} (n : Nat) (k0 : Bool → Option R) (k1 : Option R) : Nat → List (List Int) → Int → Int → Option R
  | 0, _, _, _ => none
  | k + 1, x281, x282, x283 => F33_0_step n k0 k1 (F33_0_it n k0 k1 k) x281 x282 x283
noncomputable def F33_0 {R : Type} (n : Nat) (x281 : List (List Int)) (x282 : Int) (x283 : Int) (k0 : Bool → Option R) (k1 : Option R) : Option R := F33_0_it n k0 k1 n x281 x282 x283
noncomputable def F33_0z (n : Nat) : Sm G := inZ G 0 ⟨[0, 10, 11], []⟩ F33_0s fun R x K => F33_0_it n (fun u0 => K .ret (SSh.enc G F33_0x0 ((u0, ()), ()))) (K (.exit 0) (SSh.enc G F33_0x1 ((), ()))) n x.1.1 x.1.2.1 x.1.2.2.1
theorem F33_0_eq (n : Nat) (R : Type) (rec : SSh.den G F33_0s → Option R) (x : SSh.den G F33_0s) (K : AE → St G → Option R) :
  F33_0_step n (fun u0 => K .ret (SSh.enc G F33_0x0 ((u0, ()), ()))) (K (.exit 0) (SSh.enc G F33_0x1 ((), ()))) (fun x281 x282 x283 => rec ((x281, (x282, (x283, ()))), ())) x.1.1 x.1.2.1 x.1.2.2.1 = exec prog G (ro G (tabOf (E21 n)) (frOf []) R) 0 (codeAt F33c [1, 1, 0, 1, 0, 0]) .no (SSh.enc G F33_0s x) (kLoop G (ro G (tabOf (E21 n)) (frOf []) R) 0 ⟨[0, 10, 11], []⟩ F33_0s ⟨⟨[], []⟩, ⟨[2], []⟩, [(0, ⟨[], []⟩)]⟩ rec K) := by kernel_rfl
theorem F33_0_ok (n : Nat) : FragOK prog G 0 (codeAt F33c [1, 1, 0, 1, 0]) (F33_0z n) :=
  frag_loop (Z := fun R k (x : SSh.den G F33_0s) K => F33_0_it n (fun u0 => K .ret (SSh.enc G F33_0x0 ((u0, ()), ()))) (K (.exit 0) (SSh.enc G F33_0x1 ((), ()))) k x.1.1 x.1.2.1 x.1.2.2.1) laws fnok (E21_ok n).tab (AllF.of (l := []) (by kernel_rfl) AllF.nil) (fun _ _ _ => rfl) (fun R k y K => F33_0_eq n R (fun (x : SSh.den G F33_0s) => F33_0_it n (fun u0 => K .ret (SSh.enc G F33_0x0 ((u0, ()), ()))) (K (.exit 0) (SSh.enc G F33_0x1 ((), ()))) k x.1.1 x.1.2.1 x.1.2.2.1) y K) n
noncomputable def F33 (n : Nat) (a277 : List (List Int)) : Option (Bool × Unit) :=
  (bif (decide (((a277.length) : Int) > (8 : Int))) then
  some (false, ())
  else (F33_0 n a277 ((a277.length) : Int) (0 : Int) (fun z699 =>
  some (z699, ())) (
  some (true, ()))))
noncomputable def F33e (n : Nat) : Ent G := ⟨33, (.cons (.imm 7) .nil), [], .bool, [], fun x y => F33 n x.1⟩
theorem F33_eq (n : Nat) (x : ShL.den G (.cons (.imm 7) .nil)) (y : denO G []) : (F33e n).F x y = runFn prog G (ro G (tabOf (E21 n)) (frOf [F33_0z n]) _) Go.Proofs.Try.f33 (.nd .no (.nd .no (.nd (.nd .no (.nd (.use 0) .no)) .no))) [(0, .fz)] (ShL.enc G (.cons (.imm 7) .nil) x) (encO G [] y) (decR .bool []) := by kernel_rfl
theorem F33_ok (n : Nat) : EntOK prog G (F33e n) :=
  ent_ok (fr := frOf [F33_0z n]) (ann := (.nd .no (.nd .no (.nd (.nd .no (.nd (.use 0) .no)) .no)))) (frm := [(0, .fz)]) laws fnok (E21_ok n).tab (e := F33e n) (fn := Go.Proofs.Try.f33) (by kernel_rfl) (AllF.ofB (cd := F33c) (l := [(0, codeAt F33c [1, 1, 0, 1, 0])]) (by kernel_rfl) (by kernel_rfl) (AllF.cons (F33_0_ok n) AllF.nil)) (F33_eq n)
noncomputable def E22 (n : Nat) : List (Ent G) := F33e n :: E21 n
theorem E22_ok (n : Nat) : AllE prog G (E22 n) := AllE.cons (F33_ok n) (E21_ok n)
-- 35 slices.ContainsFunc[[]loop.example/slowworm/impl.Class,loop.example/slowworm/impl.Class]
noncomputable def F35c : Code := bodyOf Go.Proofs.Try.f35
-- 60 slices.IndexFunc[[]loop.example/slowworm/impl.Class,loop.example/slowworm/impl.Class]
noncomputable def F60c : Code := bodyOf Go.Proofs.Try.f60
-- 36 loop.example/slowworm/impl.ClassesOk$1
noncomputable def F36c : Code := bodyOf Go.Proofs.Try.f36
-- 37 loop.example/slowworm/impl.attrsOk
noncomputable def F37c : Code := bodyOf Go.Proofs.Try.f37
-- 55 loop.example/slowworm/impl.NameOk
noncomputable def F55c : Code := bodyOf Go.Proofs.Try.f55
-- 77 loop.example/slowworm/impl.isDigit
noncomputable def F77c : Code := bodyOf Go.Proofs.Try.f77
noncomputable def F77 (n : Nat) (a735 : Int) : Option (Bool × Unit) :=
  (bif (decide (a735 ≥ (48 : Int))) then
  some ((decide (a735 ≤ (57 : Int))), ())
  else some (false, ()))
noncomputable def F77e (n : Nat) : Ent G := ⟨77, (.cons (.int .u8) .nil), [], .bool, [], fun x y => F77 n x.1⟩
theorem F77_eq (n : Nat) (x : ShL.den G (.cons (.int .u8) .nil)) (y : denO G []) : (F77e n).F x y = runFn prog G (ro G (tabOf (E22 n)) (frOf []) _) Go.Proofs.Try.f77 .no [(0, .fz)] (ShL.enc G (.cons (.int .u8) .nil) x) (encO G [] y) (decR .bool []) := by kernel_rfl
theorem F77_ok (n : Nat) : EntOK prog G (F77e n) :=
  ent_ok (fr := frOf []) (ann := .no) (frm := [(0, .fz)]) laws fnok (E22_ok n).tab (e := F77e n) (fn := Go.Proofs.Try.f77) (by kernel_rfl) (AllF.ofB (cd := F77c) (l := []) (by kernel_rfl) (by kernel_rfl) AllF.nil) (F77_eq n)
noncomputable def E23 (n : Nat) : List (Ent G) := F77e n :: E22 n
theorem E23_ok (n : Nat) : AllE prog G (E23 n) := AllE.cons (F77_ok n) (E22_ok n)
-- 78 loop.example/slowworm/impl.IsKeyword
noncomputable def F78c : Code := bodyOf Go.Proofs.Try.f78
-- 93 loop.example/slowworm/impl.keywords
noncomputable def F93c : Code := bodyOf Go.Proofs.Try.f93
noncomputable def F93 (n : Nat)  : Option (List ByteArray × Unit) :=
  some ((({ data := #[78, 111, 110, 101] } : ByteArray) :: (({ data := #[84, 114, 117, 101] } : ByteArray) :: (({ data := #[70, 97, 108, 115, 101] } : ByteArray) :: (({ data := #[97, 110, 100] } : ByteArray) :: (({ data := #[111, 114] } : ByteArray) :: (({ data := #[110, 111, 116] } : ByteArray) :: (({ data := #[105, 110] } : ByteArray) :: (({ data := #[105, 115] } : ByteArray) :: (({ data := #[105, 102] } : ByteArray) :: (({ data := #[101, 108, 105, 102] } : ByteArray) :: (({ data := #[101, 108, 115, 101] } : ByteArray) :: (({ data := #[119, 104, 105, 108, 101] } : ByteArray) :: (({ data := #[102, 111, 114] } : ByteArray) :: (({ data := #[98, 114, 101, 97, 107] } : ByteArray) :: (({ data := #[99, 111, 110, 116, 105, 110, 117, 101] } : ByteArray) :: (({ data := #[112, 97, 115, 115] } : ByteArray) :: (({ data := #[100, 101, 102] } : ByteArray) :: (({ data := #[114, 101, 116, 117, 114, 110] } : ByteArray) :: (({ data := #[108, 97, 109, 98, 100, 97] } : ByteArray) :: (({ data := #[99, 108, 97, 115, 115] } : ByteArray) :: (({ data := #[116, 114, 121] } : ByteArray) :: (({ data := #[101, 120, 99, 101, 112, 116] } : ByteArray) :: (({ data := #[102, 105, 110, 97, 108, 108, 121] } : ByteArray) :: (({ data := #[114, 97, 105, 115, 101] } : ByteArray) :: (({ data := #[97, 115] } : ByteArray) :: (({ data := #[103, 108, 111, 98, 97, 108] } : ByteArray) :: (({ data := #[110, 111, 110, 108, 111, 99, 97, 108] } : ByteArray) :: (({ data := #[121, 105, 101, 108, 100] } : ByteArray) :: (({ data := #[105, 109, 112, 111, 114, 116] } : ByteArray) :: (({ data := #[100, 101, 108] } : ByteArray) :: (({ data := #[97, 115, 115, 101, 114, 116] } : ByteArray) :: []))))))))))))))))))))))))))))))), ())
noncomputable def F93e (n : Nat) : Ent G := ⟨93, .nil, [], (.imm 2), [], fun x y => F93 n⟩
theorem F93_eq (n : Nat) (x : ShL.den G .nil) (y : denO G []) : (F93e n).F x y = runFn prog G (ro G (tabOf (E23 n)) (frOf []) _) Go.Proofs.Try.f93 .no [(0, .fz)] (ShL.enc G .nil x) (encO G [] y) (decR (.imm 2) []) := by kernel_rfl
theorem F93_ok (n : Nat) : EntOK prog G (F93e n) :=
  ent_ok (fr := frOf []) (ann := .no) (frm := [(0, .fz)]) laws fnok (E23_ok n).tab (e := F93e n) (fn := Go.Proofs.Try.f93) (by kernel_rfl) (AllF.ofB (cd := F93c) (l := []) (by kernel_rfl) (by kernel_rfl) AllF.nil) (F93_eq n)
noncomputable def E24 (n : Nat) : List (Ent G) := F93e n :: E23 n
theorem E24_ok (n : Nat) : AllE prog G (E24 n) := AllE.cons (F93_ok n) (E23_ok n)
-- 92 slices.Contains[[]string,string]
noncomputable def F92c : Code := bodyOf Go.Proofs.Try.f92
-- 98 slices.Index[[]string,string]
noncomputable def F98c : Code := bodyOf Go.Proofs.Try.f98
noncomputable def F98_0x0 : SSh := ⟨19, [(4, (.int .i64))], []⟩
noncomputable def F98_0x1 : SSh := ⟨19, [], []⟩
noncomputable def F98_0s : SSh := ⟨19, [(0, (.imm 2)), (1, .str), (7, (.int .i64)), (8, (.int .i64))], []⟩
noncomputable def F98_0_step {R : Type} (n : Nat) (k0 : Int → Option R) (k1 : Option R) (rec : List ByteArray → ByteArray → Int → Int → Option R) (x747 : List ByteArray) (x748 : ByteArray) (x749 : Int) (x750 : Int) : Option R :=
  (bif (decide (x750 < x749)) then
  (bif (decide ((0 : Int) ≤ x750)) then
  (bif (decide (x750 < ((x747.length) : Int))) then
  (bif ((x748.toList) == ((x747.getD (x750.toNat) ({ data := #[] } : ByteArray)).toList)) then
  (k0 x750)
  else (rec x747 x748 x749 (IntKind.wrap .i64 (x750 + (1 : Int)))))
  else none)
  else none)
  else k1)
noncomputable def F98_0_it {R : Type} (n : Nat) (k0 : Int → Option R) (k1 : Option R) : Nat → List ByteArray → ByteArray → Int → Int → Option R
  | 0, _, _, _, _ => none
  | k + 1, x747, x748, x749, x750 => F98_0_step n k0 k1 (F98_0_it n k0 k1 k) x747 x748 x749 x750
noncomputable def F98_0 {R : Type} (n : Nat) (x747 : List ByteArray) (x748 : ByteArray) (x749 : Int) (x750 : Int) (k0 : Int → Option R) (k1 : Option R) : Option R := F98_0_it n k0 k1 n x747 x748 x749 x750
noncomputable def F98_0z (n : Nat) : Sm G := inZ G 0 ⟨[0, 1, 7, 8], []⟩ F98_0s fun R x K => F98_0_it n (fun u0 => K .ret (SSh.enc G F98_0x0 ((u0, ()), ()))) (K (.exit 0) (SSh.enc G F98_0x1 ((), ()))) n x.1.1 x.1.2.1 x.1.2.2.1 x.1.2.2.2.1
theorem F98_0_eq (n : Nat) (R : Type) (rec : SSh.den G F98_0s → Option R) (x : SSh.den G F98_0s) (K : AE → St G → Option R) :
  F98_0_step n (fun u0 => K .ret (SSh.enc G F98_0x0 ((u0, ()), ()))) (K (.exit 0) (SSh.enc G F98_0x1 ((), ()))) (fun x747 x748 x749 x750 => rec ((x747, (x748, (x749, (x750, ())))), ())) x.1.1 x.1.2.1 x.1.2.2.1 x.1.2.2.2.1 = exec prog G (ro G (tabOf (E24 n)) (frOf []) R) 0 (codeAt F98c [1, 0, 1, 0, 0]) .no (SSh.enc G F98_0s x) (kLoop G (ro G (tabOf (E24 n)) (frOf []) R) 0 ⟨[0, 1, 7, 8], []⟩ F98_0s ⟨⟨[], []⟩, ⟨[4], []⟩, [(0, ⟨[], []⟩)]⟩ rec K) := by kernel_rfl
theorem F98_0_ok (n : Nat) : FragOK prog G 0 (codeAt F98c [1, 0, 1, 0]) (F98_0z n) :=
  frag_loop (Z := fun R k (x : SSh.den G F98_0s) K => F98_0_it n (fun u0 => K .ret (SSh.enc G F98_0x0 ((u0, ()), ()))) (K (.exit 0) (SSh.enc G F98_0x1 ((), ()))) k x.1.1 x.1.2.1 x.1.2.2.1 x.1.2.2.2.1) laws fnok (E24_ok n).tab (AllF.of (l := []) (by kernel_rfl) AllF.nil) (fun _ _ _ => rfl) (fun R k y K => F98_0_eq n R (fun (x : SSh.den G F98_0s) => F98_0_it n (fun u0 => K .ret (SSh.enc G F98_0x0 ((u0, ()), ()))) (K (.exit 0) (SSh.enc G F98_0x1 ((), ()))) k x.1.1 x.1.2.1 x.1.2.2.1 x.1.2.2.2.1) y K) n
noncomputable def F98 (n : Nat) (a744 : List ByteArray) (a745 : ByteArray) : Option (Int × Unit) :=
  (F98_0 n a744 a745 ((a744.length) : Int) (0 : Int) (fun z756 =>
  some (z756, ())) (
  some ((-1 : Int), ())))
noncomputable def F98e (n : Nat) : Ent G := ⟨98, (.cons (.imm 2) (.cons .str .nil)), [], (.int .i64), [], fun x y => F98 n x.1 x.2.1⟩
theorem F98_eq (n : Nat) (x : ShL.den G (.cons (.imm 2) (.cons .str .nil))) (y : denO G []) : (F98e n).F x y = runFn prog G (ro G (tabOf (E24 n)) (frOf [F98_0z n]) _) Go.Proofs.Try.f98 (.nd .no (.nd (.nd .no (.nd (.use 0) .no)) .no)) [(0, .fz)] (ShL.enc G (.cons (.imm 2) (.cons .str .nil)) x) (encO G [] y) (decR (.int .i64) []) := by kernel_rfl
theorem F98_ok (n : Nat) : EntOK prog G (F98e n) :=
  ent_ok (fr := frOf [F98_0z n]) (ann := (.nd .no (.nd (.nd .no (.nd (.use 0) .no)) .no))) (frm := [(0, .fz)]) laws fnok (E24_ok n).tab (e := F98e n) (fn := Go.Proofs.Try.f98) (by kernel_rfl) (AllF.ofB (cd := F98c) (l := [(0, codeAt F98c [1, 0, 1, 0])]) (by kernel_rfl) (by kernel_rfl) (AllF.cons (F98_0_ok n) AllF.nil)) (F98_eq n)
noncomputable def E25 (n : Nat) : List (Ent G) := F98e n :: E24 n
theorem E25_ok (n : Nat) : AllE prog G (E25 n) := AllE.cons (F98_ok n) (E24_ok n)
noncomputable def F92 (n : Nat) (a742 : List ByteArray) (a743 : ByteArray) : Option (Bool × Unit) :=
  (andThen (F98 n a742 a743) fun r757 =>
  some ((decide (r757.1 ≥ (0 : Int))), ()))
noncomputable def F92e (n : Nat) : Ent G := ⟨92, (.cons (.imm 2) (.cons .str .nil)), [], .bool, [], fun x y => F92 n x.1 x.2.1⟩
theorem F92_eq (n : Nat) (x : ShL.den G (.cons (.imm 2) (.cons .str .nil))) (y : denO G []) : (F92e n).F x y = runFn prog G (ro G (tabOf (E25 n)) (frOf []) _) Go.Proofs.Try.f92 .no [(0, .fz)] (ShL.enc G (.cons (.imm 2) (.cons .str .nil)) x) (encO G [] y) (decR .bool []) := by kernel_rfl
theorem F92_ok (n : Nat) : EntOK prog G (F92e n) :=
  ent_ok (fr := frOf []) (ann := .no) (frm := [(0, .fz)]) laws fnok (E25_ok n).tab (e := F92e n) (fn := Go.Proofs.Try.f92) (by kernel_rfl) (AllF.ofB (cd := F92c) (l := []) (by kernel_rfl) (by kernel_rfl) AllF.nil) (F92_eq n)
noncomputable def E26 (n : Nat) : List (Ent G) := F92e n :: E25 n
theorem E26_ok (n : Nat) : AllE prog G (E26 n) := AllE.cons (F92_ok n) (E25_ok n)
noncomputable def F78 (n : Nat) (a739 : ByteArray) : Option (Bool × Unit) :=
  (andThen (F93 n) fun r741 =>
  (andThen (F92 n r741.1 a739) fun r759 =>
  some (r759.1, ())))
noncomputable def F78e (n : Nat) : Ent G := ⟨78, (.cons .str .nil), [], .bool, [], fun x y => F78 n x.1⟩
theorem F78_eq (n : Nat) (x : ShL.den G (.cons .str .nil)) (y : denO G []) : (F78e n).F x y = runFn prog G (ro G (tabOf (E26 n)) (frOf []) _) Go.Proofs.Try.f78 .no [(0, .fz)] (ShL.enc G (.cons .str .nil) x) (encO G [] y) (decR .bool []) := by kernel_rfl
theorem F78_ok (n : Nat) : EntOK prog G (F78e n) :=
  ent_ok (fr := frOf []) (ann := .no) (frm := [(0, .fz)]) laws fnok (E26_ok n).tab (e := F78e n) (fn := Go.Proofs.Try.f78) (by kernel_rfl) (AllF.ofB (cd := F78c) (l := []) (by kernel_rfl) (by kernel_rfl) AllF.nil) (F78_eq n)
noncomputable def E27 (n : Nat) : List (Ent G) := F78e n :: E26 n
theorem E27_ok (n : Nat) : AllE prog G (E27 n) := AllE.cons (F78_ok n) (E26_ok n)
-- 79 loop.example/slowworm/impl.isLetter
noncomputable def F79c : Code := bodyOf Go.Proofs.Try.f79
noncomputable def F79 (n : Nat) (a767 : Int) : Option (Bool × Unit) :=
  (bif (a767 == (95 : Int)) then
  some (true, ())
  else (bif (decide (a767 ≥ (97 : Int))) then
  (bif (decide (a767 ≤ (122 : Int))) then
  some (true, ())
  else (bif (decide (a767 ≥ (65 : Int))) then
  some ((decide (a767 ≤ (90 : Int))), ())
  else some (false, ())))
  else (bif (decide (a767 ≥ (65 : Int))) then
  some ((decide (a767 ≤ (90 : Int))), ())
  else some (false, ()))))
noncomputable def F79e (n : Nat) : Ent G := ⟨79, (.cons (.int .u8) .nil), [], .bool, [], fun x y => F79 n x.1⟩
theorem F79_eq (n : Nat) (x : ShL.den G (.cons (.int .u8) .nil)) (y : denO G []) : (F79e n).F x y = runFn prog G (ro G (tabOf (E27 n)) (frOf []) _) Go.Proofs.Try.f79 .no [(0, .fz)] (ShL.enc G (.cons (.int .u8) .nil) x) (encO G [] y) (decR .bool []) := by kernel_rfl
theorem F79_ok (n : Nat) : EntOK prog G (F79e n) :=
  ent_ok (fr := frOf []) (ann := .no) (frm := [(0, .fz)]) laws fnok (E27_ok n).tab (e := F79e n) (fn := Go.Proofs.Try.f79) (by kernel_rfl) (AllF.ofB (cd := F79c) (l := []) (by kernel_rfl) (by kernel_rfl) AllF.nil) (F79_eq n)
noncomputable def E28 (n : Nat) : List (Ent G) := F79e n :: E27 n
theorem E28_ok (n : Nat) : AllE prog G (E28 n) := AllE.cons (F79_ok n) (E27_ok n)
noncomputable def F55_0x0 : SSh := ⟨39, [(2, .bool)], []⟩
noncomputable def F55_0x1 : SSh := ⟨39, [], []⟩
noncomputable def F55_0s : SSh := ⟨39, [(0, .str), (22, (.int .i64)), (23, (.int .i64))], []⟩
noncomputable def F55_0_step {R : Type} (n : Nat) (k0 : Bool → Option R) (k1 : Option R) (rec : ByteArray → Int → Int → Option R) (x762 : ByteArray) (x763 : Int) (x764 : Int) : Option R :=
  (bif (decide (x764 < x763)) then
  (bif (decide ((0 : Int) ≤ x764)) then
  (bif (decide (x764 < ((x762.size) : Int))) then
  (andThen (F79 n (strOf x762 (x764.toNat))) fun r775 =>
  (bif (!r775.1) then
  (bif (decide ((0 : Int) ≤ x764)) then
  (bif (decide (x764 < ((x762.size) : Int))) then
  (andThen (F77 n (strOf x762 (x764.toNat))) fun r778 =>
  (bif (!r778.1) then
  (k0 false)
  else (rec x762 x763 (IntKind.wrap .i64 (x764 + (1 : Int))))))
  else none)
  else none)
  else (rec x762 x763 (IntKind.wrap .i64 (x764 + (1 : Int))))))
  else none)
  else none)
  else k1)
noncomputable def F55_0_it {R : Type} (n : Nat) (k0 : Bool → Option R) (k1 : Option R) : Nat → ByteArray → Int → Int → Option R
  | 0, _, _, _ => none
  | k + 1, x762, x763, x764 => F55_0_step n k0 k1 (F55_0_it n k0 k1 k) x762 x763 x764
noncomputable def F55_0 {R : Type} (n : Nat) (x762 : ByteArray) (x763 : Int) (x764 : Int) (k0 : Bool → Option R) (k1 : Option R) : Option R := F55_0_it n k0 k1 n x762 x763 x764
noncomputable def F55_0z (n : Nat) : Sm G := inZ G 0 ⟨[0, 22, 23], []⟩ F55_0s fun R x K => F55_0_it n (fun u0 => K .ret (SSh.enc G F55_0x0 ((u0, ()), ()))) (K (.exit 0) (SSh.enc G F55_0x1 ((), ()))) n x.1.1 x.1.2.1 x.1.2.2.1
theorem F55_0_eq (n : Nat) (R : Type) (rec : SSh.den G F55_0s → Option R) (x : SSh.den G F55_0s) (K : AE → St G → Option R) :
  F55_0_step n (fun u0 => K .ret (SSh.enc G F55_0x0 ((u0, ()), ()))) (K (.exit 0) (SSh.enc G F55_0x1 ((), ()))) (fun x762 x763 x764 => rec ((x762, (x763, (x764, ()))), ())) x.1.1 x.1.2.1 x.1.2.2.1 = exec prog G (ro G (tabOf (E28 n)) (frOf []) R) 0 (codeAt F55c [1, 1, 0, 1, 0, 0]) .no (SSh.enc G F55_0s x) (kLoop G (ro G (tabOf (E28 n)) (frOf []) R) 0 ⟨[0, 22, 23], []⟩ F55_0s ⟨⟨[], []⟩, ⟨[2], []⟩, [(0, ⟨[], []⟩)]⟩ rec K) := by kernel_rfl
theorem F55_0_ok (n : Nat) : FragOK prog G 0 (codeAt F55c [1, 1, 0, 1, 0]) (F55_0z n) :=
  frag_loop (Z := fun R k (x : SSh.den G F55_0s) K => F55_0_it n (fun u0 => K .ret (SSh.enc G F55_0x0 ((u0, ()), ()))) (K (.exit 0) (SSh.enc G F55_0x1 ((), ()))) k x.1.1 x.1.2.1 x.1.2.2.1) laws fnok (E28_ok n).tab (AllF.of (l := []) (by kernel_rfl) AllF.nil) (fun _ _ _ => rfl) (fun R k y K => F55_0_eq n R (fun (x : SSh.den G F55_0s) => F55_0_it n (fun u0 => K .ret (SSh.enc G F55_0x0 ((u0, ()), ()))) (K (.exit 0) (SSh.enc G F55_0x1 ((), ()))) k x.1.1 x.1.2.1 x.1.2.2.1) y K) n
noncomputable def F55 (n : Nat) (a729 : ByteArray) : Option (Bool × Unit) :=
  (bif (decide (((a729.size) : Int) < (1 : Int))) then
  some (false, ())
  else (bif (decide (((a729.size) : Int) > (12 : Int))) then
  some (false, ())
  else (bif (decide ((0 : Int) < ((a729.size) : Int))) then
  (andThen (F77 n (strOf a729 (0 : Nat))) fun r738 =>
  (bif r738.1 then
  some (false, ())
  else (andThen (F78 n a729) fun r760 =>
  (bif r760.1 then
  some (false, ())
  else (F55_0 n a729 ((a729.size) : Int) (0 : Int) (fun z782 =>
  some (z782, ())) (
  some (true, ())))))))
  else none)))
noncomputable def F55e (n : Nat) : Ent G := ⟨55, (.cons .str .nil), [], .bool, [], fun x y => F55 n x.1⟩
theorem F55_eq (n : Nat) (x : ShL.den G (.cons .str .nil)) (y : denO G []) : (F55e n).F x y = runFn prog G (ro G (tabOf (E28 n)) (frOf [F55_0z n]) _) Go.Proofs.Try.f55 (.nd .no (.nd .no (.nd (.nd .no (.nd (.use 0) .no)) .no))) [(0, .fz)] (ShL.enc G (.cons .str .nil) x) (encO G [] y) (decR .bool []) := by kernel_rfl
theorem F55_ok (n : Nat) : EntOK prog G (F55e n) :=
  ent_ok (fr := frOf [F55_0z n]) (ann := (.nd .no (.nd .no (.nd (.nd .no (.nd (.use 0) .no)) .no)))) (frm := [(0, .fz)]) laws fnok (E28_ok n).tab (e := F55e n) (fn := Go.Proofs.Try.f55) (by kernel_rfl) (AllF.ofB (cd := F55c) (l := [(0, codeAt F55c [1, 1, 0, 1, 0])]) (by kernel_rfl) (by kernel_rfl) (AllF.cons (F55_0_ok n) AllF.nil)) (F55_eq n)
noncomputable def E29 (n : Nat) : List (Ent G) := F55e n :: E28 n
theorem E29_ok (n : Nat) : AllE prog G (E29 n) := AllE.cons (F55_ok n) (E28_ok n)
-- 56 loop.example/slowworm/impl.within
noncomputable def F56c : Code := bodyOf Go.Proofs.Try.f56
noncomputable def F56 (n : Nat) (a785 : Int) (a786 : Int) (a787 : Int) : Option (Bool × Unit) :=
  (bif (decide (a785 ≥ a786)) then
  some ((decide (a785 ≤ a787)), ())
  else some (false, ()))
noncomputable def F56e (n : Nat) : Ent G := ⟨56, (.cons (.int .i64) (.cons (.int .i64) (.cons (.int .i64) .nil))), [], .bool, [], fun x y => F56 n x.1 x.2.1 x.2.2.1⟩
theorem F56_eq (n : Nat) (x : ShL.den G (.cons (.int .i64) (.cons (.int .i64) (.cons (.int .i64) .nil)))) (y : denO G []) : (F56e n).F x y = runFn prog G (ro G (tabOf (E29 n)) (frOf []) _) Go.Proofs.Try.f56 .no [(0, .fz)] (ShL.enc G (.cons (.int .i64) (.cons (.int .i64) (.cons (.int .i64) .nil))) x) (encO G [] y) (decR .bool []) := by kernel_rfl
theorem F56_ok (n : Nat) : EntOK prog G (F56e n) :=
  ent_ok (fr := frOf []) (ann := .no) (frm := [(0, .fz)]) laws fnok (E29_ok n).tab (e := F56e n) (fn := Go.Proofs.Try.f56) (by kernel_rfl) (AllF.ofB (cd := F56c) (l := []) (by kernel_rfl) (by kernel_rfl) AllF.nil) (F56_eq n)
noncomputable def E30 (n : Nat) : List (Ent G) := F56e n :: E29 n
theorem E30_ok (n : Nat) : AllE prog G (E30 n) := AllE.cons (F56_ok n) (E29_ok n)
-- 61 slices.ContainsFunc[[]loop.example/slowworm/impl.Attr,loop.example/slowworm/impl.Attr]
noncomputable def F61c : Code := bodyOf Go.Proofs.Try.f61
-- 83 slices.IndexFunc[[]loop.example/slowworm/impl.Attr,loop.example/slowworm/impl.Attr]
noncomputable def F83c : Code := bodyOf Go.Proofs.Try.f83
-- 62 loop.example/slowworm/impl.attrsOk$1
noncomputable def F62c : Code := bodyOf Go.Proofs.Try.f62
noncomputable def F62 (n : Nat) (a816 : ByteArray) (a817 : Int) (a818 : Int) (a819 : ByteArray) (a820 : Int) (a821 : Int) : Option (Bool × ((ByteArray × (Int × (Int × Unit))) × Unit)) :=
  some (((a816.toList) == (a819.toList)), ((a819, (a820, (a821, ()))), ()))
noncomputable def F62e (n : Nat) : Ent G := ⟨62, (.cons (.agg (.cons .str (.cons (.int .i64) (.cons (.int .i64) .nil)))) (.cons (.ptr 0 0) .nil)), [(.box 35 (.cons .str (.cons (.int .i64) (.cons (.int .i64) .nil))))], .bool, [(.box 35 (.cons .str (.cons (.int .i64) (.cons (.int .i64) .nil))))], fun x y => F62 n x.1.1 x.1.2.1 x.1.2.2.1 y.1.1 y.1.2.1 y.1.2.2.1⟩
theorem F62_eq (n : Nat) (x : ShL.den G (.cons (.agg (.cons .str (.cons (.int .i64) (.cons (.int .i64) .nil)))) (.cons (.ptr 0 0) .nil))) (y : denO G [(.box 35 (.cons .str (.cons (.int .i64) (.cons (.int .i64) .nil))))]) : (F62e n).F x y = runFn prog G (ro G (tabOf (E30 n)) (frOf []) _) Go.Proofs.Try.f62 .no [(0, .fz)] (ShL.enc G (.cons (.agg (.cons .str (.cons (.int .i64) (.cons (.int .i64) .nil)))) (.cons (.ptr 0 0) .nil)) x) (encO G [(.box 35 (.cons .str (.cons (.int .i64) (.cons (.int .i64) .nil))))] y) (decR .bool [(.box 35 (.cons .str (.cons (.int .i64) (.cons (.int .i64) .nil))))]) := by kernel_rfl
theorem F62_ok (n : Nat) : EntOK prog G (F62e n) :=
  ent_ok (fr := frOf []) (ann := .no) (frm := [(0, .fz)]) laws fnok (E30_ok n).tab (e := F62e n) (fn := Go.Proofs.Try.f62) (by kernel_rfl) (AllF.ofB (cd := F62c) (l := []) (by kernel_rfl) (by kernel_rfl) AllF.nil) (F62_eq n)
noncomputable def E31 (n : Nat) : List (Ent G) := F62e n :: E30 n
theorem E31_ok (n : Nat) : AllE prog G (E31 n) := AllE.cons (F62_ok n) (E30_ok n)
noncomputable def F83_0x0 : SSh := ⟨19, [(4, (.int .i64))], [(.box 35 (.cons .str (.cons (.int .i64) (.cons (.int .i64) .nil))))]⟩
noncomputable def F83_0x1 : SSh := ⟨19, [], [(.box 35 (.cons .str (.cons (.int .i64) (.cons (.int .i64) .nil))))]⟩
noncomputable def F83_0s : SSh := ⟨19, [(0, (.imm 3)), (1, (.clo 62 (.cons (.ptr 0 0) .nil))), (7, (.int .i64)), (8, (.int .i64))], [(.box 35 (.cons .str (.cons (.int .i64) (.cons (.int .i64) .nil))))]⟩
noncomputable def F83_0_step {R : Type} (n : Nat) (k0 : Int → ByteArray → Int → Int → Option R) (k1 : ByteArray → Int → Int → Option R) (rec : List Atr → Int → Int → ByteArray → Int → Int → Option R) (x805 : List Atr) (x806 : Int) (x807 : Int) (x808 : ByteArray) (x809 : Int) (x810 : Int) : Option R :=
  (bif (decide (x807 < x806)) then
  (bif (decide ((0 : Int) ≤ x807)) then
  (bif (decide (x807 < ((x805.length) : Int))) then
  let v812 := (x805.getD (x807.toNat) (Atr.mk ({ data := #[] } : ByteArray) (0 : Int) (0 : Int)))
  (andThen (F62 n v812.name v812.kind v812.val x808 x809 x810) fun r823 =>
  (bif r823.1 then
  (k0 x807 r823.2.1.1 r823.2.1.2.1 r823.2.1.2.2.1)
  else (rec x805 x806 (IntKind.wrap .i64 (x807 + (1 : Int))) r823.2.1.1 r823.2.1.2.1 r823.2.1.2.2.1)))
  else none)
  else none)
  else (k1 x808 x809 x810))
noncomputable def F83_0_it {R : Type} (n : Nat) (k0 : Int → ByteArray → Int → Int → Option R) (k1 : ByteArray → Int → Int → Option R) : Nat → List Atr → Int → Int → ByteArray → Int → Int → Option R
  | 0, _, _, _, _, _, _ => none
  | k + 1, x805, x806, x807, x808, x809, x810 => F83_0_step n k0 k1 (F83_0_it n k0 k1 k) x805 x806 x807 x808 x809 x810
noncomputable def F83_0 {R : Type} (n : Nat) (x805 : List Atr) (x806 : Int) (x807 : Int) (x808 : ByteArray) (x809 : Int) (x810 : Int) (k0 : Int → ByteArray → Int → Int → Option R) (k1 : ByteArray → Int → Int → Option R) : Option R := F83_0_it n k0 k1 n x805 x806 x807 x808 x809 x810
noncomputable def F83_0z (n : Nat) : Sm G := inZ G 1 ⟨[0, 1, 7, 8], []⟩ F83_0s fun R x K => F83_0_it n (fun u0 u1 u2 u3 => K .ret (SSh.enc G F83_0x0 ((u0, ()), ((u1, (u2, (u3, ()))), ())))) (fun u0 u1 u2 => K (.exit 0) (SSh.enc G F83_0x1 ((), ((u0, (u1, (u2, ()))), ())))) n x.1.1 x.1.2.2.1 x.1.2.2.2.1 x.2.1.1 x.2.1.2.1 x.2.1.2.2.1
theorem F83_0_eq (n : Nat) (R : Type) (rec : SSh.den G F83_0s → Option R) (x : SSh.den G F83_0s) (K : AE → St G → Option R) :
  F83_0_step n (fun u0 u1 u2 u3 => K .ret (SSh.enc G F83_0x0 ((u0, ()), ((u1, (u2, (u3, ()))), ())))) (fun u0 u1 u2 => K (.exit 0) (SSh.enc G F83_0x1 ((), ((u0, (u1, (u2, ()))), ())))) (fun x805 x806 x807 x808 x809 x810 => rec ((x805, (((), ()), (x806, (x807, ())))), ((x808, (x809, (x810, ()))), ()))) x.1.1 x.1.2.2.1 x.1.2.2.2.1 x.2.1.1 x.2.1.2.1 x.2.1.2.2.1 = exec prog G (ro G (tabOf (E31 n)) (frOf []) R) 1 (codeAt F83c [1, 0, 1, 0, 0]) .no (SSh.enc G F83_0s x) (kLoop G (ro G (tabOf (E31 n)) (frOf []) R) 1 ⟨[0, 1, 7, 8], []⟩ F83_0s ⟨⟨[], []⟩, ⟨[4], []⟩, [(0, ⟨[], []⟩)]⟩ rec K) := by kernel_rfl
theorem F83_0_ok (n : Nat) : FragOK prog G 1 (codeAt F83c [1, 0, 1, 0]) (F83_0z n) :=
  frag_loop (Z := fun R k (x : SSh.den G F83_0s) K => F83_0_it n (fun u0 u1 u2 u3 => K .ret (SSh.enc G F83_0x0 ((u0, ()), ((u1, (u2, (u3, ()))), ())))) (fun u0 u1 u2 => K (.exit 0) (SSh.enc G F83_0x1 ((), ((u0, (u1, (u2, ()))), ())))) k x.1.1 x.1.2.2.1 x.1.2.2.2.1 x.2.1.1 x.2.1.2.1 x.2.1.2.2.1) laws fnok (E31_ok n).tab (AllF.of (l := []) (by kernel_rfl) AllF.nil) (fun _ _ _ => rfl) (fun R k y K => F83_0_eq n R (fun (x : SSh.den G F83_0s) => F83_0_it n (fun u0 u1 u2 u3 => K .ret (SSh.enc G F83_0x0 ((u0, ()), ((u1, (u2, (u3, ()))), ())))) (fun u0 u1 u2 => K (.exit 0) (SSh.enc G F83_0x1 ((), ((u0, (u1, (u2, ()))), ())))) k x.1.1 x.1.2.2.1 x.1.2.2.2.1 x.2.1.1 x.2.1.2.1 x.2.1.2.2.1) y K) n
noncomputable def F83 (n : Nat) (a800 : List Atr) (a801 : ByteArray) (a802 : Int) (a803 : Int) : Option (Int × ((ByteArray × (Int × (Int × Unit))) × Unit)) :=
  (F83_0 n a800 ((a800.length) : Int) (0 : Int) a801 a802 a803 (fun z825 z826 z827 z828 =>
  some (z825, ((z826, (z827, (z828, ()))), ()))) (fun z829 z830 z831 =>
  some ((-1 : Int), ((z829, (z830, (z831, ()))), ()))))
noncomputable def F83e (n : Nat) : Ent G := ⟨83, (.cons (.imm 3) (.cons (.clo 62 (.cons (.ptr 0 0) .nil)) .nil)), [(.box 35 (.cons .str (.cons (.int .i64) (.cons (.int .i64) .nil))))], (.int .i64), [(.box 35 (.cons .str (.cons (.int .i64) (.cons (.int .i64) .nil))))], fun x y => F83 n x.1 y.1.1 y.1.2.1 y.1.2.2.1⟩
theorem F83_eq (n : Nat) (x : ShL.den G (.cons (.imm 3) (.cons (.clo 62 (.cons (.ptr 0 0) .nil)) .nil))) (y : denO G [(.box 35 (.cons .str (.cons (.int .i64) (.cons (.int .i64) .nil))))]) : (F83e n).F x y = runFn prog G (ro G (tabOf (E31 n)) (frOf [F83_0z n]) _) Go.Proofs.Try.f83 (.nd .no (.nd (.nd .no (.nd (.use 0) .no)) .no)) [(0, .fz)] (ShL.enc G (.cons (.imm 3) (.cons (.clo 62 (.cons (.ptr 0 0) .nil)) .nil)) x) (encO G [(.box 35 (.cons .str (.cons (.int .i64) (.cons (.int .i64) .nil))))] y) (decR (.int .i64) [(.box 35 (.cons .str (.cons (.int .i64) (.cons (.int .i64) .nil))))]) := by kernel_rfl
theorem F83_ok (n : Nat) : EntOK prog G (F83e n) :=
  ent_ok (fr := frOf [F83_0z n]) (ann := (.nd .no (.nd (.nd .no (.nd (.use 0) .no)) .no))) (frm := [(0, .fz)]) laws fnok (E31_ok n).tab (e := F83e n) (fn := Go.Proofs.Try.f83) (by kernel_rfl) (AllF.ofB (cd := F83c) (l := [(0, codeAt F83c [1, 0, 1, 0])]) (by kernel_rfl) (by kernel_rfl) (AllF.cons (F83_0_ok n) AllF.nil)) (F83_eq n)
noncomputable def E32 (n : Nat) : List (Ent G) := F83e n :: E31 n
theorem E32_ok (n : Nat) : AllE prog G (E32 n) := AllE.cons (F83_ok n) (E31_ok n)
noncomputable def F61 (n : Nat) (a796 : List Atr) (a797 : ByteArray) (a798 : Int) (a799 : Int) : Option (Bool × ((ByteArray × (Int × (Int × Unit))) × Unit)) :=
  (andThen (F83 n a796 a797 a798 a799) fun r832 =>
  some ((decide (r832.1 ≥ (0 : Int))), ((r832.2.1.1, (r832.2.1.2.1, (r832.2.1.2.2.1, ()))), ())))
noncomputable def F61e (n : Nat) : Ent G := ⟨61, (.cons (.imm 3) (.cons (.clo 62 (.cons (.ptr 0 0) .nil)) .nil)), [(.box 35 (.cons .str (.cons (.int .i64) (.cons (.int .i64) .nil))))], .bool, [(.box 35 (.cons .str (.cons (.int .i64) (.cons (.int .i64) .nil))))], fun x y => F61 n x.1 y.1.1 y.1.2.1 y.1.2.2.1⟩
theorem F61_eq (n : Nat) (x : ShL.den G (.cons (.imm 3) (.cons (.clo 62 (.cons (.ptr 0 0) .nil)) .nil))) (y : denO G [(.box 35 (.cons .str (.cons (.int .i64) (.cons (.int .i64) .nil))))]) : (F61e n).F x y = runFn prog G (ro G (tabOf (E32 n)) (frOf []) _) Go.Proofs.Try.f61 .no [(0, .fz)] (ShL.enc G (.cons (.imm 3) (.cons (.clo 62 (.cons (.ptr 0 0) .nil)) .nil)) x) (encO G [(.box 35 (.cons .str (.cons (.int .i64) (.cons (.int .i64) .nil))))] y) (decR .bool [(.box 35 (.cons .str (.cons (.int .i64) (.cons (.int .i64) .nil))))]) := by kernel_rfl
theorem F61_ok (n : Nat) : EntOK prog G (F61e n) :=
  ent_ok (fr := frOf []) (ann := .no) (frm := [(0, .fz)]) laws fnok (E32_ok n).tab (e := F61e n) (fn := Go.Proofs.Try.f61) (by kernel_rfl) (AllF.ofB (cd := F61c) (l := []) (by kernel_rfl) (by kernel_rfl) AllF.nil) (F61_eq n)
noncomputable def E33 (n : Nat) : List (Ent G) := F61e n :: E32 n
theorem E33_ok (n : Nat) : AllE prog G (E33 n) := AllE.cons (F61_ok n) (E32_ok n)
noncomputable def F37_0x0 : SSh := ⟨47, [(4, .bool)], []⟩
noncomputable def F37_0x1 : SSh := ⟨47, [], []⟩
noncomputable def F37_0s : SSh := ⟨47, [(0, (.imm 3)), (1, .bool), (10, (.imm 3)), (11, (.int .i64)), (12, (.int .i64))], []⟩
noncomputable def F37_0_step {R : Type} (n : Nat) (k0 : Bool → Option R) (k1 : Option R) (rec : List Atr → Bool → List Atr → Int → Int → Option R) (x719 : List Atr) (x720 : Bool) (x721 : List Atr) (x722 : Int) (x723 : Int) : Option R :=
  (bif (decide (x723 < x722)) then
  (bif (decide ((0 : Int) ≤ x723)) then
  (bif (decide (x723 < ((x721.length) : Int))) then
  let v725 := (x721.getD (x723.toNat) (Atr.mk ({ data := #[] } : ByteArray) (0 : Int) (0 : Int)))
  let v726 := v725.name
  let v727 := v725.kind
  let v728 := v725.val
  (andThen (F55 n v726) fun r783 =>
  (bif (!r783.1) then
  (k0 false)
  else (andThen (F56 n v727 (1 : Int) (3 : Int)) fun r790 =>
  (bif (!r790.1) then
  (k0 false)
  else (bif x720 then
  (bif (v727 != (1 : Int)) then
  (k0 false)
  else (andThen (F56 n v728 (-1000000 : Int) (1000000 : Int)) fun r793 =>
  (bif (!r793.1) then
  (k0 false)
  else (bif (decide ((0 : Int) ≤ x723)) then
  (bif (decide (x723 ≤ ((x719.length) : Int))) then
  (andThen (F61 n ((x719.take (x723.toNat)).drop (0 : Nat)) v726 v727 v728) fun r834 =>
  (bif r834.1 then
  (k0 false)
  else (rec x719 x720 x721 x722 (IntKind.wrap .i64 (x723 + (1 : Int))))))
  else none)
  else none))))
  else (andThen (F56 n v728 (-1000000 : Int) (1000000 : Int)) fun r836 =>
  (bif (!r836.1) then
  (k0 false)
  else (bif (decide ((0 : Int) ≤ x723)) then
  (bif (decide (x723 ≤ ((x719.length) : Int))) then
  (andThen (F61 n ((x719.take (x723.toNat)).drop (0 : Nat)) v726 v727 v728) fun r839 =>
  (bif r839.1 then
  (k0 false)
  else (rec x719 x720 x721 x722 (IntKind.wrap .i64 (x723 + (1 : Int))))))
  else none)
  else none))))))))
  else none)
  else none)
  else k1)
noncomputable def F37_0_it {R : Type} (n : Nat) (k0 : Bool → Option R) (k1 : Option R) : Nat → List Atr → Bool → List Atr → Int → Int → Option R
  | 0, _, _, _, _, _ => none
  | k + 1, x719, x720, x721, x722, x723 => F37_0_step n k0 k1 (F37_0_it n k0 k1 k) x719 x720 x721 x722 x723
noncomputable def F37_0 {R : Type} (n : Nat) (x719 : List Atr) (x720 : Bool) (x721 : List Atr) (x722 : Int) (x723 : Int) (k0 : Bool → Option R) (k1 : Option R) : Option R := F37_0_it n k0 k1 n x719 x720 x721 x722 x723
noncomputable def F37_0z (n : Nat) : Sm G := inZ G 0 ⟨[0, 1, 10, 11, 12], []⟩ F37_0s fun R x K => F37_0_it n (fun u0 => K .ret (SSh.enc G F37_0x0 ((u0, ()), ()))) (K (.exit 0) (SSh.enc G F37_0x1 ((), ()))) n x.1.1 x.1.2.1 x.1.2.2.1 x.1.2.2.2.1 x.1.2.2.2.2.1
theorem F37_0_eq (n : Nat) (R : Type) (rec : SSh.den G F37_0s → Option R) (x : SSh.den G F37_0s) (K : AE → St G → Option R) :
  F37_0_step n (fun u0 => K .ret (SSh.enc G F37_0x0 ((u0, ()), ()))) (K (.exit 0) (SSh.enc G F37_0x1 ((), ()))) (fun x719 x720 x721 x722 x723 => rec ((x719, (x720, (x721, (x722, (x723, ()))))), ())) x.1.1 x.1.2.1 x.1.2.2.1 x.1.2.2.2.1 x.1.2.2.2.2.1 = exec prog G (ro G (tabOf (E33 n)) (frOf []) R) 0 (codeAt F37c [1, 1, 0, 1, 0, 0]) .no (SSh.enc G F37_0s x) (kLoop G (ro G (tabOf (E33 n)) (frOf []) R) 0 ⟨[0, 1, 10, 11, 12], []⟩ F37_0s ⟨⟨[], []⟩, ⟨[4], []⟩, [(0, ⟨[], []⟩)]⟩ rec K) := by kernel_rfl
theorem F37_0_ok (n : Nat) : FragOK prog G 0 (codeAt F37c [1, 1, 0, 1, 0]) (F37_0z n) :=
  frag_loop (Z := fun R k (x : SSh.den G F37_0s) K => F37_0_it n (fun u0 => K .ret (SSh.enc G F37_0x0 ((u0, ()), ()))) (K (.exit 0) (SSh.enc G F37_0x1 ((), ()))) k x.1.1 x.1.2.1 x.1.2.2.1 x.1.2.2.2.1 x.1.2.2.2.2.1) laws fnok (E33_ok n).tab (AllF.of (l := []) (by kernel_rfl) AllF.nil) (fun _ _ _ => rfl) (fun R k y K => F37_0_eq n R (fun (x : SSh.den G F37_0s) => F37_0_it n (fun u0 => K .ret (SSh.enc G F37_0x0 ((u0, ()), ()))) (K (.exit 0) (SSh.enc G F37_0x1 ((), ()))) k x.1.1 x.1.2.1 x.1.2.2.1 x.1.2.2.2.1 x.1.2.2.2.2.1) y K) n
noncomputable def F37 (n : Nat) (a714 : List Atr) (a715 : Bool) : Option (Bool × Unit) :=
  (bif (decide (((a714.length) : Int) > (60 : Int))) then
  some (false, ())
  else (F37_0 n a714 a715 a714 ((a714.length) : Int) (0 : Int) (fun z841 =>
  some (z841, ())) (
  some (true, ()))))
noncomputable def F37e (n : Nat) : Ent G := ⟨37, (.cons (.imm 3) (.cons .bool .nil)), [], .bool, [], fun x y => F37 n x.1 x.2.1⟩
theorem F37_eq (n : Nat) (x : ShL.den G (.cons (.imm 3) (.cons .bool .nil))) (y : denO G []) : (F37e n).F x y = runFn prog G (ro G (tabOf (E33 n)) (frOf [F37_0z n]) _) Go.Proofs.Try.f37 (.nd .no (.nd .no (.nd (.nd .no (.nd (.use 0) .no)) .no))) [(0, .fz)] (ShL.enc G (.cons (.imm 3) (.cons .bool .nil)) x) (encO G [] y) (decR .bool []) := by kernel_rfl
theorem F37_ok (n : Nat) : EntOK prog G (F37e n) :=
  ent_ok (fr := frOf [F37_0z n]) (ann := (.nd .no (.nd .no (.nd (.nd .no (.nd (.use 0) .no)) .no)))) (frm := [(0, .fz)]) laws fnok (E33_ok n).tab (e := F37e n) (fn := Go.Proofs.Try.f37) (by kernel_rfl) (AllF.ofB (cd := F37c) (l := [(0, codeAt F37c [1, 1, 0, 1, 0])]) (by kernel_rfl) (by kernel_rfl) (AllF.cons (F37_0_ok n) AllF.nil)) (F37_eq n)
noncomputable def E34 (n : Nat) : List (Ent G) := F37e n :: E33 n
theorem E34_ok (n : Nat) : AllE prog G (E34 n) := AllE.cons (F37_ok n) (E33_ok n)
noncomputable def F36 (n : Nat) (a712 : List Int) (a713 : List Atr) : Option (Bool × Unit) :=
  (andThen (F37 n a713 false) fun r842 =>
  some ((!r842.1), ()))
noncomputable def F36e (n : Nat) : Ent G := ⟨36, (.cons (.agg (.cons (.imm 0) (.cons (.imm 3) .nil))) .nil), [], .bool, [], fun x y => F36 n x.1.1 x.1.2.1⟩
theorem F36_eq (n : Nat) (x : ShL.den G (.cons (.agg (.cons (.imm 0) (.cons (.imm 3) .nil))) .nil)) (y : denO G []) : (F36e n).F x y = runFn prog G (ro G (tabOf (E34 n)) (frOf []) _) Go.Proofs.Try.f36 .no [(0, .fz)] (ShL.enc G (.cons (.agg (.cons (.imm 0) (.cons (.imm 3) .nil))) .nil) x) (encO G [] y) (decR .bool []) := by kernel_rfl
theorem F36_ok (n : Nat) : EntOK prog G (F36e n) :=
  ent_ok (fr := frOf []) (ann := .no) (frm := [(0, .fz)]) laws fnok (E34_ok n).tab (e := F36e n) (fn := Go.Proofs.Try.f36) (by kernel_rfl) (AllF.ofB (cd := F36c) (l := []) (by kernel_rfl) (by kernel_rfl) AllF.nil) (F36_eq n)
noncomputable def E35 (n : Nat) : List (Ent G) := F36e n :: E34 n
theorem E35_ok (n : Nat) : AllE prog G (E35 n) := AllE.cons (F36_ok n) (E34_ok n)
noncomputable def F60_0x0 : SSh := ⟨19, [(4, (.int .i64))], []⟩
noncomputable def F60_0x1 : SSh := ⟨19, [], []⟩
noncomputable def F60_0s : SSh := ⟨19, [(0, (.imm 4)), (1, (.clo 36 .nil)), (7, (.int .i64)), (8, (.int .i64))], []⟩
noncomputable def F60_0_step {R : Type} (n : Nat) (k0 : Int → Option R) (k1 : Option R) (rec : List Cls → Int → Int → Option R) (x705 : List Cls) (x706 : Int) (x707 : Int) : Option R :=
  (bif (decide (x707 < x706)) then
  (bif (decide ((0 : Int) ≤ x707)) then
  (bif (decide (x707 < ((x705.length) : Int))) then
  let v709 := (x705.getD (x707.toNat) (Cls.mk [] []))
  (andThen (F36 n v709.bases v709.attrs) fun r844 =>
  (bif r844.1 then
  (k0 x707)
  else (rec x705 x706 (IntKind.wrap .i64 (x707 + (1 : Int))))))
  else none)
  else none)
  else k1)
noncomputable def F60_0_it {R : Type} (n : Nat) (k0 : Int → Option R) (k1 : Option R) : Nat → List Cls → Int → Int → Option R
  | 0, _, _, _ => none
  | k + 1, x705, x706, x707 => F60_0_step n k0 k1 (F60_0_it n k0 k1 k) x705 x706 x707
noncomputable def F60_0 {R : Type} (n : Nat) (x705 : List Cls) (x706 : Int) (x707 : Int) (k0 : Int → Option R) (k1 : Option R) : Option R := F60_0_it n k0 k1 n x705 x706 x707
noncomputable def F60_0z (n : Nat) : Sm G := inZ G 0 ⟨[0, 1, 7, 8], []⟩ F60_0s fun R x K => F60_0_it n (fun u0 => K .ret (SSh.enc G F60_0x0 ((u0, ()), ()))) (K (.exit 0) (SSh.enc G F60_0x1 ((), ()))) n x.1.1 x.1.2.2.1 x.1.2.2.2.1
theorem F60_0_eq (n : Nat) (R : Type) (rec : SSh.den G F60_0s → Option R) (x : SSh.den G F60_0s) (K : AE → St G → Option R) :
  F60_0_step n (fun u0 => K .ret (SSh.enc G F60_0x0 ((u0, ()), ()))) (K (.exit 0) (SSh.enc G F60_0x1 ((), ()))) (fun x705 x706 x707 => rec ((x705, ((), (x706, (x707, ())))), ())) x.1.1 x.1.2.2.1 x.1.2.2.2.1 = exec prog G (ro G (tabOf (E35 n)) (frOf []) R) 0 (codeAt F60c [1, 0, 1, 0, 0]) .no (SSh.enc G F60_0s x) (kLoop G (ro G (tabOf (E35 n)) (frOf []) R) 0 ⟨[0, 1, 7, 8], []⟩ F60_0s ⟨⟨[], []⟩, ⟨[4], []⟩, [(0, ⟨[], []⟩)]⟩ rec K) := by kernel_rfl
theorem F60_0_ok (n : Nat) : FragOK prog G 0 (codeAt F60c [1, 0, 1, 0]) (F60_0z n) :=
  frag_loop (Z := fun R k (x : SSh.den G F60_0s) K => F60_0_it n (fun u0 => K .ret (SSh.enc G F60_0x0 ((u0, ()), ()))) (K (.exit 0) (SSh.enc G F60_0x1 ((), ()))) k x.1.1 x.1.2.2.1 x.1.2.2.2.1) laws fnok (E35_ok n).tab (AllF.of (l := []) (by kernel_rfl) AllF.nil) (fun _ _ _ => rfl) (fun R k y K => F60_0_eq n R (fun (x : SSh.den G F60_0s) => F60_0_it n (fun u0 => K .ret (SSh.enc G F60_0x0 ((u0, ()), ()))) (K (.exit 0) (SSh.enc G F60_0x1 ((), ()))) k x.1.1 x.1.2.2.1 x.1.2.2.2.1) y K) n
noncomputable def F60 (n : Nat) (a703 : List Cls) : Option (Int × Unit) :=
  (F60_0 n a703 ((a703.length) : Int) (0 : Int) (fun z846 =>
  some (z846, ())) (
  some ((-1 : Int), ())))
noncomputable def F60e (n : Nat) : Ent G := ⟨60, (.cons (.imm 4) (.cons (.clo 36 .nil) .nil)), [], (.int .i64), [], fun x y => F60 n x.1⟩
theorem F60_eq (n : Nat) (x : ShL.den G (.cons (.imm 4) (.cons (.clo 36 .nil) .nil))) (y : denO G []) : (F60e n).F x y = runFn prog G (ro G (tabOf (E35 n)) (frOf [F60_0z n]) _) Go.Proofs.Try.f60 (.nd .no (.nd (.nd .no (.nd (.use 0) .no)) .no)) [(0, .fz)] (ShL.enc G (.cons (.imm 4) (.cons (.clo 36 .nil) .nil)) x) (encO G [] y) (decR (.int .i64) []) := by kernel_rfl
theorem F60_ok (n : Nat) : EntOK prog G (F60e n) :=
  ent_ok (fr := frOf [F60_0z n]) (ann := (.nd .no (.nd (.nd .no (.nd (.use 0) .no)) .no))) (frm := [(0, .fz)]) laws fnok (E35_ok n).tab (e := F60e n) (fn := Go.Proofs.Try.f60) (by kernel_rfl) (AllF.ofB (cd := F60c) (l := [(0, codeAt F60c [1, 0, 1, 0])]) (by kernel_rfl) (by kernel_rfl) (AllF.cons (F60_0_ok n) AllF.nil)) (F60_eq n)
noncomputable def E36 (n : Nat) : List (Ent G) := F60e n :: E35 n
theorem E36_ok (n : Nat) : AllE prog G (E36 n) := AllE.cons (F60_ok n) (E35_ok n)
noncomputable def F35 (n : Nat) (a702 : List Cls) : Option (Bool × Unit) :=
  (andThen (F60 n a702) fun r847 =>
  some ((decide (r847.1 ≥ (0 : Int))), ()))
noncomputable def F35e (n : Nat) : Ent G := ⟨35, (.cons (.imm 4) (.cons (.clo 36 .nil) .nil)), [], .bool, [], fun x y => F35 n x.1⟩
theorem F35_eq (n : Nat) (x : ShL.den G (.cons (.imm 4) (.cons (.clo 36 .nil) .nil))) (y : denO G []) : (F35e n).F x y = runFn prog G (ro G (tabOf (E36 n)) (frOf []) _) Go.Proofs.Try.f35 .no [(0, .fz)] (ShL.enc G (.cons (.imm 4) (.cons (.clo 36 .nil) .nil)) x) (encO G [] y) (decR .bool []) := by kernel_rfl
theorem F35_ok (n : Nat) : EntOK prog G (F35e n) :=
  ent_ok (fr := frOf []) (ann := .no) (frm := [(0, .fz)]) laws fnok (E36_ok n).tab (e := F35e n) (fn := Go.Proofs.Try.f35) (by kernel_rfl) (AllF.ofB (cd := F35c) (l := []) (by kernel_rfl) (by kernel_rfl) AllF.nil) (F35_eq n)
noncomputable def E37 (n : Nat) : List (Ent G) := F35e n :: E36 n
theorem E37_ok (n : Nat) : AllE prog G (E37 n) := AllE.cons (F35_ok n) (E36_ok n)
noncomputable def F11 (n : Nat) (a249 : List Cls) : Option (Bool × Unit) :=
  (andThen (F34 n a249) fun r276 =>
  (andThen (F33 n r276.1) fun r700 =>
  (bif (!r700.1) then
  some (false, ())
  else (andThen (F35 n a249) fun r849 =>
  some ((!r849.1), ())))))
noncomputable def F11e (n : Nat) : Ent G := ⟨11, (.cons (.imm 4) .nil), [], .bool, [], fun x y => F11 n x.1⟩
theorem F11_eq (n : Nat) (x : ShL.den G (.cons (.imm 4) .nil)) (y : denO G []) : (F11e n).F x y = runFn prog G (ro G (tabOf (E37 n)) (frOf []) _) Go.Proofs.Try.f11 .no [(0, .fz)] (ShL.enc G (.cons (.imm 4) .nil) x) (encO G [] y) (decR .bool []) := by kernel_rfl
theorem F11_ok (n : Nat) : EntOK prog G (F11e n) :=
  ent_ok (fr := frOf []) (ann := .no) (frm := [(0, .fz)]) laws fnok (E37_ok n).tab (e := F11e n) (fn := Go.Proofs.Try.f11) (by kernel_rfl) (AllF.ofB (cd := F11c) (l := []) (by kernel_rfl) (by kernel_rfl) AllF.nil) (F11_eq n)
noncomputable def E38 (n : Nat) : List (Ent G) := F11e n :: E37 n
theorem E38_ok (n : Nat) : AllE prog G (E38 n) := AllE.cons (F11_ok n) (E37_ok n)
-- 12 loop.example/slowworm/spec.ClassesOk
noncomputable def F12c : Code := bodyOf Go.Proofs.Try.f12
-- 38 loop.example/slowworm/spec.validClasses
noncomputable def F38c : Code := bodyOf Go.Proofs.Try.f38
-- 50 loop.example/slowworm/spec.basesOf
noncomputable def F50c : Code := bodyOf Go.Proofs.Try.f50
noncomputable def F50_0x0 : SSh := ⟨21, [(3, (.own 0))], [(.arr 7 true)]⟩
noncomputable def F50_0s : SSh := ⟨21, [(0, (.imm 4)), (3, (.own 0)), (4, (.int .i64))], [(.arr 7 true)]⟩
noncomputable def F50_0_step {R : Type} (n : Nat) (k0 : List (List Int) → Option R) (rec : List Cls → Int → List (List Int) → Option R) (x856 : List Cls) (x857 : Int) (x858 : List (List Int)) : Option R :=
  (bif (decide (x857 < ((x856.length) : Int))) then
  (bif (decide ((0 : Int) ≤ x857)) then
  (bif (decide (x857 < ((x856.length) : Int))) then
  let v863 := ((x856.getD (x857.toNat) (Cls.mk [] [])).bases :: [])
  (bif (decide (((x858.length) + (v863.length)) ≤ (68719476736 : Nat))) then
  (rec x856 (IntKind.wrap .i64 (x857 + (1 : Int))) (x858 ++ v863))
  else none)
  else none)
  else none)
  else (k0 x858))
noncomputable def F50_0_it {R : Type} (n : Nat) (k0 : List (List Int) → Option R) : Nat → List Cls → Int → List (List Int) → Option R
  | 0, _, _, _ => none
  | k + 1, x856, x857, x858 => F50_0_step n k0 (F50_0_it n k0 k) x856 x857 x858
noncomputable def F50_0 {R : Type} (n : Nat) (x856 : List Cls) (x857 : Int) (x858 : List (List Int)) (k0 : List (List Int) → Option R) : Option R := F50_0_it n k0 n x856 x857 x858
noncomputable def F50_0z (n : Nat) : Sm G := inZ G 0 ⟨[0, 3, 4], []⟩ F50_0s fun R x K => F50_0_it n (fun u0 => K (.exit 0) (SSh.enc G F50_0x0 (((), ()), (u0, ())))) n x.1.1 x.1.2.2.1 x.2.1
theorem F50_0_eq (n : Nat) (R : Type) (rec : SSh.den G F50_0s → Option R) (x : SSh.den G F50_0s) (K : AE → St G → Option R) :
  F50_0_step n (fun u0 => K (.exit 0) (SSh.enc G F50_0x0 (((), ()), (u0, ())))) (fun x856 x857 x858 => rec ((x856, ((), (x857, ()))), (x858, ()))) x.1.1 x.1.2.2.1 x.2.1 = exec prog G (ro G (tabOf (E38 n)) (frOf []) R) 0 (codeAt F50c [1, 1, 0, 1, 0, 0]) .no (SSh.enc G F50_0s x) (kLoop G (ro G (tabOf (E38 n)) (frOf []) R) 0 ⟨[0, 3, 4], []⟩ F50_0s ⟨⟨[3], []⟩, ⟨[2], []⟩, [(0, ⟨[3], []⟩)]⟩ rec K) := by kernel_rfl
theorem F50_0_ok (n : Nat) : FragOK prog G 0 (codeAt F50c [1, 1, 0, 1, 0]) (F50_0z n) :=
  frag_loop (Z := fun R k (x : SSh.den G F50_0s) K => F50_0_it n (fun u0 => K (.exit 0) (SSh.enc G F50_0x0 (((), ()), (u0, ())))) k x.1.1 x.1.2.2.1 x.2.1) laws fnok (E38_ok n).tab (AllF.of (l := []) (by kernel_rfl) AllF.nil) (fun _ _ _ => rfl) (fun R k y K => F50_0_eq n R (fun (x : SSh.den G F50_0s) => F50_0_it n (fun u0 => K (.exit 0) (SSh.enc G F50_0x0 (((), ()), (u0, ())))) k x.1.1 x.1.2.2.1 x.2.1) y K) n
noncomputable def F50 (n : Nat) (a854 : List Cls) : Option (List (List Int) × Unit) :=
  (F50_0 n a854 (0 : Int) [] (fun z866 =>
  some (z866, ())))
noncomputable def F50e (n : Nat) : Ent G := ⟨50, (.cons (.imm 4) .nil), [], (.imm 7), [], fun x y => F50 n x.1⟩
theorem F50_eq (n : Nat) (x : ShL.den G (.cons (.imm 4) .nil)) (y : denO G []) : (F50e n).F x y = runFn prog G (ro G (tabOf (E38 n)) (frOf [F50_0z n]) _) Go.Proofs.Try.f50 (.nd .no (.nd .no (.nd (.nd .no (.nd (.use 0) .no)) .no))) [(0, .fz)] (ShL.enc G (.cons (.imm 4) .nil) x) (encO G [] y) (decR (.imm 7) []) := by kernel_rfl
theorem F50_ok (n : Nat) : EntOK prog G (F50e n) :=
  ent_ok (fr := frOf [F50_0z n]) (ann := (.nd .no (.nd .no (.nd (.nd .no (.nd (.use 0) .no)) .no)))) (frm := [(0, .fz)]) laws fnok (E38_ok n).tab (e := F50e n) (fn := Go.Proofs.Try.f50) (by kernel_rfl) (AllF.ofB (cd := F50c) (l := [(0, codeAt F50c [1, 1, 0, 1, 0])]) (by kernel_rfl) (by kernel_rfl) (AllF.cons (F50_0_ok n) AllF.nil)) (F50_eq n)
noncomputable def E39 (n : Nat) : List (Ent G) := F50e n :: E38 n
theorem E39_ok (n : Nat) : AllE prog G (E39 n) := AllE.cons (F50_ok n) (E38_ok n)
-- 63 loop.example/slowworm/spec.BasesOk
noncomputable def F63c : Code := bodyOf Go.Proofs.Try.f63
-- 84 loop.example/slowworm/spec.validBases
noncomputable def F84c : Code := bodyOf Go.Proofs.Try.f84
-- 47 loop.example/slowworm/spec.inRange
noncomputable def F47c : Code := bodyOf Go.Proofs.Try.f47
noncomputable def F47 (n : Nat) (a886 : Int) (a887 : Int) (a888 : Int) : Option (Bool × Unit) :=
  (bif (decide (a886 ≥ a887)) then
  some ((decide (a886 ≤ a888)), ())
  else some (false, ()))
noncomputable def F47e (n : Nat) : Ent G := ⟨47, (.cons (.int .i64) (.cons (.int .i64) (.cons (.int .i64) .nil))), [], .bool, [], fun x y => F47 n x.1 x.2.1 x.2.2.1⟩
theorem F47_eq (n : Nat) (x : ShL.den G (.cons (.int .i64) (.cons (.int .i64) (.cons (.int .i64) .nil)))) (y : denO G []) : (F47e n).F x y = runFn prog G (ro G (tabOf (E39 n)) (frOf []) _) Go.Proofs.Try.f47 .no [(0, .fz)] (ShL.enc G (.cons (.int .i64) (.cons (.int .i64) (.cons (.int .i64) .nil))) x) (encO G [] y) (decR .bool []) := by kernel_rfl
theorem F47_ok (n : Nat) : EntOK prog G (F47e n) :=
  ent_ok (fr := frOf []) (ann := .no) (frm := [(0, .fz)]) laws fnok (E39_ok n).tab (e := F47e n) (fn := Go.Proofs.Try.f47) (by kernel_rfl) (AllF.ofB (cd := F47c) (l := []) (by kernel_rfl) (by kernel_rfl) AllF.nil) (F47_eq n)
noncomputable def E40 (n : Nat) : List (Ent G) := F47e n :: E39 n
theorem E40_ok (n : Nat) : AllE prog G (E40 n) := AllE.cons (F47_ok n) (E39_ok n)
noncomputable def F84_0x0 : SSh := ⟨56, [(2, .bool)], []⟩
noncomputable def F84_0x1 : SSh := ⟨56, [(0, (.imm 7)), (3, (.int .i64))], []⟩
noncomputable def F84_0s : SSh := ⟨56, [(0, (.imm 7)), (3, (.int .i64)), (4, (.int .i64))], []⟩
noncomputable def F84_0_step {R : Type} (n : Nat) (k0 : Bool → Option R) (k1 : List (List Int) → Int → Option R) (rec : List (List Int) → Int → Int → Option R) (x874 : List (List Int)) (x875 : Int) (x876 : Int) : Option R :=
  (bif (decide ((0 : Int) ≤ x875)) then
  (bif (decide (x875 < ((x874.length) : Int))) then
  (bif (decide (x876 < (((x874.getD (x875.toNat) []).length) : Int))) then
  (bif (decide ((0 : Int) ≤ x875)) then
  (bif (decide (x875 < ((x874.length) : Int))) then
  let v882 := (x874.getD (x875.toNat) [])
  (bif (decide ((0 : Int) ≤ x876)) then
  (bif (decide (x876 < ((v882.length) : Int))) then
  (andThen (F47 n (v882.getD (x876.toNat) (0 : Int)) (0 : Int) (IntKind.wrap .i64 (x875 - (1 : Int)))) fun r891 =>
  (bif (!r891.1) then
  (k0 false)
  else (bif (decide ((0 : Int) ≤ x875)) then
  (bif (decide (x875 < ((x874.length) : Int))) then
  let v894 := (x874.getD (x875.toNat) [])
  (bif (decide ((0 : Int) ≤ x876)) then
  (bif (decide (x876 ≤ ((v894.length) : Int))) then
  (bif (decide ((0 : Int) ≤ x875)) then
  (bif (decide (x875 < ((x874.length) : Int))) then
  let v897 := (x874.getD (x875.toNat) [])
  (bif (decide ((0 : Int) ≤ x876)) then
  (bif (decide (x876 < ((v897.length) : Int))) then
  (andThen (F51 n ((v894.take (x876.toNat)).drop (0 : Nat)) (v897.getD (x876.toNat) (0 : Int))) fun r900 =>
  (bif r900.1 then
  (k0 false)
  else (rec x874 x875 (IntKind.wrap .i64 (x876 + (1 : Int))))))
  else none)
  else none)
  else none)
  else none)
  else none)
  else none)
  else none)
  else none)))
  else none)
  else none)
  else none)
  else none)
  else (k1 x874 x875))
  else none)
  else none)
noncomputable def F84_0_it {R : Type} (n : Nat) (k0 : Bool → Option R) (k1 : List (List Int) → Int → Option R) : Nat → List (List Int) → Int → Int → Option R
  | 0, _, _, _ => none
  | k + 1, x874, x875, x876 => F84_0_step n k0 k1 (F84_0_it n k0 k1 k) x874 x875 x876
noncomputable def F84_0 {R : Type} (n : Nat) (x874 : List (List Int)) (x875 : Int) (x876 : Int) (k0 : Bool → Option R) (k1 : List (List Int) → Int → Option R) : Option R := F84_0_it n k0 k1 n x874 x875 x876
noncomputable def F84_0z (n : Nat) : Sm G := inZ G 0 ⟨[0, 3, 4], []⟩ F84_0s fun R x K => F84_0_it n (fun u0 => K .ret (SSh.enc G F84_0x0 ((u0, ()), ()))) (fun u0 u1 => K (.exit 2) (SSh.enc G F84_0x1 ((u0, (u1, ())), ()))) n x.1.1 x.1.2.1 x.1.2.2.1
theorem F84_0_eq (n : Nat) (R : Type) (rec : SSh.den G F84_0s → Option R) (x : SSh.den G F84_0s) (K : AE → St G → Option R) :
  F84_0_step n (fun u0 => K .ret (SSh.enc G F84_0x0 ((u0, ()), ()))) (fun u0 u1 => K (.exit 2) (SSh.enc G F84_0x1 ((u0, (u1, ())), ()))) (fun x874 x875 x876 => rec ((x874, (x875, (x876, ()))), ())) x.1.1 x.1.2.1 x.1.2.2.1 = exec prog G (ro G (tabOf (E40 n)) (frOf []) R) 0 (codeAt F84c [1, 0, 1, 0, 0, 1, 0, 0, 0, 1, 0, 0]) .no (SSh.enc G F84_0s x) (kLoop G (ro G (tabOf (E40 n)) (frOf []) R) 0 ⟨[0, 3, 4], []⟩ F84_0s ⟨⟨[0, 3], []⟩, ⟨[2], []⟩, [(2, ⟨[0, 3], []⟩), (1, ⟨[0, 3], []⟩), (0, ⟨[0], []⟩)]⟩ rec K) := by kernel_rfl
theorem F84_0_ok (n : Nat) : FragOK prog G 0 (codeAt F84c [1, 0, 1, 0, 0, 1, 0, 0, 0, 1, 0]) (F84_0z n) :=
  frag_loop (Z := fun R k (x : SSh.den G F84_0s) K => F84_0_it n (fun u0 => K .ret (SSh.enc G F84_0x0 ((u0, ()), ()))) (fun u0 u1 => K (.exit 2) (SSh.enc G F84_0x1 ((u0, (u1, ())), ()))) k x.1.1 x.1.2.1 x.1.2.2.1) laws fnok (E40_ok n).tab (AllF.of (l := []) (by kernel_rfl) AllF.nil) (fun _ _ _ => rfl) (fun R k y K => F84_0_eq n R (fun (x : SSh.den G F84_0s) => F84_0_it n (fun u0 => K .ret (SSh.enc G F84_0x0 ((u0, ()), ()))) (fun u0 u1 => K (.exit 2) (SSh.enc G F84_0x1 ((u0, (u1, ())), ()))) k x.1.1 x.1.2.1 x.1.2.2.1) y K) n
noncomputable def F84_1x0 : SSh := ⟨56, [(2, .bool)], []⟩
noncomputable def F84_1x1 : SSh := ⟨56, [(0, (.imm 7))], []⟩
noncomputable def F84_1s : SSh := ⟨56, [(0, (.imm 7)), (3, (.int .i64))], []⟩
noncomputable def F84_1_step {R : Type} (n : Nat) (k0 : Bool → Option R) (k1 : List (List Int) → Option R) (rec : List (List Int) → Int → Option R) (x870 : List (List Int)) (x871 : Int) : Option R :=
  (bif (decide (x871 < ((x870.length) : Int))) then
  (F84_0 n x870 x871 (0 : Int) (fun z902 =>
  (k0 z902)) (fun z903 z904 =>
  (bif (decide ((0 : Int) ≤ z904)) then
  (bif (decide (z904 < ((z903.length) : Int))) then
  (bif (decide ((((z903.getD (z904.toNat) []).length) : Int) > (6 : Int))) then
  (k0 false)
  else (rec z903 (IntKind.wrap .i64 (z904 + (1 : Int)))))
  else none)
  else none)))
  else (k1 x870))
noncomputable def F84_1_it {R : Type} (n : Nat) (k0 : Bool → Option R) (k1 : List (List Int) → Option R) : Nat → List (List Int) → Int → Option R
  | 0, _, _ => none
  | k + 1, x870, x871 => F84_1_step n k0 k1 (F84_1_it n k0 k1 k) x870 x871
noncomputable def F84_1 {R : Type} (n : Nat) (x870 : List (List Int)) (x871 : Int) (k0 : Bool → Option R) (k1 : List (List Int) → Option R) : Option R := F84_1_it n k0 k1 n x870 x871
noncomputable def F84_1z (n : Nat) : Sm G := inZ G 0 ⟨[0, 3], []⟩ F84_1s fun R x K => F84_1_it n (fun u0 => K .ret (SSh.enc G F84_1x0 ((u0, ()), ()))) (fun u0 => K (.exit 0) (SSh.enc G F84_1x1 ((u0, ()), ()))) n x.1.1 x.1.2.1
theorem F84_1_eq (n : Nat) (R : Type) (rec : SSh.den G F84_1s → Option R) (x : SSh.den G F84_1s) (K : AE → St G → Option R) :
  F84_1_step n (fun u0 => K .ret (SSh.enc G F84_1x0 ((u0, ()), ()))) (fun u0 => K (.exit 0) (SSh.enc G F84_1x1 ((u0, ()), ()))) (fun x870 x871 => rec ((x870, (x871, ())), ())) x.1.1 x.1.2.1 = exec prog G (ro G (tabOf (E40 n)) (frOf [F84_0z n]) R) 0 (codeAt F84c [1, 0, 1, 0, 0]) (.nd .no (.nd (.nd (.nd (.nd .no (.nd (.use 0) .no)) .no) .no) .no)) (SSh.enc G F84_1s x) (kLoop G (ro G (tabOf (E40 n)) (frOf [F84_0z n]) R) 0 ⟨[0, 3], []⟩ F84_1s ⟨⟨[0], []⟩, ⟨[2], []⟩, [(0, ⟨[0], []⟩)]⟩ rec K) := by kernel_rfl
theorem F84_1_ok (n : Nat) : FragOK prog G 0 (codeAt F84c [1, 0, 1, 0]) (F84_1z n) :=
  frag_loop (Z := fun R k (x : SSh.den G F84_1s) K => F84_1_it n (fun u0 => K .ret (SSh.enc G F84_1x0 ((u0, ()), ()))) (fun u0 => K (.exit 0) (SSh.enc G F84_1x1 ((u0, ()), ()))) k x.1.1 x.1.2.1) laws fnok (E40_ok n).tab (AllF.of (l := [(0, codeAt F84c [1, 0, 1, 0, 0, 1, 0, 0, 0, 1, 0])]) (by kernel_rfl) (AllF.cons (F84_0_ok n) AllF.nil)) (fun _ _ _ => rfl) (fun R k y K => F84_1_eq n R (fun (x : SSh.den G F84_1s) => F84_1_it n (fun u0 => K .ret (SSh.enc G F84_1x0 ((u0, ()), ()))) (fun u0 => K (.exit 0) (SSh.enc G F84_1x1 ((u0, ()), ()))) k x.1.1 x.1.2.1) y K) n
noncomputable def F84 (n : Nat) (a869 : List (List Int)) : Option (Bool × Unit) :=
  (F84_1 n a869 (0 : Int) (fun z910 =>
  some (z910, ())) (fun z911 =>
  some ((decide (((z911.length) : Int) ≤ (8 : Int))), ())))
noncomputable def F84e (n : Nat) : Ent G := ⟨84, (.cons (.imm 7) .nil), [], .bool, [], fun x y => F84 n x.1⟩
theorem F84_eq (n : Nat) (x : ShL.den G (.cons (.imm 7) .nil)) (y : denO G []) : (F84e n).F x y = runFn prog G (ro G (tabOf (E40 n)) (frOf [F84_0z n, F84_1z n]) _) Go.Proofs.Try.f84 (.nd .no (.nd (.nd .no (.nd (.use 1) .no)) .no)) [(0, .fz)] (ShL.enc G (.cons (.imm 7) .nil) x) (encO G [] y) (decR .bool []) := by kernel_rfl
theorem F84_ok (n : Nat) : EntOK prog G (F84e n) :=
  ent_ok (fr := frOf [F84_0z n, F84_1z n]) (ann := (.nd .no (.nd (.nd .no (.nd (.use 1) .no)) .no))) (frm := [(0, .fz)]) laws fnok (E40_ok n).tab (e := F84e n) (fn := Go.Proofs.Try.f84) (by kernel_rfl) (AllF.ofB (cd := F84c) (l := [(1, codeAt F84c [1, 0, 1, 0])]) (by kernel_rfl) (by kernel_rfl) (AllF.cons (F84_1_ok n) AllF.nil)) (F84_eq n)
noncomputable def E41 (n : Nat) : List (Ent G) := F84e n :: E40 n
theorem E41_ok (n : Nat) : AllE prog G (E41 n) := AllE.cons (F84_ok n) (E40_ok n)
-- 97 loop.example/slowworm/spec.headFree
noncomputable def F97c : Code := bodyOf Go.Proofs.Try.f97
noncomputable def F97_0x0 : SSh := ⟨27, [(4, .bool)], []⟩
noncomputable def F97_0x1 : SSh := ⟨27, [], []⟩
noncomputable def F97_0s : SSh := ⟨27, [(0, (.imm 7)), (1, (.int .i64)), (5, (.int .i64))], []⟩
noncomputable def F97_0_step {R : Type} (n : Nat) (k0 : Bool → Option R) (k1 : Option R) (rec : List (List Int) → Int → Int → Option R) (x992 : List (List Int)) (x993 : Int) (x994 : Int) : Option R :=
  (bif (decide (x994 < ((x992.length) : Int))) then
  (bif (decide ((0 : Int) ≤ x994)) then
  (bif (decide (x994 < ((x992.length) : Int))) then
  (bif (decide ((((x992.getD (x994.toNat) []).length) : Int) > (1 : Int))) then
  (bif (decide ((0 : Int) ≤ x994)) then
  (bif (decide (x994 < ((x992.length) : Int))) then
  let v1002 := (x992.getD (x994.toNat) [])
  (bif (decide ((1 : Int) ≤ ((v1002.length) : Int))) then
  (bif (decide (((v1002.length) : Int) ≤ ((v1002.length) : Int))) then
  (andThen (F51 n ((v1002.take (((v1002.length) : Int).toNat)).drop (1 : Nat)) x993) fun r1004 =>
  (bif r1004.1 then
  (k0 false)
  else (rec x992 x993 (IntKind.wrap .i64 (x994 + (1 : Int))))))
  else none)
  else none)
  else none)
  else none)
  else (rec x992 x993 (IntKind.wrap .i64 (x994 + (1 : Int)))))
  else none)
  else none)
  else k1)
noncomputable def F97_0_it {R : Type} (n : Nat) (k0 : Bool → Option R) (k1 : Option R) : Nat → List (List Int) → Int → Int → Option R
  | 0, _, _, _ => none
  | k + 1, x992, x993, x994 => F97_0_step n k0 k1 (F97_0_it n k0 k1 k) x992 x993 x994
noncomputable def F97_0 {R : Type} (n : Nat) (x992 : List (List Int)) (x993 : Int) (x994 : Int) (k0 : Bool → Option R) (k1 : Option R) : Option R := F97_0_it n k0 k1 n x992 x993 x994
noncomputable def F97_0z (n : Nat) : Sm G := inZ G 0 ⟨[0, 1, 5], []⟩ F97_0s fun R x K => F97_0_it n (fun u0 => K .ret (SSh.enc G F97_0x0 ((u0, ()), ()))) (K (.exit 0) (SSh.enc G F97_0x1 ((), ()))) n x.1.1 x.1.2.1 x.1.2.2.1
theorem F97_0_eq (n : Nat) (R : Type) (rec : SSh.den G F97_0s → Option R) (x : SSh.den G F97_0s) (K : AE → St G → Option R) :
  F97_0_step n (fun u0 => K .ret (SSh.enc G F97_0x0 ((u0, ()), ()))) (K (.exit 0) (SSh.enc G F97_0x1 ((), ()))) (fun x992 x993 x994 => rec ((x992, (x993, (x994, ()))), ())) x.1.1 x.1.2.1 x.1.2.2.1 = exec prog G (ro G (tabOf (E41 n)) (frOf []) R) 0 (codeAt F97c [1, 0, 1, 0, 0]) .no (SSh.enc G F97_0s x) (kLoop G (ro G (tabOf (E41 n)) (frOf []) R) 0 ⟨[0, 1, 5], []⟩ F97_0s ⟨⟨[], []⟩, ⟨[4], []⟩, [(0, ⟨[], []⟩)]⟩ rec K) := by kernel_rfl
theorem F97_0_ok (n : Nat) : FragOK prog G 0 (codeAt F97c [1, 0, 1, 0]) (F97_0z n) :=
  frag_loop (Z := fun R k (x : SSh.den G F97_0s) K => F97_0_it n (fun u0 => K .ret (SSh.enc G F97_0x0 ((u0, ()), ()))) (K (.exit 0) (SSh.enc G F97_0x1 ((), ()))) k x.1.1 x.1.2.1 x.1.2.2.1) laws fnok (E41_ok n).tab (AllF.of (l := []) (by kernel_rfl) AllF.nil) (fun _ _ _ => rfl) (fun R k y K => F97_0_eq n R (fun (x : SSh.den G F97_0s) => F97_0_it n (fun u0 => K .ret (SSh.enc G F97_0x0 ((u0, ()), ()))) (K (.exit 0) (SSh.enc G F97_0x1 ((), ()))) k x.1.1 x.1.2.1 x.1.2.2.1) y K) n
noncomputable def F97 (n : Nat) (a990 : List (List Int)) (a991 : Int) : Option (Bool × Unit) :=
  (F97_0 n a990 a991 (0 : Int) (fun z1007 =>
  some (z1007, ())) (
  some (true, ())))
noncomputable def F97e (n : Nat) : Ent G := ⟨97, (.cons (.imm 7) (.cons (.int .i64) .nil)), [], .bool, [], fun x y => F97 n x.1 x.2.1⟩
theorem F97_eq (n : Nat) (x : ShL.den G (.cons (.imm 7) (.cons (.int .i64) .nil))) (y : denO G []) : (F97e n).F x y = runFn prog G (ro G (tabOf (E41 n)) (frOf [F97_0z n]) _) Go.Proofs.Try.f97 (.nd .no (.nd (.nd .no (.nd (.use 0) .no)) .no)) [(0, .fz)] (ShL.enc G (.cons (.imm 7) (.cons (.int .i64) .nil)) x) (encO G [] y) (decR .bool []) := by kernel_rfl
theorem F97_ok (n : Nat) : EntOK prog G (F97e n) :=
  ent_ok (fr := frOf [F97_0z n]) (ann := (.nd .no (.nd (.nd .no (.nd (.use 0) .no)) .no))) (frm := [(0, .fz)]) laws fnok (E41_ok n).tab (e := F97e n) (fn := Go.Proofs.Try.f97) (by kernel_rfl) (AllF.ofB (cd := F97c) (l := [(0, codeAt F97c [1, 0, 1, 0])]) (by kernel_rfl) (by kernel_rfl) (AllF.cons (F97_0_ok n) AllF.nil)) (F97_eq n)
noncomputable def E42 (n : Nat) : List (Ent G) := F97e n :: E41 n
theorem E42_ok (n : Nat) : AllE prog G (E42 n) := AllE.cons (F97_ok n) (E41_ok n)
-- 91 loop.example/slowworm/spec.mergeOrders
noncomputable def F91c : Code := bodyOf Go.Proofs.Try.f91
noncomputable def F91_0x0 : SSh := ⟨89, [(0, (.imm 7)), (4, (.own 0)), (5, (.int .i64)), (6, .bool), (7, (.int .i64))], [(.arr 0 true)]⟩
noncomputable def F91_0s : SSh := ⟨89, [(0, (.imm 7)), (4, (.own 0)), (5, (.int .i64)), (6, .bool), (7, (.int .i64))], [(.arr 0 true)]⟩
noncomputable def F91_0 {R : Type} (n : Nat) (x1081 : List (List Int)) (x1082 : Int) (x1083 : Bool) (x1084 : Int) (x1085 : List Int) (k0 : List (List Int) → Int → Bool → Int → List Int → Option R) : Option R :=
  (bif (decide ((0 : Int) ≤ x1084)) then
  (bif (decide (x1084 < ((x1081.length) : Int))) then
  (bif (decide ((((x1081.getD (x1084.toNat) []).length) : Int) > (0 : Int))) then
  (bif (decide (x1082 < (0 : Int))) then
  (bif (decide ((0 : Int) ≤ x1084)) then
  (bif (decide (x1084 < ((x1081.length) : Int))) then
  let v1092 := (x1081.getD (x1084.toNat) [])
  (bif (decide ((0 : Int) < ((v1092.length) : Int))) then
  (andThen (F97 n x1081 (v1092.getD (0 : Nat) (0 : Int))) fun r1095 =>
  (bif r1095.1 then
  (bif (decide ((0 : Int) ≤ x1084)) then
  (bif (decide (x1084 < ((x1081.length) : Int))) then
  let v1097 := (x1081.getD (x1084.toNat) [])
  (bif (decide ((0 : Int) < ((v1097.length) : Int))) then
  (k0 x1081 (v1097.getD (0 : Nat) (0 : Int)) true x1084 x1085)
  else none)
  else none)
  else none)
  else (k0 x1081 x1082 true x1084 x1085)))
  else none)
  else none)
  else none)
  else (k0 x1081 x1082 true x1084 x1085))
  else (k0 x1081 x1082 x1083 x1084 x1085))
  else none)
  else none)
noncomputable def F91_0z (n : Nat) : Sm G := inZ G 0 ⟨[0, 4, 5, 6, 7], []⟩ F91_0s fun R x K => F91_0 n x.1.1 x.1.2.2.1 x.1.2.2.2.1 x.1.2.2.2.2.1 x.2.1 (fun u0 u1 u2 u3 u4 => K .normal (SSh.enc G F91_0x0 ((u0, ((), (u1, (u2, (u3, ()))))), (u4, ()))))
theorem F91_0_eq (n : Nat) (R : Type) (x : SSh.den G F91_0s) (K : AE → St G → Option R) :
  F91_0 n x.1.1 x.1.2.2.1 x.1.2.2.2.1 x.1.2.2.2.2.1 x.2.1 (fun u0 u1 u2 u3 u4 => K .normal (SSh.enc G F91_0x0 ((u0, ((), (u1, (u2, (u3, ()))))), (u4, ())))) = exec prog G (ro G (tabOf (E42 n)) (frOf []) R) 0 (codeAt F91c [1, 1, 0, 0, 0, 1, 1, 0, 1, 0, 0, 1, 0]) .no (SSh.enc G F91_0s x) (kNrm G (ro G (tabOf (E42 n)) (frOf []) R) 0 ⟨⟨[0, 4, 5, 6, 7], []⟩, ⟨[2, 3], []⟩, [(2, ⟨[0, 4, 5, 6], []⟩), (1, ⟨[0, 4], []⟩), (0, ⟨[2, 3], []⟩)]⟩ K) := by kernel_rfl
theorem F91_0_ok (n : Nat) : FragOK prog G 0 (codeAt F91c [1, 1, 0, 0, 0, 1, 1, 0, 1, 0, 0, 1, 0]) (F91_0z n) :=
  frag_plain laws fnok (E42_ok n).tab (AllF.of (l := []) (by kernel_rfl) AllF.nil) (F91_0_eq n)
noncomputable def F91_1x0 : SSh := ⟨89, [(0, (.imm 7)), (4, (.own 0)), (5, (.int .i64)), (6, .bool)], [(.arr 0 true)]⟩
noncomputable def F91_1s : SSh := ⟨89, [(0, (.imm 7)), (4, (.own 0)), (5, (.int .i64)), (6, .bool), (7, (.int .i64))], [(.arr 0 true)]⟩
noncomputable def F91_1_step {R : Type} (n : Nat) (k0 : List (List Int) → Int → Bool → List Int → Option R) (rec : List (List Int) → Int → Bool → Int → List Int → Option R) (x1074 : List (List Int)) (x1075 : Int) (x1076 : Bool) (x1077 : Int) (x1078 : List Int) : Option R :=
  (bif (decide (x1077 < ((x1074.length) : Int))) then
  (F91_0 n x1074 x1075 x1076 x1077 x1078 (fun z1100 z1101 z1102 z1103 z1104 =>
  (rec z1100 z1101 z1102 (IntKind.wrap .i64 (z1103 + (1 : Int))) z1104)))
  else (k0 x1074 x1075 x1076 x1078))
noncomputable def F91_1_it {R : Type} (n : Nat) (k0 : List (List Int) → Int → Bool → List Int → Option R) : Nat → List (List Int) → Int → Bool → Int → List Int → Option R
  | 0, _, _, _, _, _ => none
  | k + 1, x1074, x1075, x1076, x1077, x1078 => F91_1_step n k0 (F91_1_it n k0 k) x1074 x1075 x1076 x1077 x1078
noncomputable def F91_1 {R : Type} (n : Nat) (x1074 : List (List Int)) (x1075 : Int) (x1076 : Bool) (x1077 : Int) (x1078 : List Int) (k0 : List (List Int) → Int → Bool → List Int → Option R) : Option R := F91_1_it n k0 n x1074 x1075 x1076 x1077 x1078
noncomputable def F91_1z (n : Nat) : Sm G := inZ G 0 ⟨[0, 4, 5, 6, 7], []⟩ F91_1s fun R x K => F91_1_it n (fun u0 u1 u2 u3 => K (.exit 2) (SSh.enc G F91_1x0 ((u0, ((), (u1, (u2, ())))), (u3, ())))) n x.1.1 x.1.2.2.1 x.1.2.2.2.1 x.1.2.2.2.2.1 x.2.1
theorem F91_1_eq (n : Nat) (R : Type) (rec : SSh.den G F91_1s → Option R) (x : SSh.den G F91_1s) (K : AE → St G → Option R) :
  F91_1_step n (fun u0 u1 u2 u3 => K (.exit 2) (SSh.enc G F91_1x0 ((u0, ((), (u1, (u2, ())))), (u3, ())))) (fun x1074 x1075 x1076 x1077 x1078 => rec ((x1074, ((), (x1075, (x1076, (x1077, ()))))), (x1078, ()))) x.1.1 x.1.2.2.1 x.1.2.2.2.1 x.1.2.2.2.2.1 x.2.1 = exec prog G (ro G (tabOf (E42 n)) (frOf [F91_0z n]) R) 0 (codeAt F91c [1, 1, 0, 0, 0, 1, 1, 0, 1, 0, 0]) (.nd .no (.nd (.use 0) .no)) (SSh.enc G F91_1s x) (kLoop G (ro G (tabOf (E42 n)) (frOf [F91_0z n]) R) 0 ⟨[0, 4, 5, 6, 7], []⟩ F91_1s ⟨⟨[0, 4, 5, 6], []⟩, ⟨[2, 3], []⟩, [(2, ⟨[0, 4, 5, 6], []⟩), (1, ⟨[0, 4], []⟩), (0, ⟨[2, 3], []⟩)]⟩ rec K) := by kernel_rfl
theorem F91_1_ok (n : Nat) : FragOK prog G 0 (codeAt F91c [1, 1, 0, 0, 0, 1, 1, 0, 1, 0]) (F91_1z n) :=
  frag_loop (Z := fun R k (x : SSh.den G F91_1s) K => F91_1_it n (fun u0 u1 u2 u3 => K (.exit 2) (SSh.enc G F91_1x0 ((u0, ((), (u1, (u2, ())))), (u3, ())))) k x.1.1 x.1.2.2.1 x.1.2.2.2.1 x.1.2.2.2.2.1 x.2.1) laws fnok (E42_ok n).tab (AllF.of (l := [(0, codeAt F91c [1, 1, 0, 0, 0, 1, 1, 0, 1, 0, 0, 1, 0])]) (by kernel_rfl) (AllF.cons (F91_0_ok n) AllF.nil)) (fun _ _ _ => rfl) (fun R k y K => F91_1_eq n R (fun (x : SSh.den G F91_1s) => F91_1_it n (fun u0 u1 u2 u3 => K (.exit 2) (SSh.enc G F91_1x0 ((u0, ((), (u1, (u2, ())))), (u3, ())))) k x.1.1 x.1.2.2.1 x.1.2.2.2.1 x.1.2.2.2.2.1 x.2.1) y K) n
noncomputable def F91_2x0 : SSh := ⟨89, [(0, (.imm 7)), (4, (.own 0)), (5, (.int .i64)), (8, (.own 1)), (9, (.int .i64))], [(.arr 0 true), (.arr 7 true)]⟩
noncomputable def F91_2s : SSh := ⟨89, [(0, (.imm 7)), (4, (.own 0)), (5, (.int .i64)), (8, (.own 1)), (9, (.int .i64))], [(.arr 0 true), (.arr 7 true)]⟩
noncomputable def F91_2 {R : Type} (n : Nat) (x1122 : List (List Int)) (x1123 : Int) (x1124 : Int) (x1125 : List Int) (x1126 : List (List Int)) (k0 : List (List Int) → Int → Int → List Int → List (List Int) → Option R) : Option R :=
  (bif (decide ((0 : Int) ≤ x1124)) then
  (bif (decide (x1124 < ((x1122.length) : Int))) then
  (bif (decide ((((x1122.getD (x1124.toNat) []).length) : Int) > (0 : Int))) then
  (bif (decide ((0 : Int) ≤ x1124)) then
  (bif (decide (x1124 < ((x1122.length) : Int))) then
  let v1132 := (x1122.getD (x1124.toNat) [])
  (bif (decide ((0 : Int) < ((v1132.length) : Int))) then
  (bif ((v1132.getD (0 : Nat) (0 : Int)) == x1123) then
  (bif (decide ((0 : Int) ≤ x1124)) then
  (bif (decide (x1124 < ((x1122.length) : Int))) then
  let v1137 := (x1122.getD (x1124.toNat) [])
  (bif (decide ((1 : Int) ≤ ((v1137.length) : Int))) then
  (bif (decide (((v1137.length) : Int) ≤ ((v1137.length) : Int))) then
  let v1139 := (((v1137.take (((v1137.length) : Int).toNat)).drop (1 : Nat)) :: [])
  (bif (decide (((x1126.length) + (v1139.length)) ≤ (68719476736 : Nat))) then
  (k0 x1122 x1123 x1124 x1125 (x1126 ++ v1139))
  else none)
  else none)
  else none)
  else none)
  else none)
  else (bif (decide ((0 : Int) ≤ x1124)) then
  (bif (decide (x1124 < ((x1122.length) : Int))) then
  let v1143 := ((x1122.getD (x1124.toNat) []) :: [])
  (bif (decide (((x1126.length) + (v1143.length)) ≤ (68719476736 : Nat))) then
  (k0 x1122 x1123 x1124 x1125 (x1126 ++ v1143))
  else none)
  else none)
  else none))
  else none)
  else none)
  else none)
  else (bif (decide ((0 : Int) ≤ x1124)) then
  (bif (decide (x1124 < ((x1122.length) : Int))) then
  let v1147 := ((x1122.getD (x1124.toNat) []) :: [])
  (bif (decide (((x1126.length) + (v1147.length)) ≤ (68719476736 : Nat))) then
  (k0 x1122 x1123 x1124 x1125 (x1126 ++ v1147))
  else none)
  else none)
  else none))
  else none)
  else none)
noncomputable def F91_2z (n : Nat) : Sm G := inZ G 0 ⟨[0, 4, 5, 8, 9], []⟩ F91_2s fun R x K => F91_2 n x.1.1 x.1.2.2.1 x.1.2.2.2.2.1 x.2.1 x.2.2.1 (fun u0 u1 u2 u3 u4 => K .normal (SSh.enc G F91_2x0 ((u0, ((), (u1, ((), (u2, ()))))), (u3, (u4, ())))))
theorem F91_2_eq (n : Nat) (R : Type) (x : SSh.den G F91_2s) (K : AE → St G → Option R) :
  F91_2 n x.1.1 x.1.2.2.1 x.1.2.2.2.2.1 x.2.1 x.2.2.1 (fun u0 u1 u2 u3 u4 => K .normal (SSh.enc G F91_2x0 ((u0, ((), (u1, ((), (u2, ()))))), (u3, (u4, ()))))) = exec prog G (ro G (tabOf (E42 n)) (frOf [F91_0z n, F91_1z n]) R) 0 (codeAt F91c [1, 1, 0, 0, 0, 1, 1, 1, 1, 1, 1, 1, 0, 1, 0, 0, 1, 0]) .no (SSh.enc G F91_2s x) (kNrm G (ro G (tabOf (E42 n)) (frOf [F91_0z n, F91_1z n]) R) 0 ⟨⟨[0, 4, 5, 8, 9], []⟩, ⟨[2, 3], []⟩, [(4, ⟨[4, 8], []⟩), (1, ⟨[0, 4], []⟩), (0, ⟨[2, 3], []⟩)]⟩ K) := by kernel_rfl
theorem F91_2_ok (n : Nat) : FragOK prog G 0 (codeAt F91c [1, 1, 0, 0, 0, 1, 1, 1, 1, 1, 1, 1, 0, 1, 0, 0, 1, 0]) (F91_2z n) :=
  frag_plain laws fnok (E42_ok n).tab (AllF.of (l := []) (by kernel_rfl) AllF.nil) (F91_2_eq n)
noncomputable def F91_3x0 : SSh := ⟨89, [(4, (.own 0)), (8, (.own 1))], [(.arr 0 true), (.arr 7 true)]⟩
noncomputable def F91_3s : SSh := ⟨89, [(0, (.imm 7)), (4, (.own 0)), (5, (.int .i64)), (8, (.own 1)), (9, (.int .i64))], [(.arr 0 true), (.arr 7 true)]⟩
noncomputable def F91_3_step {R : Type} (n : Nat) (k0 : List Int → List (List Int) → Option R) (rec : List (List Int) → Int → Int → List Int → List (List Int) → Option R) (x1115 : List (List Int)) (x1116 : Int) (x1117 : Int) (x1118 : List Int) (x1119 : List (List Int)) : Option R :=
  (bif (decide (x1117 < ((x1115.length) : Int))) then
  (F91_2 n x1115 x1116 x1117 x1118 x1119 (fun z1149 z1150 z1151 z1152 z1153 =>
  (rec z1149 z1150 (IntKind.wrap .i64 (z1151 + (1 : Int))) z1152 z1153)))
  else (k0 x1118 x1119))
noncomputable def F91_3_it {R : Type} (n : Nat) (k0 : List Int → List (List Int) → Option R) : Nat → List (List Int) → Int → Int → List Int → List (List Int) → Option R
  | 0, _, _, _, _, _ => none
  | k + 1, x1115, x1116, x1117, x1118, x1119 => F91_3_step n k0 (F91_3_it n k0 k) x1115 x1116 x1117 x1118 x1119
noncomputable def F91_3 {R : Type} (n : Nat) (x1115 : List (List Int)) (x1116 : Int) (x1117 : Int) (x1118 : List Int) (x1119 : List (List Int)) (k0 : List Int → List (List Int) → Option R) : Option R := F91_3_it n k0 n x1115 x1116 x1117 x1118 x1119
noncomputable def F91_3z (n : Nat) : Sm G := inZ G 0 ⟨[0, 4, 5, 8, 9], []⟩ F91_3s fun R x K => F91_3_it n (fun u0 u1 => K (.exit 4) (SSh.enc G F91_3x0 (((), ((), ())), (u0, (u1, ()))))) n x.1.1 x.1.2.2.1 x.1.2.2.2.2.1 x.2.1 x.2.2.1
theorem F91_3_eq (n : Nat) (R : Type) (rec : SSh.den G F91_3s → Option R) (x : SSh.den G F91_3s) (K : AE → St G → Option R) :
  F91_3_step n (fun u0 u1 => K (.exit 4) (SSh.enc G F91_3x0 (((), ((), ())), (u0, (u1, ()))))) (fun x1115 x1116 x1117 x1118 x1119 => rec ((x1115, ((), (x1116, ((), (x1117, ()))))), (x1118, (x1119, ())))) x.1.1 x.1.2.2.1 x.1.2.2.2.2.1 x.2.1 x.2.2.1 = exec prog G (ro G (tabOf (E42 n)) (frOf [F91_0z n, F91_1z n, F91_2z n]) R) 0 (codeAt F91c [1, 1, 0, 0, 0, 1, 1, 1, 1, 1, 1, 1, 0, 1, 0, 0]) (.nd .no (.nd (.use 2) .no)) (SSh.enc G F91_3s x) (kLoop G (ro G (tabOf (E42 n)) (frOf [F91_0z n, F91_1z n, F91_2z n]) R) 0 ⟨[0, 4, 5, 8, 9], []⟩ F91_3s ⟨⟨[4, 8], []⟩, ⟨[2, 3], []⟩, [(4, ⟨[4, 8], []⟩), (1, ⟨[0, 4], []⟩), (0, ⟨[2, 3], []⟩)]⟩ rec K) := by kernel_rfl
theorem F91_3_ok (n : Nat) : FragOK prog G 0 (codeAt F91c [1, 1, 0, 0, 0, 1, 1, 1, 1, 1, 1, 1, 0, 1, 0]) (F91_3z n) :=
  frag_loop (Z := fun R k (x : SSh.den G F91_3s) K => F91_3_it n (fun u0 u1 => K (.exit 4) (SSh.enc G F91_3x0 (((), ((), ())), (u0, (u1, ()))))) k x.1.1 x.1.2.2.1 x.1.2.2.2.2.1 x.2.1 x.2.2.1) laws fnok (E42_ok n).tab (AllF.of (l := [(2, codeAt F91c [1, 1, 0, 0, 0, 1, 1, 1, 1, 1, 1, 1, 0, 1, 0, 0, 1, 0])]) (by kernel_rfl) (AllF.cons (F91_2_ok n) AllF.nil)) (fun _ _ _ => rfl) (fun R k y K => F91_3_eq n R (fun (x : SSh.den G F91_3s) => F91_3_it n (fun u0 u1 => K (.exit 4) (SSh.enc G F91_3x0 (((), ((), ())), (u0, (u1, ()))))) k x.1.1 x.1.2.2.1 x.1.2.2.2.2.1 x.2.1 x.2.2.1) y K) n
noncomputable def F91_4x0 : SSh := ⟨89, [(2, (.own 0)), (3, .bool)], [(.arr 0 true)]⟩
noncomputable def F91_4x1 : SSh := ⟨89, [(2, .nil0), (3, .bool)], []⟩
noncomputable def F91_4s : SSh := ⟨89, [(0, (.imm 7)), (4, (.own 0))], [(.arr 0 true)]⟩
noncomputable def F91_4_step {R : Type} (n : Nat) (k0 : Bool → List Int → Option R) (k1 : Bool → Option R) (rec : List (List Int) → List Int → Option R) (x1072 : List (List Int)) (x1073 : List Int) : Option R :=
  (F91_1 n x1072 (-1 : Int) false (0 : Int) x1073 (fun z1106 z1107 z1108 z1109 =>
  (bif (!z1108) then
  (k0 true z1109)
  else (bif (decide (z1107 < (0 : Int))) then
  (k1 false)
  else let v1112 := (z1107 :: [])
  (bif (decide (((z1109.length) + (v1112.length)) ≤ (68719476736 : Nat))) then
  (F91_3 n z1106 z1107 (0 : Int) (z1109 ++ v1112) [] (fun z1155 z1156 =>
  (rec z1156 z1155)))
  else none)))))
noncomputable def F91_4_it {R : Type} (n : Nat) (k0 : Bool → List Int → Option R) (k1 : Bool → Option R) : Nat → List (List Int) → List Int → Option R
  | 0, _, _ => none
  | k + 1, x1072, x1073 => F91_4_step n k0 k1 (F91_4_it n k0 k1 k) x1072 x1073
noncomputable def F91_4 {R : Type} (n : Nat) (x1072 : List (List Int)) (x1073 : List Int) (k0 : Bool → List Int → Option R) (k1 : Bool → Option R) : Option R := F91_4_it n k0 k1 n x1072 x1073
noncomputable def F91_4z (n : Nat) : Sm G := inZ G 0 ⟨[0, 4], [(0, .fz)]⟩ F91_4s fun R x K => F91_4_it n (fun u0 u1 => K .ret (SSh.enc G F91_4x0 (((), (u0, ())), (u1, ())))) (fun u0 => K .ret (SSh.enc G F91_4x1 (((), (u0, ())), ()))) n x.1.1 x.2.1
theorem F91_4_eq (n : Nat) (R : Type) (rec : SSh.den G F91_4s → Option R) (x : SSh.den G F91_4s) (K : AE → St G → Option R) :
  F91_4_step n (fun u0 u1 => K .ret (SSh.enc G F91_4x0 (((), (u0, ())), (u1, ())))) (fun u0 => K .ret (SSh.enc G F91_4x1 (((), (u0, ())), ()))) (fun x1072 x1073 => rec ((x1072, ((), ())), (x1073, ()))) x.1.1 x.2.1 = exec prog G (ro G (tabOf (E42 n)) (frOf [F91_0z n, F91_1z n, F91_2z n, F91_3z n]) R) 0 (codeAt F91c [1, 1, 0, 0]) (.nd (.nd .no (.nd .no (.nd (.nd .no (.nd (.use 1) .no)) (.nd .no (.nd .no (.nd .no (.nd .no (.nd (.nd .no (.nd (.use 3) .no)) .no)))))))) .no) (SSh.enc G F91_4s x) (kLoop G (ro G (tabOf (E42 n)) (frOf [F91_0z n, F91_1z n, F91_2z n, F91_3z n]) R) 0 ⟨[0, 4], [(0, .fz)]⟩ F91_4s ⟨⟨[2, 3], []⟩, ⟨[2, 3], []⟩, [(0, ⟨[2, 3], []⟩)]⟩ rec K) := by kernel_rfl
theorem F91_4_ok (n : Nat) : FragOK prog G 0 (codeAt F91c [1, 1, 0]) (F91_4z n) :=
  frag_loop (Z := fun R k (x : SSh.den G F91_4s) K => F91_4_it n (fun u0 u1 => K .ret (SSh.enc G F91_4x0 (((), (u0, ())), (u1, ())))) (fun u0 => K .ret (SSh.enc G F91_4x1 (((), (u0, ())), ()))) k x.1.1 x.2.1) laws fnok (E42_ok n).tab (AllF.of (l := [(1, codeAt F91c [1, 1, 0, 0, 0, 1, 1, 0, 1, 0]), (3, codeAt F91c [1, 1, 0, 0, 0, 1, 1, 1, 1, 1, 1, 1, 0, 1, 0])]) (by kernel_rfl) (AllF.cons (F91_1_ok n) (AllF.cons (F91_3_ok n) AllF.nil))) (fun _ _ _ => rfl) (fun R k y K => F91_4_eq n R (fun (x : SSh.den G F91_4s) => F91_4_it n (fun u0 u1 => K .ret (SSh.enc G F91_4x0 (((), (u0, ())), (u1, ())))) (fun u0 => K .ret (SSh.enc G F91_4x1 (((), (u0, ())), ()))) k x.1.1 x.2.1) y K) n
noncomputable def F91 (n : Nat) (a1070 : List (List Int)) : Option ((List Int × (Bool × Unit)) × Unit) :=
  (F91_4 n a1070 [] (fun z1157 z1158 =>
  some ((z1158, (z1157, ())), ())) (fun z1159 =>
  some (([], (z1159, ())), ())))
noncomputable def F91e (n : Nat) : Ent G := ⟨91, (.cons (.imm 7) .nil), [], (.tup (.cons (.imm 0) (.cons .bool .nil))), [], fun x y => F91 n x.1⟩
theorem F91_eq (n : Nat) (x : ShL.den G (.cons (.imm 7) .nil)) (y : denO G []) : (F91e n).F x y = runFn prog G (ro G (tabOf (E42 n)) (frOf [F91_0z n, F91_1z n, F91_2z n, F91_3z n, F91_4z n]) _) Go.Proofs.Try.f91 (.nd .no (.nd .no (.nd (.use 4) .no))) [(0, .fz), (1, .fz)] (ShL.enc G (.cons (.imm 7) .nil) x) (encO G [] y) (decR (.tup (.cons (.imm 0) (.cons .bool .nil))) []) := by kernel_rfl
theorem F91_ok (n : Nat) : EntOK prog G (F91e n) :=
  ent_ok (fr := frOf [F91_0z n, F91_1z n, F91_2z n, F91_3z n, F91_4z n]) (ann := (.nd .no (.nd .no (.nd (.use 4) .no)))) (frm := [(0, .fz), (1, .fz)]) laws fnok (E42_ok n).tab (e := F91e n) (fn := Go.Proofs.Try.f91) (by kernel_rfl) (AllF.ofB (cd := F91c) (l := [(4, codeAt F91c [1, 1, 0])]) (by kernel_rfl) (by kernel_rfl) (AllF.cons (F91_4_ok n) AllF.nil)) (F91_eq n)
noncomputable def E43 (n : Nat) : List (Ent G) := F91e n :: E42 n
theorem E43_ok (n : Nat) : AllE prog G (E43 n) := AllE.cons (F91_ok n) (E42_ok n)
abbrev Q74RC : Type := (List (List Int) → Int → Option ((List Int × (Bool × Unit)) × Unit)) × Unit
noncomputable def Q74L (n : Nat) (rc : Q74RC) : List (Ent G) := ⟨74, (.cons (.imm 7) (.cons (.int .i64) .nil)), [], (.tup (.cons (.imm 0) (.cons .bool .nil))), [], fun x y => rc.1 x.1 x.2.1⟩ :: E43 n
-- 74 loop.example/slowworm/spec.orderOf
noncomputable def F74bc : Code := bodyOf Go.Proofs.Try.f74
noncomputable def F74b_0x0 : SSh := ⟨59, [(4, .nil0), (5, .bool)], []⟩
noncomputable def F74b_0x1 : SSh := ⟨59, [(0, (.imm 7)), (1, (.int .i64)), (6, (.own 0))], [(.arr 7 true)]⟩
noncomputable def F74b_0s : SSh := ⟨59, [(0, (.imm 7)), (1, (.int .i64)), (6, (.own 0)), (7, (.int .i64))], [(.arr 7 true)]⟩
noncomputable def F74b_0_step {R : Type} (n : Nat) (rc : Q74RC) (k0 : Bool → Option R) (k1 : List (List Int) → Int → List (List Int) → Option R) (rec : List (List Int) → Int → Int → List (List Int) → Option R) (x1167 : List (List Int)) (x1168 : Int) (x1169 : Int) (x1170 : List (List Int)) : Option R :=
  (bif (decide ((0 : Int) ≤ x1168)) then
  (bif (decide (x1168 < ((x1167.length) : Int))) then
  (bif (decide (x1169 < (((x1167.getD (x1168.toNat) []).length) : Int))) then
  (bif (decide ((0 : Int) ≤ x1168)) then
  (bif (decide (x1168 < ((x1167.length) : Int))) then
  let v1176 := (x1167.getD (x1168.toNat) [])
  (bif (decide ((0 : Int) ≤ x1169)) then
  (bif (decide (x1169 < ((v1176.length) : Int))) then
  (andThen (rc.1 x1167 (v1176.getD (x1169.toNat) (0 : Int))) fun r1179 =>
  (bif (!r1179.1.2.1) then
  (k0 false)
  else let v1181 := (r1179.1.1 :: [])
  (bif (decide (((x1170.length) + (v1181.length)) ≤ (68719476736 : Nat))) then
  (rec x1167 x1168 (IntKind.wrap .i64 (x1169 + (1 : Int))) (x1170 ++ v1181))
  else none)))
  else none)
  else none)
  else none)
  else none)
  else (k1 x1167 x1168 x1170))
  else none)
  else none)
noncomputable def F74b_0_it {R : Type} (n : Nat) (rc : Q74RC) (k0 : Bool → Option R) (k1 : List (List Int) → Int → List (List Int) → Option R) : Nat → List (List Int) → Int → Int → List (List Int) → Option R
  | 0, _, _, _, _ => none
  | k + 1, x1167, x1168, x1169, x1170 => F74b_0_step n rc k0 k1 (F74b_0_it n rc k0 k1 k) x1167 x1168 x1169 x1170
noncomputable def F74b_0 {R : Type} (n : Nat) (rc : Q74RC) (x1167 : List (List Int)) (x1168 : Int) (x1169 : Int) (x1170 : List (List Int)) (k0 : Bool → Option R) (k1 : List (List Int) → Int → List (List Int) → Option R) : Option R := F74b_0_it n rc k0 k1 n x1167 x1168 x1169 x1170
noncomputable def F74b_0z (n : Nat) (rc : Q74RC) : Sm G := inZ G 0 ⟨[0, 1, 6, 7], []⟩ F74b_0s fun R x K => F74b_0_it n rc (fun u0 => K .ret (SSh.enc G F74b_0x0 (((), (u0, ())), ()))) (fun u0 u1 u2 => K (.exit 0) (SSh.enc G F74b_0x1 ((u0, (u1, ((), ()))), (u2, ())))) n x.1.1 x.1.2.1 x.1.2.2.2.1 x.2.1
theorem F74b_0_eq (n : Nat) (rc : Q74RC) (R : Type) (rec : SSh.den G F74b_0s → Option R) (x : SSh.den G F74b_0s) (K : AE → St G → Option R) :
  F74b_0_step n rc (fun u0 => K .ret (SSh.enc G F74b_0x0 (((), (u0, ())), ()))) (fun u0 u1 u2 => K (.exit 0) (SSh.enc G F74b_0x1 ((u0, (u1, ((), ()))), (u2, ())))) (fun x1167 x1168 x1169 x1170 => rec ((x1167, (x1168, ((), (x1169, ())))), (x1170, ()))) x.1.1 x.1.2.1 x.1.2.2.2.1 x.2.1 = exec prog G (ro G (tabOf (Q74L n rc)) (frOf []) R) 0 (codeAt F74bc [1, 1, 0, 1, 0, 0]) .no (SSh.enc G F74b_0s x) (kLoop G (ro G (tabOf (Q74L n rc)) (frOf []) R) 0 ⟨[0, 1, 6, 7], []⟩ F74b_0s ⟨⟨[0, 1, 6], []⟩, ⟨[4, 5], []⟩, [(0, ⟨[0, 1, 6], []⟩)]⟩ rec K) := by kernel_rfl
theorem F74b_0_ok (n : Nat) (rc : Q74RC) (h : AllE prog G (Q74L n rc)) : FragOK prog G 0 (codeAt F74bc [1, 1, 0, 1, 0]) (F74b_0z n rc) :=
  frag_loop (Z := fun R k (x : SSh.den G F74b_0s) K => F74b_0_it n rc (fun u0 => K .ret (SSh.enc G F74b_0x0 (((), (u0, ())), ()))) (fun u0 u1 u2 => K (.exit 0) (SSh.enc G F74b_0x1 ((u0, (u1, ((), ()))), (u2, ())))) k x.1.1 x.1.2.1 x.1.2.2.2.1 x.2.1) laws fnok h.tab (AllF.of (l := []) (by kernel_rfl) AllF.nil) (fun _ _ _ => rfl) (fun R k y K => F74b_0_eq n rc R (fun (x : SSh.den G F74b_0s) => F74b_0_it n rc (fun u0 => K .ret (SSh.enc G F74b_0x0 (((), (u0, ())), ()))) (fun u0 u1 u2 => K (.exit 0) (SSh.enc G F74b_0x1 ((u0, (u1, ((), ()))), (u2, ())))) k x.1.1 x.1.2.1 x.1.2.2.2.1 x.2.1) y K) n
noncomputable def F74b (n : Nat) (rc : Q74RC) (a1164 : List (List Int)) (a1165 : Int) : Option ((List Int × (Bool × Unit)) × Unit) :=
  (F74b_0 n rc a1164 a1165 (0 : Int) [] (fun z1184 =>
  some (([], (z1184, ())), ())) (fun z1185 z1186 z1187 =>
  let v1188 := []
  (bif (decide ((0 : Int) ≤ z1186)) then
  (bif (decide (z1186 < ((z1185.length) : Int))) then
  let v1190 := (z1185.getD (z1186.toNat) [])
  (bif (decide (((v1188.length) + (v1190.length)) ≤ (68719476736 : Nat))) then
  let v1192 := ((v1188 ++ v1190) :: [])
  (bif (decide (((z1187.length) + (v1192.length)) ≤ (68719476736 : Nat))) then
  (andThen (F91 n (z1187 ++ v1192)) fun r1194 =>
  (bif (!r1194.1.2.1) then
  some (([], (false, ())), ())
  else let v1196 := (z1186 :: [])
  (bif (decide (((v1196.length) + (r1194.1.1.length)) ≤ (68719476736 : Nat))) then
  some (((v1196 ++ r1194.1.1), (true, ())), ())
  else none)))
  else none)
  else none)
  else none)
  else none)))
noncomputable def F74be (n : Nat) (rc : Q74RC) : Ent G := ⟨74, (.cons (.imm 7) (.cons (.int .i64) .nil)), [], (.tup (.cons (.imm 0) (.cons .bool .nil))), [], fun x y => F74b n rc x.1 x.2.1⟩
theorem F74b_eq (n : Nat) (rc : Q74RC) (x : ShL.den G (.cons (.imm 7) (.cons (.int .i64) .nil))) (y : denO G []) : (F74be n rc).F x y = runFn prog G (ro G (tabOf (Q74L n rc)) (frOf [F74b_0z n rc]) _) Go.Proofs.Try.f74 (.nd .no (.nd .no (.nd (.nd .no (.nd (.use 0) .no)) .no))) [(0, .fz), (1, .fz)] (ShL.enc G (.cons (.imm 7) (.cons (.int .i64) .nil)) x) (encO G [] y) (decR (.tup (.cons (.imm 0) (.cons .bool .nil))) []) := by kernel_rfl
theorem F74b_ok (n : Nat) (rc : Q74RC) (h : AllE prog G (Q74L n rc)) : EntOK prog G (F74be n rc) :=
  ent_ok (fr := frOf [F74b_0z n rc]) (ann := (.nd .no (.nd .no (.nd (.nd .no (.nd (.use 0) .no)) .no)))) (frm := [(0, .fz), (1, .fz)]) laws fnok h.tab (e := F74be n rc) (fn := Go.Proofs.Try.f74) (by kernel_rfl) (AllF.ofB (cd := F74bc) (l := [(0, codeAt F74bc [1, 1, 0, 1, 0])]) (by kernel_rfl) (by kernel_rfl) (AllF.cons (F74b_0_ok n rc h) AllF.nil)) (F74b_eq n rc)
noncomputable def Q74it (n : Nat) : Nat → Q74RC
  | 0 => (fun _ _ => none, ())
  | k + 1 => (F74b n (Q74it n k), ())
theorem Q74it_ok (n : Nat) : ∀ k, AllE prog G (Q74L n (Q74it n k))
  | 0 => (AllE.cons (EntOK.none fun _ _ => rfl) (E43_ok n))
  | k + 1 => (AllE.cons (F74b_ok n _ (Q74it_ok n k)) (E43_ok n))
noncomputable def F74 (n : Nat) (a0 : List (List Int)) (a1 : Int) : Option ((List Int × (Bool × Unit)) × Unit) := (Q74it n n).1 a0 a1
noncomputable def F74e (n : Nat) : Ent G := ⟨74, (.cons (.imm 7) (.cons (.int .i64) .nil)), [], (.tup (.cons (.imm 0) (.cons .bool .nil))), [], fun x y => F74 n x.1 x.2.1⟩
noncomputable def E44 (n : Nat) : List (Ent G) := F74e n :: E43 n
theorem E44_ok (n : Nat) : AllE prog G (E44 n) := Q74it_ok n n
noncomputable def F63_0x0 : SSh := ⟨23, [(2, .bool)], []⟩
noncomputable def F63_0x1 : SSh := ⟨23, [], []⟩
noncomputable def F63_0s : SSh := ⟨23, [(0, (.imm 7)), (3, (.int .i64))], []⟩
noncomputable def F63_0_step {R : Type} (n : Nat) (k0 : Bool → Option R) (k1 : Option R) (rec : List (List Int) → Int → Option R) (x916 : List (List Int)) (x917 : Int) : Option R :=
  (bif (decide (x917 < ((x916.length) : Int))) then
  (andThen (F74 n x916 x917) fun r1198 =>
  (bif (!r1198.1.2.1) then
  (k0 false)
  else (rec x916 (IntKind.wrap .i64 (x917 + (1 : Int))))))
  else k1)
noncomputable def F63_0_it {R : Type} (n : Nat) (k0 : Bool → Option R) (k1 : Option R) : Nat → List (List Int) → Int → Option R
  | 0, _, _ => none
  | k + 1, x916, x917 => F63_0_step n k0 k1 (F63_0_it n k0 k1 k) x916 x917
noncomputable def F63_0 {R : Type} (n : Nat) (x916 : List (List Int)) (x917 : Int) (k0 : Bool → Option R) (k1 : Option R) : Option R := F63_0_it n k0 k1 n x916 x917
noncomputable def F63_0z (n : Nat) : Sm G := inZ G 0 ⟨[0, 3], []⟩ F63_0s fun R x K => F63_0_it n (fun u0 => K .ret (SSh.enc G F63_0x0 ((u0, ()), ()))) (K (.exit 0) (SSh.enc G F63_0x1 ((), ()))) n x.1.1 x.1.2.1
theorem F63_0_eq (n : Nat) (R : Type) (rec : SSh.den G F63_0s → Option R) (x : SSh.den G F63_0s) (K : AE → St G → Option R) :
  F63_0_step n (fun u0 => K .ret (SSh.enc G F63_0x0 ((u0, ()), ()))) (K (.exit 0) (SSh.enc G F63_0x1 ((), ()))) (fun x916 x917 => rec ((x916, (x917, ())), ())) x.1.1 x.1.2.1 = exec prog G (ro G (tabOf (E44 n)) (frOf []) R) 0 (codeAt F63c [1, 1, 0, 1, 0, 0]) .no (SSh.enc G F63_0s x) (kLoop G (ro G (tabOf (E44 n)) (frOf []) R) 0 ⟨[0, 3], []⟩ F63_0s ⟨⟨[], []⟩, ⟨[2], []⟩, [(0, ⟨[], []⟩)]⟩ rec K) := by kernel_rfl
theorem F63_0_ok (n : Nat) : FragOK prog G 0 (codeAt F63c [1, 1, 0, 1, 0]) (F63_0z n) :=
  frag_loop (Z := fun R k (x : SSh.den G F63_0s) K => F63_0_it n (fun u0 => K .ret (SSh.enc G F63_0x0 ((u0, ()), ()))) (K (.exit 0) (SSh.enc G F63_0x1 ((), ()))) k x.1.1 x.1.2.1) laws fnok (E44_ok n).tab (AllF.of (l := []) (by kernel_rfl) AllF.nil) (fun _ _ _ => rfl) (fun R k y K => F63_0_eq n R (fun (x : SSh.den G F63_0s) => F63_0_it n (fun u0 => K .ret (SSh.enc G F63_0x0 ((u0, ()), ()))) (K (.exit 0) (SSh.enc G F63_0x1 ((), ()))) k x.1.1 x.1.2.1) y K) n
noncomputable def F63 (n : Nat) (a868 : List (List Int)) : Option (Bool × Unit) :=
  (andThen (F84 n a868) fun r914 =>
  (bif (!r914.1) then
  some (false, ())
  else (F63_0 n a868 (0 : Int) (fun z1201 =>
  some (z1201, ())) (
  some (true, ())))))
noncomputable def F63e (n : Nat) : Ent G := ⟨63, (.cons (.imm 7) .nil), [], .bool, [], fun x y => F63 n x.1⟩
theorem F63_eq (n : Nat) (x : ShL.den G (.cons (.imm 7) .nil)) (y : denO G []) : (F63e n).F x y = runFn prog G (ro G (tabOf (E44 n)) (frOf [F63_0z n]) _) Go.Proofs.Try.f63 (.nd .no (.nd .no (.nd (.nd .no (.nd (.use 0) .no)) .no))) [(0, .fz)] (ShL.enc G (.cons (.imm 7) .nil) x) (encO G [] y) (decR .bool []) := by kernel_rfl
theorem F63_ok (n : Nat) : EntOK prog G (F63e n) :=
  ent_ok (fr := frOf [F63_0z n]) (ann := (.nd .no (.nd .no (.nd (.nd .no (.nd (.use 0) .no)) .no)))) (frm := [(0, .fz)]) laws fnok (E44_ok n).tab (e := F63e n) (fn := Go.Proofs.Try.f63) (by kernel_rfl) (AllF.ofB (cd := F63c) (l := [(0, codeAt F63c [1, 1, 0, 1, 0])]) (by kernel_rfl) (by kernel_rfl) (AllF.cons (F63_0_ok n) AllF.nil)) (F63_eq n)
noncomputable def E45 (n : Nat) : List (Ent G) := F63e n :: E44 n
theorem E45_ok (n : Nat) : AllE prog G (E45 n) := AllE.cons (F63_ok n) (E44_ok n)
-- 64 loop.example/slowworm/spec.validAttrs
noncomputable def F64c : Code := bodyOf Go.Proofs.Try.f64
-- 58 loop.example/slowworm/spec.validName
noncomputable def F58c : Code := bodyOf Go.Proofs.Try.f58
-- 80 loop.example/slowworm/spec.letter
noncomputable def F80c : Code := bodyOf Go.Proofs.Try.f80
noncomputable def F80 (n : Nat) (a1225 : Int) : Option (Bool × Unit) :=
  (bif (decide (a1225 ≥ (97 : Int))) then
  (bif (decide (a1225 ≤ (122 : Int))) then
  some (true, ())
  else (bif (decide (a1225 ≥ (65 : Int))) then
  (bif (decide (a1225 ≤ (90 : Int))) then
  some (true, ())
  else some ((a1225 == (95 : Int)), ()))
  else some ((a1225 == (95 : Int)), ())))
  else (bif (decide (a1225 ≥ (65 : Int))) then
  (bif (decide (a1225 ≤ (90 : Int))) then
  some (true, ())
  else some ((a1225 == (95 : Int)), ()))
  else some ((a1225 == (95 : Int)), ())))
noncomputable def F80e (n : Nat) : Ent G := ⟨80, (.cons (.int .u8) .nil), [], .bool, [], fun x y => F80 n x.1⟩
theorem F80_eq (n : Nat) (x : ShL.den G (.cons (.int .u8) .nil)) (y : denO G []) : (F80e n).F x y = runFn prog G (ro G (tabOf (E45 n)) (frOf []) _) Go.Proofs.Try.f80 .no [(0, .fz)] (ShL.enc G (.cons (.int .u8) .nil) x) (encO G [] y) (decR .bool []) := by kernel_rfl
theorem F80_ok (n : Nat) : EntOK prog G (F80e n) :=
  ent_ok (fr := frOf []) (ann := .no) (frm := [(0, .fz)]) laws fnok (E45_ok n).tab (e := F80e n) (fn := Go.Proofs.Try.f80) (by kernel_rfl) (AllF.ofB (cd := F80c) (l := []) (by kernel_rfl) (by kernel_rfl) AllF.nil) (F80_eq n)
noncomputable def E46 (n : Nat) : List (Ent G) := F80e n :: E45 n
theorem E46_ok (n : Nat) : AllE prog G (E46 n) := AllE.cons (F80_ok n) (E45_ok n)
-- 81 loop.example/slowworm/spec.digit
end Go.Proofs.Ytehcejlbfngfdaa.Am
