/- The functions of the seat of scripts, printed. -/
import Derived.Test.YtfelakjmajooaaaAmMiscSig
namespace Go.Proofs.Ytfelakjmajooaaa.Am
open Go Go.Proofs.Try
set_option autoImplicit false
set_option linter.unusedVariables false
set_option maxRecDepth 100000
noncomputable def E0 (n : Nat) : List (Ent G) := []
theorem E0_ok (n : Nat) : AllE prog G (E0 n) := AllE.nil
-- 4 loop.example/slowworm/laws.FnScriptsOk
noncomputable def F4c : Code := bodyOf Go.Proofs.Try.f4
-- 21 loop.example/slowworm/spec.DrawScriptsOk
noncomputable def F21c : Code := bodyOf Go.Proofs.Try.f21
-- 42 loop.example/slowworm/spec.newRnd
noncomputable def F42c : Code := bodyOf Go.Proofs.Try.f42
noncomputable def F42 (n : Nat) (a4 : List Int) : Option (Unit × ((List Int × (Int × Unit)) × Unit)) :=
  let v5 := ((a4.length) : Int)
  let v6 := (if ((4000 : Int) < v5) then (4000 : Int) else v5)
  (bif (decide ((0 : Int) ≤ v6)) then
  (bif (decide (v6 ≤ ((a4.length) : Int))) then
  some ((), ((((a4.take (v6.toNat)).drop (0 : Nat)), ((0 : Int), ())), ()))
  else none)
  else none)
noncomputable def F42e (n : Nat) : Ent G := ⟨42, (.cons (.imm 1) .nil), [], (.ptr 0 0), [(.box 84 (.cons (.imm 1) (.cons (.int .i64) .nil)))], fun x y => F42 n x.1⟩
theorem F42_eq (n : Nat) (x : ShL.den G (.cons (.imm 1) .nil)) (y : denO G []) : (F42e n).F x y = runFn prog G (ro G (tabOf (E0 n)) (frOf []) _) Go.Proofs.Try.f42 .no [(0, .fz)] (ShL.enc G (.cons (.imm 1) .nil) x) (encO G [] y) (decR (.ptr 0 0) [(.box 84 (.cons (.imm 1) (.cons (.int .i64) .nil)))]) := by kernel_rfl
theorem F42_ok (n : Nat) : EntOK prog G (F42e n) :=
  ent_ok (fr := frOf []) (ann := .no) (frm := [(0, .fz)]) laws fnok (E0_ok n).tab (e := F42e n) (fn := Go.Proofs.Try.f42) (by kernel_rfl) (AllF.ofB (cd := F42c) (l := []) (by kernel_rfl) (by kernel_rfl) AllF.nil) (F42_eq n)
noncomputable def E1 (n : Nat) : List (Ent G) := F42e n :: E0 n
theorem E1_ok (n : Nat) : AllE prog G (E1 n) := AllE.cons (F42_ok n) (E0_ok n)
-- 43 (*loop.example/slowworm/spec.rnd).scripts
noncomputable def F43c : Code := bodyOf Go.Proofs.Try.f43
-- 57 (*loop.example/slowworm/spec.rnd).pick
noncomputable def F57c : Code := bodyOf Go.Proofs.Try.f57
noncomputable def F57_0x0 : SSh := ⟨101, [(0, (.ptr 0 0)), (1, (.int .i64)), (5, (.int .i64))], [(.box 84 (.cons (.imm 1) (.cons (.int .i64) .nil)))]⟩
noncomputable def F57_0s : SSh := ⟨101, [(0, (.ptr 0 0)), (1, (.int .i64)), (5, (.int .i64))], [(.box 84 (.cons (.imm 1) (.cons (.int .i64) .nil)))]⟩
noncomputable def F57_0 {R : Type} (n : Nat) (x16 : Int) (x17 : Int) (x18 : List Int) (x19 : Int) (k0 : Int → Int → List Int → Int → Option R) : Option R :=
  (bif (decide (((x18.length) : Int) > (0 : Int))) then
  let v22 := ((x18.length) : Int)
  (bif (!(decide (v22 = (0 : Int)))) then
  let v23 := (x19.tmod v22)
  (bif (decide ((0 : Int) ≤ v23)) then
  (bif (decide (v23 < ((x18.length) : Int))) then
  let v26 := (IntKind.wrap .i64 (x18.getD (v23.toNat) (0 : Int)))
  (bif (decide (x16 > (256 : Int))) then
  let v31 := ((x18.length) : Int)
  (bif (!(decide (v31 = (0 : Int)))) then
  let v32 := ((IntKind.wrap .i64 ((IntKind.wrap .i64 (x19 * (7 : Int))) + (3 : Int))).tmod v31)
  (bif (decide ((0 : Int) ≤ v32)) then
  (bif (decide (v32 < ((x18.length) : Int))) then
  let v40 := ((x18.length) : Int)
  (bif (!(decide (v40 = (0 : Int)))) then
  let v43 := (IntKind.wrap .i64 ((IntKind.wrap .i64 ((IntKind.wrap .i64 ((IntKind.wrap .i64 (v26 * (131 : Int))) + (IntKind.wrap .i64 ((IntKind.wrap .i64 (x18.getD (v32.toNat) (0 : Int))) * (1117 : Int))))) + (IntKind.wrap .i64 (x19 * (29 : Int))))) + (IntKind.wrap .i64 ((IntKind.wrap .i64 (x19.tdiv v40)) * (53 : Int)))))
  (k0 x16 (IntKind.wrap .i64 ((((BitVec.ofInt (64 : Nat) v43) ^^^ (BitVec.ofInt (64 : Nat) (IntKind.wrap .i64 (v43.tdiv (64 : Int))))).toNat) : Int)) x18 x19)
  else none)
  else none)
  else none)
  else none)
  else (bif (decide (x19 ≥ ((x18.length) : Int))) then
  let v51 := ((x18.length) : Int)
  (bif (!(decide (v51 = (0 : Int)))) then
  let v52 := ((IntKind.wrap .i64 ((IntKind.wrap .i64 (x19 * (7 : Int))) + (3 : Int))).tmod v51)
  (bif (decide ((0 : Int) ≤ v52)) then
  (bif (decide (v52 < ((x18.length) : Int))) then
  let v60 := ((x18.length) : Int)
  (bif (!(decide (v60 = (0 : Int)))) then
  let v63 := (IntKind.wrap .i64 ((IntKind.wrap .i64 ((IntKind.wrap .i64 ((IntKind.wrap .i64 (v26 * (131 : Int))) + (IntKind.wrap .i64 ((IntKind.wrap .i64 (x18.getD (v52.toNat) (0 : Int))) * (1117 : Int))))) + (IntKind.wrap .i64 (x19 * (29 : Int))))) + (IntKind.wrap .i64 ((IntKind.wrap .i64 (x19.tdiv v60)) * (53 : Int)))))
  (k0 x16 (IntKind.wrap .i64 ((((BitVec.ofInt (64 : Nat) v63) ^^^ (BitVec.ofInt (64 : Nat) (IntKind.wrap .i64 (v63.tdiv (64 : Int))))).toNat) : Int)) x18 x19)
  else none)
  else none)
  else none)
  else none)
  else (k0 x16 v26 x18 x19)))
  else none)
  else none)
  else none)
  else (k0 x16 x17 x18 x19))
noncomputable def F57_0z (n : Nat) : Sm G := inZ G 1 ⟨[0, 1, 5], []⟩ F57_0s fun R x K => F57_0 n x.1.2.1 x.1.2.2.1 x.2.1.1 x.2.1.2.1 (fun u0 u1 u2 u3 => K .normal (SSh.enc G F57_0x0 (((), (u0, (u1, ()))), ((u2, (u3, ())), ()))))
theorem F57_0_eq (n : Nat) (R : Type) (x : SSh.den G F57_0s) (K : AE → St G → Option R) :
  F57_0 n x.1.2.1 x.1.2.2.1 x.2.1.1 x.2.1.2.1 (fun u0 u1 u2 u3 => K .normal (SSh.enc G F57_0x0 (((), (u0, (u1, ()))), ((u2, (u3, ())), ())))) = exec prog G (ro G (tabOf (E1 n)) (frOf []) R) 1 (codeAt F57c [1, 1, 1, 0]) .no (SSh.enc G F57_0s x) (kNrm G (ro G (tabOf (E1 n)) (frOf []) R) 1 ⟨⟨[0, 1, 5], []⟩, ⟨[4], []⟩, []⟩ K) := by kernel_rfl
theorem F57_0_ok (n : Nat) : FragOK prog G 1 (codeAt F57c [1, 1, 1, 0]) (F57_0z n) :=
  frag_plain laws fnok (E1_ok n).tab (AllF.of (l := []) (by kernel_rfl) AllF.nil) (F57_0_eq n)
noncomputable def F57 (n : Nat) (a12 : Int) (a13 : List Int) (a14 : Int) : Option (Int × ((List Int × (Int × Unit)) × Unit)) :=
  (bif (decide (a12 < (2 : Int))) then
  some ((0 : Int), ((a13, (a14, ())), ()))
  else (F57_0 n a12 (0 : Int) a13 a14 (fun z66 z67 z68 z69 =>
  (bif (!(decide (z66 = (0 : Int)))) then
  some ((z67.tmod z66), ((z68, ((IntKind.wrap .i64 (z69 + (1 : Int))), ())), ()))
  else none))))
noncomputable def F57e (n : Nat) : Ent G := ⟨57, (.cons (.ptr 0 0) (.cons (.int .i64) .nil)), [(.box 84 (.cons (.imm 1) (.cons (.int .i64) .nil)))], (.int .i64), [(.box 84 (.cons (.imm 1) (.cons (.int .i64) .nil)))], fun x y => F57 n x.2.1 y.1.1 y.1.2.1⟩
theorem F57_eq (n : Nat) (x : ShL.den G (.cons (.ptr 0 0) (.cons (.int .i64) .nil))) (y : denO G [(.box 84 (.cons (.imm 1) (.cons (.int .i64) .nil)))]) : (F57e n).F x y = runFn prog G (ro G (tabOf (E1 n)) (frOf [F57_0z n]) _) Go.Proofs.Try.f57 (.nd .no (.nd .no (.nd .no (.nd (.use 0) .no)))) [(0, .fz)] (ShL.enc G (.cons (.ptr 0 0) (.cons (.int .i64) .nil)) x) (encO G [(.box 84 (.cons (.imm 1) (.cons (.int .i64) .nil)))] y) (decR (.int .i64) [(.box 84 (.cons (.imm 1) (.cons (.int .i64) .nil)))]) := by kernel_rfl
theorem F57_ok (n : Nat) : EntOK prog G (F57e n) :=
  ent_ok (fr := frOf [F57_0z n]) (ann := (.nd .no (.nd .no (.nd .no (.nd (.use 0) .no))))) (frm := [(0, .fz)]) laws fnok (E1_ok n).tab (e := F57e n) (fn := Go.Proofs.Try.f57) (by kernel_rfl) (AllF.ofB (cd := F57c) (l := [(0, codeAt F57c [1, 1, 1, 0])]) (by kernel_rfl) (by kernel_rfl) (AllF.cons (F57_0_ok n) AllF.nil)) (F57_eq n)
noncomputable def E2 (n : Nat) : List (Ent G) := F57e n :: E1 n
theorem E2_ok (n : Nat) : AllE prog G (E2 n) := AllE.cons (F57_ok n) (E1_ok n)
-- 58 (*loop.example/slowworm/spec.rnd).one
noncomputable def F58c : Code := bodyOf Go.Proofs.Try.f58
noncomputable def F58 (n : Nat) (a98 : List Int) (a99 : List Int) (a100 : Int) : Option (Int × ((List Int × (Int × Unit)) × Unit)) :=
  (andThen (F57 n ((a98.length) : Int) a99 a100) fun r102 =>
  (bif (decide ((0 : Int) ≤ r102.1)) then
  (bif (decide (r102.1 < ((a98.length) : Int))) then
  some ((a98.getD (r102.1.toNat) (0 : Int)), ((r102.2.1.1, (r102.2.1.2.1, ())), ()))
  else none)
  else none))
noncomputable def F58e (n : Nat) : Ent G := ⟨58, (.cons (.ptr 0 0) (.cons (.imm 0) .nil)), [(.box 84 (.cons (.imm 1) (.cons (.int .i64) .nil)))], (.int .i64), [(.box 84 (.cons (.imm 1) (.cons (.int .i64) .nil)))], fun x y => F58 n x.2.1 y.1.1 y.1.2.1⟩
theorem F58_eq (n : Nat) (x : ShL.den G (.cons (.ptr 0 0) (.cons (.imm 0) .nil))) (y : denO G [(.box 84 (.cons (.imm 1) (.cons (.int .i64) .nil)))]) : (F58e n).F x y = runFn prog G (ro G (tabOf (E2 n)) (frOf []) _) Go.Proofs.Try.f58 .no [(0, .fz)] (ShL.enc G (.cons (.ptr 0 0) (.cons (.imm 0) .nil)) x) (encO G [(.box 84 (.cons (.imm 1) (.cons (.int .i64) .nil)))] y) (decR (.int .i64) [(.box 84 (.cons (.imm 1) (.cons (.int .i64) .nil)))]) := by kernel_rfl
theorem F58_ok (n : Nat) : EntOK prog G (F58e n) :=
  ent_ok (fr := frOf []) (ann := .no) (frm := [(0, .fz)]) laws fnok (E2_ok n).tab (e := F58e n) (fn := Go.Proofs.Try.f58) (by kernel_rfl) (AllF.ofB (cd := F58c) (l := []) (by kernel_rfl) (by kernel_rfl) AllF.nil) (F58_eq n)
noncomputable def E3 (n : Nat) : List (Ent G) := F58e n :: E2 n
theorem E3_ok (n : Nat) : AllE prog G (E3 n) := AllE.cons (F58_ok n) (E2_ok n)
noncomputable def F43_0x0 : SSh := ⟨62, [(0, (.ptr 0 0)), (3, (.own 1)), (4, (.int .i64)), (5, (.int .i64)), (6, (.own 2)), (7, (.int .i64)), (8, (.int .i64)), (9, (.int .i64)), (31, (.int .i64)), (37, .bool)], [(.box 84 (.cons (.imm 1) (.cons (.int .i64) .nil))), (.arr 3 true), (.arr 2 true)]⟩
noncomputable def F43_0s : SSh := ⟨62, [(0, (.ptr 0 0)), (3, (.own 1)), (4, (.int .i64)), (5, (.int .i64)), (6, (.own 2)), (7, (.int .i64)), (8, (.int .i64)), (9, (.int .i64)), (31, (.int .i64))], [(.box 84 (.cons (.imm 1) (.cons (.int .i64) .nil))), (.arr 3 true), (.arr 2 true)]⟩
noncomputable def F43_0 {R : Type} (n : Nat) (x118 : Int) (x119 : Int) (x120 : Int) (x121 : Int) (x122 : Int) (x123 : Int) (x124 : List Int) (x125 : Int) (x126 : List (List Act)) (x127 : List Act) (k0 : Int → Int → Int → Int → Int → Int → Bool → List Int → Int → List (List Act) → List Act → Option R) : Option R :=
  (bif (x123 == (4 : Int)) then
  (k0 x118 x119 x120 x121 x122 x123 true x124 x125 x126 x127)
  else (bif (x123 == (5 : Int)) then
  (k0 x118 x119 x120 x121 x122 x123 true x124 x125 x126 x127)
  else (k0 x118 x119 x120 x121 x122 x123 (x123 == (6 : Int)) x124 x125 x126 x127)))
noncomputable def F43_0z (n : Nat) : Sm G := inZ G 1 ⟨[0, 3, 4, 5, 6, 7, 8, 9, 31], []⟩ F43_0s fun R x K => F43_0 n x.1.2.2.1 x.1.2.2.2.1 x.1.2.2.2.2.2.1 x.1.2.2.2.2.2.2.1 x.1.2.2.2.2.2.2.2.1 x.1.2.2.2.2.2.2.2.2.1 x.2.1.1 x.2.1.2.1 x.2.2.1 x.2.2.2.1 (fun u0 u1 u2 u3 u4 u5 u6 u7 u8 u9 u10 => K .normal (SSh.enc G F43_0x0 (((), ((), (u0, (u1, ((), (u2, (u3, (u4, (u5, (u6, ())))))))))), ((u7, (u8, ())), (u9, (u10, ()))))))
theorem F43_0_eq (n : Nat) (R : Type) (x : SSh.den G F43_0s) (K : AE → St G → Option R) :
  F43_0 n x.1.2.2.1 x.1.2.2.2.1 x.1.2.2.2.2.2.1 x.1.2.2.2.2.2.2.1 x.1.2.2.2.2.2.2.2.1 x.1.2.2.2.2.2.2.2.2.1 x.2.1.1 x.2.1.2.1 x.2.2.1 x.2.2.2.1 (fun u0 u1 u2 u3 u4 u5 u6 u7 u8 u9 u10 => K .normal (SSh.enc G F43_0x0 (((), ((), (u0, (u1, ((), (u2, (u3, (u4, (u5, (u6, ())))))))))), ((u7, (u8, ())), (u9, (u10, ())))))) = exec prog G (ro G (tabOf (E3 n)) (frOf []) R) 1 (codeAt F43c [1, 1, 1, 0, 1, 0, 0, 1, 0, 0, 1, 0, 1, 0, 0, 1, 0, 0, 1, 1, 0, 1, 0, 1, 1, 0]) .no (SSh.enc G F43_0s x) (kNrm G (ro G (tabOf (E3 n)) (frOf []) R) 1 ⟨⟨[0, 3, 4, 5, 6, 7, 8, 9, 31, 37], []⟩, ⟨[2], []⟩, [(4, ⟨[0, 3, 4, 5, 6, 7, 8, 9], []⟩), (3, ⟨[0, 3, 4, 5, 6, 7], []⟩), (2, ⟨[0, 3, 4, 5, 6], []⟩), (1, ⟨[0, 3, 4, 5], []⟩), (0, ⟨[3], []⟩)]⟩ K) := by kernel_rfl
theorem F43_0_ok (n : Nat) : FragOK prog G 1 (codeAt F43c [1, 1, 1, 0, 1, 0, 0, 1, 0, 0, 1, 0, 1, 0, 0, 1, 0, 0, 1, 1, 0, 1, 0, 1, 1, 0]) (F43_0z n) :=
  frag_plain laws fnok (E3_ok n).tab (AllF.of (l := []) (by kernel_rfl) AllF.nil) (F43_0_eq n)
noncomputable def F43_1x0 : SSh := ⟨62, [(0, (.ptr 0 0)), (3, (.own 1)), (4, (.int .i64)), (5, (.int .i64)), (6, (.own 2)), (7, (.int .i64)), (8, (.int .i64)), (9, (.int .i64))], [(.box 84 (.cons (.imm 1) (.cons (.int .i64) .nil))), (.arr 3 true), (.arr 2 true)]⟩
noncomputable def F43_1s : SSh := ⟨62, [(0, (.ptr 0 0)), (3, (.own 1)), (4, (.int .i64)), (5, (.int .i64)), (6, (.own 2)), (7, (.int .i64)), (8, (.int .i64)), (9, (.int .i64))], [(.box 84 (.cons (.imm 1) (.cons (.int .i64) .nil))), (.arr 3 true), (.arr 2 true)]⟩
noncomputable def F43_1 {R : Type} (n : Nat) (x107 : Int) (x108 : Int) (x109 : Int) (x110 : Int) (x111 : Int) (x112 : List Int) (x113 : Int) (x114 : List (List Act)) (x115 : List Act) (k0 : Int → Int → Int → Int → Int → List Int → Int → List (List Act) → List Act → Option R) : Option R :=
  (bif (x110 == (3 : Int)) then
  (andThen (F57 n x107 x112 x113) fun r117 =>
  (k0 x107 x108 x109 x110 r117.1 r117.2.1.1 r117.2.1.2.1 x114 x115))
  else (F43_0 n x107 x108 x109 x110 x111 x110 x112 x113 x114 x115 (fun z131 z132 z133 z134 z135 z136 z137 z138 z139 z140 z141 =>
  (bif z137 then
  (andThen (F57 n (2 : Int) z138 z139) fun r142 =>
  (k0 z131 z132 z133 z134 r142.1 r142.2.1.1 r142.2.1.2.1 z140 z141))
  else (bif (z136 == (2 : Int)) then
  (andThen (F57 n (6 : Int) z138 z139) fun r144 =>
  (k0 z131 z132 z133 z134 r144.1 r144.2.1.1 r144.2.1.2.1 z140 z141))
  else (k0 z131 z132 z133 z134 z135 z138 z139 z140 z141))))))
noncomputable def F43_1z (n : Nat) : Sm G := inZ G 1 ⟨[0, 3, 4, 5, 6, 7, 8, 9], []⟩ F43_1s fun R x K => F43_1 n x.1.2.2.1 x.1.2.2.2.1 x.1.2.2.2.2.2.1 x.1.2.2.2.2.2.2.1 x.1.2.2.2.2.2.2.2.1 x.2.1.1 x.2.1.2.1 x.2.2.1 x.2.2.2.1 (fun u0 u1 u2 u3 u4 u5 u6 u7 u8 => K .normal (SSh.enc G F43_1x0 (((), ((), (u0, (u1, ((), (u2, (u3, (u4, ())))))))), ((u5, (u6, ())), (u7, (u8, ()))))))
theorem F43_1_eq (n : Nat) (R : Type) (x : SSh.den G F43_1s) (K : AE → St G → Option R) :
  F43_1 n x.1.2.2.1 x.1.2.2.2.1 x.1.2.2.2.2.2.1 x.1.2.2.2.2.2.2.1 x.1.2.2.2.2.2.2.2.1 x.2.1.1 x.2.1.2.1 x.2.2.1 x.2.2.2.1 (fun u0 u1 u2 u3 u4 u5 u6 u7 u8 => K .normal (SSh.enc G F43_1x0 (((), ((), (u0, (u1, ((), (u2, (u3, (u4, ())))))))), ((u5, (u6, ())), (u7, (u8, ())))))) = exec prog G (ro G (tabOf (E3 n)) (frOf [F43_0z n]) R) 1 (codeAt F43c [1, 1, 1, 0, 1, 0, 0, 1, 0, 0, 1, 0, 1, 0, 0, 1, 0, 0, 1, 1, 0]) (.nd .no (.nd (.nd .no (.nd .no (.nd (.use 0) .no))) .no)) (SSh.enc G F43_1s x) (kNrm G (ro G (tabOf (E3 n)) (frOf [F43_0z n]) R) 1 ⟨⟨[0, 3, 4, 5, 6, 7, 8, 9], []⟩, ⟨[2], []⟩, [(3, ⟨[0, 3, 4, 5, 6, 7], []⟩), (2, ⟨[0, 3, 4, 5, 6], []⟩), (1, ⟨[0, 3, 4, 5], []⟩), (0, ⟨[3], []⟩)]⟩ K) := by kernel_rfl
theorem F43_1_ok (n : Nat) : FragOK prog G 1 (codeAt F43c [1, 1, 1, 0, 1, 0, 0, 1, 0, 0, 1, 0, 1, 0, 0, 1, 0, 0, 1, 1, 0]) (F43_1z n) :=
  frag_plain laws fnok (E3_ok n).tab (AllF.of (l := [(0, codeAt F43c [1, 1, 1, 0, 1, 0, 0, 1, 0, 0, 1, 0, 1, 0, 0, 1, 0, 0, 1, 1, 0, 1, 0, 1, 1, 0])]) (by kernel_rfl) (AllF.cons (F43_0_ok n) AllF.nil)) (F43_1_eq n)
-- 59 (*loop.example/slowworm/spec.rnd).often
noncomputable def F59c : Code := bodyOf Go.Proofs.Try.f59
-- 64 (*loop.example/slowworm/spec.rnd).odd
noncomputable def F64c : Code := bodyOf Go.Proofs.Try.f64
noncomputable def F64 (n : Nat) (a159 : List Int) (a160 : Int) : Option (Int × ((List Int × (Int × Unit)) × Unit)) :=
  (andThen (F58 n ((-1 : Int) :: ((4611686018427387904 : Int) :: ((-4611686018427387904 : Int) :: ((1001 : Int) :: ((7 : Int) :: ((1000001 : Int) :: ((-9223372036854775808 : Int) :: ((9223372036854775807 : Int) :: [])))))))) a159 a160) fun r162 =>
  some (r162.1, ((r162.2.1.1, (r162.2.1.2.1, ())), ())))
noncomputable def F64e (n : Nat) : Ent G := ⟨64, (.cons (.ptr 0 0) .nil), [(.box 84 (.cons (.imm 1) (.cons (.int .i64) .nil)))], (.int .i64), [(.box 84 (.cons (.imm 1) (.cons (.int .i64) .nil)))], fun x y => F64 n y.1.1 y.1.2.1⟩
theorem F64_eq (n : Nat) (x : ShL.den G (.cons (.ptr 0 0) .nil)) (y : denO G [(.box 84 (.cons (.imm 1) (.cons (.int .i64) .nil)))]) : (F64e n).F x y = runFn prog G (ro G (tabOf (E3 n)) (frOf []) _) Go.Proofs.Try.f64 .no [(0, .fz)] (ShL.enc G (.cons (.ptr 0 0) .nil) x) (encO G [(.box 84 (.cons (.imm 1) (.cons (.int .i64) .nil)))] y) (decR (.int .i64) [(.box 84 (.cons (.imm 1) (.cons (.int .i64) .nil)))]) := by kernel_rfl
theorem F64_ok (n : Nat) : EntOK prog G (F64e n) :=
  ent_ok (fr := frOf []) (ann := .no) (frm := [(0, .fz)]) laws fnok (E3_ok n).tab (e := F64e n) (fn := Go.Proofs.Try.f64) (by kernel_rfl) (AllF.ofB (cd := F64c) (l := []) (by kernel_rfl) (by kernel_rfl) AllF.nil) (F64_eq n)
noncomputable def E4 (n : Nat) : List (Ent G) := F64e n :: E3 n
theorem E4_ok (n : Nat) : AllE prog G (E4 n) := AllE.cons (F64_ok n) (E3_ok n)
noncomputable def F59 (n : Nat) (a154 : Int) (a155 : List Int) (a156 : Int) : Option (Int × ((List Int × (Int × Unit)) × Unit)) :=
  (andThen (F57 n (16 : Int) a155 a156) fun r157 =>
  (bif (r157.1 == (0 : Int)) then
  (andThen (F64 n r157.2.1.1 r157.2.1.2.1) fun r163 =>
  some (r163.1, ((r163.2.1.1, (r163.2.1.2.1, ())), ())))
  else some (a154, ((r157.2.1.1, (r157.2.1.2.1, ())), ()))))
noncomputable def F59e (n : Nat) : Ent G := ⟨59, (.cons (.ptr 0 0) (.cons (.int .i64) .nil)), [(.box 84 (.cons (.imm 1) (.cons (.int .i64) .nil)))], (.int .i64), [(.box 84 (.cons (.imm 1) (.cons (.int .i64) .nil)))], fun x y => F59 n x.2.1 y.1.1 y.1.2.1⟩
theorem F59_eq (n : Nat) (x : ShL.den G (.cons (.ptr 0 0) (.cons (.int .i64) .nil))) (y : denO G [(.box 84 (.cons (.imm 1) (.cons (.int .i64) .nil)))]) : (F59e n).F x y = runFn prog G (ro G (tabOf (E4 n)) (frOf []) _) Go.Proofs.Try.f59 .no [(0, .fz)] (ShL.enc G (.cons (.ptr 0 0) (.cons (.int .i64) .nil)) x) (encO G [(.box 84 (.cons (.imm 1) (.cons (.int .i64) .nil)))] y) (decR (.int .i64) [(.box 84 (.cons (.imm 1) (.cons (.int .i64) .nil)))]) := by kernel_rfl
theorem F59_ok (n : Nat) : EntOK prog G (F59e n) :=
  ent_ok (fr := frOf []) (ann := .no) (frm := [(0, .fz)]) laws fnok (E4_ok n).tab (e := F59e n) (fn := Go.Proofs.Try.f59) (by kernel_rfl) (AllF.ofB (cd := F59c) (l := []) (by kernel_rfl) (by kernel_rfl) AllF.nil) (F59_eq n)
noncomputable def E5 (n : Nat) : List (Ent G) := F59e n :: E4 n
theorem E5_ok (n : Nat) : AllE prog G (E5 n) := AllE.cons (F59_ok n) (E4_ok n)
noncomputable def F43_2x0 : SSh := ⟨62, [(0, (.ptr 0 0)), (3, (.own 1)), (4, (.int .i64)), (5, (.int .i64)), (6, (.own 2)), (7, (.int .i64))], [(.box 84 (.cons (.imm 1) (.cons (.int .i64) .nil))), (.arr 3 true), (.arr 2 true)]⟩
noncomputable def F43_2s : SSh := ⟨62, [(0, (.ptr 0 0)), (3, (.own 1)), (4, (.int .i64)), (5, (.int .i64)), (6, (.own 2)), (7, (.int .i64))], [(.box 84 (.cons (.imm 1) (.cons (.int .i64) .nil))), (.arr 3 true), (.arr 2 true)]⟩
noncomputable def F43_2 {R : Type} (n : Nat) (x90 : Int) (x91 : Int) (x92 : Int) (x93 : List Int) (x94 : Int) (x95 : List (List Act)) (x96 : List Act) (k0 : Int → Int → Int → List Int → Int → List (List Act) → List Act → Option R) : Option R :=
  (andThen (F58 n ((1 : Int) :: ((1 : Int) :: ((2 : Int) :: ((3 : Int) :: ((3 : Int) :: ((4 : Int) :: ((4 : Int) :: ((5 : Int) :: ((6 : Int) :: ((7 : Int) :: [])))))))))) x93 x94) fun r105 =>
  (andThen (F57 n (9 : Int) r105.2.1.1 r105.2.1.2.1) fun r106 =>
  (F43_1 n x90 x91 x92 r105.1 r106.1 r106.2.1.1 r106.2.1.2.1 x95 x96 (fun z145 z146 z147 z148 z149 z150 z151 z152 z153 =>
  (andThen (F59 n z148 z150 z151) fun r164 =>
  (andThen (F59 n z149 r164.2.1.1 r164.2.1.2.1) fun r165 =>
  let v166 := ((Act.mk r164.1 r165.1) :: [])
  (bif (decide (((z153.length) + (v166.length)) ≤ (68719476736 : Nat))) then
  (k0 z145 z146 z147 r165.2.1.1 r165.2.1.2.1 z152 (z153 ++ v166))
  else none)))))))
noncomputable def F43_2z (n : Nat) : Sm G := inZ G 1 ⟨[0, 3, 4, 5, 6, 7], []⟩ F43_2s fun R x K => F43_2 n x.1.2.2.1 x.1.2.2.2.1 x.1.2.2.2.2.2.1 x.2.1.1 x.2.1.2.1 x.2.2.1 x.2.2.2.1 (fun u0 u1 u2 u3 u4 u5 u6 => K .normal (SSh.enc G F43_2x0 (((), ((), (u0, (u1, ((), (u2, ())))))), ((u3, (u4, ())), (u5, (u6, ()))))))
theorem F43_2_eq (n : Nat) (R : Type) (x : SSh.den G F43_2s) (K : AE → St G → Option R) :
  F43_2 n x.1.2.2.1 x.1.2.2.2.1 x.1.2.2.2.2.2.1 x.2.1.1 x.2.1.2.1 x.2.2.1 x.2.2.2.1 (fun u0 u1 u2 u3 u4 u5 u6 => K .normal (SSh.enc G F43_2x0 (((), ((), (u0, (u1, ((), (u2, ())))))), ((u3, (u4, ())), (u5, (u6, ())))))) = exec prog G (ro G (tabOf (E5 n)) (frOf [F43_0z n, F43_1z n]) R) 1 (codeAt F43c [1, 1, 1, 0, 1, 0, 0, 1, 0, 0, 1, 0, 1, 0, 0, 1, 0]) (.nd (.nd .no (.nd .no (.nd (.use 1) .no))) .no) (SSh.enc G F43_2s x) (kNrm G (ro G (tabOf (E5 n)) (frOf [F43_0z n, F43_1z n]) R) 1 ⟨⟨[0, 3, 4, 5, 6, 7], []⟩, ⟨[2], []⟩, [(2, ⟨[0, 3, 4, 5, 6], []⟩), (1, ⟨[0, 3, 4, 5], []⟩), (0, ⟨[3], []⟩)]⟩ K) := by kernel_rfl
theorem F43_2_ok (n : Nat) : FragOK prog G 1 (codeAt F43c [1, 1, 1, 0, 1, 0, 0, 1, 0, 0, 1, 0, 1, 0, 0, 1, 0]) (F43_2z n) :=
  frag_plain laws fnok (E5_ok n).tab (AllF.of (l := [(1, codeAt F43c [1, 1, 1, 0, 1, 0, 0, 1, 0, 0, 1, 0, 1, 0, 0, 1, 0, 0, 1, 1, 0])]) (by kernel_rfl) (AllF.cons (F43_1_ok n) AllF.nil)) (F43_2_eq n)
noncomputable def F43_3x0 : SSh := ⟨62, [(0, (.ptr 0 0)), (3, (.own 1)), (4, (.int .i64)), (5, (.int .i64)), (6, (.own 2))], [(.box 84 (.cons (.imm 1) (.cons (.int .i64) .nil))), (.arr 3 true), (.arr 2 true)]⟩
noncomputable def F43_3s : SSh := ⟨62, [(0, (.ptr 0 0)), (3, (.own 1)), (4, (.int .i64)), (5, (.int .i64)), (6, (.own 2)), (7, (.int .i64))], [(.box 84 (.cons (.imm 1) (.cons (.int .i64) .nil))), (.arr 3 true), (.arr 2 true)]⟩
noncomputable def F43_3_step {R : Type} (n : Nat) (k0 : Int → Int → List Int → Int → List (List Act) → List Act → Option R) (rec : Int → Int → Int → List Int → Int → List (List Act) → List Act → Option R) (x82 : Int) (x83 : Int) (x84 : Int) (x85 : List Int) (x86 : Int) (x87 : List (List Act)) (x88 : List Act) : Option R :=
  (bif (decide (x84 > (0 : Int))) then
  (F43_2 n x82 x83 x84 x85 x86 x87 x88 (fun z168 z169 z170 z171 z172 z173 z174 =>
  (rec z168 z169 (IntKind.wrap .i64 (z170 - (1 : Int))) z171 z172 z173 z174)))
  else (k0 x82 x83 x85 x86 x87 x88))
noncomputable def F43_3_it {R : Type} (n : Nat) (k0 : Int → Int → List Int → Int → List (List Act) → List Act → Option R) : Nat → Int → Int → Int → List Int → Int → List (List Act) → List Act → Option R
  | 0, _, _, _, _, _, _, _ => none
  | k + 1, x82, x83, x84, x85, x86, x87, x88 => F43_3_step n k0 (F43_3_it n k0 k) x82 x83 x84 x85 x86 x87 x88
noncomputable def F43_3 {R : Type} (n : Nat) (x82 : Int) (x83 : Int) (x84 : Int) (x85 : List Int) (x86 : Int) (x87 : List (List Act)) (x88 : List Act) (k0 : Int → Int → List Int → Int → List (List Act) → List Act → Option R) : Option R := F43_3_it n k0 n x82 x83 x84 x85 x86 x87 x88
noncomputable def F43_3z (n : Nat) : Sm G := inZ G 1 ⟨[0, 3, 4, 5, 6, 7], []⟩ F43_3s fun R x K => F43_3_it n (fun u0 u1 u2 u3 u4 u5 => K (.exit 2) (SSh.enc G F43_3x0 (((), ((), (u0, (u1, ((), ()))))), ((u2, (u3, ())), (u4, (u5, ())))))) n x.1.2.2.1 x.1.2.2.2.1 x.1.2.2.2.2.2.1 x.2.1.1 x.2.1.2.1 x.2.2.1 x.2.2.2.1
theorem F43_3_eq (n : Nat) (R : Type) (rec : SSh.den G F43_3s → Option R) (x : SSh.den G F43_3s) (K : AE → St G → Option R) :
  F43_3_step n (fun u0 u1 u2 u3 u4 u5 => K (.exit 2) (SSh.enc G F43_3x0 (((), ((), (u0, (u1, ((), ()))))), ((u2, (u3, ())), (u4, (u5, ())))))) (fun x82 x83 x84 x85 x86 x87 x88 => rec (((), ((), (x82, (x83, ((), (x84, ())))))), ((x85, (x86, ())), (x87, (x88, ()))))) x.1.2.2.1 x.1.2.2.2.1 x.1.2.2.2.2.2.1 x.2.1.1 x.2.1.2.1 x.2.2.1 x.2.2.2.1 = exec prog G (ro G (tabOf (E5 n)) (frOf [F43_0z n, F43_1z n, F43_2z n]) R) 1 (codeAt F43c [1, 1, 1, 0, 1, 0, 0, 1, 0, 0, 1, 0, 1, 0, 0]) (.nd .no (.nd (.use 2) .no)) (SSh.enc G F43_3s x) (kLoop G (ro G (tabOf (E5 n)) (frOf [F43_0z n, F43_1z n, F43_2z n]) R) 1 ⟨[0, 3, 4, 5, 6, 7], []⟩ F43_3s ⟨⟨[0, 3, 4, 5, 6], []⟩, ⟨[2], []⟩, [(2, ⟨[0, 3, 4, 5, 6], []⟩), (1, ⟨[0, 3, 4, 5], []⟩), (0, ⟨[3], []⟩)]⟩ rec K) := by kernel_rfl
theorem F43_3_ok (n : Nat) : FragOK prog G 1 (codeAt F43c [1, 1, 1, 0, 1, 0, 0, 1, 0, 0, 1, 0, 1, 0]) (F43_3z n) :=
  frag_loop (Z := fun R k (x : SSh.den G F43_3s) K => F43_3_it n (fun u0 u1 u2 u3 u4 u5 => K (.exit 2) (SSh.enc G F43_3x0 (((), ((), (u0, (u1, ((), ()))))), ((u2, (u3, ())), (u4, (u5, ())))))) k x.1.2.2.1 x.1.2.2.2.1 x.1.2.2.2.2.2.1 x.2.1.1 x.2.1.2.1 x.2.2.1 x.2.2.2.1) laws fnok (E5_ok n).tab (AllF.of (l := [(2, codeAt F43c [1, 1, 1, 0, 1, 0, 0, 1, 0, 0, 1, 0, 1, 0, 0, 1, 0])]) (by kernel_rfl) (AllF.cons (F43_2_ok n) AllF.nil)) (fun _ _ _ => rfl) (fun R k y K => F43_3_eq n R (fun (x : SSh.den G F43_3s) => F43_3_it n (fun u0 u1 u2 u3 u4 u5 => K (.exit 2) (SSh.enc G F43_3x0 (((), ((), (u0, (u1, ((), ()))))), ((u2, (u3, ())), (u4, (u5, ())))))) k x.1.2.2.1 x.1.2.2.2.1 x.1.2.2.2.2.2.1 x.2.1.1 x.2.1.2.1 x.2.2.1 x.2.2.2.1) y K) n
noncomputable def F43_4x0 : SSh := ⟨62, [(3, (.own 1))], [(.box 84 (.cons (.imm 1) (.cons (.int .i64) .nil))), (.arr 3 true)]⟩
noncomputable def F43_4s : SSh := ⟨62, [(0, (.ptr 0 0)), (3, (.own 1)), (4, (.int .i64)), (5, (.int .i64))], [(.box 84 (.cons (.imm 1) (.cons (.int .i64) .nil))), (.arr 3 true)]⟩
noncomputable def F43_4_step {R : Type} (n : Nat) (k0 : List Int → Int → List (List Act) → Option R) (rec : Int → Int → List Int → Int → List (List Act) → Option R) (x74 : Int) (x75 : Int) (x76 : List Int) (x77 : Int) (x78 : List (List Act)) : Option R :=
  (bif (decide (x75 < x74)) then
  (andThen (F57 n (7 : Int) x76 x77) fun r81 =>
  (F43_3 n x74 x75 r81.1 r81.2.1.1 r81.2.1.2.1 x78 [] (fun z176 z177 z178 z179 z180 z181 =>
  let v182 := (z181 :: [])
  (bif (decide (((z180.length) + (v182.length)) ≤ (68719476736 : Nat))) then
  (rec z176 (IntKind.wrap .i64 (z177 + (1 : Int))) z178 z179 (z180 ++ v182))
  else none))))
  else (k0 x76 x77 x78))
noncomputable def F43_4_it {R : Type} (n : Nat) (k0 : List Int → Int → List (List Act) → Option R) : Nat → Int → Int → List Int → Int → List (List Act) → Option R
  | 0, _, _, _, _, _ => none
  | k + 1, x74, x75, x76, x77, x78 => F43_4_step n k0 (F43_4_it n k0 k) x74 x75 x76 x77 x78
noncomputable def F43_4 {R : Type} (n : Nat) (x74 : Int) (x75 : Int) (x76 : List Int) (x77 : Int) (x78 : List (List Act)) (k0 : List Int → Int → List (List Act) → Option R) : Option R := F43_4_it n k0 n x74 x75 x76 x77 x78
noncomputable def F43_4z (n : Nat) : Sm G := inZ G 1 ⟨[0, 3, 4, 5], []⟩ F43_4s fun R x K => F43_4_it n (fun u0 u1 u2 => K (.exit 0) (SSh.enc G F43_4x0 (((), ()), ((u0, (u1, ())), (u2, ()))))) n x.1.2.2.1 x.1.2.2.2.1 x.2.1.1 x.2.1.2.1 x.2.2.1
theorem F43_4_eq (n : Nat) (R : Type) (rec : SSh.den G F43_4s → Option R) (x : SSh.den G F43_4s) (K : AE → St G → Option R) :
  F43_4_step n (fun u0 u1 u2 => K (.exit 0) (SSh.enc G F43_4x0 (((), ()), ((u0, (u1, ())), (u2, ()))))) (fun x74 x75 x76 x77 x78 => rec (((), ((), (x74, (x75, ())))), ((x76, (x77, ())), (x78, ())))) x.1.2.2.1 x.1.2.2.2.1 x.2.1.1 x.2.1.2.1 x.2.2.1 = exec prog G (ro G (tabOf (E5 n)) (frOf [F43_0z n, F43_1z n, F43_2z n, F43_3z n]) R) 1 (codeAt F43c [1, 1, 1, 0, 1, 0, 0]) (.nd .no (.nd (.nd (.nd .no (.nd (.nd .no (.nd (.use 3) .no)) .no)) .no) .no)) (SSh.enc G F43_4s x) (kLoop G (ro G (tabOf (E5 n)) (frOf [F43_0z n, F43_1z n, F43_2z n, F43_3z n]) R) 1 ⟨[0, 3, 4, 5], []⟩ F43_4s ⟨⟨[3], []⟩, ⟨[2], []⟩, [(0, ⟨[3], []⟩)]⟩ rec K) := by kernel_rfl
theorem F43_4_ok (n : Nat) : FragOK prog G 1 (codeAt F43c [1, 1, 1, 0, 1, 0]) (F43_4z n) :=
  frag_loop (Z := fun R k (x : SSh.den G F43_4s) K => F43_4_it n (fun u0 u1 u2 => K (.exit 0) (SSh.enc G F43_4x0 (((), ()), ((u0, (u1, ())), (u2, ()))))) k x.1.2.2.1 x.1.2.2.2.1 x.2.1.1 x.2.1.2.1 x.2.2.1) laws fnok (E5_ok n).tab (AllF.of (l := [(3, codeAt F43c [1, 1, 1, 0, 1, 0, 0, 1, 0, 0, 1, 0, 1, 0])]) (by kernel_rfl) (AllF.cons (F43_3_ok n) AllF.nil)) (fun _ _ _ => rfl) (fun R k y K => F43_4_eq n R (fun (x : SSh.den G F43_4s) => F43_4_it n (fun u0 u1 u2 => K (.exit 0) (SSh.enc G F43_4x0 (((), ()), ((u0, (u1, ())), (u2, ()))))) k x.1.2.2.1 x.1.2.2.2.1 x.2.1.1 x.2.1.2.1 x.2.2.1) y K) n
noncomputable def F43 (n : Nat) (a9 : List Int) (a10 : Int) : Option (List (List Act) × ((List Int × (Int × Unit)) × Unit)) :=
  (andThen (F57 n (4 : Int) a9 a10) fun r72 =>
  (F43_4 n (IntKind.wrap .i64 ((1 : Int) + r72.1)) (0 : Int) r72.2.1.1 r72.2.1.2.1 [] (fun z185 z186 z187 =>
  some (z187, ((z185, (z186, ())), ())))))
noncomputable def F43e (n : Nat) : Ent G := ⟨43, (.cons (.ptr 0 0) .nil), [(.box 84 (.cons (.imm 1) (.cons (.int .i64) .nil)))], (.imm 3), [(.box 84 (.cons (.imm 1) (.cons (.int .i64) .nil)))], fun x y => F43 n y.1.1 y.1.2.1⟩
theorem F43_eq (n : Nat) (x : ShL.den G (.cons (.ptr 0 0) .nil)) (y : denO G [(.box 84 (.cons (.imm 1) (.cons (.int .i64) .nil)))]) : (F43e n).F x y = runFn prog G (ro G (tabOf (E5 n)) (frOf [F43_0z n, F43_1z n, F43_2z n, F43_3z n, F43_4z n]) _) Go.Proofs.Try.f43 (.nd .no (.nd .no (.nd .no (.nd (.nd .no (.nd (.use 4) .no)) .no)))) [(0, .fz)] (ShL.enc G (.cons (.ptr 0 0) .nil) x) (encO G [(.box 84 (.cons (.imm 1) (.cons (.int .i64) .nil)))] y) (decR (.imm 3) [(.box 84 (.cons (.imm 1) (.cons (.int .i64) .nil)))]) := by kernel_rfl
theorem F43_ok (n : Nat) : EntOK prog G (F43e n) :=
  ent_ok (fr := frOf [F43_0z n, F43_1z n, F43_2z n, F43_3z n, F43_4z n]) (ann := (.nd .no (.nd .no (.nd .no (.nd (.nd .no (.nd (.use 4) .no)) .no))))) (frm := [(0, .fz)]) laws fnok (E5_ok n).tab (e := F43e n) (fn := Go.Proofs.Try.f43) (by kernel_rfl) (AllF.ofB (cd := F43c) (l := [(4, codeAt F43c [1, 1, 1, 0, 1, 0])]) (by kernel_rfl) (by kernel_rfl) (AllF.cons (F43_4_ok n) AllF.nil)) (F43_eq n)
noncomputable def E6 (n : Nat) : List (Ent G) := F43e n :: E5 n
theorem E6_ok (n : Nat) : AllE prog G (E6 n) := AllE.cons (F43_ok n) (E5_ok n)
noncomputable def F21 (n : Nat) (a3 : List Int) : Option (List (List Act) × Unit) :=
  (andThen (F42 n a3) fun r8 =>
  (andThen (F43 n r8.2.1.1 r8.2.1.2.1) fun r188 =>
  some (r188.1, ())))
noncomputable def F21e (n : Nat) : Ent G := ⟨21, (.cons (.imm 1) .nil), [], (.imm 3), [], fun x y => F21 n x.1⟩
theorem F21_eq (n : Nat) (x : ShL.den G (.cons (.imm 1) .nil)) (y : denO G []) : (F21e n).F x y = runFn prog G (ro G (tabOf (E6 n)) (frOf []) _) Go.Proofs.Try.f21 .no [(0, .fz)] (ShL.enc G (.cons (.imm 1) .nil) x) (encO G [] y) (decR (.imm 3) []) := by kernel_rfl
theorem F21_ok (n : Nat) : EntOK prog G (F21e n) :=
  ent_ok (fr := frOf []) (ann := .no) (frm := [(0, .fz)]) laws fnok (E6_ok n).tab (e := F21e n) (fn := Go.Proofs.Try.f21) (by kernel_rfl) (AllF.ofB (cd := F21c) (l := []) (by kernel_rfl) (by kernel_rfl) AllF.nil) (F21_eq n)
noncomputable def E7 (n : Nat) : List (Ent G) := F21e n :: E6 n
theorem E7_ok (n : Nat) : AllE prog G (E7 n) := AllE.cons (F21_ok n) (E6_ok n)
-- 22 loop.example/slowworm/impl.ScriptsOk
noncomputable def F22c : Code := bodyOf Go.Proofs.Try.f22
-- 44 loop.example/slowworm/impl.within
noncomputable def F44c : Code := bodyOf Go.Proofs.Try.f44
noncomputable def F44 (n : Nat) (a192 : Int) (a193 : Int) (a194 : Int) : Option (Bool × Unit) :=
  (bif (decide (a192 ≥ a193)) then
  some ((decide (a192 ≤ a194)), ())
  else some (false, ()))
noncomputable def F44e (n : Nat) : Ent G := ⟨44, (.cons (.int .i64) (.cons (.int .i64) (.cons (.int .i64) .nil))), [], .bool, [], fun x y => F44 n x.1 x.2.1 x.2.2.1⟩
theorem F44_eq (n : Nat) (x : ShL.den G (.cons (.int .i64) (.cons (.int .i64) (.cons (.int .i64) .nil)))) (y : denO G []) : (F44e n).F x y = runFn prog G (ro G (tabOf (E7 n)) (frOf []) _) Go.Proofs.Try.f44 .no [(0, .fz)] (ShL.enc G (.cons (.int .i64) (.cons (.int .i64) (.cons (.int .i64) .nil))) x) (encO G [] y) (decR .bool []) := by kernel_rfl
theorem F44_ok (n : Nat) : EntOK prog G (F44e n) :=
  ent_ok (fr := frOf []) (ann := .no) (frm := [(0, .fz)]) laws fnok (E7_ok n).tab (e := F44e n) (fn := Go.Proofs.Try.f44) (by kernel_rfl) (AllF.ofB (cd := F44c) (l := []) (by kernel_rfl) (by kernel_rfl) AllF.nil) (F44_eq n)
noncomputable def E8 (n : Nat) : List (Ent G) := F44e n :: E7 n
theorem E8_ok (n : Nat) : AllE prog G (E8 n) := AllE.cons (F44_ok n) (E7_ok n)
noncomputable def F22_0x0 : SSh := ⟨50, [(0, (.imm 3)), (6, (.ptr 0 0)), (7, (.int .i64)), (12, (.imm 3)), (13, (.int .i64)), (14, (.int .i64)), (21, (.imm 2)), (22, (.int .i64)), (23, (.int .i64)), (28, (.int .i64)), (29, .bool)], [(.box 75 (.cons (.int .i64) (.cons (.int .i64) .nil)))]⟩
noncomputable def F22_0s : SSh := ⟨50, [(0, (.imm 3)), (6, (.ptr 0 0)), (7, (.int .i64)), (12, (.imm 3)), (13, (.int .i64)), (14, (.int .i64)), (21, (.imm 2)), (22, (.int .i64)), (23, (.int .i64)), (28, (.int .i64))], [(.box 75 (.cons (.int .i64) (.cons (.int .i64) .nil)))]⟩
noncomputable def F22_0 {R : Type} (n : Nat) (x238 : List (List Act)) (x239 : Int) (x240 : List (List Act)) (x241 : Int) (x242 : Int) (x243 : List Act) (x244 : Int) (x245 : Int) (x246 : Int) (x247 : Int) (x248 : Int) (k0 : List (List Act) → Int → List (List Act) → Int → Int → List Act → Int → Int → Int → Bool → Int → Int → Option R) : Option R :=
  (bif (x246 == (1 : Int)) then
  (k0 x238 x239 x240 x241 x242 x243 x244 x245 x246 true x247 x248)
  else (k0 x238 x239 x240 x241 x242 x243 x244 x245 x246 (x246 == (7 : Int)) x247 x248))
noncomputable def F22_0z (n : Nat) : Sm G := inZ G 0 ⟨[0, 6, 7, 12, 13, 14, 21, 22, 23, 28], []⟩ F22_0s fun R x K => F22_0 n x.1.1 x.1.2.2.1 x.1.2.2.2.1 x.1.2.2.2.2.1 x.1.2.2.2.2.2.1 x.1.2.2.2.2.2.2.1 x.1.2.2.2.2.2.2.2.1 x.1.2.2.2.2.2.2.2.2.1 x.1.2.2.2.2.2.2.2.2.2.1 x.2.1.1 x.2.1.2.1 (fun u0 u1 u2 u3 u4 u5 u6 u7 u8 u9 u10 u11 => K .normal (SSh.enc G F22_0x0 ((u0, ((), (u1, (u2, (u3, (u4, (u5, (u6, (u7, (u8, (u9, ()))))))))))), ((u10, (u11, ())), ()))))
theorem F22_0_eq (n : Nat) (R : Type) (x : SSh.den G F22_0s) (K : AE → St G → Option R) :
  F22_0 n x.1.1 x.1.2.2.1 x.1.2.2.2.1 x.1.2.2.2.2.1 x.1.2.2.2.2.2.1 x.1.2.2.2.2.2.2.1 x.1.2.2.2.2.2.2.2.1 x.1.2.2.2.2.2.2.2.2.1 x.1.2.2.2.2.2.2.2.2.2.1 x.2.1.1 x.2.1.2.1 (fun u0 u1 u2 u3 u4 u5 u6 u7 u8 u9 u10 u11 => K .normal (SSh.enc G F22_0x0 ((u0, ((), (u1, (u2, (u3, (u4, (u5, (u6, (u7, (u8, (u9, ()))))))))))), ((u10, (u11, ())), ())))) = exec prog G (ro G (tabOf (E8 n)) (frOf []) R) 0 (codeAt F22c [1, 1, 0, 1, 0, 0, 1, 1, 0, 0, 1, 1, 1, 0, 0, 1, 1, 0, 0, 1, 1, 0, 1, 0, 0]) .no (SSh.enc G F22_0s x) (kNrm G (ro G (tabOf (E8 n)) (frOf []) R) 0 ⟨⟨[0, 6, 7, 12, 13, 14, 21, 22, 23, 28, 29], []⟩, ⟨[2], []⟩, [(4, ⟨[0, 6, 7, 12, 13, 14, 21, 22, 23], []⟩), (3, ⟨[0, 12, 13, 14, 21, 22, 23], []⟩), (2, ⟨[0, 12, 13, 14], []⟩), (1, ⟨[0, 12, 13, 14], []⟩), (0, ⟨[], []⟩)]⟩ K) := by kernel_rfl
theorem F22_0_ok (n : Nat) : FragOK prog G 0 (codeAt F22c [1, 1, 0, 1, 0, 0, 1, 1, 0, 0, 1, 1, 1, 0, 0, 1, 1, 0, 0, 1, 1, 0, 1, 0, 0]) (F22_0z n) :=
  frag_plain laws fnok (E8_ok n).tab (AllF.of (l := []) (by kernel_rfl) AllF.nil) (F22_0_eq n)
noncomputable def F22_1x0 : SSh := ⟨50, [(0, (.imm 3)), (6, (.ptr 0 0)), (7, (.int .i64)), (12, (.imm 3)), (13, (.int .i64)), (14, (.int .i64)), (21, (.imm 2)), (22, (.int .i64)), (23, (.int .i64)), (39, .bool)], [(.box 75 (.cons (.int .i64) (.cons (.int .i64) .nil)))]⟩
noncomputable def F22_1s : SSh := ⟨50, [(0, (.imm 3)), (6, (.ptr 0 0)), (7, (.int .i64)), (12, (.imm 3)), (13, (.int .i64)), (14, (.int .i64)), (21, (.imm 2)), (22, (.int .i64)), (23, (.int .i64)), (28, (.int .i64))], [(.box 75 (.cons (.int .i64) (.cons (.int .i64) .nil)))]⟩
noncomputable def F22_1 {R : Type} (n : Nat) (x267 : List (List Act)) (x268 : Int) (x269 : List (List Act)) (x270 : Int) (x271 : Int) (x272 : List Act) (x273 : Int) (x274 : Int) (x275 : Int) (x276 : Int) (x277 : Int) (k0 : List (List Act) → Int → List (List Act) → Int → Int → List Act → Int → Int → Bool → Int → Int → Option R) : Option R :=
  (bif (x275 == (4 : Int)) then
  (k0 x267 x268 x269 x270 x271 x272 x273 x274 true x276 x277)
  else (bif (x275 == (5 : Int)) then
  (k0 x267 x268 x269 x270 x271 x272 x273 x274 true x276 x277)
  else (k0 x267 x268 x269 x270 x271 x272 x273 x274 (x275 == (6 : Int)) x276 x277)))
noncomputable def F22_1z (n : Nat) : Sm G := inZ G 0 ⟨[0, 6, 7, 12, 13, 14, 21, 22, 23, 28], []⟩ F22_1s fun R x K => F22_1 n x.1.1 x.1.2.2.1 x.1.2.2.2.1 x.1.2.2.2.2.1 x.1.2.2.2.2.2.1 x.1.2.2.2.2.2.2.1 x.1.2.2.2.2.2.2.2.1 x.1.2.2.2.2.2.2.2.2.1 x.1.2.2.2.2.2.2.2.2.2.1 x.2.1.1 x.2.1.2.1 (fun u0 u1 u2 u3 u4 u5 u6 u7 u8 u9 u10 => K .normal (SSh.enc G F22_1x0 ((u0, ((), (u1, (u2, (u3, (u4, (u5, (u6, (u7, (u8, ())))))))))), ((u9, (u10, ())), ()))))
theorem F22_1_eq (n : Nat) (R : Type) (x : SSh.den G F22_1s) (K : AE → St G → Option R) :
  F22_1 n x.1.1 x.1.2.2.1 x.1.2.2.2.1 x.1.2.2.2.2.1 x.1.2.2.2.2.2.1 x.1.2.2.2.2.2.2.1 x.1.2.2.2.2.2.2.2.1 x.1.2.2.2.2.2.2.2.2.1 x.1.2.2.2.2.2.2.2.2.2.1 x.2.1.1 x.2.1.2.1 (fun u0 u1 u2 u3 u4 u5 u6 u7 u8 u9 u10 => K .normal (SSh.enc G F22_1x0 ((u0, ((), (u1, (u2, (u3, (u4, (u5, (u6, (u7, (u8, ())))))))))), ((u9, (u10, ())), ())))) = exec prog G (ro G (tabOf (E8 n)) (frOf [F22_0z n]) R) 0 (codeAt F22c [1, 1, 0, 1, 0, 0, 1, 1, 0, 0, 1, 1, 1, 0, 0, 1, 1, 0, 0, 1, 1, 0, 1, 0, 1, 1, 1, 1, 1, 1, 0]) .no (SSh.enc G F22_1s x) (kNrm G (ro G (tabOf (E8 n)) (frOf [F22_0z n]) R) 0 ⟨⟨[0, 6, 7, 12, 13, 14, 21, 22, 23, 39], []⟩, ⟨[2], []⟩, [(4, ⟨[0, 6, 7, 12, 13, 14, 21, 22, 23], []⟩), (3, ⟨[0, 12, 13, 14, 21, 22, 23], []⟩), (2, ⟨[0, 12, 13, 14], []⟩), (1, ⟨[0, 12, 13, 14], []⟩), (0, ⟨[], []⟩)]⟩ K) := by kernel_rfl
theorem F22_1_ok (n : Nat) : FragOK prog G 0 (codeAt F22c [1, 1, 0, 1, 0, 0, 1, 1, 0, 0, 1, 1, 1, 0, 0, 1, 1, 0, 0, 1, 1, 0, 1, 0, 1, 1, 1, 1, 1, 1, 0]) (F22_1z n) :=
  frag_plain laws fnok (E8_ok n).tab (AllF.of (l := []) (by kernel_rfl) AllF.nil) (F22_1_eq n)
noncomputable def F22_2x0 : SSh := ⟨50, [(0, (.imm 3)), (6, (.ptr 0 0)), (7, (.int .i64)), (12, (.imm 3)), (13, (.int .i64)), (14, (.int .i64)), (21, (.imm 2)), (22, (.int .i64)), (23, (.int .i64))], [(.box 75 (.cons (.int .i64) (.cons (.int .i64) .nil)))]⟩
noncomputable def F22_2s : SSh := ⟨50, [(0, (.imm 3)), (6, (.ptr 0 0)), (7, (.int .i64)), (12, (.imm 3)), (13, (.int .i64)), (14, (.int .i64)), (21, (.imm 2)), (22, (.int .i64)), (23, (.int .i64))], [(.box 75 (.cons (.int .i64) (.cons (.int .i64) .nil)))]⟩
noncomputable def F22_2 {R : Type} (n : Nat) (x228 : List (List Act)) (x229 : Int) (x230 : List (List Act)) (x231 : Int) (x232 : Int) (x233 : List Act) (x234 : Int) (x235 : Int) (x236 : Int) (x237 : Int) (k0 : List (List Act) → Int → List (List Act) → Int → Int → List Act → Int → Int → Int → Int → Option R) : Option R :=
  (F22_0 n x228 x229 x230 x231 x232 x233 x234 x235 x236 x236 x237 (fun z251 z252 z253 z254 z255 z256 z257 z258 z259 z260 z261 z262 =>
  (bif z260 then
  (k0 z251 (1000000 : Int) z253 z254 z255 z256 z257 z258 z261 z262)
  else (bif (z259 == (2 : Int)) then
  (k0 z251 (20 : Int) z253 z254 z255 z256 z257 z258 z261 z262)
  else (bif (z259 == (3 : Int)) then
  (k0 z251 (IntKind.wrap .i64 (((z251.length) : Int) - (1 : Int))) z253 z254 z255 z256 z257 z258 z261 z262)
  else (F22_1 n z251 z252 z253 z254 z255 z256 z257 z258 z259 z261 z262 (fun z281 z282 z283 z284 z285 z286 z287 z288 z289 z290 z291 =>
  (bif z289 then
  (k0 z281 (7 : Int) z283 z284 z285 z286 z287 z288 z290 z291)
  else (k0 z281 z282 z283 z284 z285 z286 z287 z288 z290 z291)))))))))
noncomputable def F22_2z (n : Nat) : Sm G := inZ G 0 ⟨[0, 6, 7, 12, 13, 14, 21, 22, 23], []⟩ F22_2s fun R x K => F22_2 n x.1.1 x.1.2.2.1 x.1.2.2.2.1 x.1.2.2.2.2.1 x.1.2.2.2.2.2.1 x.1.2.2.2.2.2.2.1 x.1.2.2.2.2.2.2.2.1 x.1.2.2.2.2.2.2.2.2.1 x.2.1.1 x.2.1.2.1 (fun u0 u1 u2 u3 u4 u5 u6 u7 u8 u9 => K .normal (SSh.enc G F22_2x0 ((u0, ((), (u1, (u2, (u3, (u4, (u5, (u6, (u7, ()))))))))), ((u8, (u9, ())), ()))))
theorem F22_2_eq (n : Nat) (R : Type) (x : SSh.den G F22_2s) (K : AE → St G → Option R) :
  F22_2 n x.1.1 x.1.2.2.1 x.1.2.2.2.1 x.1.2.2.2.2.1 x.1.2.2.2.2.2.1 x.1.2.2.2.2.2.2.1 x.1.2.2.2.2.2.2.2.1 x.1.2.2.2.2.2.2.2.2.1 x.2.1.1 x.2.1.2.1 (fun u0 u1 u2 u3 u4 u5 u6 u7 u8 u9 => K .normal (SSh.enc G F22_2x0 ((u0, ((), (u1, (u2, (u3, (u4, (u5, (u6, (u7, ()))))))))), ((u8, (u9, ())), ())))) = exec prog G (ro G (tabOf (E8 n)) (frOf [F22_0z n, F22_1z n]) R) 0 (codeAt F22c [1, 1, 0, 1, 0, 0, 1, 1, 0, 0, 1, 1, 1, 0, 0, 1, 1, 0, 0, 1, 1, 0]) (.nd .no (.nd (.nd (.use 0) (.nd .no (.nd .no (.nd .no (.nd .no (.nd .no (.nd (.use 1) .no))))))) .no)) (SSh.enc G F22_2s x) (kNrm G (ro G (tabOf (E8 n)) (frOf [F22_0z n, F22_1z n]) R) 0 ⟨⟨[0, 6, 7, 12, 13, 14, 21, 22, 23], []⟩, ⟨[2], []⟩, [(3, ⟨[0, 12, 13, 14, 21, 22, 23], []⟩), (2, ⟨[0, 12, 13, 14], []⟩), (1, ⟨[0, 12, 13, 14], []⟩), (0, ⟨[], []⟩)]⟩ K) := by kernel_rfl
theorem F22_2_ok (n : Nat) : FragOK prog G 0 (codeAt F22c [1, 1, 0, 1, 0, 0, 1, 1, 0, 0, 1, 1, 1, 0, 0, 1, 1, 0, 0, 1, 1, 0]) (F22_2z n) :=
  frag_plain laws fnok (E8_ok n).tab (AllF.of (l := [(0, codeAt F22c [1, 1, 0, 1, 0, 0, 1, 1, 0, 0, 1, 1, 1, 0, 0, 1, 1, 0, 0, 1, 1, 0, 1, 0, 0]), (1, codeAt F22c [1, 1, 0, 1, 0, 0, 1, 1, 0, 0, 1, 1, 1, 0, 0, 1, 1, 0, 0, 1, 1, 0, 1, 0, 1, 1, 1, 1, 1, 1, 0])]) (by kernel_rfl) (AllF.cons (F22_0_ok n) (AllF.cons (F22_1_ok n) AllF.nil))) (F22_2_eq n)
noncomputable def F22_3x0 : SSh := ⟨50, [(2, .bool)], []⟩
noncomputable def F22_3x1 : SSh := ⟨50, [(0, (.imm 3)), (12, (.imm 3)), (13, (.int .i64)), (14, (.int .i64)), (21, (.imm 2)), (22, (.int .i64)), (23, (.int .i64))], []⟩
noncomputable def F22_3s : SSh := ⟨50, [(0, (.imm 3)), (12, (.imm 3)), (13, (.int .i64)), (14, (.int .i64)), (21, (.imm 2)), (22, (.int .i64)), (23, (.int .i64))], []⟩
noncomputable def F22_3 {R : Type} (n : Nat) (x218 : List (List Act)) (x219 : List (List Act)) (x220 : Int) (x221 : Int) (x222 : List Act) (x223 : Int) (x224 : Int) (k0 : Bool → Option R) (k1 : List (List Act) → List (List Act) → Int → Int → List Act → Int → Int → Option R) : Option R :=
  (bif (decide ((0 : Int) ≤ x224)) then
  (bif (decide (x224 < ((x222.length) : Int))) then
  let v225 := (x222.getD (x224.toNat) (Act.mk (0 : Int) (0 : Int)))
  (F22_2 n x218 (-1 : Int) x219 x220 x221 x222 x223 x224 v225.kind v225.num (fun z292 z293 z294 z295 z296 z297 z298 z299 z300 z301 =>
  (andThen (F44 n z301 (0 : Int) z293) fun r302 =>
  (bif (!r302.1) then
  (k0 false)
  else (k1 z292 z294 z295 z296 z297 z298 z299)))))
  else none)
  else none)
noncomputable def F22_3z (n : Nat) : Sm G := inZ G 0 ⟨[0, 12, 13, 14, 21, 22, 23], []⟩ F22_3s fun R x K => F22_3 n x.1.1 x.1.2.1 x.1.2.2.1 x.1.2.2.2.1 x.1.2.2.2.2.1 x.1.2.2.2.2.2.1 x.1.2.2.2.2.2.2.1 (fun u0 => K .ret (SSh.enc G F22_3x0 ((u0, ()), ()))) (fun u0 u1 u2 u3 u4 u5 u6 => K .normal (SSh.enc G F22_3x1 ((u0, (u1, (u2, (u3, (u4, (u5, (u6, ()))))))), ())))
theorem F22_3_eq (n : Nat) (R : Type) (x : SSh.den G F22_3s) (K : AE → St G → Option R) :
  F22_3 n x.1.1 x.1.2.1 x.1.2.2.1 x.1.2.2.2.1 x.1.2.2.2.2.1 x.1.2.2.2.2.2.1 x.1.2.2.2.2.2.2.1 (fun u0 => K .ret (SSh.enc G F22_3x0 ((u0, ()), ()))) (fun u0 u1 u2 u3 u4 u5 u6 => K .normal (SSh.enc G F22_3x1 ((u0, (u1, (u2, (u3, (u4, (u5, (u6, ()))))))), ()))) = exec prog G (ro G (tabOf (E8 n)) (frOf [F22_0z n, F22_1z n, F22_2z n]) R) 0 (codeAt F22c [1, 1, 0, 1, 0, 0, 1, 1, 0, 0, 1, 1, 1, 0, 0, 1, 1, 0]) (.nd (.nd .no (.nd .no (.nd (.use 2) .no))) .no) (SSh.enc G F22_3s x) (kNrm G (ro G (tabOf (E8 n)) (frOf [F22_0z n, F22_1z n, F22_2z n]) R) 0 ⟨⟨[0, 12, 13, 14, 21, 22, 23], []⟩, ⟨[2], []⟩, [(2, ⟨[0, 12, 13, 14], []⟩), (1, ⟨[0, 12, 13, 14], []⟩), (0, ⟨[], []⟩)]⟩ K) := by kernel_rfl
theorem F22_3_ok (n : Nat) : FragOK prog G 0 (codeAt F22c [1, 1, 0, 1, 0, 0, 1, 1, 0, 0, 1, 1, 1, 0, 0, 1, 1, 0]) (F22_3z n) :=
  frag_plain laws fnok (E8_ok n).tab (AllF.of (l := [(2, codeAt F22c [1, 1, 0, 1, 0, 0, 1, 1, 0, 0, 1, 1, 1, 0, 0, 1, 1, 0, 0, 1, 1, 0])]) (by kernel_rfl) (AllF.cons (F22_2_ok n) AllF.nil)) (F22_3_eq n)
noncomputable def F22_4x0 : SSh := ⟨50, [(2, .bool)], []⟩
noncomputable def F22_4x1 : SSh := ⟨50, [(0, (.imm 3)), (12, (.imm 3)), (13, (.int .i64)), (14, (.int .i64))], []⟩
noncomputable def F22_4s : SSh := ⟨50, [(0, (.imm 3)), (12, (.imm 3)), (13, (.int .i64)), (14, (.int .i64)), (21, (.imm 2)), (22, (.int .i64)), (23, (.int .i64))], []⟩
noncomputable def F22_4_step {R : Type} (n : Nat) (k0 : Bool → Option R) (k1 : List (List Act) → List (List Act) → Int → Int → Option R) (rec : List (List Act) → List (List Act) → Int → Int → List Act → Int → Int → Option R) (x210 : List (List Act)) (x211 : List (List Act)) (x212 : Int) (x213 : Int) (x214 : List Act) (x215 : Int) (x216 : Int) : Option R :=
  (bif (decide (x216 < x215)) then
  (F22_3 n x210 x211 x212 x213 x214 x215 x216 (fun z304 =>
  (k0 z304)) (fun z305 z306 z307 z308 z309 z310 z311 =>
  (rec z305 z306 z307 z308 z309 z310 (IntKind.wrap .i64 (z311 + (1 : Int))))))
  else (k1 x210 x211 x212 x213))
noncomputable def F22_4_it {R : Type} (n : Nat) (k0 : Bool → Option R) (k1 : List (List Act) → List (List Act) → Int → Int → Option R) : Nat → List (List Act) → List (List Act) → Int → Int → List Act → Int → Int → Option R
  | 0, _, _, _, _, _, _, _ => none
  | k + 1, x210, x211, x212, x213, x214, x215, x216 => F22_4_step n k0 k1 (F22_4_it n k0 k1 k) x210 x211 x212 x213 x214 x215 x216
noncomputable def F22_4 {R : Type} (n : Nat) (x210 : List (List Act)) (x211 : List (List Act)) (x212 : Int) (x213 : Int) (x214 : List Act) (x215 : Int) (x216 : Int) (k0 : Bool → Option R) (k1 : List (List Act) → List (List Act) → Int → Int → Option R) : Option R := F22_4_it n k0 k1 n x210 x211 x212 x213 x214 x215 x216
noncomputable def F22_4z (n : Nat) : Sm G := inZ G 0 ⟨[0, 12, 13, 14, 21, 22, 23], []⟩ F22_4s fun R x K => F22_4_it n (fun u0 => K .ret (SSh.enc G F22_4x0 ((u0, ()), ()))) (fun u0 u1 u2 u3 => K (.exit 2) (SSh.enc G F22_4x1 ((u0, (u1, (u2, (u3, ())))), ()))) n x.1.1 x.1.2.1 x.1.2.2.1 x.1.2.2.2.1 x.1.2.2.2.2.1 x.1.2.2.2.2.2.1 x.1.2.2.2.2.2.2.1
theorem F22_4_eq (n : Nat) (R : Type) (rec : SSh.den G F22_4s → Option R) (x : SSh.den G F22_4s) (K : AE → St G → Option R) :
  F22_4_step n (fun u0 => K .ret (SSh.enc G F22_4x0 ((u0, ()), ()))) (fun u0 u1 u2 u3 => K (.exit 2) (SSh.enc G F22_4x1 ((u0, (u1, (u2, (u3, ())))), ()))) (fun x210 x211 x212 x213 x214 x215 x216 => rec ((x210, (x211, (x212, (x213, (x214, (x215, (x216, ()))))))), ())) x.1.1 x.1.2.1 x.1.2.2.1 x.1.2.2.2.1 x.1.2.2.2.2.1 x.1.2.2.2.2.2.1 x.1.2.2.2.2.2.2.1 = exec prog G (ro G (tabOf (E8 n)) (frOf [F22_0z n, F22_1z n, F22_2z n, F22_3z n]) R) 0 (codeAt F22c [1, 1, 0, 1, 0, 0, 1, 1, 0, 0, 1, 1, 1, 0, 0]) (.nd .no (.nd .no (.nd (.use 3) .no))) (SSh.enc G F22_4s x) (kLoop G (ro G (tabOf (E8 n)) (frOf [F22_0z n, F22_1z n, F22_2z n, F22_3z n]) R) 0 ⟨[0, 12, 13, 14, 21, 22, 23], []⟩ F22_4s ⟨⟨[0, 12, 13, 14], []⟩, ⟨[2], []⟩, [(2, ⟨[0, 12, 13, 14], []⟩), (1, ⟨[0, 12, 13, 14], []⟩), (0, ⟨[], []⟩)]⟩ rec K) := by kernel_rfl
theorem F22_4_ok (n : Nat) : FragOK prog G 0 (codeAt F22c [1, 1, 0, 1, 0, 0, 1, 1, 0, 0, 1, 1, 1, 0]) (F22_4z n) :=
  frag_loop (Z := fun R k (x : SSh.den G F22_4s) K => F22_4_it n (fun u0 => K .ret (SSh.enc G F22_4x0 ((u0, ()), ()))) (fun u0 u1 u2 u3 => K (.exit 2) (SSh.enc G F22_4x1 ((u0, (u1, (u2, (u3, ())))), ()))) k x.1.1 x.1.2.1 x.1.2.2.1 x.1.2.2.2.1 x.1.2.2.2.2.1 x.1.2.2.2.2.2.1 x.1.2.2.2.2.2.2.1) laws fnok (E8_ok n).tab (AllF.of (l := [(3, codeAt F22c [1, 1, 0, 1, 0, 0, 1, 1, 0, 0, 1, 1, 1, 0, 0, 1, 1, 0])]) (by kernel_rfl) (AllF.cons (F22_3_ok n) AllF.nil)) (fun _ _ _ => rfl) (fun R k y K => F22_4_eq n R (fun (x : SSh.den G F22_4s) => F22_4_it n (fun u0 => K .ret (SSh.enc G F22_4x0 ((u0, ()), ()))) (fun u0 u1 u2 u3 => K (.exit 2) (SSh.enc G F22_4x1 ((u0, (u1, (u2, (u3, ())))), ()))) k x.1.1 x.1.2.1 x.1.2.2.1 x.1.2.2.2.1 x.1.2.2.2.2.1 x.1.2.2.2.2.2.1 x.1.2.2.2.2.2.2.1) y K) n
noncomputable def F22_5x0 : SSh := ⟨50, [(2, .bool)], []⟩
noncomputable def F22_5x1 : SSh := ⟨50, [], []⟩
noncomputable def F22_5s : SSh := ⟨50, [(0, (.imm 3)), (12, (.imm 3)), (13, (.int .i64)), (14, (.int .i64))], []⟩
noncomputable def F22_5_step {R : Type} (n : Nat) (k0 : Bool → Option R) (k1 : Option R) (rec : List (List Act) → List (List Act) → Int → Int → Option R) (x200 : List (List Act)) (x201 : List (List Act)) (x202 : Int) (x203 : Int) : Option R :=
  (bif (decide (x203 < x202)) then
  (bif (decide ((0 : Int) ≤ x203)) then
  (bif (decide (x203 < ((x201.length) : Int))) then
  let v206 := (x201.getD (x203.toNat) [])
  (bif (decide (((v206.length) : Int) > (8 : Int))) then
  (k0 false)
  else (F22_4 n x200 x201 x202 x203 v206 ((v206.length) : Int) (0 : Int) (fun z313 =>
  (k0 z313)) (fun z314 z315 z316 z317 =>
  (rec z314 z315 z316 (IntKind.wrap .i64 (z317 + (1 : Int)))))))
  else none)
  else none)
  else k1)
noncomputable def F22_5_it {R : Type} (n : Nat) (k0 : Bool → Option R) (k1 : Option R) : Nat → List (List Act) → List (List Act) → Int → Int → Option R
  | 0, _, _, _, _ => none
  | k + 1, x200, x201, x202, x203 => F22_5_step n k0 k1 (F22_5_it n k0 k1 k) x200 x201 x202 x203
noncomputable def F22_5 {R : Type} (n : Nat) (x200 : List (List Act)) (x201 : List (List Act)) (x202 : Int) (x203 : Int) (k0 : Bool → Option R) (k1 : Option R) : Option R := F22_5_it n k0 k1 n x200 x201 x202 x203
noncomputable def F22_5z (n : Nat) : Sm G := inZ G 0 ⟨[0, 12, 13, 14], []⟩ F22_5s fun R x K => F22_5_it n (fun u0 => K .ret (SSh.enc G F22_5x0 ((u0, ()), ()))) (K (.exit 0) (SSh.enc G F22_5x1 ((), ()))) n x.1.1 x.1.2.1 x.1.2.2.1 x.1.2.2.2.1
theorem F22_5_eq (n : Nat) (R : Type) (rec : SSh.den G F22_5s → Option R) (x : SSh.den G F22_5s) (K : AE → St G → Option R) :
  F22_5_step n (fun u0 => K .ret (SSh.enc G F22_5x0 ((u0, ()), ()))) (K (.exit 0) (SSh.enc G F22_5x1 ((), ()))) (fun x200 x201 x202 x203 => rec ((x200, (x201, (x202, (x203, ())))), ())) x.1.1 x.1.2.1 x.1.2.2.1 x.1.2.2.2.1 = exec prog G (ro G (tabOf (E8 n)) (frOf [F22_0z n, F22_1z n, F22_2z n, F22_3z n, F22_4z n]) R) 0 (codeAt F22c [1, 1, 0, 1, 0, 0]) (.nd .no (.nd .no (.nd (.nd (.nd .no (.nd .no (.nd .no (.nd (.use 4) .no)))) .no) .no))) (SSh.enc G F22_5s x) (kLoop G (ro G (tabOf (E8 n)) (frOf [F22_0z n, F22_1z n, F22_2z n, F22_3z n, F22_4z n]) R) 0 ⟨[0, 12, 13, 14], []⟩ F22_5s ⟨⟨[], []⟩, ⟨[2], []⟩, [(0, ⟨[], []⟩)]⟩ rec K) := by kernel_rfl
theorem F22_5_ok (n : Nat) : FragOK prog G 0 (codeAt F22c [1, 1, 0, 1, 0]) (F22_5z n) :=
  frag_loop (Z := fun R k (x : SSh.den G F22_5s) K => F22_5_it n (fun u0 => K .ret (SSh.enc G F22_5x0 ((u0, ()), ()))) (K (.exit 0) (SSh.enc G F22_5x1 ((), ()))) k x.1.1 x.1.2.1 x.1.2.2.1 x.1.2.2.2.1) laws fnok (E8_ok n).tab (AllF.of (l := [(4, codeAt F22c [1, 1, 0, 1, 0, 0, 1, 1, 0, 0, 1, 1, 1, 0])]) (by kernel_rfl) (AllF.cons (F22_4_ok n) AllF.nil)) (fun _ _ _ => rfl) (fun R k y K => F22_5_eq n R (fun (x : SSh.den G F22_5s) => F22_5_it n (fun u0 => K .ret (SSh.enc G F22_5x0 ((u0, ()), ()))) (K (.exit 0) (SSh.enc G F22_5x1 ((), ()))) k x.1.1 x.1.2.1 x.1.2.2.1 x.1.2.2.2.1) y K) n
noncomputable def F22 (n : Nat) (a190 : List (List Act)) : Option (Bool × Unit) :=
  (andThen (F44 n ((a190.length) : Int) (1 : Int) (4 : Int)) fun r197 =>
  (bif (!r197.1) then
  some (false, ())
  else (F22_5 n a190 a190 ((a190.length) : Int) (0 : Int) (fun z319 =>
  some (z319, ())) (
  some (true, ())))))
noncomputable def F22e (n : Nat) : Ent G := ⟨22, (.cons (.imm 3) .nil), [], .bool, [], fun x y => F22 n x.1⟩
theorem F22_eq (n : Nat) (x : ShL.den G (.cons (.imm 3) .nil)) (y : denO G []) : (F22e n).F x y = runFn prog G (ro G (tabOf (E8 n)) (frOf [F22_0z n, F22_1z n, F22_2z n, F22_3z n, F22_4z n, F22_5z n]) _) Go.Proofs.Try.f22 (.nd .no (.nd .no (.nd (.nd .no (.nd (.use 5) .no)) .no))) [(0, .fz)] (ShL.enc G (.cons (.imm 3) .nil) x) (encO G [] y) (decR .bool []) := by kernel_rfl
theorem F22_ok (n : Nat) : EntOK prog G (F22e n) :=
  ent_ok (fr := frOf [F22_0z n, F22_1z n, F22_2z n, F22_3z n, F22_4z n, F22_5z n]) (ann := (.nd .no (.nd .no (.nd (.nd .no (.nd (.use 5) .no)) .no)))) (frm := [(0, .fz)]) laws fnok (E8_ok n).tab (e := F22e n) (fn := Go.Proofs.Try.f22) (by kernel_rfl) (AllF.ofB (cd := F22c) (l := [(5, codeAt F22c [1, 1, 0, 1, 0])]) (by kernel_rfl) (by kernel_rfl) (AllF.cons (F22_5_ok n) AllF.nil)) (F22_eq n)
noncomputable def E9 (n : Nat) : List (Ent G) := F22e n :: E8 n
theorem E9_ok (n : Nat) : AllE prog G (E9 n) := AllE.cons (F22_ok n) (E8_ok n)
-- 23 loop.example/slowworm/spec.ScriptsOk
noncomputable def F23c : Code := bodyOf Go.Proofs.Try.f23
-- 45 loop.example/slowworm/spec.validScripts
noncomputable def F45c : Code := bodyOf Go.Proofs.Try.f45
noncomputable def F45_0x0 : SSh := ⟨62, [(0, (.imm 3)), (3, (.int .i64)), (4, (.int .i64)), (5, (.ptr 0 0)), (6, (.int .i64)), (38, .bool)], [(.box 75 (.cons (.int .i64) (.cons (.int .i64) .nil)))]⟩
noncomputable def F45_0s : SSh := ⟨62, [(0, (.imm 3)), (3, (.int .i64)), (4, (.int .i64)), (5, (.ptr 0 0)), (6, (.int .i64)), (30, (.int .i64))], [(.box 75 (.cons (.int .i64) (.cons (.int .i64) .nil)))]⟩
noncomputable def F45_0 {R : Type} (n : Nat) (x352 : List (List Act)) (x353 : Int) (x354 : Int) (x355 : Int) (x356 : Int) (x357 : Int) (x358 : Int) (k0 : List (List Act) → Int → Int → Int → Bool → Int → Int → Option R) : Option R :=
  (bif (x356 == (4 : Int)) then
  (k0 x352 x353 x354 x355 true x357 x358)
  else (bif (x356 == (6 : Int)) then
  (k0 x352 x353 x354 x355 true x357 x358)
  else (k0 x352 x353 x354 x355 (x356 == (5 : Int)) x357 x358)))
noncomputable def F45_0z (n : Nat) : Sm G := inZ G 0 ⟨[0, 3, 4, 5, 6, 30], []⟩ F45_0s fun R x K => F45_0 n x.1.1 x.1.2.1 x.1.2.2.1 x.1.2.2.2.2.1 x.1.2.2.2.2.2.1 x.2.1.1 x.2.1.2.1 (fun u0 u1 u2 u3 u4 u5 u6 => K .normal (SSh.enc G F45_0x0 ((u0, (u1, (u2, ((), (u3, (u4, ())))))), ((u5, (u6, ())), ()))))
theorem F45_0_eq (n : Nat) (R : Type) (x : SSh.den G F45_0s) (K : AE → St G → Option R) :
  F45_0 n x.1.1 x.1.2.1 x.1.2.2.1 x.1.2.2.2.2.1 x.1.2.2.2.2.2.1 x.2.1.1 x.2.1.2.1 (fun u0 u1 u2 u3 u4 u5 u6 => K .normal (SSh.enc G F45_0x0 ((u0, (u1, (u2, ((), (u3, (u4, ())))))), ((u5, (u6, ())), ())))) = exec prog G (ro G (tabOf (E9 n)) (frOf []) R) 0 (codeAt F45c [1, 0, 1, 0, 0, 1, 0, 0, 0, 1, 0, 0, 1, 0, 0, 1, 1, 0, 1, 0, 1, 1, 1, 1, 0]) .no (SSh.enc G F45_0s x) (kNrm G (ro G (tabOf (E9 n)) (frOf []) R) 0 ⟨⟨[0, 3, 4, 5, 6, 38], []⟩, ⟨[2], []⟩, [(4, ⟨[0, 3, 4, 5, 6], []⟩), (3, ⟨[0, 3, 4], []⟩), (2, ⟨[0, 3], []⟩), (1, ⟨[0, 3], []⟩), (0, ⟨[0], []⟩)]⟩ K) := by kernel_rfl
theorem F45_0_ok (n : Nat) : FragOK prog G 0 (codeAt F45c [1, 0, 1, 0, 0, 1, 0, 0, 0, 1, 0, 0, 1, 0, 0, 1, 1, 0, 1, 0, 1, 1, 1, 1, 0]) (F45_0z n) :=
  frag_plain laws fnok (E9_ok n).tab (AllF.of (l := []) (by kernel_rfl) AllF.nil) (F45_0_eq n)
noncomputable def F45_1x0 : SSh := ⟨62, [(0, (.imm 3)), (3, (.int .i64)), (4, (.int .i64)), (5, (.ptr 0 0)), (6, (.int .i64))], [(.box 75 (.cons (.int .i64) (.cons (.int .i64) .nil)))]⟩
noncomputable def F45_1s : SSh := ⟨62, [(0, (.imm 3)), (3, (.int .i64)), (4, (.int .i64)), (5, (.ptr 0 0)), (6, (.int .i64))], [(.box 75 (.cons (.int .i64) (.cons (.int .i64) .nil)))]⟩
noncomputable def F45_1 {R : Type} (n : Nat) (x342 : List (List Act)) (x343 : Int) (x344 : Int) (x345 : Int) (x346 : Int) (x347 : Int) (k0 : List (List Act) → Int → Int → Int → Int → Int → Option R) : Option R :=
  (bif (x346 == (3 : Int)) then
  (k0 x342 x343 x344 (IntKind.wrap .i64 (((x342.length) : Int) - (1 : Int))) x346 x347)
  else (bif (x346 == (2 : Int)) then
  (k0 x342 x343 x344 (20 : Int) x346 x347)
  else (F45_0 n x342 x343 x344 x345 x346 x346 x347 (fun z362 z363 z364 z365 z366 z367 z368 =>
  (bif z366 then
  (k0 z362 z363 z364 (7 : Int) z367 z368)
  else (k0 z362 z363 z364 z365 z367 z368))))))
noncomputable def F45_1z (n : Nat) : Sm G := inZ G 0 ⟨[0, 3, 4, 5, 6], []⟩ F45_1s fun R x K => F45_1 n x.1.1 x.1.2.1 x.1.2.2.1 x.1.2.2.2.2.1 x.2.1.1 x.2.1.2.1 (fun u0 u1 u2 u3 u4 u5 => K .normal (SSh.enc G F45_1x0 ((u0, (u1, (u2, ((), (u3, ()))))), ((u4, (u5, ())), ()))))
theorem F45_1_eq (n : Nat) (R : Type) (x : SSh.den G F45_1s) (K : AE → St G → Option R) :
  F45_1 n x.1.1 x.1.2.1 x.1.2.2.1 x.1.2.2.2.2.1 x.2.1.1 x.2.1.2.1 (fun u0 u1 u2 u3 u4 u5 => K .normal (SSh.enc G F45_1x0 ((u0, (u1, (u2, ((), (u3, ()))))), ((u4, (u5, ())), ())))) = exec prog G (ro G (tabOf (E9 n)) (frOf [F45_0z n]) R) 0 (codeAt F45c [1, 0, 1, 0, 0, 1, 0, 0, 0, 1, 0, 0, 1, 0, 0, 1, 1, 0]) (.nd .no (.nd (.nd .no (.nd .no (.nd .no (.nd .no (.nd (.use 0) .no))))) .no)) (SSh.enc G F45_1s x) (kNrm G (ro G (tabOf (E9 n)) (frOf [F45_0z n]) R) 0 ⟨⟨[0, 3, 4, 5, 6], []⟩, ⟨[2], []⟩, [(3, ⟨[0, 3, 4], []⟩), (2, ⟨[0, 3], []⟩), (1, ⟨[0, 3], []⟩), (0, ⟨[0], []⟩)]⟩ K) := by kernel_rfl
theorem F45_1_ok (n : Nat) : FragOK prog G 0 (codeAt F45c [1, 0, 1, 0, 0, 1, 0, 0, 0, 1, 0, 0, 1, 0, 0, 1, 1, 0]) (F45_1z n) :=
  frag_plain laws fnok (E9_ok n).tab (AllF.of (l := [(0, codeAt F45c [1, 0, 1, 0, 0, 1, 0, 0, 0, 1, 0, 0, 1, 0, 0, 1, 1, 0, 1, 0, 1, 1, 1, 1, 0])]) (by kernel_rfl) (AllF.cons (F45_0_ok n) AllF.nil)) (F45_1_eq n)
-- 51 loop.example/slowworm/spec.inRange
noncomputable def F51c : Code := bodyOf Go.Proofs.Try.f51
noncomputable def F51 (n : Nat) (a375 : Int) (a376 : Int) (a377 : Int) : Option (Bool × Unit) :=
  (bif (decide (a375 ≥ a376)) then
  some ((decide (a375 ≤ a377)), ())
  else some (false, ()))
noncomputable def F51e (n : Nat) : Ent G := ⟨51, (.cons (.int .i64) (.cons (.int .i64) (.cons (.int .i64) .nil))), [], .bool, [], fun x y => F51 n x.1 x.2.1 x.2.2.1⟩
theorem F51_eq (n : Nat) (x : ShL.den G (.cons (.int .i64) (.cons (.int .i64) (.cons (.int .i64) .nil)))) (y : denO G []) : (F51e n).F x y = runFn prog G (ro G (tabOf (E9 n)) (frOf []) _) Go.Proofs.Try.f51 .no [(0, .fz)] (ShL.enc G (.cons (.int .i64) (.cons (.int .i64) (.cons (.int .i64) .nil))) x) (encO G [] y) (decR .bool []) := by kernel_rfl
theorem F51_ok (n : Nat) : EntOK prog G (F51e n) :=
  ent_ok (fr := frOf []) (ann := .no) (frm := [(0, .fz)]) laws fnok (E9_ok n).tab (e := F51e n) (fn := Go.Proofs.Try.f51) (by kernel_rfl) (AllF.ofB (cd := F51c) (l := []) (by kernel_rfl) (by kernel_rfl) AllF.nil) (F51_eq n)
noncomputable def E10 (n : Nat) : List (Ent G) := F51e n :: E9 n
theorem E10_ok (n : Nat) : AllE prog G (E10 n) := AllE.cons (F51_ok n) (E9_ok n)
noncomputable def F45_2x0 : SSh := ⟨62, [(2, .bool)], []⟩
noncomputable def F45_2x1 : SSh := ⟨62, [(0, (.imm 3)), (3, (.int .i64)), (4, (.int .i64))], []⟩
noncomputable def F45_2s : SSh := ⟨62, [(0, (.imm 3)), (3, (.int .i64)), (4, (.int .i64))], []⟩
noncomputable def F45_2 {R : Type} (n : Nat) (x334 : List (List Act)) (x335 : Int) (x336 : Int) (k0 : Bool → Option R) (k1 : List (List Act) → Int → Int → Option R) : Option R :=
  (bif (decide ((0 : Int) ≤ x335)) then
  (bif (decide (x335 < ((x334.length) : Int))) then
  let v338 := (x334.getD (x335.toNat) [])
  (bif (decide ((0 : Int) ≤ x336)) then
  (bif (decide (x336 < ((v338.length) : Int))) then
  let v339 := (v338.getD (x336.toNat) (Act.mk (0 : Int) (0 : Int)))
  (F45_1 n x334 x335 x336 (1000000 : Int) v339.kind v339.num (fun z369 z370 z371 z372 z373 z374 =>
  (andThen (F51 n z373 (1 : Int) (7 : Int)) fun r380 =>
  (bif (!r380.1) then
  (k0 false)
  else (andThen (F51 n z374 (0 : Int) z372) fun r382 =>
  (bif (!r382.1) then
  (k0 false)
  else (k1 z369 z370 z371)))))))
  else none)
  else none)
  else none)
  else none)
noncomputable def F45_2z (n : Nat) : Sm G := inZ G 0 ⟨[0, 3, 4], []⟩ F45_2s fun R x K => F45_2 n x.1.1 x.1.2.1 x.1.2.2.1 (fun u0 => K .ret (SSh.enc G F45_2x0 ((u0, ()), ()))) (fun u0 u1 u2 => K .normal (SSh.enc G F45_2x1 ((u0, (u1, (u2, ()))), ())))
theorem F45_2_eq (n : Nat) (R : Type) (x : SSh.den G F45_2s) (K : AE → St G → Option R) :
  F45_2 n x.1.1 x.1.2.1 x.1.2.2.1 (fun u0 => K .ret (SSh.enc G F45_2x0 ((u0, ()), ()))) (fun u0 u1 u2 => K .normal (SSh.enc G F45_2x1 ((u0, (u1, (u2, ()))), ()))) = exec prog G (ro G (tabOf (E10 n)) (frOf [F45_0z n, F45_1z n]) R) 0 (codeAt F45c [1, 0, 1, 0, 0, 1, 0, 0, 0, 1, 0, 0, 1, 0]) (.nd (.nd .no (.nd .no (.nd (.use 1) .no))) .no) (SSh.enc G F45_2s x) (kNrm G (ro G (tabOf (E10 n)) (frOf [F45_0z n, F45_1z n]) R) 0 ⟨⟨[0, 3, 4], []⟩, ⟨[2], []⟩, [(2, ⟨[0, 3], []⟩), (1, ⟨[0, 3], []⟩), (0, ⟨[0], []⟩)]⟩ K) := by kernel_rfl
theorem F45_2_ok (n : Nat) : FragOK prog G 0 (codeAt F45c [1, 0, 1, 0, 0, 1, 0, 0, 0, 1, 0, 0, 1, 0]) (F45_2z n) :=
  frag_plain laws fnok (E10_ok n).tab (AllF.of (l := [(1, codeAt F45c [1, 0, 1, 0, 0, 1, 0, 0, 0, 1, 0, 0, 1, 0, 0, 1, 1, 0])]) (by kernel_rfl) (AllF.cons (F45_1_ok n) AllF.nil)) (F45_2_eq n)
noncomputable def F45_3x0 : SSh := ⟨62, [(2, .bool)], []⟩
noncomputable def F45_3x1 : SSh := ⟨62, [(0, (.imm 3)), (3, (.int .i64))], []⟩
noncomputable def F45_3s : SSh := ⟨62, [(0, (.imm 3)), (3, (.int .i64)), (4, (.int .i64))], []⟩
noncomputable def F45_3_step {R : Type} (n : Nat) (k0 : Bool → Option R) (k1 : List (List Act) → Int → Option R) (rec : List (List Act) → Int → Int → Option R) (x327 : List (List Act)) (x328 : Int) (x329 : Int) : Option R :=
  (bif (decide ((0 : Int) ≤ x328)) then
  (bif (decide (x328 < ((x327.length) : Int))) then
  (bif (decide (x329 < (((x327.getD (x328.toNat) []).length) : Int))) then
  (F45_2 n x327 x328 x329 (fun z384 =>
  (k0 z384)) (fun z385 z386 z387 =>
  (rec z385 z386 (IntKind.wrap .i64 (z387 + (1 : Int))))))
  else (k1 x327 x328))
  else none)
  else none)
noncomputable def F45_3_it {R : Type} (n : Nat) (k0 : Bool → Option R) (k1 : List (List Act) → Int → Option R) : Nat → List (List Act) → Int → Int → Option R
  | 0, _, _, _ => none
  | k + 1, x327, x328, x329 => F45_3_step n k0 k1 (F45_3_it n k0 k1 k) x327 x328 x329
noncomputable def F45_3 {R : Type} (n : Nat) (x327 : List (List Act)) (x328 : Int) (x329 : Int) (k0 : Bool → Option R) (k1 : List (List Act) → Int → Option R) : Option R := F45_3_it n k0 k1 n x327 x328 x329
noncomputable def F45_3z (n : Nat) : Sm G := inZ G 0 ⟨[0, 3, 4], []⟩ F45_3s fun R x K => F45_3_it n (fun u0 => K .ret (SSh.enc G F45_3x0 ((u0, ()), ()))) (fun u0 u1 => K (.exit 2) (SSh.enc G F45_3x1 ((u0, (u1, ())), ()))) n x.1.1 x.1.2.1 x.1.2.2.1
theorem F45_3_eq (n : Nat) (R : Type) (rec : SSh.den G F45_3s → Option R) (x : SSh.den G F45_3s) (K : AE → St G → Option R) :
  F45_3_step n (fun u0 => K .ret (SSh.enc G F45_3x0 ((u0, ()), ()))) (fun u0 u1 => K (.exit 2) (SSh.enc G F45_3x1 ((u0, (u1, ())), ()))) (fun x327 x328 x329 => rec ((x327, (x328, (x329, ()))), ())) x.1.1 x.1.2.1 x.1.2.2.1 = exec prog G (ro G (tabOf (E10 n)) (frOf [F45_0z n, F45_1z n, F45_2z n]) R) 0 (codeAt F45c [1, 0, 1, 0, 0, 1, 0, 0, 0, 1, 0, 0]) (.nd .no (.nd (.use 2) .no)) (SSh.enc G F45_3s x) (kLoop G (ro G (tabOf (E10 n)) (frOf [F45_0z n, F45_1z n, F45_2z n]) R) 0 ⟨[0, 3, 4], []⟩ F45_3s ⟨⟨[0, 3], []⟩, ⟨[2], []⟩, [(2, ⟨[0, 3], []⟩), (1, ⟨[0, 3], []⟩), (0, ⟨[0], []⟩)]⟩ rec K) := by kernel_rfl
theorem F45_3_ok (n : Nat) : FragOK prog G 0 (codeAt F45c [1, 0, 1, 0, 0, 1, 0, 0, 0, 1, 0]) (F45_3z n) :=
  frag_loop (Z := fun R k (x : SSh.den G F45_3s) K => F45_3_it n (fun u0 => K .ret (SSh.enc G F45_3x0 ((u0, ()), ()))) (fun u0 u1 => K (.exit 2) (SSh.enc G F45_3x1 ((u0, (u1, ())), ()))) k x.1.1 x.1.2.1 x.1.2.2.1) laws fnok (E10_ok n).tab (AllF.of (l := [(2, codeAt F45c [1, 0, 1, 0, 0, 1, 0, 0, 0, 1, 0, 0, 1, 0])]) (by kernel_rfl) (AllF.cons (F45_2_ok n) AllF.nil)) (fun _ _ _ => rfl) (fun R k y K => F45_3_eq n R (fun (x : SSh.den G F45_3s) => F45_3_it n (fun u0 => K .ret (SSh.enc G F45_3x0 ((u0, ()), ()))) (fun u0 u1 => K (.exit 2) (SSh.enc G F45_3x1 ((u0, (u1, ())), ()))) k x.1.1 x.1.2.1 x.1.2.2.1) y K) n
noncomputable def F45_4x0 : SSh := ⟨62, [(2, .bool)], []⟩
noncomputable def F45_4x1 : SSh := ⟨62, [(0, (.imm 3))], []⟩
noncomputable def F45_4s : SSh := ⟨62, [(0, (.imm 3)), (3, (.int .i64))], []⟩
noncomputable def F45_4_step {R : Type} (n : Nat) (k0 : Bool → Option R) (k1 : List (List Act) → Option R) (rec : List (List Act) → Int → Option R) (x323 : List (List Act)) (x324 : Int) : Option R :=
  (bif (decide (x324 < ((x323.length) : Int))) then
  (F45_3 n x323 x324 (0 : Int) (fun z389 =>
  (k0 z389)) (fun z390 z391 =>
  (bif (decide ((0 : Int) ≤ z391)) then
  (bif (decide (z391 < ((z390.length) : Int))) then
  (bif (decide ((((z390.getD (z391.toNat) []).length) : Int) > (8 : Int))) then
  (k0 false)
  else (rec z390 (IntKind.wrap .i64 (z391 + (1 : Int)))))
  else none)
  else none)))
  else (k1 x323))
noncomputable def F45_4_it {R : Type} (n : Nat) (k0 : Bool → Option R) (k1 : List (List Act) → Option R) : Nat → List (List Act) → Int → Option R
  | 0, _, _ => none
  | k + 1, x323, x324 => F45_4_step n k0 k1 (F45_4_it n k0 k1 k) x323 x324
noncomputable def F45_4 {R : Type} (n : Nat) (x323 : List (List Act)) (x324 : Int) (k0 : Bool → Option R) (k1 : List (List Act) → Option R) : Option R := F45_4_it n k0 k1 n x323 x324
noncomputable def F45_4z (n : Nat) : Sm G := inZ G 0 ⟨[0, 3], []⟩ F45_4s fun R x K => F45_4_it n (fun u0 => K .ret (SSh.enc G F45_4x0 ((u0, ()), ()))) (fun u0 => K (.exit 0) (SSh.enc G F45_4x1 ((u0, ()), ()))) n x.1.1 x.1.2.1
theorem F45_4_eq (n : Nat) (R : Type) (rec : SSh.den G F45_4s → Option R) (x : SSh.den G F45_4s) (K : AE → St G → Option R) :
  F45_4_step n (fun u0 => K .ret (SSh.enc G F45_4x0 ((u0, ()), ()))) (fun u0 => K (.exit 0) (SSh.enc G F45_4x1 ((u0, ()), ()))) (fun x323 x324 => rec ((x323, (x324, ())), ())) x.1.1 x.1.2.1 = exec prog G (ro G (tabOf (E10 n)) (frOf [F45_0z n, F45_1z n, F45_2z n, F45_3z n]) R) 0 (codeAt F45c [1, 0, 1, 0, 0]) (.nd .no (.nd (.nd (.nd (.nd .no (.nd (.use 3) .no)) .no) .no) .no)) (SSh.enc G F45_4s x) (kLoop G (ro G (tabOf (E10 n)) (frOf [F45_0z n, F45_1z n, F45_2z n, F45_3z n]) R) 0 ⟨[0, 3], []⟩ F45_4s ⟨⟨[0], []⟩, ⟨[2], []⟩, [(0, ⟨[0], []⟩)]⟩ rec K) := by kernel_rfl
theorem F45_4_ok (n : Nat) : FragOK prog G 0 (codeAt F45c [1, 0, 1, 0]) (F45_4z n) :=
  frag_loop (Z := fun R k (x : SSh.den G F45_4s) K => F45_4_it n (fun u0 => K .ret (SSh.enc G F45_4x0 ((u0, ()), ()))) (fun u0 => K (.exit 0) (SSh.enc G F45_4x1 ((u0, ()), ()))) k x.1.1 x.1.2.1) laws fnok (E10_ok n).tab (AllF.of (l := [(3, codeAt F45c [1, 0, 1, 0, 0, 1, 0, 0, 0, 1, 0])]) (by kernel_rfl) (AllF.cons (F45_3_ok n) AllF.nil)) (fun _ _ _ => rfl) (fun R k y K => F45_4_eq n R (fun (x : SSh.den G F45_4s) => F45_4_it n (fun u0 => K .ret (SSh.enc G F45_4x0 ((u0, ()), ()))) (fun u0 => K (.exit 0) (SSh.enc G F45_4x1 ((u0, ()), ()))) k x.1.1 x.1.2.1) y K) n
noncomputable def F45 (n : Nat) (a322 : List (List Act)) : Option (Bool × Unit) :=
  (F45_4 n a322 (0 : Int) (fun z397 =>
  some (z397, ())) (fun z398 =>
  (andThen (F51 n ((z398.length) : Int) (1 : Int) (4 : Int)) fun r400 =>
  some (r400.1, ()))))
noncomputable def F45e (n : Nat) : Ent G := ⟨45, (.cons (.imm 3) .nil), [], .bool, [], fun x y => F45 n x.1⟩
theorem F45_eq (n : Nat) (x : ShL.den G (.cons (.imm 3) .nil)) (y : denO G []) : (F45e n).F x y = runFn prog G (ro G (tabOf (E10 n)) (frOf [F45_0z n, F45_1z n, F45_2z n, F45_3z n, F45_4z n]) _) Go.Proofs.Try.f45 (.nd .no (.nd (.nd .no (.nd (.use 4) .no)) .no)) [(0, .fz)] (ShL.enc G (.cons (.imm 3) .nil) x) (encO G [] y) (decR .bool []) := by kernel_rfl
theorem F45_ok (n : Nat) : EntOK prog G (F45e n) :=
  ent_ok (fr := frOf [F45_0z n, F45_1z n, F45_2z n, F45_3z n, F45_4z n]) (ann := (.nd .no (.nd (.nd .no (.nd (.use 4) .no)) .no))) (frm := [(0, .fz)]) laws fnok (E10_ok n).tab (e := F45e n) (fn := Go.Proofs.Try.f45) (by kernel_rfl) (AllF.ofB (cd := F45c) (l := [(4, codeAt F45c [1, 0, 1, 0])]) (by kernel_rfl) (by kernel_rfl) (AllF.cons (F45_4_ok n) AllF.nil)) (F45_eq n)
noncomputable def E11 (n : Nat) : List (Ent G) := F45e n :: E10 n
theorem E11_ok (n : Nat) : AllE prog G (E11 n) := AllE.cons (F45_ok n) (E10_ok n)
noncomputable def F23 (n : Nat) (a321 : List (List Act)) : Option (Bool × Unit) :=
  (andThen (F45 n a321) fun r401 =>
  some (r401.1, ()))
noncomputable def F23e (n : Nat) : Ent G := ⟨23, (.cons (.imm 3) .nil), [], .bool, [], fun x y => F23 n x.1⟩
theorem F23_eq (n : Nat) (x : ShL.den G (.cons (.imm 3) .nil)) (y : denO G []) : (F23e n).F x y = runFn prog G (ro G (tabOf (E11 n)) (frOf []) _) Go.Proofs.Try.f23 .no [(0, .fz)] (ShL.enc G (.cons (.imm 3) .nil) x) (encO G [] y) (decR .bool []) := by kernel_rfl
theorem F23_ok (n : Nat) : EntOK prog G (F23e n) :=
  ent_ok (fr := frOf []) (ann := .no) (frm := [(0, .fz)]) laws fnok (E11_ok n).tab (e := F23e n) (fn := Go.Proofs.Try.f23) (by kernel_rfl) (AllF.ofB (cd := F23c) (l := []) (by kernel_rfl) (by kernel_rfl) AllF.nil) (F23_eq n)
noncomputable def E12 (n : Nat) : List (Ent G) := F23e n :: E11 n
theorem E12_ok (n : Nat) : AllE prog G (E12 n) := AllE.cons (F23_ok n) (E11_ok n)
-- 26 loop.example/slowworm/impl.LoopNew
noncomputable def F26c : Code := bodyOf Go.Proofs.Try.f26
-- 50 loop.example/slowworm/impl.newTask
noncomputable def F50c : Code := bodyOf Go.Proofs.Try.f50
noncomputable def F50 (n : Nat) (a412 : Int) (a413 : Int) : Option ((Int × (Int × (Int × (Int × (Int × (Int × (Int × (Bool × Unit)))))))) × Unit) :=
  some ((a412, ((0 : Int), (a413, ((1 : Int), ((0 : Int), ((-1 : Int), ((0 : Int), (false, ())))))))), ())
noncomputable def F50e (n : Nat) : Ent G := ⟨50, (.cons (.int .i64) (.cons (.int .i64) .nil)), [], (.agg (.cons (.int .i64) (.cons (.int .i64) (.cons (.int .i64) (.cons (.int .i64) (.cons (.int .i64) (.cons (.int .i64) (.cons (.int .i64) (.cons .bool .nil))))))))), [], fun x y => F50 n x.1 x.2.1⟩
theorem F50_eq (n : Nat) (x : ShL.den G (.cons (.int .i64) (.cons (.int .i64) .nil))) (y : denO G []) : (F50e n).F x y = runFn prog G (ro G (tabOf (E12 n)) (frOf []) _) Go.Proofs.Try.f50 .no [(0, .fz)] (ShL.enc G (.cons (.int .i64) (.cons (.int .i64) .nil)) x) (encO G [] y) (decR (.agg (.cons (.int .i64) (.cons (.int .i64) (.cons (.int .i64) (.cons (.int .i64) (.cons (.int .i64) (.cons (.int .i64) (.cons (.int .i64) (.cons .bool .nil))))))))) []) := by kernel_rfl
theorem F50_ok (n : Nat) : EntOK prog G (F50e n) :=
  ent_ok (fr := frOf []) (ann := .no) (frm := [(0, .fz)]) laws fnok (E12_ok n).tab (e := F50e n) (fn := Go.Proofs.Try.f50) (by kernel_rfl) (AllF.ofB (cd := F50c) (l := []) (by kernel_rfl) (by kernel_rfl) AllF.nil) (F50_eq n)
noncomputable def E13 (n : Nat) : List (Ent G) := F50e n :: E12 n
theorem E13_ok (n : Nat) : AllE prog G (E13 n) := AllE.cons (F50_ok n) (E12_ok n)
noncomputable def F26 (n : Nat)  : Option ((Int × (List Tsk × (List Int × (Unit × Unit)))) × Unit) :=
  (andThen (F50 n (0 : Int) (-1 : Int)) fun r414 =>
  some (((0 : Int), (((Tsk.mk r414.1.1 r414.1.2.1 r414.1.2.2.1 r414.1.2.2.2.1 r414.1.2.2.2.2.1 r414.1.2.2.2.2.2.1 r414.1.2.2.2.2.2.2.1 r414.1.2.2.2.2.2.2.2.1) :: []), (((0 : Int) :: []), ((), ())))), ()))
noncomputable def F26e (n : Nat) : Ent G := ⟨26, .nil, [], (.agg (.cons (.int .i64) (.cons (.imm 4) (.cons (.imm 0) (.cons .nil0 .nil))))), [], fun x y => F26 n⟩
theorem F26_eq (n : Nat) (x : ShL.den G .nil) (y : denO G []) : (F26e n).F x y = runFn prog G (ro G (tabOf (E13 n)) (frOf []) _) Go.Proofs.Try.f26 .no [(0, .fz)] (ShL.enc G .nil x) (encO G [] y) (decR (.agg (.cons (.int .i64) (.cons (.imm 4) (.cons (.imm 0) (.cons .nil0 .nil))))) []) := by kernel_rfl
theorem F26_ok (n : Nat) : EntOK prog G (F26e n) :=
  ent_ok (fr := frOf []) (ann := .no) (frm := [(0, .fz)]) laws fnok (E13_ok n).tab (e := F26e n) (fn := Go.Proofs.Try.f26) (by kernel_rfl) (AllF.ofB (cd := F26c) (l := []) (by kernel_rfl) (by kernel_rfl) AllF.nil) (F26_eq n)
noncomputable def E14 (n : Nat) : List (Ent G) := F26e n :: E13 n
theorem E14_ok (n : Nat) : AllE prog G (E14 n) := AllE.cons (F26_ok n) (E13_ok n)
-- 25 loop.example/slowworm/impl.LoopRun
noncomputable def F25c : Code := bodyOf Go.Proofs.Try.f25
noncomputable def F25_0x0 : SSh := ⟨24, [(4, (.ptr 0 0)), (5, (.ptr 1 0))], [(.box 50 (.cons (.int .i64) (.cons .nil0 (.cons .nil0 (.cons .nil0 .nil))))), (.box 50 (.cons (.int .i64) (.cons (.imm 4) (.cons (.imm 0) (.cons .nil0 .nil)))))]⟩
noncomputable def F25_0s : SSh := ⟨24, [(0, (.imm 3)), (4, (.ptr 0 0)), (5, (.ptr 1 0)), (16, (.int .i64)), (17, (.int .i64))], [(.box 50 (.cons (.int .i64) (.cons .nil0 (.cons .nil0 (.cons .nil0 .nil))))), (.box 50 (.cons (.int .i64) (.cons (.imm 4) (.cons (.imm 0) (.cons .nil0 .nil)))))]⟩
noncomputable def F25_0_step {R : Type} (n : Nat) (k0 : Int → Int → List Tsk → List Int → Option R) (rec : List (List Act) → Int → Int → Int → Int → List Tsk → List Int → Option R) (x453 : List (List Act)) (x454 : Int) (x455 : Int) (x456 : Int) (x457 : Int) (x458 : List Tsk) (x459 : List Int) : Option R :=
  (bif (decide (x455 < x454)) then
  none
  else (k0 x456 x457 x458 x459))
noncomputable def F25_0_it {R : Type} (n : Nat) (k0 : Int → Int → List Tsk → List Int → Option R) : Nat → List (List Act) → Int → Int → Int → Int → List Tsk → List Int → Option R
  | 0, _, _, _, _, _, _, _ => none
  | k + 1, x453, x454, x455, x456, x457, x458, x459 => F25_0_step n k0 (F25_0_it n k0 k) x453 x454 x455 x456 x457 x458 x459
noncomputable def F25_0 {R : Type} (n : Nat) (x453 : List (List Act)) (x454 : Int) (x455 : Int) (x456 : Int) (x457 : Int) (x458 : List Tsk) (x459 : List Int) (k0 : Int → Int → List Tsk → List Int → Option R) : Option R := F25_0_it n k0 n x453 x454 x455 x456 x457 x458 x459
noncomputable def F25_0z (n : Nat) : Sm G := inZ G 0 ⟨[0, 4, 5, 16, 17], []⟩ F25_0s fun R x K => F25_0_it n (fun u0 u1 u2 u3 => K (.exit 0) (SSh.enc G F25_0x0 (((), ((), ())), ((u0, ((), ((), ((), ())))), ((u1, (u2, (u3, ((), ())))), ()))))) n x.1.1 x.1.2.2.2.1 x.1.2.2.2.2.1 x.2.1.1 x.2.2.1.1 x.2.2.1.2.1 x.2.2.1.2.2.1
theorem F25_0_eq (n : Nat) (R : Type) (rec : SSh.den G F25_0s → Option R) (x : SSh.den G F25_0s) (K : AE → St G → Option R) :
  F25_0_step n (fun u0 u1 u2 u3 => K (.exit 0) (SSh.enc G F25_0x0 (((), ((), ())), ((u0, ((), ((), ((), ())))), ((u1, (u2, (u3, ((), ())))), ()))))) (fun x453 x454 x455 x456 x457 x458 x459 => rec ((x453, ((), ((), (x454, (x455, ()))))), ((x456, ((), ((), ((), ())))), ((x457, (x458, (x459, ((), ())))), ())))) x.1.1 x.1.2.2.2.1 x.1.2.2.2.2.1 x.2.1.1 x.2.2.1.1 x.2.2.1.2.1 x.2.2.1.2.2.1 = exec prog G (ro G (tabOf (E14 n)) (frOf []) R) 0 (codeAt F25c [1, 1, 1, 0, 1, 0, 0]) .no (SSh.enc G F25_0s x) (kLoop G (ro G (tabOf (E14 n)) (frOf []) R) 0 ⟨[0, 4, 5, 16, 17], []⟩ F25_0s ⟨⟨[4, 5], []⟩, ⟨[4], []⟩, [(0, ⟨[4, 5], []⟩)]⟩ rec K) := by kernel_rfl
theorem F25_0_ok (n : Nat) : FragOK prog G 0 (codeAt F25c [1, 1, 1, 0, 1, 0]) (F25_0z n) :=
  frag_loop (Z := fun R k (x : SSh.den G F25_0s) K => F25_0_it n (fun u0 u1 u2 u3 => K (.exit 0) (SSh.enc G F25_0x0 (((), ((), ())), ((u0, ((), ((), ((), ())))), ((u1, (u2, (u3, ((), ())))), ()))))) k x.1.1 x.1.2.2.2.1 x.1.2.2.2.2.1 x.2.1.1 x.2.2.1.1 x.2.2.1.2.1 x.2.2.1.2.2.1) laws fnok (E14_ok n).tab (AllF.of (l := []) (by kernel_rfl) AllF.nil) (fun _ _ _ => rfl) (fun R k y K => F25_0_eq n R (fun (x : SSh.den G F25_0s) => F25_0_it n (fun u0 u1 u2 u3 => K (.exit 0) (SSh.enc G F25_0x0 (((), ((), ())), ((u0, ((), ((), ((), ())))), ((u1, (u2, (u3, ((), ())))), ()))))) k x.1.1 x.1.2.2.2.1 x.1.2.2.2.2.1 x.2.1.1 x.2.2.1.1 x.2.2.1.2.1 x.2.2.1.2.2.1) y K) n
noncomputable def F25_1x0 : SSh := ⟨24, [(4, (.ptr 0 0)), (5, (.ptr 1 0))], [(.box 50 (.cons (.int .i64) (.cons .nil0 (.cons .nil0 (.cons .nil0 .nil))))), (.box 50 (.cons (.int .i64) (.cons (.imm 4) (.cons (.imm 0) (.cons .nil0 .nil)))))]⟩
noncomputable def F25_1s : SSh := ⟨24, [(0, (.imm 3)), (1, (.int .i64)), (4, (.ptr 0 0)), (5, (.ptr 1 0))], [(.box 50 (.cons (.int .i64) (.cons .nil0 (.cons .nil0 (.cons .nil0 .nil))))), (.box 50 (.cons (.int .i64) (.cons (.imm 4) (.cons (.imm 0) (.cons .nil0 .nil)))))]⟩
noncomputable def F25_1 {R : Type} (n : Nat) (x447 : List (List Act)) (x448 : Int) (x449 : Int) (x450 : Int) (x451 : List Tsk) (x452 : List Int) (k0 : Int → Int → List Tsk → List Int → Option R) : Option R :=
  (F25_0 n x447 x448 (0 : Int) x449 x450 x451 x452 (fun z461 z462 z463 z464 =>
  (k0 z461 z462 z463 z464)))
noncomputable def F25_1z (n : Nat) : Sm G := inZ G 0 ⟨[0, 1, 4, 5], []⟩ F25_1s fun R x K => F25_1 n x.1.1 x.1.2.1 x.2.1.1 x.2.2.1.1 x.2.2.1.2.1 x.2.2.1.2.2.1 (fun u0 u1 u2 u3 => K .normal (SSh.enc G F25_1x0 (((), ((), ())), ((u0, ((), ((), ((), ())))), ((u1, (u2, (u3, ((), ())))), ())))))
theorem F25_1_eq (n : Nat) (R : Type) (x : SSh.den G F25_1s) (K : AE → St G → Option R) :
  F25_1 n x.1.1 x.1.2.1 x.2.1.1 x.2.2.1.1 x.2.2.1.2.1 x.2.2.1.2.2.1 (fun u0 u1 u2 u3 => K .normal (SSh.enc G F25_1x0 (((), ((), ())), ((u0, ((), ((), ((), ())))), ((u1, (u2, (u3, ((), ())))), ()))))) = exec prog G (ro G (tabOf (E14 n)) (frOf [F25_0z n]) R) 0 (codeAt F25c [1, 1, 1, 0]) (.nd .no (.nd (.use 0) .no)) (SSh.enc G F25_1s x) (kNrm G (ro G (tabOf (E14 n)) (frOf [F25_0z n]) R) 0 ⟨⟨[4, 5], []⟩, ⟨[4], []⟩, []⟩ K) := by kernel_rfl
theorem F25_1_ok (n : Nat) : FragOK prog G 0 (codeAt F25c [1, 1, 1, 0]) (F25_1z n) :=
  frag_plain laws fnok (E14_ok n).tab (AllF.of (l := [(0, codeAt F25c [1, 1, 1, 0, 1, 0])]) (by kernel_rfl) (AllF.cons (F25_0_ok n) AllF.nil)) (F25_1_eq n)
noncomputable def F25 (n : Nat) (a440 : List (List Act)) (a441 : Int) : Option ((Int × (List Tsk × (List Int × (Unit × Unit)))) × Unit) :=
  (andThen (F22 n a440) fun r442 =>
  (bif (!r442.1) then
  some (((0 : Int), ([], ([], ((), ())))), ())
  else (andThen (F44 n a441 (0 : Int) (120 : Int)) fun r444 =>
  (bif (!r444.1) then
  some (((0 : Int), ([], ([], ((), ())))), ())
  else (andThen (F26 n) fun r446 =>
  (F25_1 n a440 a441 (0 : Int) r446.1.1 r446.1.2.1 r446.1.2.2.1 (fun z465 z466 z467 z468 =>
  some ((z466, (z467, (z468, ((), ())))), ()))))))))
noncomputable def F25e (n : Nat) : Ent G := ⟨25, (.cons (.imm 3) (.cons (.int .i64) .nil)), [], (.agg (.cons (.int .i64) (.cons (.imm 4) (.cons (.imm 0) (.cons .nil0 .nil))))), [], fun x y => F25 n x.1 x.2.1⟩
theorem F25_eq (n : Nat) (x : ShL.den G (.cons (.imm 3) (.cons (.int .i64) .nil))) (y : denO G []) : (F25e n).F x y = runFn prog G (ro G (tabOf (E14 n)) (frOf [F25_0z n, F25_1z n]) _) Go.Proofs.Try.f25 (.nd .no (.nd .no (.nd .no (.nd (.use 1) .no)))) [(0, .fz)] (ShL.enc G (.cons (.imm 3) (.cons (.int .i64) .nil)) x) (encO G [] y) (decR (.agg (.cons (.int .i64) (.cons (.imm 4) (.cons (.imm 0) (.cons .nil0 .nil))))) []) := by kernel_rfl
theorem F25_ok (n : Nat) : EntOK prog G (F25e n) :=
  ent_ok (fr := frOf [F25_0z n, F25_1z n]) (ann := (.nd .no (.nd .no (.nd .no (.nd (.use 1) .no))))) (frm := [(0, .fz)]) laws fnok (E14_ok n).tab (e := F25e n) (fn := Go.Proofs.Try.f25) (by kernel_rfl) (AllF.ofB (cd := F25c) (l := [(1, codeAt F25c [1, 1, 1, 0])]) (by kernel_rfl) (by kernel_rfl) (AllF.cons (F25_1_ok n) AllF.nil)) (F25_eq n)
noncomputable def E15 (n : Nat) : List (Ent G) := F25e n :: E14 n
theorem E15_ok (n : Nat) : AllE prog G (E15 n) := AllE.cons (F25_ok n) (E14_ok n)
-- 24 loop.example/slowworm/spec.SameLoop
noncomputable def F24c : Code := bodyOf Go.Proofs.Try.f24
-- 46 loop.example/slowworm/spec.sameTasks
noncomputable def F46c : Code := bodyOf Go.Proofs.Try.f46
noncomputable def F46_0x0 : SSh := ⟨26, [(4, .bool)], []⟩
noncomputable def F46_0x1 : SSh := ⟨26, [], []⟩
noncomputable def F46_0s : SSh := ⟨26, [(0, (.imm 4)), (1, (.imm 4)), (5, (.int .i64))], []⟩
noncomputable def F46_0_step {R : Type} (n : Nat) (k0 : Bool → Option R) (k1 : Option R) (rec : List Tsk → List Tsk → Int → Option R) (x485 : List Tsk) (x486 : List Tsk) (x487 : Int) : Option R :=
  (bif (decide (x487 < ((x485.length) : Int))) then
  (bif (decide ((0 : Int) ≤ x487)) then
  (bif (decide (x487 < ((x485.length) : Int))) then
  let v490 := (x485.getD (x487.toNat) (Tsk.mk (0 : Int) (0 : Int) (0 : Int) (0 : Int) (0 : Int) (0 : Int) (0 : Int) false))
  (bif (decide ((0 : Int) ≤ x487)) then
  (bif (decide (x487 < ((x486.length) : Int))) then
  let v499 := (x486.getD (x487.toNat) (Tsk.mk (0 : Int) (0 : Int) (0 : Int) (0 : Int) (0 : Int) (0 : Int) (0 : Int) false))
  (bif (!((v490.script == v499.script) && ((v490.at_ == v499.at_) && ((v490.up == v499.up) && ((v490.state == v499.state) && ((v490.wake == v499.wake) && ((v490.wait == v499.wait) && ((v490.num == v499.num) && (v490.cancel == v499.cancel))))))))) then
  (k0 false)
  else (rec x485 x486 (IntKind.wrap .i64 (x487 + (1 : Int)))))
  else none)
  else none)
  else none)
  else none)
  else k1)
noncomputable def F46_0_it {R : Type} (n : Nat) (k0 : Bool → Option R) (k1 : Option R) : Nat → List Tsk → List Tsk → Int → Option R
  | 0, _, _, _ => none
  | k + 1, x485, x486, x487 => F46_0_step n k0 k1 (F46_0_it n k0 k1 k) x485 x486 x487
noncomputable def F46_0 {R : Type} (n : Nat) (x485 : List Tsk) (x486 : List Tsk) (x487 : Int) (k0 : Bool → Option R) (k1 : Option R) : Option R := F46_0_it n k0 k1 n x485 x486 x487
noncomputable def F46_0z (n : Nat) : Sm G := inZ G 0 ⟨[0, 1, 5], []⟩ F46_0s fun R x K => F46_0_it n (fun u0 => K .ret (SSh.enc G F46_0x0 ((u0, ()), ()))) (K (.exit 0) (SSh.enc G F46_0x1 ((), ()))) n x.1.1 x.1.2.1 x.1.2.2.1
theorem F46_0_eq (n : Nat) (R : Type) (rec : SSh.den G F46_0s → Option R) (x : SSh.den G F46_0s) (K : AE → St G → Option R) :
  F46_0_step n (fun u0 => K .ret (SSh.enc G F46_0x0 ((u0, ()), ()))) (K (.exit 0) (SSh.enc G F46_0x1 ((), ()))) (fun x485 x486 x487 => rec ((x485, (x486, (x487, ()))), ())) x.1.1 x.1.2.1 x.1.2.2.1 = exec prog G (ro G (tabOf (E15 n)) (frOf []) R) 0 (codeAt F46c [1, 1, 0, 1, 0, 0]) .no (SSh.enc G F46_0s x) (kLoop G (ro G (tabOf (E15 n)) (frOf []) R) 0 ⟨[0, 1, 5], []⟩ F46_0s ⟨⟨[], []⟩, ⟨[4], []⟩, [(0, ⟨[], []⟩)]⟩ rec K) := by kernel_rfl
theorem F46_0_ok (n : Nat) : FragOK prog G 0 (codeAt F46c [1, 1, 0, 1, 0]) (F46_0z n) :=
  frag_loop (Z := fun R k (x : SSh.den G F46_0s) K => F46_0_it n (fun u0 => K .ret (SSh.enc G F46_0x0 ((u0, ()), ()))) (K (.exit 0) (SSh.enc G F46_0x1 ((), ()))) k x.1.1 x.1.2.1 x.1.2.2.1) laws fnok (E15_ok n).tab (AllF.of (l := []) (by kernel_rfl) AllF.nil) (fun _ _ _ => rfl) (fun R k y K => F46_0_eq n R (fun (x : SSh.den G F46_0s) => F46_0_it n (fun u0 => K .ret (SSh.enc G F46_0x0 ((u0, ()), ()))) (K (.exit 0) (SSh.enc G F46_0x1 ((), ()))) k x.1.1 x.1.2.1 x.1.2.2.1) y K) n
noncomputable def F46 (n : Nat) (a480 : List Tsk) (a481 : List Tsk) : Option (Bool × Unit) :=
  (bif (((a480.length) : Int) != ((a481.length) : Int)) then
  some (false, ())
  else (F46_0 n a480 a481 (0 : Int) (fun z510 =>
  some (z510, ())) (
  some (true, ()))))
noncomputable def F46e (n : Nat) : Ent G := ⟨46, (.cons (.imm 4) (.cons (.imm 4) .nil)), [], .bool, [], fun x y => F46 n x.1 x.2.1⟩
theorem F46_eq (n : Nat) (x : ShL.den G (.cons (.imm 4) (.cons (.imm 4) .nil))) (y : denO G []) : (F46e n).F x y = runFn prog G (ro G (tabOf (E15 n)) (frOf [F46_0z n]) _) Go.Proofs.Try.f46 (.nd .no (.nd .no (.nd (.nd .no (.nd (.use 0) .no)) .no))) [(0, .fz)] (ShL.enc G (.cons (.imm 4) (.cons (.imm 4) .nil)) x) (encO G [] y) (decR .bool []) := by kernel_rfl
theorem F46_ok (n : Nat) : EntOK prog G (F46e n) :=
  ent_ok (fr := frOf [F46_0z n]) (ann := (.nd .no (.nd .no (.nd (.nd .no (.nd (.use 0) .no)) .no)))) (frm := [(0, .fz)]) laws fnok (E15_ok n).tab (e := F46e n) (fn := Go.Proofs.Try.f46) (by kernel_rfl) (AllF.ofB (cd := F46c) (l := [(0, codeAt F46c [1, 1, 0, 1, 0])]) (by kernel_rfl) (by kernel_rfl) (AllF.cons (F46_0_ok n) AllF.nil)) (F46_eq n)
noncomputable def E16 (n : Nat) : List (Ent G) := F46e n :: E15 n
theorem E16_ok (n : Nat) : AllE prog G (E16 n) := AllE.cons (F46_ok n) (E15_ok n)
-- 47 loop.example/slowworm/spec.sameNums
noncomputable def F47c : Code := bodyOf Go.Proofs.Try.f47
noncomputable def F47_0x0 : SSh := ⟨26, [(4, .bool)], []⟩
noncomputable def F47_0x1 : SSh := ⟨26, [], []⟩
noncomputable def F47_0s : SSh := ⟨26, [(0, (.imm 0)), (1, (.imm 0)), (5, (.int .i64))], []⟩
noncomputable def F47_0_step {R : Type} (n : Nat) (k0 : Bool → Option R) (k1 : Option R) (rec : List Int → List Int → Int → Option R) (x517 : List Int) (x518 : List Int) (x519 : Int) : Option R :=
  (bif (decide (x519 < ((x517.length) : Int))) then
  (bif (decide ((0 : Int) ≤ x519)) then
  (bif (decide (x519 < ((x517.length) : Int))) then
  (bif (decide ((0 : Int) ≤ x519)) then
  (bif (decide (x519 < ((x518.length) : Int))) then
  (bif ((x517.getD (x519.toNat) (0 : Int)) != (x518.getD (x519.toNat) (0 : Int))) then
  (k0 false)
  else (rec x517 x518 (IntKind.wrap .i64 (x519 + (1 : Int)))))
  else none)
  else none)
  else none)
  else none)
  else k1)
noncomputable def F47_0_it {R : Type} (n : Nat) (k0 : Bool → Option R) (k1 : Option R) : Nat → List Int → List Int → Int → Option R
  | 0, _, _, _ => none
  | k + 1, x517, x518, x519 => F47_0_step n k0 k1 (F47_0_it n k0 k1 k) x517 x518 x519
noncomputable def F47_0 {R : Type} (n : Nat) (x517 : List Int) (x518 : List Int) (x519 : Int) (k0 : Bool → Option R) (k1 : Option R) : Option R := F47_0_it n k0 k1 n x517 x518 x519
noncomputable def F47_0z (n : Nat) : Sm G := inZ G 0 ⟨[0, 1, 5], []⟩ F47_0s fun R x K => F47_0_it n (fun u0 => K .ret (SSh.enc G F47_0x0 ((u0, ()), ()))) (K (.exit 0) (SSh.enc G F47_0x1 ((), ()))) n x.1.1 x.1.2.1 x.1.2.2.1
theorem F47_0_eq (n : Nat) (R : Type) (rec : SSh.den G F47_0s → Option R) (x : SSh.den G F47_0s) (K : AE → St G → Option R) :
  F47_0_step n (fun u0 => K .ret (SSh.enc G F47_0x0 ((u0, ()), ()))) (K (.exit 0) (SSh.enc G F47_0x1 ((), ()))) (fun x517 x518 x519 => rec ((x517, (x518, (x519, ()))), ())) x.1.1 x.1.2.1 x.1.2.2.1 = exec prog G (ro G (tabOf (E16 n)) (frOf []) R) 0 (codeAt F47c [1, 1, 0, 1, 0, 0]) .no (SSh.enc G F47_0s x) (kLoop G (ro G (tabOf (E16 n)) (frOf []) R) 0 ⟨[0, 1, 5], []⟩ F47_0s ⟨⟨[], []⟩, ⟨[4], []⟩, [(0, ⟨[], []⟩)]⟩ rec K) := by kernel_rfl
theorem F47_0_ok (n : Nat) : FragOK prog G 0 (codeAt F47c [1, 1, 0, 1, 0]) (F47_0z n) :=
  frag_loop (Z := fun R k (x : SSh.den G F47_0s) K => F47_0_it n (fun u0 => K .ret (SSh.enc G F47_0x0 ((u0, ()), ()))) (K (.exit 0) (SSh.enc G F47_0x1 ((), ()))) k x.1.1 x.1.2.1 x.1.2.2.1) laws fnok (E16_ok n).tab (AllF.of (l := []) (by kernel_rfl) AllF.nil) (fun _ _ _ => rfl) (fun R k y K => F47_0_eq n R (fun (x : SSh.den G F47_0s) => F47_0_it n (fun u0 => K .ret (SSh.enc G F47_0x0 ((u0, ()), ()))) (K (.exit 0) (SSh.enc G F47_0x1 ((), ()))) k x.1.1 x.1.2.1 x.1.2.2.1) y K) n
noncomputable def F47 (n : Nat) (a512 : List Int) (a513 : List Int) : Option (Bool × Unit) :=
  (bif (((a512.length) : Int) != ((a513.length) : Int)) then
  some (false, ())
  else (F47_0 n a512 a513 (0 : Int) (fun z528 =>
  some (z528, ())) (
  some (true, ()))))
noncomputable def F47e (n : Nat) : Ent G := ⟨47, (.cons (.imm 0) (.cons (.imm 0) .nil)), [], .bool, [], fun x y => F47 n x.1 x.2.1⟩
theorem F47_eq (n : Nat) (x : ShL.den G (.cons (.imm 0) (.cons (.imm 0) .nil))) (y : denO G []) : (F47e n).F x y = runFn prog G (ro G (tabOf (E16 n)) (frOf [F47_0z n]) _) Go.Proofs.Try.f47 (.nd .no (.nd .no (.nd (.nd .no (.nd (.use 0) .no)) .no))) [(0, .fz)] (ShL.enc G (.cons (.imm 0) (.cons (.imm 0) .nil)) x) (encO G [] y) (decR .bool []) := by kernel_rfl
theorem F47_ok (n : Nat) : EntOK prog G (F47e n) :=
  ent_ok (fr := frOf [F47_0z n]) (ann := (.nd .no (.nd .no (.nd (.nd .no (.nd (.use 0) .no)) .no)))) (frm := [(0, .fz)]) laws fnok (E16_ok n).tab (e := F47e n) (fn := Go.Proofs.Try.f47) (by kernel_rfl) (AllF.ofB (cd := F47c) (l := [(0, codeAt F47c [1, 1, 0, 1, 0])]) (by kernel_rfl) (by kernel_rfl) (AllF.cons (F47_0_ok n) AllF.nil)) (F47_eq n)
noncomputable def E17 (n : Nat) : List (Ent G) := F47e n :: E16 n
theorem E17_ok (n : Nat) : AllE prog G (E17 n) := AllE.cons (F47_ok n) (E16_ok n)
-- 48 loop.example/slowworm/spec.sameSaidList
noncomputable def F48c : Code := bodyOf Go.Proofs.Try.f48
noncomputable def F48_0x0 : SSh := ⟨26, [(4, .bool)], []⟩
noncomputable def F48_0x1 : SSh := ⟨26, [], []⟩
noncomputable def F48_0s : SSh := ⟨26, [(0, (.imm 5)), (1, (.imm 5)), (5, (.int .i64))], []⟩
noncomputable def F48_0_step {R : Type} (n : Nat) (k0 : Bool → Option R) (k1 : Option R) (rec : List Sd → List Sd → Int → Option R) (x535 : List Sd) (x536 : List Sd) (x537 : Int) : Option R :=
  (bif (decide (x537 < ((x535.length) : Int))) then
  (bif (decide ((0 : Int) ≤ x537)) then
  (bif (decide (x537 < ((x535.length) : Int))) then
  let v540 := (x535.getD (x537.toNat) (Sd.mk (0 : Int) (0 : Int) (0 : Int) (0 : Int)))
  (bif (decide ((0 : Int) ≤ x537)) then
  (bif (decide (x537 < ((x536.length) : Int))) then
  let v545 := (x536.getD (x537.toNat) (Sd.mk (0 : Int) (0 : Int) (0 : Int) (0 : Int)))
  (bif (!((v540.time == v545.time) && ((v540.task == v545.task) && ((v540.kind == v545.kind) && (v540.num == v545.num))))) then
  (k0 false)
  else (rec x535 x536 (IntKind.wrap .i64 (x537 + (1 : Int)))))
  else none)
  else none)
  else none)
  else none)
  else k1)
noncomputable def F48_0_it {R : Type} (n : Nat) (k0 : Bool → Option R) (k1 : Option R) : Nat → List Sd → List Sd → Int → Option R
  | 0, _, _, _ => none
  | k + 1, x535, x536, x537 => F48_0_step n k0 k1 (F48_0_it n k0 k1 k) x535 x536 x537
noncomputable def F48_0 {R : Type} (n : Nat) (x535 : List Sd) (x536 : List Sd) (x537 : Int) (k0 : Bool → Option R) (k1 : Option R) : Option R := F48_0_it n k0 k1 n x535 x536 x537
noncomputable def F48_0z (n : Nat) : Sm G := inZ G 0 ⟨[0, 1, 5], []⟩ F48_0s fun R x K => F48_0_it n (fun u0 => K .ret (SSh.enc G F48_0x0 ((u0, ()), ()))) (K (.exit 0) (SSh.enc G F48_0x1 ((), ()))) n x.1.1 x.1.2.1 x.1.2.2.1
theorem F48_0_eq (n : Nat) (R : Type) (rec : SSh.den G F48_0s → Option R) (x : SSh.den G F48_0s) (K : AE → St G → Option R) :
  F48_0_step n (fun u0 => K .ret (SSh.enc G F48_0x0 ((u0, ()), ()))) (K (.exit 0) (SSh.enc G F48_0x1 ((), ()))) (fun x535 x536 x537 => rec ((x535, (x536, (x537, ()))), ())) x.1.1 x.1.2.1 x.1.2.2.1 = exec prog G (ro G (tabOf (E17 n)) (frOf []) R) 0 (codeAt F48c [1, 1, 0, 1, 0, 0]) .no (SSh.enc G F48_0s x) (kLoop G (ro G (tabOf (E17 n)) (frOf []) R) 0 ⟨[0, 1, 5], []⟩ F48_0s ⟨⟨[], []⟩, ⟨[4], []⟩, [(0, ⟨[], []⟩)]⟩ rec K) := by kernel_rfl
theorem F48_0_ok (n : Nat) : FragOK prog G 0 (codeAt F48c [1, 1, 0, 1, 0]) (F48_0z n) :=
  frag_loop (Z := fun R k (x : SSh.den G F48_0s) K => F48_0_it n (fun u0 => K .ret (SSh.enc G F48_0x0 ((u0, ()), ()))) (K (.exit 0) (SSh.enc G F48_0x1 ((), ()))) k x.1.1 x.1.2.1 x.1.2.2.1) laws fnok (E17_ok n).tab (AllF.of (l := []) (by kernel_rfl) AllF.nil) (fun _ _ _ => rfl) (fun R k y K => F48_0_eq n R (fun (x : SSh.den G F48_0s) => F48_0_it n (fun u0 => K .ret (SSh.enc G F48_0x0 ((u0, ()), ()))) (K (.exit 0) (SSh.enc G F48_0x1 ((), ()))) k x.1.1 x.1.2.1 x.1.2.2.1) y K) n
noncomputable def F48 (n : Nat) (a530 : List Sd) (a531 : List Sd) : Option (Bool × Unit) :=
  (bif (((a530.length) : Int) != ((a531.length) : Int)) then
  some (false, ())
  else (F48_0 n a530 a531 (0 : Int) (fun z552 =>
  some (z552, ())) (
  some (true, ()))))
noncomputable def F48e (n : Nat) : Ent G := ⟨48, (.cons (.imm 5) (.cons (.imm 5) .nil)), [], .bool, [], fun x y => F48 n x.1 x.2.1⟩
theorem F48_eq (n : Nat) (x : ShL.den G (.cons (.imm 5) (.cons (.imm 5) .nil))) (y : denO G []) : (F48e n).F x y = runFn prog G (ro G (tabOf (E17 n)) (frOf [F48_0z n]) _) Go.Proofs.Try.f48 (.nd .no (.nd .no (.nd (.nd .no (.nd (.use 0) .no)) .no))) [(0, .fz)] (ShL.enc G (.cons (.imm 5) (.cons (.imm 5) .nil)) x) (encO G [] y) (decR .bool []) := by kernel_rfl
theorem F48_ok (n : Nat) : EntOK prog G (F48e n) :=
  ent_ok (fr := frOf [F48_0z n]) (ann := (.nd .no (.nd .no (.nd (.nd .no (.nd (.use 0) .no)) .no)))) (frm := [(0, .fz)]) laws fnok (E17_ok n).tab (e := F48e n) (fn := Go.Proofs.Try.f48) (by kernel_rfl) (AllF.ofB (cd := F48c) (l := [(0, codeAt F48c [1, 1, 0, 1, 0])]) (by kernel_rfl) (by kernel_rfl) (AllF.cons (F48_0_ok n) AllF.nil)) (F48_eq n)
noncomputable def E18 (n : Nat) : List (Ent G) := F48e n :: E17 n
theorem E18_ok (n : Nat) : AllE prog G (E18 n) := AllE.cons (F48_ok n) (E17_ok n)
noncomputable def F24 (n : Nat) (a471 : Int) (a472 : List Tsk) (a473 : List Int) (a474 : List Sd) (a475 : Int) (a476 : List Tsk) (a477 : List Int) (a478 : List Sd) : Option (Bool × Unit) :=
  (bif (a471 == a475) then
  (andThen (F46 n a472 a476) fun r511 =>
  (bif r511.1 then
  (andThen (F47 n a473 a477) fun r529 =>
  (bif r529.1 then
  (andThen (F48 n a474 a478) fun r553 =>
  some (r553.1, ()))
  else some (false, ())))
  else some (false, ())))
  else some (false, ()))
noncomputable def F24e (n : Nat) : Ent G := ⟨24, (.cons (.agg (.cons (.int .i64) (.cons (.imm 4) (.cons (.imm 0) (.cons (.imm 5) .nil))))) (.cons (.agg (.cons (.int .i64) (.cons (.imm 4) (.cons (.imm 0) (.cons (.imm 5) .nil))))) .nil)), [], .bool, [], fun x y => F24 n x.1.1 x.1.2.1 x.1.2.2.1 x.1.2.2.2.1 x.2.1.1 x.2.1.2.1 x.2.1.2.2.1 x.2.1.2.2.2.1⟩
theorem F24_eq (n : Nat) (x : ShL.den G (.cons (.agg (.cons (.int .i64) (.cons (.imm 4) (.cons (.imm 0) (.cons (.imm 5) .nil))))) (.cons (.agg (.cons (.int .i64) (.cons (.imm 4) (.cons (.imm 0) (.cons (.imm 5) .nil))))) .nil))) (y : denO G []) : (F24e n).F x y = runFn prog G (ro G (tabOf (E18 n)) (frOf []) _) Go.Proofs.Try.f24 .no [(0, .fz)] (ShL.enc G (.cons (.agg (.cons (.int .i64) (.cons (.imm 4) (.cons (.imm 0) (.cons (.imm 5) .nil))))) (.cons (.agg (.cons (.int .i64) (.cons (.imm 4) (.cons (.imm 0) (.cons (.imm 5) .nil))))) .nil)) x) (encO G [] y) (decR .bool []) := by kernel_rfl
theorem F24_ok (n : Nat) : EntOK prog G (F24e n) :=
  ent_ok (fr := frOf []) (ann := .no) (frm := [(0, .fz)]) laws fnok (E18_ok n).tab (e := F24e n) (fn := Go.Proofs.Try.f24) (by kernel_rfl) (AllF.ofB (cd := F24c) (l := []) (by kernel_rfl) (by kernel_rfl) AllF.nil) (F24_eq n)
noncomputable def E19 (n : Nat) : List (Ent G) := F24e n :: E18 n
theorem E19_ok (n : Nat) : AllE prog G (E19 n) := AllE.cons (F24_ok n) (E18_ok n)
noncomputable def F4 (n : Nat) (a0 : List Int) : Option (Bool × Unit) :=
  (bif (decide (((a0.length) : Int) > (1048576 : Int))) then
  some (true, ())
  else (andThen (F21 n a0) fun r189 =>
  (andThen (F22 n r189.1) fun r320 =>
  (andThen (F23 n r189.1) fun r402 =>
  let v403 := (r320.1 == r402.1)
  (bif (!v403) then
  some (v403, ())
  else (bif (!r320.1) then
  some (v403, ())
  else (andThen (F25 n r189.1 (0 : Int)) fun r469 =>
  (andThen (F26 n) fun r470 =>
  (andThen (F24 n r469.1.1 r469.1.2.1 r469.1.2.2.1 [] r470.1.1 r470.1.2.1 r470.1.2.2.1 []) fun r554 =>
  some (r554.1, ()))))))))))
noncomputable def F4e (n : Nat) : Ent G := ⟨4, (.cons (.imm 1) .nil), [], .bool, [], fun x y => F4 n x.1⟩
theorem F4_eq (n : Nat) (x : ShL.den G (.cons (.imm 1) .nil)) (y : denO G []) : (F4e n).F x y = runFn prog G (ro G (tabOf (E19 n)) (frOf []) _) Go.Proofs.Try.f4 .no [(0, .fz)] (ShL.enc G (.cons (.imm 1) .nil) x) (encO G [] y) (decR .bool []) := by kernel_rfl
theorem F4_ok (n : Nat) : EntOK prog G (F4e n) :=
  ent_ok (fr := frOf []) (ann := .no) (frm := [(0, .fz)]) laws fnok (E19_ok n).tab (e := F4e n) (fn := Go.Proofs.Try.f4) (by kernel_rfl) (AllF.ofB (cd := F4c) (l := []) (by kernel_rfl) (by kernel_rfl) AllF.nil) (F4_eq n)
noncomputable def E20 (n : Nat) : List (Ent G) := F4e n :: E19 n
theorem E20_ok (n : Nat) : AllE prog G (E20 n) := AllE.cons (F4_ok n) (E19_ok n)
end Go.Proofs.Ytfelakjmajooaaa.Am
