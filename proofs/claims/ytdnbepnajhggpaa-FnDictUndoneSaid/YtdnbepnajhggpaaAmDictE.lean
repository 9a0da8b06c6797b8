/- The functions of the seat of dictionaries, printed. -/
import Derived.Test.YtdnbepnajhggpaaAmDictSig
namespace Go.Proofs.Ytdnbepnajhggpaa.Am
open Go Go.Proofs.Try
set_option autoImplicit false
set_option linter.unusedVariables false
set_option maxRecDepth 100000
noncomputable def E0 (n : Nat) : List (Ent G) := []
theorem E0_ok (n : Nat) : AllE prog G (E0 n) := AllE.nil
-- 8 loop.example/slowworm/laws.FnDictGet
noncomputable def F8c : Code := bodyOf Go.Proofs.Try.f8
-- 28 loop.example/slowworm/spec.DrawDictGet
noncomputable def F28c : Code := bodyOf Go.Proofs.Try.f28
-- 48 loop.example/slowworm/spec.newRnd
noncomputable def F48c : Code := bodyOf Go.Proofs.Try.f48
noncomputable def F48 (n : Nat) (a4 : List Int) : Option (Unit × ((List Int × (Int × Unit)) × Unit)) :=
  let v5 := ((a4.length) : Int)
  let v6 := (if ((4000 : Int) < v5) then (4000 : Int) else v5)
  (bif (decide ((0 : Int) ≤ v6)) then
  (bif (decide (v6 ≤ ((a4.length) : Int))) then
  some ((), ((((a4.take (v6.toNat)).drop (0 : Nat)), ((0 : Int), ())), ()))
  else none)
  else none)
noncomputable def F48e (n : Nat) : Ent G := ⟨48, (.cons (.imm 1) .nil), [], (.ptr 0 0), [(.box 72 (.cons (.imm 1) (.cons (.int .i64) .nil)))], fun x y => F48 n x.1⟩
theorem F48_eq (n : Nat) (x : ShL.den G (.cons (.imm 1) .nil)) (y : denO G []) : (F48e n).F x y = runFn prog G (ro G (tabOf (E0 n)) (frOf []) _) Go.Proofs.Try.f48 .no [(0, .fz)] (ShL.enc G (.cons (.imm 1) .nil) x) (encO G [] y) (decR (.ptr 0 0) [(.box 72 (.cons (.imm 1) (.cons (.int .i64) .nil)))]) := by kernel_rfl
theorem F48_ok (n : Nat) : EntOK prog G (F48e n) :=
  ent_ok (fr := frOf []) (ann := .no) (frm := [(0, .fz)]) laws fnok (E0_ok n).tab (e := F48e n) (fn := Go.Proofs.Try.f48) (by kernel_rfl) (AllF.ofB (cd := F48c) (l := []) (by kernel_rfl) (by kernel_rfl) AllF.nil) (F48_eq n)
noncomputable def E1 (n : Nat) : List (Ent G) := F48e n :: E0 n
theorem E1_ok (n : Nat) : AllE prog G (E1 n) := AllE.cons (F48_ok n) (E0_ok n)
-- 31 loop.example/slowworm/spec.DictNew
noncomputable def F31c : Code := bodyOf Go.Proofs.Try.f31
-- 64 loop.example/slowworm/spec.newIndex
noncomputable def F64c : Code := bodyOf Go.Proofs.Try.f64
noncomputable def F64_0x0 : SSh := ⟨15, [(3, (.own 0))], [(.arr 0 true)]⟩
noncomputable def F64_0s : SSh := ⟨15, [(0, (.int .i64)), (3, (.own 0)), (4, (.int .i64))], [(.arr 0 true)]⟩
noncomputable def F64_0_step {R : Type} (n : Nat) (k0 : List Int → Option R) (rec : Int → Int → List Int → Option R) (x13 : Int) (x14 : Int) (x15 : List Int) : Option R :=
  (bif (decide (x14 < x13)) then
  let v17 := ((-1 : Int) :: [])
  (bif (decide (((x15.length) + (v17.length)) ≤ (68719476736 : Nat))) then
  (rec x13 (IntKind.wrap .i64 (x14 + (1 : Int))) (x15 ++ v17))
  else none)
  else (k0 x15))
noncomputable def F64_0_it {R : Type} (n : Nat) (k0 : List Int → Option R) : Nat → Int → Int → List Int → Option R
  | 0, _, _, _ => none
  | k + 1, x13, x14, x15 => F64_0_step n k0 (F64_0_it n k0 k) x13 x14 x15
noncomputable def F64_0 {R : Type} (n : Nat) (x13 : Int) (x14 : Int) (x15 : List Int) (k0 : List Int → Option R) : Option R := F64_0_it n k0 n x13 x14 x15
noncomputable def F64_0z (n : Nat) : Sm G := inZ G 0 ⟨[0, 3, 4], []⟩ F64_0s fun R x K => F64_0_it n (fun u0 => K (.exit 0) (SSh.enc G F64_0x0 (((), ()), (u0, ())))) n x.1.1 x.1.2.2.1 x.2.1
theorem F64_0_eq (n : Nat) (R : Type) (rec : SSh.den G F64_0s → Option R) (x : SSh.den G F64_0s) (K : AE → St G → Option R) :
  F64_0_step n (fun u0 => K (.exit 0) (SSh.enc G F64_0x0 (((), ()), (u0, ())))) (fun x13 x14 x15 => rec ((x13, ((), (x14, ()))), (x15, ()))) x.1.1 x.1.2.2.1 x.2.1 = exec prog G (ro G (tabOf (E1 n)) (frOf []) R) 0 (codeAt F64c [1, 1, 0, 1, 0, 0]) .no (SSh.enc G F64_0s x) (kLoop G (ro G (tabOf (E1 n)) (frOf []) R) 0 ⟨[0, 3, 4], []⟩ F64_0s ⟨⟨[3], []⟩, ⟨[2], []⟩, [(0, ⟨[3], []⟩)]⟩ rec K) := by kernel_rfl
theorem F64_0_ok (n : Nat) : FragOK prog G 0 (codeAt F64c [1, 1, 0, 1, 0]) (F64_0z n) :=
  frag_loop (Z := fun R k (x : SSh.den G F64_0s) K => F64_0_it n (fun u0 => K (.exit 0) (SSh.enc G F64_0x0 (((), ()), (u0, ())))) k x.1.1 x.1.2.2.1 x.2.1) laws fnok (E1_ok n).tab (AllF.of (l := []) (by kernel_rfl) AllF.nil) (fun _ _ _ => rfl) (fun R k y K => F64_0_eq n R (fun (x : SSh.den G F64_0s) => F64_0_it n (fun u0 => K (.exit 0) (SSh.enc G F64_0x0 (((), ()), (u0, ())))) k x.1.1 x.1.2.2.1 x.2.1) y K) n
noncomputable def F64 (n : Nat) (a11 : Int) : Option (Unit × (List Int × Unit)) :=
  (F64_0 n a11 (0 : Int) [] (fun z20 =>
  some ((), (z20, ()))))
noncomputable def F64e (n : Nat) : Ent G := ⟨64, (.cons (.int .i64) .nil), [], (.own 0), [(.arr 0 true)], fun x y => F64 n x.1⟩
theorem F64_eq (n : Nat) (x : ShL.den G (.cons (.int .i64) .nil)) (y : denO G []) : (F64e n).F x y = runFn prog G (ro G (tabOf (E1 n)) (frOf [F64_0z n]) _) Go.Proofs.Try.f64 (.nd .no (.nd .no (.nd (.nd .no (.nd (.use 0) .no)) .no))) [] (ShL.enc G (.cons (.int .i64) .nil) x) (encO G [] y) (decR (.own 0) [(.arr 0 true)]) := by kernel_rfl
theorem F64_ok (n : Nat) : EntOK prog G (F64e n) :=
  ent_ok (fr := frOf [F64_0z n]) (ann := (.nd .no (.nd .no (.nd (.nd .no (.nd (.use 0) .no)) .no)))) (frm := []) laws fnok (E1_ok n).tab (e := F64e n) (fn := Go.Proofs.Try.f64) (by kernel_rfl) (AllF.ofB (cd := F64c) (l := [(0, codeAt F64c [1, 1, 0, 1, 0])]) (by kernel_rfl) (by kernel_rfl) (AllF.cons (F64_0_ok n) AllF.nil)) (F64_eq n)
noncomputable def E2 (n : Nat) : List (Ent G) := F64e n :: E1 n
theorem E2_ok (n : Nat) : AllE prog G (E2 n) := AllE.cons (F64_ok n) (E1_ok n)
noncomputable def F31 (n : Nat)  : Option ((Unit × (Unit × Unit)) × (List Int × (List Ety × Unit))) :=
  (andThen (F64 n (8 : Int)) fun r21 =>
  some (((), ((), ())), (r21.2.1, ([], ()))))
noncomputable def F31e (n : Nat) : Ent G := ⟨31, .nil, [], (.agg (.cons (.own 0) (.cons (.own 1) .nil))), [(.arr 0 true), (.arr 3 true)], fun x y => F31 n⟩
theorem F31_eq (n : Nat) (x : ShL.den G .nil) (y : denO G []) : (F31e n).F x y = runFn prog G (ro G (tabOf (E2 n)) (frOf []) _) Go.Proofs.Try.f31 .no [(0, (.fld 1 (.own 3)))] (ShL.enc G .nil x) (encO G [] y) (decR (.agg (.cons (.own 0) (.cons (.own 1) .nil))) [(.arr 0 true), (.arr 3 true)]) := by kernel_rfl
theorem F31_ok (n : Nat) : EntOK prog G (F31e n) :=
  ent_ok (fr := frOf []) (ann := .no) (frm := [(0, (.fld 1 (.own 3)))]) laws fnok (E2_ok n).tab (e := F31e n) (fn := Go.Proofs.Try.f31) (by kernel_rfl) (AllF.ofB (cd := F31c) (l := []) (by kernel_rfl) (by kernel_rfl) AllF.nil) (F31_eq n)
noncomputable def E3 (n : Nat) : List (Ent G) := F31e n :: E2 n
theorem E3_ok (n : Nat) : AllE prog G (E3 n) := AllE.cons (F31_ok n) (E2_ok n)
-- 77 (*loop.example/slowworm/spec.rnd).one
noncomputable def F77c : Code := bodyOf Go.Proofs.Try.f77
-- 65 (*loop.example/slowworm/spec.rnd).pick
noncomputable def F65c : Code := bodyOf Go.Proofs.Try.f65
noncomputable def F65_0x0 : SSh := ⟨101, [(0, (.ptr 0 0)), (1, (.int .i64)), (5, (.int .i64))], [(.box 72 (.cons (.imm 1) (.cons (.int .i64) .nil)))]⟩
noncomputable def F65_0s : SSh := ⟨101, [(0, (.ptr 0 0)), (1, (.int .i64)), (5, (.int .i64))], [(.box 72 (.cons (.imm 1) (.cons (.int .i64) .nil)))]⟩
noncomputable def F65_0 {R : Type} (n : Nat) (x33 : Int) (x34 : Int) (x35 : List Int) (x36 : Int) (k0 : Int → Int → List Int → Int → Option R) : Option R :=
  (bif (decide (((x35.length) : Int) > (0 : Int))) then
  let v39 := ((x35.length) : Int)
  (bif (!(decide (v39 = (0 : Int)))) then
  let v40 := (x36.tmod v39)
  (bif (decide ((0 : Int) ≤ v40)) then
  (bif (decide (v40 < ((x35.length) : Int))) then
  let v43 := (IntKind.wrap .i64 (x35.getD (v40.toNat) (0 : Int)))
  (bif (decide (x33 > (256 : Int))) then
  let v48 := ((x35.length) : Int)
  (bif (!(decide (v48 = (0 : Int)))) then
  let v49 := ((IntKind.wrap .i64 ((IntKind.wrap .i64 (x36 * (7 : Int))) + (3 : Int))).tmod v48)
  (bif (decide ((0 : Int) ≤ v49)) then
  (bif (decide (v49 < ((x35.length) : Int))) then
  let v57 := ((x35.length) : Int)
  (bif (!(decide (v57 = (0 : Int)))) then
  let v60 := (IntKind.wrap .i64 ((IntKind.wrap .i64 ((IntKind.wrap .i64 ((IntKind.wrap .i64 (v43 * (131 : Int))) + (IntKind.wrap .i64 ((IntKind.wrap .i64 (x35.getD (v49.toNat) (0 : Int))) * (1117 : Int))))) + (IntKind.wrap .i64 (x36 * (29 : Int))))) + (IntKind.wrap .i64 ((IntKind.wrap .i64 (x36.tdiv v57)) * (53 : Int)))))
  (k0 x33 (IntKind.wrap .i64 ((((BitVec.ofInt (64 : Nat) v60) ^^^ (BitVec.ofInt (64 : Nat) (IntKind.wrap .i64 (v60.tdiv (64 : Int))))).toNat) : Int)) x35 x36)
  else none)
  else none)
  else none)
  else none)
  else (bif (decide (x36 ≥ ((x35.length) : Int))) then
  let v68 := ((x35.length) : Int)
  (bif (!(decide (v68 = (0 : Int)))) then
  let v69 := ((IntKind.wrap .i64 ((IntKind.wrap .i64 (x36 * (7 : Int))) + (3 : Int))).tmod v68)
  (bif (decide ((0 : Int) ≤ v69)) then
  (bif (decide (v69 < ((x35.length) : Int))) then
  let v77 := ((x35.length) : Int)
  (bif (!(decide (v77 = (0 : Int)))) then
  let v80 := (IntKind.wrap .i64 ((IntKind.wrap .i64 ((IntKind.wrap .i64 ((IntKind.wrap .i64 (v43 * (131 : Int))) + (IntKind.wrap .i64 ((IntKind.wrap .i64 (x35.getD (v69.toNat) (0 : Int))) * (1117 : Int))))) + (IntKind.wrap .i64 (x36 * (29 : Int))))) + (IntKind.wrap .i64 ((IntKind.wrap .i64 (x36.tdiv v77)) * (53 : Int)))))
  (k0 x33 (IntKind.wrap .i64 ((((BitVec.ofInt (64 : Nat) v80) ^^^ (BitVec.ofInt (64 : Nat) (IntKind.wrap .i64 (v80.tdiv (64 : Int))))).toNat) : Int)) x35 x36)
  else none)
  else none)
  else none)
  else none)
  else (k0 x33 v43 x35 x36)))
  else none)
  else none)
  else none)
  else (k0 x33 x34 x35 x36))
noncomputable def F65_0z (n : Nat) : Sm G := inZ G 1 ⟨[0, 1, 5], []⟩ F65_0s fun R x K => F65_0 n x.1.2.1 x.1.2.2.1 x.2.1.1 x.2.1.2.1 (fun u0 u1 u2 u3 => K .normal (SSh.enc G F65_0x0 (((), (u0, (u1, ()))), ((u2, (u3, ())), ()))))
theorem F65_0_eq (n : Nat) (R : Type) (x : SSh.den G F65_0s) (K : AE → St G → Option R) :
  F65_0 n x.1.2.1 x.1.2.2.1 x.2.1.1 x.2.1.2.1 (fun u0 u1 u2 u3 => K .normal (SSh.enc G F65_0x0 (((), (u0, (u1, ()))), ((u2, (u3, ())), ())))) = exec prog G (ro G (tabOf (E3 n)) (frOf []) R) 1 (codeAt F65c [1, 1, 1, 0]) .no (SSh.enc G F65_0s x) (kNrm G (ro G (tabOf (E3 n)) (frOf []) R) 1 ⟨⟨[0, 1, 5], []⟩, ⟨[4], []⟩, []⟩ K) := by kernel_rfl
theorem F65_0_ok (n : Nat) : FragOK prog G 1 (codeAt F65c [1, 1, 1, 0]) (F65_0z n) :=
  frag_plain laws fnok (E3_ok n).tab (AllF.of (l := []) (by kernel_rfl) AllF.nil) (F65_0_eq n)
noncomputable def F65 (n : Nat) (a29 : Int) (a30 : List Int) (a31 : Int) : Option (Int × ((List Int × (Int × Unit)) × Unit)) :=
  (bif (decide (a29 < (2 : Int))) then
  some ((0 : Int), ((a30, (a31, ())), ()))
  else (F65_0 n a29 (0 : Int) a30 a31 (fun z83 z84 z85 z86 =>
  (bif (!(decide (z83 = (0 : Int)))) then
  some ((z84.tmod z83), ((z85, ((IntKind.wrap .i64 (z86 + (1 : Int))), ())), ()))
  else none))))
noncomputable def F65e (n : Nat) : Ent G := ⟨65, (.cons (.ptr 0 0) (.cons (.int .i64) .nil)), [(.box 72 (.cons (.imm 1) (.cons (.int .i64) .nil)))], (.int .i64), [(.box 72 (.cons (.imm 1) (.cons (.int .i64) .nil)))], fun x y => F65 n x.2.1 y.1.1 y.1.2.1⟩
theorem F65_eq (n : Nat) (x : ShL.den G (.cons (.ptr 0 0) (.cons (.int .i64) .nil))) (y : denO G [(.box 72 (.cons (.imm 1) (.cons (.int .i64) .nil)))]) : (F65e n).F x y = runFn prog G (ro G (tabOf (E3 n)) (frOf [F65_0z n]) _) Go.Proofs.Try.f65 (.nd .no (.nd .no (.nd .no (.nd (.use 0) .no)))) [(0, .fz)] (ShL.enc G (.cons (.ptr 0 0) (.cons (.int .i64) .nil)) x) (encO G [(.box 72 (.cons (.imm 1) (.cons (.int .i64) .nil)))] y) (decR (.int .i64) [(.box 72 (.cons (.imm 1) (.cons (.int .i64) .nil)))]) := by kernel_rfl
theorem F65_ok (n : Nat) : EntOK prog G (F65e n) :=
  ent_ok (fr := frOf [F65_0z n]) (ann := (.nd .no (.nd .no (.nd .no (.nd (.use 0) .no))))) (frm := [(0, .fz)]) laws fnok (E3_ok n).tab (e := F65e n) (fn := Go.Proofs.Try.f65) (by kernel_rfl) (AllF.ofB (cd := F65c) (l := [(0, codeAt F65c [1, 1, 1, 0])]) (by kernel_rfl) (by kernel_rfl) (AllF.cons (F65_0_ok n) AllF.nil)) (F65_eq n)
noncomputable def E4 (n : Nat) : List (Ent G) := F65e n :: E3 n
theorem E4_ok (n : Nat) : AllE prog G (E4 n) := AllE.cons (F65_ok n) (E3_ok n)
noncomputable def F77 (n : Nat) (a25 : List Int) (a26 : List Int) (a27 : Int) : Option (Int × ((List Int × (Int × Unit)) × Unit)) :=
  (andThen (F65 n ((a25.length) : Int) a26 a27) fun r89 =>
  (bif (decide ((0 : Int) ≤ r89.1)) then
  (bif (decide (r89.1 < ((a25.length) : Int))) then
  some ((a25.getD (r89.1.toNat) (0 : Int)), ((r89.2.1.1, (r89.2.1.2.1, ())), ()))
  else none)
  else none))
noncomputable def F77e (n : Nat) : Ent G := ⟨77, (.cons (.ptr 0 0) (.cons (.imm 0) .nil)), [(.box 72 (.cons (.imm 1) (.cons (.int .i64) .nil)))], (.int .i64), [(.box 72 (.cons (.imm 1) (.cons (.int .i64) .nil)))], fun x y => F77 n x.2.1 y.1.1 y.1.2.1⟩
theorem F77_eq (n : Nat) (x : ShL.den G (.cons (.ptr 0 0) (.cons (.imm 0) .nil))) (y : denO G [(.box 72 (.cons (.imm 1) (.cons (.int .i64) .nil)))]) : (F77e n).F x y = runFn prog G (ro G (tabOf (E4 n)) (frOf []) _) Go.Proofs.Try.f77 .no [(0, .fz)] (ShL.enc G (.cons (.ptr 0 0) (.cons (.imm 0) .nil)) x) (encO G [(.box 72 (.cons (.imm 1) (.cons (.int .i64) .nil)))] y) (decR (.int .i64) [(.box 72 (.cons (.imm 1) (.cons (.int .i64) .nil)))]) := by kernel_rfl
theorem F77_ok (n : Nat) : EntOK prog G (F77e n) :=
  ent_ok (fr := frOf []) (ann := .no) (frm := [(0, .fz)]) laws fnok (E4_ok n).tab (e := F77e n) (fn := Go.Proofs.Try.f77) (by kernel_rfl) (AllF.ofB (cd := F77c) (l := []) (by kernel_rfl) (by kernel_rfl) AllF.nil) (F77_eq n)
noncomputable def E5 (n : Nat) : List (Ent G) := F77e n :: E4 n
theorem E5_ok (n : Nat) : AllE prog G (E5 n) := AllE.cons (F77_ok n) (E4_ok n)
-- 78 (*loop.example/slowworm/spec.rnd).of
noncomputable def F78c : Code := bodyOf Go.Proofs.Try.f78
noncomputable def F78 (n : Nat) (a106 : List ByteArray) (a107 : List Int) (a108 : Int) : Option (ByteArray × ((List Int × (Int × Unit)) × Unit)) :=
  (andThen (F65 n ((a106.length) : Int) a107 a108) fun r110 =>
  (bif (decide ((0 : Int) ≤ r110.1)) then
  (bif (decide (r110.1 < ((a106.length) : Int))) then
  some ((a106.getD (r110.1.toNat) ({ data := #[] } : ByteArray)), ((r110.2.1.1, (r110.2.1.2.1, ())), ()))
  else none)
  else none))
noncomputable def F78e (n : Nat) : Ent G := ⟨78, (.cons (.ptr 0 0) (.cons (.imm 2) .nil)), [(.box 72 (.cons (.imm 1) (.cons (.int .i64) .nil)))], .str, [(.box 72 (.cons (.imm 1) (.cons (.int .i64) .nil)))], fun x y => F78 n x.2.1 y.1.1 y.1.2.1⟩
theorem F78_eq (n : Nat) (x : ShL.den G (.cons (.ptr 0 0) (.cons (.imm 2) .nil))) (y : denO G [(.box 72 (.cons (.imm 1) (.cons (.int .i64) .nil)))]) : (F78e n).F x y = runFn prog G (ro G (tabOf (E5 n)) (frOf []) _) Go.Proofs.Try.f78 .no [(0, .fz)] (ShL.enc G (.cons (.ptr 0 0) (.cons (.imm 2) .nil)) x) (encO G [(.box 72 (.cons (.imm 1) (.cons (.int .i64) .nil)))] y) (decR .str [(.box 72 (.cons (.imm 1) (.cons (.int .i64) .nil)))]) := by kernel_rfl
theorem F78_ok (n : Nat) : EntOK prog G (F78e n) :=
  ent_ok (fr := frOf []) (ann := .no) (frm := [(0, .fz)]) laws fnok (E5_ok n).tab (e := F78e n) (fn := Go.Proofs.Try.f78) (by kernel_rfl) (AllF.ofB (cd := F78c) (l := []) (by kernel_rfl) (by kernel_rfl) AllF.nil) (F78_eq n)
noncomputable def E6 (n : Nat) : List (Ent G) := F78e n :: E5 n
theorem E6_ok (n : Nat) : AllE prog G (E6 n) := AllE.cons (F78_ok n) (E5_ok n)
-- 79 loop.example/slowworm/spec.decimal
noncomputable def F79c : Code := bodyOf Go.Proofs.Try.f79
-- 86 loop.example/slowworm/spec.positive
noncomputable def F86c : Code := bodyOf Go.Proofs.Try.f86
noncomputable def F86_0x0 : SSh := ⟨23, [(0, (.int .i64)), (3, .str), (4, (.int .i64))], []⟩
noncomputable def F86_0s : SSh := ⟨23, [(0, (.int .i64)), (3, .str), (4, (.int .i64))], []⟩
noncomputable def F86_0 {R : Type} (n : Nat) (x130 : Int) (x131 : ByteArray) (x132 : Int) (k0 : Int → ByteArray → Int → Option R) : Option R :=
  (bif (decide (x132 < (0 : Int))) then
  (k0 x130 x131 (IntKind.wrap .i64 ((0 : Int) - x132)))
  else (k0 x130 x131 x132))
noncomputable def F86_0z (n : Nat) : Sm G := inZ G 0 ⟨[0, 3, 4], []⟩ F86_0s fun R x K => F86_0 n x.1.1 x.1.2.1 x.1.2.2.1 (fun u0 u1 u2 => K .normal (SSh.enc G F86_0x0 ((u0, (u1, (u2, ()))), ())))
theorem F86_0_eq (n : Nat) (R : Type) (x : SSh.den G F86_0s) (K : AE → St G → Option R) :
  F86_0 n x.1.1 x.1.2.1 x.1.2.2.1 (fun u0 u1 u2 => K .normal (SSh.enc G F86_0x0 ((u0, (u1, (u2, ()))), ()))) = exec prog G (ro G (tabOf (E6 n)) (frOf []) R) 0 (codeAt F86c [1, 1, 0, 0, 0, 1, 0]) .no (SSh.enc G F86_0s x) (kNrm G (ro G (tabOf (E6 n)) (frOf []) R) 0 ⟨⟨[0, 3, 4], []⟩, ⟨[2], []⟩, [(1, ⟨[0, 3], []⟩), (0, ⟨[2], []⟩)]⟩ K) := by kernel_rfl
theorem F86_0_ok (n : Nat) : FragOK prog G 0 (codeAt F86c [1, 1, 0, 0, 0, 1, 0]) (F86_0z n) :=
  frag_plain laws fnok (E6_ok n).tab (AllF.of (l := []) (by kernel_rfl) AllF.nil) (F86_0_eq n)
noncomputable def F86_1x0 : SSh := ⟨23, [(2, .str)], []⟩
noncomputable def F86_1s : SSh := ⟨23, [(0, (.int .i64)), (3, .str)], []⟩
noncomputable def F86_1_step {R : Type} (n : Nat) (k0 : ByteArray → Option R) (rec : Int → ByteArray → Option R) (x127 : Int) (x128 : ByteArray) : Option R :=
  (F86_0 n x127 x128 (x127.tmod (10 : Int)) (fun z135 z136 z137 =>
  let v141 := (bytesOfInts (List.map (fun y142 => y142) ((IntKind.wrap .u8 (IntKind.wrap .i64 ((48 : Int) + z137))) :: [])))
  (bif (decide (((v141.size) + (z136.size)) ≤ (68719476736 : Nat))) then
  let v143 := (v141 ++ z136)
  let v144 := (IntKind.wrap .i64 (z135.tdiv (10 : Int)))
  (bif (v144 == (0 : Int)) then
  (k0 v143)
  else (rec v144 v143))
  else none)))
noncomputable def F86_1_it {R : Type} (n : Nat) (k0 : ByteArray → Option R) : Nat → Int → ByteArray → Option R
  | 0, _, _ => none
  | k + 1, x127, x128 => F86_1_step n k0 (F86_1_it n k0 k) x127 x128
noncomputable def F86_1 {R : Type} (n : Nat) (x127 : Int) (x128 : ByteArray) (k0 : ByteArray → Option R) : Option R := F86_1_it n k0 n x127 x128
noncomputable def F86_1z (n : Nat) : Sm G := inZ G 0 ⟨[0, 3], []⟩ F86_1s fun R x K => F86_1_it n (fun u0 => K .ret (SSh.enc G F86_1x0 ((u0, ()), ()))) n x.1.1 x.1.2.1
theorem F86_1_eq (n : Nat) (R : Type) (rec : SSh.den G F86_1s → Option R) (x : SSh.den G F86_1s) (K : AE → St G → Option R) :
  F86_1_step n (fun u0 => K .ret (SSh.enc G F86_1x0 ((u0, ()), ()))) (fun x127 x128 => rec ((x127, (x128, ())), ())) x.1.1 x.1.2.1 = exec prog G (ro G (tabOf (E6 n)) (frOf [F86_0z n]) R) 0 (codeAt F86c [1, 1, 0, 0]) (.nd (.nd .no (.nd (.use 0) .no)) .no) (SSh.enc G F86_1s x) (kLoop G (ro G (tabOf (E6 n)) (frOf [F86_0z n]) R) 0 ⟨[0, 3], []⟩ F86_1s ⟨⟨[2], []⟩, ⟨[2], []⟩, [(0, ⟨[2], []⟩)]⟩ rec K) := by kernel_rfl
theorem F86_1_ok (n : Nat) : FragOK prog G 0 (codeAt F86c [1, 1, 0]) (F86_1z n) :=
  frag_loop (Z := fun R k (x : SSh.den G F86_1s) K => F86_1_it n (fun u0 => K .ret (SSh.enc G F86_1x0 ((u0, ()), ()))) k x.1.1 x.1.2.1) laws fnok (E6_ok n).tab (AllF.of (l := [(0, codeAt F86c [1, 1, 0, 0, 0, 1, 0])]) (by kernel_rfl) (AllF.cons (F86_0_ok n) AllF.nil)) (fun _ _ _ => rfl) (fun R k y K => F86_1_eq n R (fun (x : SSh.den G F86_1s) => F86_1_it n (fun u0 => K .ret (SSh.enc G F86_1x0 ((u0, ()), ()))) k x.1.1 x.1.2.1) y K) n
noncomputable def F86 (n : Nat) (a126 : Int) : Option (ByteArray × Unit) :=
  (F86_1 n a126 ({ data := #[] } : ByteArray) (fun z146 =>
  some (z146, ())))
noncomputable def F86e (n : Nat) : Ent G := ⟨86, (.cons (.int .i64) .nil), [], .str, [], fun x y => F86 n x.1⟩
theorem F86_eq (n : Nat) (x : ShL.den G (.cons (.int .i64) .nil)) (y : denO G []) : (F86e n).F x y = runFn prog G (ro G (tabOf (E6 n)) (frOf [F86_0z n, F86_1z n]) _) Go.Proofs.Try.f86 (.nd .no (.nd .no (.nd (.use 1) .no))) [(0, .fz)] (ShL.enc G (.cons (.int .i64) .nil) x) (encO G [] y) (decR .str []) := by kernel_rfl
theorem F86_ok (n : Nat) : EntOK prog G (F86e n) :=
  ent_ok (fr := frOf [F86_0z n, F86_1z n]) (ann := (.nd .no (.nd .no (.nd (.use 1) .no)))) (frm := [(0, .fz)]) laws fnok (E6_ok n).tab (e := F86e n) (fn := Go.Proofs.Try.f86) (by kernel_rfl) (AllF.ofB (cd := F86c) (l := [(1, codeAt F86c [1, 1, 0])]) (by kernel_rfl) (by kernel_rfl) (AllF.cons (F86_1_ok n) AllF.nil)) (F86_eq n)
noncomputable def E7 (n : Nat) : List (Ent G) := F86e n :: E6 n
theorem E7_ok (n : Nat) : AllE prog G (E7 n) := AllE.cons (F86_ok n) (E6_ok n)
noncomputable def F79 (n : Nat) (a124 : Int) : Option (ByteArray × Unit) :=
  (bif (decide (a124 < (0 : Int))) then
  (andThen (F86 n a124) fun r147 =>
  (bif (decide (((1 : Nat) + (r147.1.size)) ≤ (68719476736 : Nat))) then
  some ((({ data := #[45] } : ByteArray) ++ r147.1), ())
  else none))
  else (andThen (F86 n a124) fun r149 =>
  some (r149.1, ())))
noncomputable def F79e (n : Nat) : Ent G := ⟨79, (.cons (.int .i64) .nil), [], .str, [], fun x y => F79 n x.1⟩
theorem F79_eq (n : Nat) (x : ShL.den G (.cons (.int .i64) .nil)) (y : denO G []) : (F79e n).F x y = runFn prog G (ro G (tabOf (E7 n)) (frOf []) _) Go.Proofs.Try.f79 .no [(0, .fz)] (ShL.enc G (.cons (.int .i64) .nil) x) (encO G [] y) (decR .str []) := by kernel_rfl
theorem F79_ok (n : Nat) : EntOK prog G (F79e n) :=
  ent_ok (fr := frOf []) (ann := .no) (frm := [(0, .fz)]) laws fnok (E7_ok n).tab (e := F79e n) (fn := Go.Proofs.Try.f79) (by kernel_rfl) (AllF.ofB (cd := F79c) (l := []) (by kernel_rfl) (by kernel_rfl) AllF.nil) (F79_eq n)
noncomputable def E8 (n : Nat) : List (Ent G) := F79e n :: E7 n
theorem E8_ok (n : Nat) : AllE prog G (E8 n) := AllE.cons (F79_ok n) (E7_ok n)
-- 47 loop.example/slowworm/spec.DictDrop
noncomputable def F47c : Code := bodyOf Go.Proofs.Try.f47
-- 52 loop.example/slowworm/spec.validDict
noncomputable def F52c : Code := bodyOf Go.Proofs.Try.f52
-- 66 loop.example/slowworm/spec.liveEntries
noncomputable def F66c : Code := bodyOf Go.Proofs.Try.f66
noncomputable def F66_0x0 : SSh := ⟨21, [(1, (.ptr 0 0)), (3, (.int .i64)), (4, (.int .i64))], [(.box 26 (.cons (.imm 0) (.cons (.imm 3) .nil)))]⟩
noncomputable def F66_0s : SSh := ⟨21, [(1, (.ptr 0 0)), (3, (.int .i64)), (4, (.int .i64))], [(.box 26 (.cons (.imm 0) (.cons (.imm 3) .nil)))]⟩
noncomputable def F66_0 {R : Type} (n : Nat) (x191 : Int) (x192 : Int) (x193 : List Int) (x194 : List Ety) (k0 : Int → Int → List Int → List Ety → Option R) : Option R :=
  (bif (decide ((0 : Int) ≤ x192)) then
  (bif (decide (x192 < ((x194.length) : Int))) then
  (bif (x194.getD (x192.toNat) (Ety.mk ({ data := #[] } : ByteArray) (0 : Int) (0 : Int) false)).live then
  (k0 (IntKind.wrap .i64 (x191 + (1 : Int))) x192 x193 x194)
  else (k0 x191 x192 x193 x194))
  else none)
  else none)
noncomputable def F66_0z (n : Nat) : Sm G := inZ G 0 ⟨[1, 3, 4], []⟩ F66_0s fun R x K => F66_0 n x.1.2.1 x.1.2.2.1 x.2.1.1 x.2.1.2.1 (fun u0 u1 u2 u3 => K .normal (SSh.enc G F66_0x0 (((), (u0, (u1, ()))), ((u2, (u3, ())), ()))))
theorem F66_0_eq (n : Nat) (R : Type) (x : SSh.den G F66_0s) (K : AE → St G → Option R) :
  F66_0 n x.1.2.1 x.1.2.2.1 x.2.1.1 x.2.1.2.1 (fun u0 u1 u2 u3 => K .normal (SSh.enc G F66_0x0 (((), (u0, (u1, ()))), ((u2, (u3, ())), ())))) = exec prog G (ro G (tabOf (E8 n)) (frOf []) R) 0 (codeAt F66c [1, 1, 0, 1, 0, 0, 1, 0]) .no (SSh.enc G F66_0s x) (kNrm G (ro G (tabOf (E8 n)) (frOf []) R) 0 ⟨⟨[1, 3, 4], []⟩, ⟨[2], []⟩, [(0, ⟨[3], []⟩)]⟩ K) := by kernel_rfl
theorem F66_0_ok (n : Nat) : FragOK prog G 0 (codeAt F66c [1, 1, 0, 1, 0, 0, 1, 0]) (F66_0z n) :=
  frag_plain laws fnok (E8_ok n).tab (AllF.of (l := []) (by kernel_rfl) AllF.nil) (F66_0_eq n)
noncomputable def F66_1x0 : SSh := ⟨21, [(3, (.int .i64))], []⟩
noncomputable def F66_1s : SSh := ⟨21, [(1, (.ptr 0 0)), (3, (.int .i64)), (4, (.int .i64))], [(.box 26 (.cons (.imm 0) (.cons (.imm 3) .nil)))]⟩
noncomputable def F66_1_step {R : Type} (n : Nat) (k0 : Int → Option R) (rec : Int → Int → List Int → List Ety → Option R) (x185 : Int) (x186 : Int) (x187 : List Int) (x188 : List Ety) : Option R :=
  (bif (decide (x186 < ((x188.length) : Int))) then
  (F66_0 n x185 x186 x187 x188 (fun z198 z199 z200 z201 =>
  (rec z198 (IntKind.wrap .i64 (z199 + (1 : Int))) z200 z201)))
  else (k0 x185))
noncomputable def F66_1_it {R : Type} (n : Nat) (k0 : Int → Option R) : Nat → Int → Int → List Int → List Ety → Option R
  | 0, _, _, _, _ => none
  | k + 1, x185, x186, x187, x188 => F66_1_step n k0 (F66_1_it n k0 k) x185 x186 x187 x188
noncomputable def F66_1 {R : Type} (n : Nat) (x185 : Int) (x186 : Int) (x187 : List Int) (x188 : List Ety) (k0 : Int → Option R) : Option R := F66_1_it n k0 n x185 x186 x187 x188
noncomputable def F66_1z (n : Nat) : Sm G := inZ G 0 ⟨[1, 3, 4], []⟩ F66_1s fun R x K => F66_1_it n (fun u0 => K (.exit 0) (SSh.enc G F66_1x0 ((u0, ()), ()))) n x.1.2.1 x.1.2.2.1 x.2.1.1 x.2.1.2.1
theorem F66_1_eq (n : Nat) (R : Type) (rec : SSh.den G F66_1s → Option R) (x : SSh.den G F66_1s) (K : AE → St G → Option R) :
  F66_1_step n (fun u0 => K (.exit 0) (SSh.enc G F66_1x0 ((u0, ()), ()))) (fun x185 x186 x187 x188 => rec (((), (x185, (x186, ()))), ((x187, (x188, ())), ()))) x.1.2.1 x.1.2.2.1 x.2.1.1 x.2.1.2.1 = exec prog G (ro G (tabOf (E8 n)) (frOf [F66_0z n]) R) 0 (codeAt F66c [1, 1, 0, 1, 0, 0]) (.nd .no (.nd (.use 0) .no)) (SSh.enc G F66_1s x) (kLoop G (ro G (tabOf (E8 n)) (frOf [F66_0z n]) R) 0 ⟨[1, 3, 4], []⟩ F66_1s ⟨⟨[3], []⟩, ⟨[2], []⟩, [(0, ⟨[3], []⟩)]⟩ rec K) := by kernel_rfl
theorem F66_1_ok (n : Nat) : FragOK prog G 0 (codeAt F66c [1, 1, 0, 1, 0]) (F66_1z n) :=
  frag_loop (Z := fun R k (x : SSh.den G F66_1s) K => F66_1_it n (fun u0 => K (.exit 0) (SSh.enc G F66_1x0 ((u0, ()), ()))) k x.1.2.1 x.1.2.2.1 x.2.1.1 x.2.1.2.1) laws fnok (E8_ok n).tab (AllF.of (l := [(0, codeAt F66c [1, 1, 0, 1, 0, 0, 1, 0])]) (by kernel_rfl) (AllF.cons (F66_0_ok n) AllF.nil)) (fun _ _ _ => rfl) (fun R k y K => F66_1_eq n R (fun (x : SSh.den G F66_1s) => F66_1_it n (fun u0 => K (.exit 0) (SSh.enc G F66_1x0 ((u0, ()), ()))) k x.1.2.1 x.1.2.2.1 x.2.1.1 x.2.1.2.1) y K) n
noncomputable def F66 (n : Nat) (a183 : List Int) (a184 : List Ety) : Option (Int × Unit) :=
  (F66_1 n (0 : Int) (0 : Int) a183 a184 (fun z203 =>
  some (z203, ())))
noncomputable def F66e (n : Nat) : Ent G := ⟨66, (.cons (.agg (.cons (.imm 0) (.cons (.imm 3) .nil))) .nil), [], (.int .i64), [], fun x y => F66 n x.1.1 x.1.2.1⟩
theorem F66_eq (n : Nat) (x : ShL.den G (.cons (.agg (.cons (.imm 0) (.cons (.imm 3) .nil))) .nil)) (y : denO G []) : (F66e n).F x y = runFn prog G (ro G (tabOf (E8 n)) (frOf [F66_0z n, F66_1z n]) _) Go.Proofs.Try.f66 (.nd .no (.nd .no (.nd (.nd .no (.nd (.use 1) .no)) .no))) [(0, .fz)] (ShL.enc G (.cons (.agg (.cons (.imm 0) (.cons (.imm 3) .nil))) .nil) x) (encO G [] y) (decR (.int .i64) []) := by kernel_rfl
theorem F66_ok (n : Nat) : EntOK prog G (F66e n) :=
  ent_ok (fr := frOf [F66_0z n, F66_1z n]) (ann := (.nd .no (.nd .no (.nd (.nd .no (.nd (.use 1) .no)) .no)))) (frm := [(0, .fz)]) laws fnok (E8_ok n).tab (e := F66e n) (fn := Go.Proofs.Try.f66) (by kernel_rfl) (AllF.ofB (cd := F66c) (l := [(1, codeAt F66c [1, 1, 0, 1, 0])]) (by kernel_rfl) (by kernel_rfl) (AllF.cons (F66_1_ok n) AllF.nil)) (F66_eq n)
noncomputable def E9 (n : Nat) : List (Ent G) := F66e n :: E8 n
theorem E9_ok (n : Nat) : AllE prog G (E9 n) := AllE.cons (F66_ok n) (E8_ok n)
-- 53 loop.example/slowworm/spec.validKey
noncomputable def F53c : Code := bodyOf Go.Proofs.Try.f53
noncomputable def F53 (n : Nat) (a218 : ByteArray) : Option (Bool × Unit) :=
  some ((decide (((a218.size) : Int) ≤ (20 : Int))), ())
noncomputable def F53e (n : Nat) : Ent G := ⟨53, (.cons .str .nil), [], .bool, [], fun x y => F53 n x.1⟩
theorem F53_eq (n : Nat) (x : ShL.den G (.cons .str .nil)) (y : denO G []) : (F53e n).F x y = runFn prog G (ro G (tabOf (E9 n)) (frOf []) _) Go.Proofs.Try.f53 .no [(0, .fz)] (ShL.enc G (.cons .str .nil) x) (encO G [] y) (decR .bool []) := by kernel_rfl
theorem F53_ok (n : Nat) : EntOK prog G (F53e n) :=
  ent_ok (fr := frOf []) (ann := .no) (frm := [(0, .fz)]) laws fnok (E9_ok n).tab (e := F53e n) (fn := Go.Proofs.Try.f53) (by kernel_rfl) (AllF.ofB (cd := F53c) (l := []) (by kernel_rfl) (by kernel_rfl) AllF.nil) (F53_eq n)
noncomputable def E10 (n : Nat) : List (Ent G) := F53e n :: E9 n
theorem E10_ok (n : Nat) : AllE prog G (E10 n) := AllE.cons (F53_ok n) (E9_ok n)
-- 81 loop.example/slowworm/spec.hashOf
noncomputable def F81c : Code := bodyOf Go.Proofs.Try.f81
noncomputable def F81_0x0 : SSh := ⟨20, [(3, (.int .i64))], []⟩
noncomputable def F81_0s : SSh := ⟨20, [(0, .str), (3, (.int .i64)), (4, (.int .i64))], []⟩
noncomputable def F81_0_step {R : Type} (n : Nat) (k0 : Int → Option R) (rec : ByteArray → Int → Int → Option R) (x224 : ByteArray) (x225 : Int) (x226 : Int) : Option R :=
  (bif (decide (x226 < ((x224.size) : Int))) then
  (bif (decide ((0 : Int) ≤ x226)) then
  (bif (decide (x226 < ((x224.size) : Int))) then
  (rec x224 ((IntKind.wrap .i64 ((IntKind.wrap .i64 (x225 * (31 : Int))) + (IntKind.wrap .i64 (strOf x224 (x226.toNat))))).tmod (65536 : Int)) (IntKind.wrap .i64 (x226 + (1 : Int))))
  else none)
  else none)
  else (k0 x225))
noncomputable def F81_0_it {R : Type} (n : Nat) (k0 : Int → Option R) : Nat → ByteArray → Int → Int → Option R
  | 0, _, _, _ => none
  | k + 1, x224, x225, x226 => F81_0_step n k0 (F81_0_it n k0 k) x224 x225 x226
noncomputable def F81_0 {R : Type} (n : Nat) (x224 : ByteArray) (x225 : Int) (x226 : Int) (k0 : Int → Option R) : Option R := F81_0_it n k0 n x224 x225 x226
noncomputable def F81_0z (n : Nat) : Sm G := inZ G 0 ⟨[0, 3, 4], []⟩ F81_0s fun R x K => F81_0_it n (fun u0 => K (.exit 0) (SSh.enc G F81_0x0 ((u0, ()), ()))) n x.1.1 x.1.2.1 x.1.2.2.1
theorem F81_0_eq (n : Nat) (R : Type) (rec : SSh.den G F81_0s → Option R) (x : SSh.den G F81_0s) (K : AE → St G → Option R) :
  F81_0_step n (fun u0 => K (.exit 0) (SSh.enc G F81_0x0 ((u0, ()), ()))) (fun x224 x225 x226 => rec ((x224, (x225, (x226, ()))), ())) x.1.1 x.1.2.1 x.1.2.2.1 = exec prog G (ro G (tabOf (E10 n)) (frOf []) R) 0 (codeAt F81c [1, 1, 0, 1, 0, 0]) .no (SSh.enc G F81_0s x) (kLoop G (ro G (tabOf (E10 n)) (frOf []) R) 0 ⟨[0, 3, 4], []⟩ F81_0s ⟨⟨[3], []⟩, ⟨[2], []⟩, [(0, ⟨[3], []⟩)]⟩ rec K) := by kernel_rfl
theorem F81_0_ok (n : Nat) : FragOK prog G 0 (codeAt F81c [1, 1, 0, 1, 0]) (F81_0z n) :=
  frag_loop (Z := fun R k (x : SSh.den G F81_0s) K => F81_0_it n (fun u0 => K (.exit 0) (SSh.enc G F81_0x0 ((u0, ()), ()))) k x.1.1 x.1.2.1 x.1.2.2.1) laws fnok (E10_ok n).tab (AllF.of (l := []) (by kernel_rfl) AllF.nil) (fun _ _ _ => rfl) (fun R k y K => F81_0_eq n R (fun (x : SSh.den G F81_0s) => F81_0_it n (fun u0 => K (.exit 0) (SSh.enc G F81_0x0 ((u0, ()), ()))) k x.1.1 x.1.2.1 x.1.2.2.1) y K) n
noncomputable def F81 (n : Nat) (a223 : ByteArray) : Option (Int × Unit) :=
  (F81_0 n a223 (7 : Int) (0 : Int) (fun z235 =>
  some (z235, ())))
noncomputable def F81e (n : Nat) : Ent G := ⟨81, (.cons .str .nil), [], (.int .i64), [], fun x y => F81 n x.1⟩
theorem F81_eq (n : Nat) (x : ShL.den G (.cons .str .nil)) (y : denO G []) : (F81e n).F x y = runFn prog G (ro G (tabOf (E10 n)) (frOf [F81_0z n]) _) Go.Proofs.Try.f81 (.nd .no (.nd .no (.nd (.nd .no (.nd (.use 0) .no)) .no))) [(0, .fz)] (ShL.enc G (.cons .str .nil) x) (encO G [] y) (decR (.int .i64) []) := by kernel_rfl
theorem F81_ok (n : Nat) : EntOK prog G (F81e n) :=
  ent_ok (fr := frOf [F81_0z n]) (ann := (.nd .no (.nd .no (.nd (.nd .no (.nd (.use 0) .no)) .no)))) (frm := [(0, .fz)]) laws fnok (E10_ok n).tab (e := F81e n) (fn := Go.Proofs.Try.f81) (by kernel_rfl) (AllF.ofB (cd := F81c) (l := [(0, codeAt F81c [1, 1, 0, 1, 0])]) (by kernel_rfl) (by kernel_rfl) (AllF.cons (F81_0_ok n) AllF.nil)) (F81_eq n)
noncomputable def E11 (n : Nat) : List (Ent G) := F81e n :: E10 n
theorem E11_ok (n : Nat) : AllE prog G (E11 n) := AllE.cons (F81_ok n) (E10_ok n)
-- 74 loop.example/slowworm/spec.inRange
noncomputable def F74c : Code := bodyOf Go.Proofs.Try.f74
noncomputable def F74 (n : Nat) (a238 : Int) (a239 : Int) (a240 : Int) : Option (Bool × Unit) :=
  (bif (decide (a238 ≥ a239)) then
  some ((decide (a238 ≤ a240)), ())
  else some (false, ()))
noncomputable def F74e (n : Nat) : Ent G := ⟨74, (.cons (.int .i64) (.cons (.int .i64) (.cons (.int .i64) .nil))), [], .bool, [], fun x y => F74 n x.1 x.2.1 x.2.2.1⟩
theorem F74_eq (n : Nat) (x : ShL.den G (.cons (.int .i64) (.cons (.int .i64) (.cons (.int .i64) .nil)))) (y : denO G []) : (F74e n).F x y = runFn prog G (ro G (tabOf (E11 n)) (frOf []) _) Go.Proofs.Try.f74 .no [(0, .fz)] (ShL.enc G (.cons (.int .i64) (.cons (.int .i64) (.cons (.int .i64) .nil))) x) (encO G [] y) (decR .bool []) := by kernel_rfl
theorem F74_ok (n : Nat) : EntOK prog G (F74e n) :=
  ent_ok (fr := frOf []) (ann := .no) (frm := [(0, .fz)]) laws fnok (E11_ok n).tab (e := F74e n) (fn := Go.Proofs.Try.f74) (by kernel_rfl) (AllF.ofB (cd := F74c) (l := []) (by kernel_rfl) (by kernel_rfl) AllF.nil) (F74_eq n)
noncomputable def E12 (n : Nat) : List (Ent G) := F74e n :: E11 n
theorem E12_ok (n : Nat) : AllE prog G (E12 n) := AllE.cons (F74_ok n) (E11_ok n)
noncomputable def F52_0x0 : SSh := ⟨116, [(2, .bool)], []⟩
noncomputable def F52_0x1 : SSh := ⟨116, [(1, (.ptr 0 0))], [(.box 26 (.cons (.imm 0) (.cons (.imm 3) .nil)))]⟩
noncomputable def F52_0s : SSh := ⟨116, [(1, (.ptr 0 0)), (4, (.int .i64))], [(.box 26 (.cons (.imm 0) (.cons (.imm 3) .nil)))]⟩
noncomputable def F52_0_step {R : Type} (n : Nat) (k0 : Bool → Option R) (k1 : List Int → List Ety → Option R) (rec : Int → List Int → List Ety → Option R) (x206 : Int) (x207 : List Int) (x208 : List Ety) : Option R :=
  (bif (decide (x206 < ((x208.length) : Int))) then
  (bif (decide ((0 : Int) ≤ x206)) then
  (bif (decide (x206 < ((x208.length) : Int))) then
  let v211 := (x208.getD (x206.toNat) (Ety.mk ({ data := #[] } : ByteArray) (0 : Int) (0 : Int) false))
  let v212 := v211.key
  let v213 := v211.hash
  let v214 := v211.val
  let v215 := v211.live
  (bif (!v215) then
  (bif (!((v212 == ({ data := #[] } : ByteArray)) && ((v213 == (0 : Int)) && ((v214 == (0 : Int)) && (v215 == false))))) then
  (k0 false)
  else (andThen (F53 n v212) fun r221 =>
  (bif (!r221.1) then
  (k0 false)
  else (bif v215 then
  (andThen (F81 n v212) fun r236 =>
  (bif (v213 != r236.1) then
  (k0 false)
  else (andThen (F74 n v214 (-1000000 : Int) (1000000 : Int)) fun r243 =>
  (bif (!r243.1) then
  (k0 false)
  else (rec (IntKind.wrap .i64 (x206 + (1 : Int))) x207 x208)))))
  else (andThen (F74 n v214 (-1000000 : Int) (1000000 : Int)) fun r246 =>
  (bif (!r246.1) then
  (k0 false)
  else (rec (IntKind.wrap .i64 (x206 + (1 : Int))) x207 x208)))))))
  else (andThen (F53 n v212) fun r249 =>
  (bif (!r249.1) then
  (k0 false)
  else (bif v215 then
  (andThen (F81 n v212) fun r251 =>
  (bif (v213 != r251.1) then
  (k0 false)
  else (andThen (F74 n v214 (-1000000 : Int) (1000000 : Int)) fun r253 =>
  (bif (!r253.1) then
  (k0 false)
  else (rec (IntKind.wrap .i64 (x206 + (1 : Int))) x207 x208)))))
  else (andThen (F74 n v214 (-1000000 : Int) (1000000 : Int)) fun r256 =>
  (bif (!r256.1) then
  (k0 false)
  else (rec (IntKind.wrap .i64 (x206 + (1 : Int))) x207 x208)))))))
  else none)
  else none)
  else (k1 x207 x208))
noncomputable def F52_0_it {R : Type} (n : Nat) (k0 : Bool → Option R) (k1 : List Int → List Ety → Option R) : Nat → Int → List Int → List Ety → Option R
  | 0, _, _, _ => none
  | k + 1, x206, x207, x208 => F52_0_step n k0 k1 (F52_0_it n k0 k1 k) x206 x207 x208
noncomputable def F52_0 {R : Type} (n : Nat) (x206 : Int) (x207 : List Int) (x208 : List Ety) (k0 : Bool → Option R) (k1 : List Int → List Ety → Option R) : Option R := F52_0_it n k0 k1 n x206 x207 x208
noncomputable def F52_0z (n : Nat) : Sm G := inZ G 0 ⟨[1, 4], []⟩ F52_0s fun R x K => F52_0_it n (fun u0 => K .ret (SSh.enc G F52_0x0 ((u0, ()), ()))) (fun u0 u1 => K (.exit 0) (SSh.enc G F52_0x1 (((), ()), ((u0, (u1, ())), ())))) n x.1.2.1 x.2.1.1 x.2.1.2.1
theorem F52_0_eq (n : Nat) (R : Type) (rec : SSh.den G F52_0s → Option R) (x : SSh.den G F52_0s) (K : AE → St G → Option R) :
  F52_0_step n (fun u0 => K .ret (SSh.enc G F52_0x0 ((u0, ()), ()))) (fun u0 u1 => K (.exit 0) (SSh.enc G F52_0x1 (((), ()), ((u0, (u1, ())), ())))) (fun x206 x207 x208 => rec (((), (x206, ())), ((x207, (x208, ())), ()))) x.1.2.1 x.2.1.1 x.2.1.2.1 = exec prog G (ro G (tabOf (E12 n)) (frOf []) R) 0 (codeAt F52c [1, 1, 1, 1, 0, 1, 0, 0]) .no (SSh.enc G F52_0s x) (kLoop G (ro G (tabOf (E12 n)) (frOf []) R) 0 ⟨[1, 4], []⟩ F52_0s ⟨⟨[1], []⟩, ⟨[2], []⟩, [(0, ⟨[1], []⟩)]⟩ rec K) := by kernel_rfl
theorem F52_0_ok (n : Nat) : FragOK prog G 0 (codeAt F52c [1, 1, 1, 1, 0, 1, 0]) (F52_0z n) :=
  frag_loop (Z := fun R k (x : SSh.den G F52_0s) K => F52_0_it n (fun u0 => K .ret (SSh.enc G F52_0x0 ((u0, ()), ()))) (fun u0 u1 => K (.exit 0) (SSh.enc G F52_0x1 (((), ()), ((u0, (u1, ())), ())))) k x.1.2.1 x.2.1.1 x.2.1.2.1) laws fnok (E12_ok n).tab (AllF.of (l := []) (by kernel_rfl) AllF.nil) (fun _ _ _ => rfl) (fun R k y K => F52_0_eq n R (fun (x : SSh.den G F52_0s) => F52_0_it n (fun u0 => K .ret (SSh.enc G F52_0x0 ((u0, ()), ()))) (fun u0 u1 => K (.exit 0) (SSh.enc G F52_0x1 (((), ()), ((u0, (u1, ())), ())))) k x.1.2.1 x.2.1.1 x.2.1.2.1) y K) n
-- 82 loop.example/slowworm/spec.validSlots
noncomputable def F82c : Code := bodyOf Go.Proofs.Try.f82
noncomputable def F82_0x0 : SSh := ⟨86, [(1, (.ptr 0 0)), (3, (.own 1)), (4, (.int .i64)), (5, (.int .i64)), (6, (.int .i64))], [(.box 26 (.cons (.imm 0) (.cons (.imm 3) .nil))), (.arr 4 true)]⟩
noncomputable def F82_0s : SSh := ⟨86, [(1, (.ptr 0 0)), (3, (.own 1)), (4, (.int .i64)), (5, (.int .i64)), (6, (.int .i64))], [(.box 26 (.cons (.imm 0) (.cons (.imm 3) .nil))), (.arr 4 true)]⟩
noncomputable def F82_0 {R : Type} (n : Nat) (x280 : Int) (x281 : Int) (x282 : Int) (x283 : List Int) (x284 : List Ety) (x285 : List Bool) (k0 : Int → Int → Int → List Int → List Ety → List Bool → Option R) : Option R :=
  (bif (x282 == (-2 : Int)) then
  (k0 (IntKind.wrap .i64 (x280 + (1 : Int))) x281 x282 x283 x284 x285)
  else (k0 x280 x281 x282 x283 x284 x285))
noncomputable def F82_0z (n : Nat) : Sm G := inZ G 0 ⟨[1, 3, 4, 5, 6], []⟩ F82_0s fun R x K => F82_0 n x.1.2.2.1 x.1.2.2.2.1 x.1.2.2.2.2.1 x.2.1.1 x.2.1.2.1 x.2.2.1 (fun u0 u1 u2 u3 u4 u5 => K .normal (SSh.enc G F82_0x0 (((), ((), (u0, (u1, (u2, ()))))), ((u3, (u4, ())), (u5, ())))))
theorem F82_0_eq (n : Nat) (R : Type) (x : SSh.den G F82_0s) (K : AE → St G → Option R) :
  F82_0 n x.1.2.2.1 x.1.2.2.2.1 x.1.2.2.2.2.1 x.2.1.1 x.2.1.2.1 x.2.2.1 (fun u0 u1 u2 u3 u4 u5 => K .normal (SSh.enc G F82_0x0 (((), ((), (u0, (u1, (u2, ()))))), ((u3, (u4, ())), (u5, ()))))) = exec prog G (ro G (tabOf (E12 n)) (frOf []) R) 0 (codeAt F82c [1, 1, 1, 0, 1, 0, 0, 1, 0, 0, 1, 0]) .no (SSh.enc G F82_0s x) (kNrm G (ro G (tabOf (E12 n)) (frOf []) R) 0 ⟨⟨[1, 3, 4, 5, 6], []⟩, ⟨[2], []⟩, [(1, ⟨[1, 3, 4, 5], []⟩), (0, ⟨[1, 3, 4], []⟩)]⟩ K) := by kernel_rfl
theorem F82_0_ok (n : Nat) : FragOK prog G 0 (codeAt F82c [1, 1, 1, 0, 1, 0, 0, 1, 0, 0, 1, 0]) (F82_0z n) :=
  frag_plain laws fnok (E12_ok n).tab (AllF.of (l := []) (by kernel_rfl) AllF.nil) (F82_0_eq n)
noncomputable def F82_1x0 : SSh := ⟨86, [(2, .bool)], []⟩
noncomputable def F82_1x1 : SSh := ⟨86, [(1, (.ptr 0 0)), (3, (.own 1)), (4, (.int .i64)), (5, (.int .i64))], [(.box 26 (.cons (.imm 0) (.cons (.imm 3) .nil))), (.arr 4 true)]⟩
noncomputable def F82_1s : SSh := ⟨86, [(1, (.ptr 0 0)), (3, (.own 1)), (4, (.int .i64)), (5, (.int .i64))], [(.box 26 (.cons (.imm 0) (.cons (.imm 3) .nil))), (.arr 4 true)]⟩
noncomputable def F82_1 {R : Type} (n : Nat) (x273 : Int) (x274 : Int) (x275 : List Int) (x276 : List Ety) (x277 : List Bool) (k0 : Bool → Option R) (k1 : Int → Int → List Int → List Ety → List Bool → Option R) : Option R :=
  (bif (decide ((0 : Int) ≤ x274)) then
  (bif (decide (x274 < ((x275.length) : Int))) then
  (F82_0 n x273 x274 (x275.getD (x274.toNat) (0 : Int)) x275 x276 x277 (fun z288 z289 z290 z291 z292 z293 =>
  (bif (decide (z290 < (-2 : Int))) then
  (k0 false)
  else (bif (decide (z290 ≥ ((z292.length) : Int))) then
  (k0 false)
  else (bif (decide (z290 ≥ (0 : Int))) then
  (bif (decide ((0 : Int) ≤ z290)) then
  (bif (decide (z290 < ((z293.length) : Int))) then
  (bif (z293.getD (z290.toNat) false) then
  (k0 false)
  else (bif (decide ((0 : Int) ≤ z290)) then
  (bif (decide (z290 < ((z292.length) : Int))) then
  (bif (!(z292.getD (z290.toNat) (Ety.mk ({ data := #[] } : ByteArray) (0 : Int) (0 : Int) false)).live) then
  (k0 false)
  else (bif (decide (z290 ≥ (0 : Int))) then
  (bif (decide ((0 : Int) ≤ z290)) then
  (bif (decide (z290 < ((z293.length) : Int))) then
  (k1 z288 z289 z291 z292 (z293.set (z290.toNat) true))
  else none)
  else none)
  else (k1 z288 z289 z291 z292 z293)))
  else none)
  else none))
  else none)
  else none)
  else (bif (decide (z290 ≥ (0 : Int))) then
  (bif (decide ((0 : Int) ≤ z290)) then
  (bif (decide (z290 < ((z293.length) : Int))) then
  (k1 z288 z289 z291 z292 (z293.set (z290.toNat) true))
  else none)
  else none)
  else (k1 z288 z289 z291 z292 z293)))))))
  else none)
  else none)
noncomputable def F82_1z (n : Nat) : Sm G := inZ G 0 ⟨[1, 3, 4, 5], []⟩ F82_1s fun R x K => F82_1 n x.1.2.2.1 x.1.2.2.2.1 x.2.1.1 x.2.1.2.1 x.2.2.1 (fun u0 => K .ret (SSh.enc G F82_1x0 ((u0, ()), ()))) (fun u0 u1 u2 u3 u4 => K .normal (SSh.enc G F82_1x1 (((), ((), (u0, (u1, ())))), ((u2, (u3, ())), (u4, ())))))
theorem F82_1_eq (n : Nat) (R : Type) (x : SSh.den G F82_1s) (K : AE → St G → Option R) :
  F82_1 n x.1.2.2.1 x.1.2.2.2.1 x.2.1.1 x.2.1.2.1 x.2.2.1 (fun u0 => K .ret (SSh.enc G F82_1x0 ((u0, ()), ()))) (fun u0 u1 u2 u3 u4 => K .normal (SSh.enc G F82_1x1 (((), ((), (u0, (u1, ())))), ((u2, (u3, ())), (u4, ()))))) = exec prog G (ro G (tabOf (E12 n)) (frOf [F82_0z n]) R) 0 (codeAt F82c [1, 1, 1, 0, 1, 0, 0, 1, 0]) (.nd (.nd .no (.nd (.use 0) .no)) .no) (SSh.enc G F82_1s x) (kNrm G (ro G (tabOf (E12 n)) (frOf [F82_0z n]) R) 0 ⟨⟨[1, 3, 4, 5], []⟩, ⟨[2], []⟩, [(0, ⟨[1, 3, 4], []⟩)]⟩ K) := by kernel_rfl
theorem F82_1_ok (n : Nat) : FragOK prog G 0 (codeAt F82c [1, 1, 1, 0, 1, 0, 0, 1, 0]) (F82_1z n) :=
  frag_plain laws fnok (E12_ok n).tab (AllF.of (l := [(0, codeAt F82c [1, 1, 1, 0, 1, 0, 0, 1, 0, 0, 1, 0])]) (by kernel_rfl) (AllF.cons (F82_0_ok n) AllF.nil)) (F82_1_eq n)
noncomputable def F82_2x0 : SSh := ⟨86, [(2, .bool)], []⟩
noncomputable def F82_2x1 : SSh := ⟨86, [(1, (.ptr 0 0)), (3, (.own 1)), (4, (.int .i64))], [(.box 26 (.cons (.imm 0) (.cons (.imm 3) .nil))), (.arr 4 true)]⟩
noncomputable def F82_2s : SSh := ⟨86, [(1, (.ptr 0 0)), (3, (.own 1)), (4, (.int .i64)), (5, (.int .i64))], [(.box 26 (.cons (.imm 0) (.cons (.imm 3) .nil))), (.arr 4 true)]⟩
noncomputable def F82_2_step {R : Type} (n : Nat) (k0 : Bool → Option R) (k1 : Int → List Int → List Ety → List Bool → Option R) (rec : Int → Int → List Int → List Ety → List Bool → Option R) (x266 : Int) (x267 : Int) (x268 : List Int) (x269 : List Ety) (x270 : List Bool) : Option R :=
  (bif (decide (x267 < ((x268.length) : Int))) then
  (F82_1 n x266 x267 x268 x269 x270 (fun z309 =>
  (k0 z309)) (fun z310 z311 z312 z313 z314 =>
  (rec z310 (IntKind.wrap .i64 (z311 + (1 : Int))) z312 z313 z314)))
  else (k1 x266 x268 x269 x270))
noncomputable def F82_2_it {R : Type} (n : Nat) (k0 : Bool → Option R) (k1 : Int → List Int → List Ety → List Bool → Option R) : Nat → Int → Int → List Int → List Ety → List Bool → Option R
  | 0, _, _, _, _, _ => none
  | k + 1, x266, x267, x268, x269, x270 => F82_2_step n k0 k1 (F82_2_it n k0 k1 k) x266 x267 x268 x269 x270
noncomputable def F82_2 {R : Type} (n : Nat) (x266 : Int) (x267 : Int) (x268 : List Int) (x269 : List Ety) (x270 : List Bool) (k0 : Bool → Option R) (k1 : Int → List Int → List Ety → List Bool → Option R) : Option R := F82_2_it n k0 k1 n x266 x267 x268 x269 x270
noncomputable def F82_2z (n : Nat) : Sm G := inZ G 0 ⟨[1, 3, 4, 5], []⟩ F82_2s fun R x K => F82_2_it n (fun u0 => K .ret (SSh.enc G F82_2x0 ((u0, ()), ()))) (fun u0 u1 u2 u3 => K (.exit 0) (SSh.enc G F82_2x1 (((), ((), (u0, ()))), ((u1, (u2, ())), (u3, ()))))) n x.1.2.2.1 x.1.2.2.2.1 x.2.1.1 x.2.1.2.1 x.2.2.1
theorem F82_2_eq (n : Nat) (R : Type) (rec : SSh.den G F82_2s → Option R) (x : SSh.den G F82_2s) (K : AE → St G → Option R) :
  F82_2_step n (fun u0 => K .ret (SSh.enc G F82_2x0 ((u0, ()), ()))) (fun u0 u1 u2 u3 => K (.exit 0) (SSh.enc G F82_2x1 (((), ((), (u0, ()))), ((u1, (u2, ())), (u3, ()))))) (fun x266 x267 x268 x269 x270 => rec (((), ((), (x266, (x267, ())))), ((x268, (x269, ())), (x270, ())))) x.1.2.2.1 x.1.2.2.2.1 x.2.1.1 x.2.1.2.1 x.2.2.1 = exec prog G (ro G (tabOf (E12 n)) (frOf [F82_0z n, F82_1z n]) R) 0 (codeAt F82c [1, 1, 1, 0, 1, 0, 0]) (.nd .no (.nd (.use 1) .no)) (SSh.enc G F82_2s x) (kLoop G (ro G (tabOf (E12 n)) (frOf [F82_0z n, F82_1z n]) R) 0 ⟨[1, 3, 4, 5], []⟩ F82_2s ⟨⟨[1, 3, 4], []⟩, ⟨[2], []⟩, [(0, ⟨[1, 3, 4], []⟩)]⟩ rec K) := by kernel_rfl
theorem F82_2_ok (n : Nat) : FragOK prog G 0 (codeAt F82c [1, 1, 1, 0, 1, 0]) (F82_2z n) :=
  frag_loop (Z := fun R k (x : SSh.den G F82_2s) K => F82_2_it n (fun u0 => K .ret (SSh.enc G F82_2x0 ((u0, ()), ()))) (fun u0 u1 u2 u3 => K (.exit 0) (SSh.enc G F82_2x1 (((), ((), (u0, ()))), ((u1, (u2, ())), (u3, ()))))) k x.1.2.2.1 x.1.2.2.2.1 x.2.1.1 x.2.1.2.1 x.2.2.1) laws fnok (E12_ok n).tab (AllF.of (l := [(1, codeAt F82c [1, 1, 1, 0, 1, 0, 0, 1, 0])]) (by kernel_rfl) (AllF.cons (F82_1_ok n) AllF.nil)) (fun _ _ _ => rfl) (fun R k y K => F82_2_eq n R (fun (x : SSh.den G F82_2s) => F82_2_it n (fun u0 => K .ret (SSh.enc G F82_2x0 ((u0, ()), ()))) (fun u0 u1 u2 u3 => K (.exit 0) (SSh.enc G F82_2x1 (((), ((), (u0, ()))), ((u1, (u2, ())), (u3, ()))))) k x.1.2.2.1 x.1.2.2.2.1 x.2.1.1 x.2.1.2.1 x.2.2.1) y K) n
noncomputable def F82_3x0 : SSh := ⟨86, [(2, .bool)], []⟩
noncomputable def F82_3x1 : SSh := ⟨86, [(1, (.ptr 0 0)), (4, (.int .i64))], [(.box 26 (.cons (.imm 0) (.cons (.imm 3) .nil)))]⟩
noncomputable def F82_3s : SSh := ⟨86, [(1, (.ptr 0 0)), (3, (.own 1)), (4, (.int .i64)), (7, (.int .i64))], [(.box 26 (.cons (.imm 0) (.cons (.imm 3) .nil))), (.arr 4 true)]⟩
noncomputable def F82_3_step {R : Type} (n : Nat) (k0 : Bool → Option R) (k1 : Int → List Int → List Ety → Option R) (rec : Int → Int → List Int → List Ety → List Bool → Option R) (x321 : Int) (x322 : Int) (x323 : List Int) (x324 : List Ety) (x325 : List Bool) : Option R :=
  (bif (decide (x322 < ((x325.length) : Int))) then
  (bif (decide ((0 : Int) ≤ x322)) then
  (bif (decide (x322 < ((x325.length) : Int))) then
  (bif (decide ((0 : Int) ≤ x322)) then
  (bif (decide (x322 < ((x324.length) : Int))) then
  (bif (!((x325.getD (x322.toNat) false) == (x324.getD (x322.toNat) (Ety.mk ({ data := #[] } : ByteArray) (0 : Int) (0 : Int) false)).live)) then
  (k0 false)
  else (rec x321 (IntKind.wrap .i64 (x322 + (1 : Int))) x323 x324 x325))
  else none)
  else none)
  else none)
  else none)
  else (k1 x321 x323 x324))
noncomputable def F82_3_it {R : Type} (n : Nat) (k0 : Bool → Option R) (k1 : Int → List Int → List Ety → Option R) : Nat → Int → Int → List Int → List Ety → List Bool → Option R
  | 0, _, _, _, _, _ => none
  | k + 1, x321, x322, x323, x324, x325 => F82_3_step n k0 k1 (F82_3_it n k0 k1 k) x321 x322 x323 x324 x325
noncomputable def F82_3 {R : Type} (n : Nat) (x321 : Int) (x322 : Int) (x323 : List Int) (x324 : List Ety) (x325 : List Bool) (k0 : Bool → Option R) (k1 : Int → List Int → List Ety → Option R) : Option R := F82_3_it n k0 k1 n x321 x322 x323 x324 x325
noncomputable def F82_3z (n : Nat) : Sm G := inZ G 0 ⟨[1, 3, 4, 7], []⟩ F82_3s fun R x K => F82_3_it n (fun u0 => K .ret (SSh.enc G F82_3x0 ((u0, ()), ()))) (fun u0 u1 u2 => K (.exit 2) (SSh.enc G F82_3x1 (((), (u0, ())), ((u1, (u2, ())), ())))) n x.1.2.2.1 x.1.2.2.2.1 x.2.1.1 x.2.1.2.1 x.2.2.1
theorem F82_3_eq (n : Nat) (R : Type) (rec : SSh.den G F82_3s → Option R) (x : SSh.den G F82_3s) (K : AE → St G → Option R) :
  F82_3_step n (fun u0 => K .ret (SSh.enc G F82_3x0 ((u0, ()), ()))) (fun u0 u1 u2 => K (.exit 2) (SSh.enc G F82_3x1 (((), (u0, ())), ((u1, (u2, ())), ())))) (fun x321 x322 x323 x324 x325 => rec (((), ((), (x321, (x322, ())))), ((x323, (x324, ())), (x325, ())))) x.1.2.2.1 x.1.2.2.2.1 x.2.1.1 x.2.1.2.1 x.2.2.1 = exec prog G (ro G (tabOf (E12 n)) (frOf [F82_0z n, F82_1z n, F82_2z n]) R) 0 (codeAt F82c [1, 1, 1, 1, 0, 1, 0, 0]) .no (SSh.enc G F82_3s x) (kLoop G (ro G (tabOf (E12 n)) (frOf [F82_0z n, F82_1z n, F82_2z n]) R) 0 ⟨[1, 3, 4, 7], []⟩ F82_3s ⟨⟨[1, 4], []⟩, ⟨[2], []⟩, [(2, ⟨[1, 4], []⟩)]⟩ rec K) := by kernel_rfl
theorem F82_3_ok (n : Nat) : FragOK prog G 0 (codeAt F82c [1, 1, 1, 1, 0, 1, 0]) (F82_3z n) :=
  frag_loop (Z := fun R k (x : SSh.den G F82_3s) K => F82_3_it n (fun u0 => K .ret (SSh.enc G F82_3x0 ((u0, ()), ()))) (fun u0 u1 u2 => K (.exit 2) (SSh.enc G F82_3x1 (((), (u0, ())), ((u1, (u2, ())), ())))) k x.1.2.2.1 x.1.2.2.2.1 x.2.1.1 x.2.1.2.1 x.2.2.1) laws fnok (E12_ok n).tab (AllF.of (l := []) (by kernel_rfl) AllF.nil) (fun _ _ _ => rfl) (fun R k y K => F82_3_eq n R (fun (x : SSh.den G F82_3s) => F82_3_it n (fun u0 => K .ret (SSh.enc G F82_3x0 ((u0, ()), ()))) (fun u0 u1 u2 => K (.exit 2) (SSh.enc G F82_3x1 (((), (u0, ())), ((u1, (u2, ())), ())))) k x.1.2.2.1 x.1.2.2.2.1 x.2.1.1 x.2.1.2.1 x.2.2.1) y K) n
noncomputable def F82 (n : Nat) (a262 : List Int) (a263 : List Ety) : Option (Bool × Unit) :=
  let v264 := ((a263.length) : Int)
  (bif (decide ((0 : Int) ≤ v264)) then
  (bif (decide (v264 ≤ v264)) then
  (bif (decide (v264 ≤ ((68719476736 : Nat) : Int))) then
  (F82_2 n (0 : Int) (0 : Int) a262 a263 (List.replicate (v264.toNat) false) (fun z316 =>
  some (z316, ())) (fun z317 z318 z319 z320 =>
  (F82_3 n z317 (0 : Int) z318 z319 z320 (fun z334 =>
  some (z334, ())) (fun z335 z336 z337 =>
  (andThen (F66 n z336 z337) fun r339 =>
  some ((z335 == (IntKind.wrap .i64 (((z337.length) : Int) - r339.1))), ()))))))
  else none)
  else none)
  else none)
noncomputable def F82e (n : Nat) : Ent G := ⟨82, (.cons (.agg (.cons (.imm 0) (.cons (.imm 3) .nil))) .nil), [], .bool, [], fun x y => F82 n x.1.1 x.1.2.1⟩
theorem F82_eq (n : Nat) (x : ShL.den G (.cons (.agg (.cons (.imm 0) (.cons (.imm 3) .nil))) .nil)) (y : denO G []) : (F82e n).F x y = runFn prog G (ro G (tabOf (E12 n)) (frOf [F82_0z n, F82_1z n, F82_2z n, F82_3z n]) _) Go.Proofs.Try.f82 (.nd .no (.nd .no (.nd .no (.nd (.nd .no (.nd (.use 2) .no)) (.nd (.nd .no (.nd (.use 3) .no)) .no))))) [(0, .fz)] (ShL.enc G (.cons (.agg (.cons (.imm 0) (.cons (.imm 3) .nil))) .nil) x) (encO G [] y) (decR .bool []) := by kernel_rfl
theorem F82_ok (n : Nat) : EntOK prog G (F82e n) :=
  ent_ok (fr := frOf [F82_0z n, F82_1z n, F82_2z n, F82_3z n]) (ann := (.nd .no (.nd .no (.nd .no (.nd (.nd .no (.nd (.use 2) .no)) (.nd (.nd .no (.nd (.use 3) .no)) .no)))))) (frm := [(0, .fz)]) laws fnok (E12_ok n).tab (e := F82e n) (fn := Go.Proofs.Try.f82) (by kernel_rfl) (AllF.ofB (cd := F82c) (l := [(2, codeAt F82c [1, 1, 1, 0, 1, 0]), (3, codeAt F82c [1, 1, 1, 1, 0, 1, 0])]) (by kernel_rfl) (by kernel_rfl) (AllF.cons (F82_2_ok n) (AllF.cons (F82_3_ok n) AllF.nil))) (F82_eq n)
noncomputable def E13 (n : Nat) : List (Ent G) := F82e n :: E12 n
theorem E13_ok (n : Nat) : AllE prog G (E13 n) := AllE.cons (F82_ok n) (E12_ok n)
-- 67 loop.example/slowworm/spec.slotOf
noncomputable def F67c : Code := bodyOf Go.Proofs.Try.f67
-- 54 loop.example/slowworm/spec.probesOf
noncomputable def F54c : Code := bodyOf Go.Proofs.Try.f54
noncomputable def F54_0x0 : SSh := ⟨54, [(4, (.own 0))], [(.arr 0 true)]⟩
noncomputable def F54_0s : SSh := ⟨54, [(1, .str), (2, (.ptr 0 0)), (5, (.int .i64)), (6, (.int .i64)), (7, (.int .i64)), (8, (.own 1))], [(.box 26 (.cons (.imm 0) (.cons (.imm 3) .nil))), (.arr 0 true)]⟩
noncomputable def F54_0_step {R : Type} (n : Nat) (k0 : List Int → Option R) (rec : ByteArray → Int → Int → Int → List Int → List Ety → List Int → Option R) (x363 : ByteArray) (x364 : Int) (x365 : Int) (x366 : Int) (x367 : List Int) (x368 : List Ety) (x369 : List Int) : Option R :=
  let v370 := (x366 :: [])
  (bif (decide (((x369.length) + (v370.length)) ≤ (68719476736 : Nat))) then
  let v371 := (x369 ++ v370)
  (bif (decide ((0 : Int) ≤ x366)) then
  (bif (decide (x366 < ((x367.length) : Int))) then
  let v373 := (x367.getD (x366.toNat) (0 : Int))
  (bif (v373 == (-1 : Int)) then
  (k0 v371)
  else (bif (decide (v373 ≥ (0 : Int))) then
  (bif (decide ((0 : Int) ≤ v373)) then
  (bif (decide (v373 < ((x368.length) : Int))) then
  (bif (((x368.getD (v373.toNat) (Ety.mk ({ data := #[] } : ByteArray) (0 : Int) (0 : Int) false)).key.toList) == (x363.toList)) then
  (k0 v371)
  else let v379 := (IntKind.wrap .i64 (x365.tdiv (8 : Int)))
  (bif (!(decide (x364 = (0 : Int)))) then
  (rec x363 x364 v379 ((IntKind.wrap .i64 ((IntKind.wrap .i64 ((IntKind.wrap .i64 ((5 : Int) * x366)) + v379)) + (1 : Int))).tmod x364) x367 x368 v371)
  else none))
  else none)
  else none)
  else let v384 := (IntKind.wrap .i64 (x365.tdiv (8 : Int)))
  (bif (!(decide (x364 = (0 : Int)))) then
  (rec x363 x364 v384 ((IntKind.wrap .i64 ((IntKind.wrap .i64 ((IntKind.wrap .i64 ((5 : Int) * x366)) + v384)) + (1 : Int))).tmod x364) x367 x368 v371)
  else none)))
  else none)
  else none)
  else none)
noncomputable def F54_0_it {R : Type} (n : Nat) (k0 : List Int → Option R) : Nat → ByteArray → Int → Int → Int → List Int → List Ety → List Int → Option R
  | 0, _, _, _, _, _, _, _ => none
  | k + 1, x363, x364, x365, x366, x367, x368, x369 => F54_0_step n k0 (F54_0_it n k0 k) x363 x364 x365 x366 x367 x368 x369
noncomputable def F54_0 {R : Type} (n : Nat) (x363 : ByteArray) (x364 : Int) (x365 : Int) (x366 : Int) (x367 : List Int) (x368 : List Ety) (x369 : List Int) (k0 : List Int → Option R) : Option R := F54_0_it n k0 n x363 x364 x365 x366 x367 x368 x369
noncomputable def F54_0z (n : Nat) : Sm G := inZ G 0 ⟨[1, 2, 5, 6, 7, 8], []⟩ F54_0s fun R x K => F54_0_it n (fun u0 => K .ret (SSh.enc G F54_0x0 (((), ()), (u0, ())))) n x.1.1 x.1.2.2.1 x.1.2.2.2.1 x.1.2.2.2.2.1 x.2.1.1 x.2.1.2.1 x.2.2.1
theorem F54_0_eq (n : Nat) (R : Type) (rec : SSh.den G F54_0s → Option R) (x : SSh.den G F54_0s) (K : AE → St G → Option R) :
  F54_0_step n (fun u0 => K .ret (SSh.enc G F54_0x0 (((), ()), (u0, ())))) (fun x363 x364 x365 x366 x367 x368 x369 => rec ((x363, ((), (x364, (x365, (x366, ((), ())))))), ((x367, (x368, ())), (x369, ())))) x.1.1 x.1.2.2.1 x.1.2.2.2.1 x.1.2.2.2.2.1 x.2.1.1 x.2.1.2.1 x.2.2.1 = exec prog G (ro G (tabOf (E13 n)) (frOf []) R) 0 (codeAt F54c [1, 1, 1, 1, 1, 0, 0]) .no (SSh.enc G F54_0s x) (kLoop G (ro G (tabOf (E13 n)) (frOf []) R) 0 ⟨[1, 2, 5, 6, 7, 8], []⟩ F54_0s ⟨⟨[4], []⟩, ⟨[4], []⟩, [(0, ⟨[4], []⟩)]⟩ rec K) := by kernel_rfl
theorem F54_0_ok (n : Nat) : FragOK prog G 0 (codeAt F54c [1, 1, 1, 1, 1, 0]) (F54_0z n) :=
  frag_loop (Z := fun R k (x : SSh.den G F54_0s) K => F54_0_it n (fun u0 => K .ret (SSh.enc G F54_0x0 (((), ()), (u0, ())))) k x.1.1 x.1.2.2.1 x.1.2.2.2.1 x.1.2.2.2.2.1 x.2.1.1 x.2.1.2.1 x.2.2.1) laws fnok (E13_ok n).tab (AllF.of (l := []) (by kernel_rfl) AllF.nil) (fun _ _ _ => rfl) (fun R k y K => F54_0_eq n R (fun (x : SSh.den G F54_0s) => F54_0_it n (fun u0 => K .ret (SSh.enc G F54_0x0 (((), ()), (u0, ())))) k x.1.1 x.1.2.2.1 x.1.2.2.2.1 x.1.2.2.2.2.1 x.2.1.1 x.2.1.2.1 x.2.2.1) y K) n
noncomputable def F54 (n : Nat) (a356 : List Int) (a357 : List Ety) (a358 : ByteArray) : Option (List Int × Unit) :=
  let v359 := ((a356.length) : Int)
  (andThen (F81 n a358) fun r360 =>
  (bif (!(decide (v359 = (0 : Int)))) then
  (F54_0 n a358 v359 r360.1 (r360.1.tmod v359) a356 a357 [] (fun z389 =>
  some (z389, ())))
  else none))
noncomputable def F54e (n : Nat) : Ent G := ⟨54, (.cons (.agg (.cons (.imm 0) (.cons (.imm 3) .nil))) (.cons .str .nil)), [], (.imm 0), [], fun x y => F54 n x.1.1 x.1.2.1 x.2.1⟩
theorem F54_eq (n : Nat) (x : ShL.den G (.cons (.agg (.cons (.imm 0) (.cons (.imm 3) .nil))) (.cons .str .nil))) (y : denO G []) : (F54e n).F x y = runFn prog G (ro G (tabOf (E13 n)) (frOf [F54_0z n]) _) Go.Proofs.Try.f54 (.nd .no (.nd .no (.nd .no (.nd .no (.nd .no (.nd (.use 0) .no)))))) [(0, .fz)] (ShL.enc G (.cons (.agg (.cons (.imm 0) (.cons (.imm 3) .nil))) (.cons .str .nil)) x) (encO G [] y) (decR (.imm 0) []) := by kernel_rfl
theorem F54_ok (n : Nat) : EntOK prog G (F54e n) :=
  ent_ok (fr := frOf [F54_0z n]) (ann := (.nd .no (.nd .no (.nd .no (.nd .no (.nd .no (.nd (.use 0) .no))))))) (frm := [(0, .fz)]) laws fnok (E13_ok n).tab (e := F54e n) (fn := Go.Proofs.Try.f54) (by kernel_rfl) (AllF.ofB (cd := F54c) (l := [(0, codeAt F54c [1, 1, 1, 1, 1, 0])]) (by kernel_rfl) (by kernel_rfl) (AllF.cons (F54_0_ok n) AllF.nil)) (F54_eq n)
noncomputable def E14 (n : Nat) : List (Ent G) := F54e n :: E13 n
theorem E14_ok (n : Nat) : AllE prog G (E14 n) := AllE.cons (F54_ok n) (E13_ok n)
noncomputable def F67 (n : Nat) (a353 : List Int) (a354 : List Ety) (a355 : ByteArray) : Option (Int × Unit) :=
  (andThen (F54 n a353 a354 a355) fun r390 =>
  let v392 := (IntKind.wrap .i64 (((r390.1.length) : Int) - (1 : Int)))
  (bif (decide ((0 : Int) ≤ v392)) then
  (bif (decide (v392 < ((r390.1.length) : Int))) then
  some ((r390.1.getD (v392.toNat) (0 : Int)), ())
  else none)
  else none))
noncomputable def F67e (n : Nat) : Ent G := ⟨67, (.cons (.agg (.cons (.imm 0) (.cons (.imm 3) .nil))) (.cons .str .nil)), [], (.int .i64), [], fun x y => F67 n x.1.1 x.1.2.1 x.2.1⟩
theorem F67_eq (n : Nat) (x : ShL.den G (.cons (.agg (.cons (.imm 0) (.cons (.imm 3) .nil))) (.cons .str .nil))) (y : denO G []) : (F67e n).F x y = runFn prog G (ro G (tabOf (E14 n)) (frOf []) _) Go.Proofs.Try.f67 .no [(0, .fz)] (ShL.enc G (.cons (.agg (.cons (.imm 0) (.cons (.imm 3) .nil))) (.cons .str .nil)) x) (encO G [] y) (decR (.int .i64) []) := by kernel_rfl
theorem F67_ok (n : Nat) : EntOK prog G (F67e n) :=
  ent_ok (fr := frOf []) (ann := .no) (frm := [(0, .fz)]) laws fnok (E14_ok n).tab (e := F67e n) (fn := Go.Proofs.Try.f67) (by kernel_rfl) (AllF.ofB (cd := F67c) (l := []) (by kernel_rfl) (by kernel_rfl) AllF.nil) (F67_eq n)
noncomputable def E15 (n : Nat) : List (Ent G) := F67e n :: E14 n
theorem E15_ok (n : Nat) : AllE prog G (E15 n) := AllE.cons (F67_ok n) (E14_ok n)
noncomputable def F52_1x0 : SSh := ⟨116, [(2, .bool)], []⟩
noncomputable def F52_1x1 : SSh := ⟨116, [], []⟩
noncomputable def F52_1s : SSh := ⟨116, [(1, (.ptr 0 0)), (6, (.int .i64))], [(.box 26 (.cons (.imm 0) (.cons (.imm 3) .nil)))]⟩
noncomputable def F52_1_step {R : Type} (n : Nat) (k0 : Bool → Option R) (k1 : Option R) (rec : Int → List Int → List Ety → Option R) (x344 : Int) (x345 : List Int) (x346 : List Ety) : Option R :=
  (bif (decide (x344 < ((x346.length) : Int))) then
  (bif (decide ((0 : Int) ≤ x344)) then
  (bif (decide (x344 < ((x346.length) : Int))) then
  (bif (x346.getD (x344.toNat) (Ety.mk ({ data := #[] } : ByteArray) (0 : Int) (0 : Int) false)).live then
  (bif (decide ((0 : Int) ≤ x344)) then
  (bif (decide (x344 < ((x346.length) : Int))) then
  (andThen (F67 n x345 x346 (x346.getD (x344.toNat) (Ety.mk ({ data := #[] } : ByteArray) (0 : Int) (0 : Int) false)).key) fun r395 =>
  (bif (decide ((0 : Int) ≤ r395.1)) then
  (bif (decide (r395.1 < ((x345.length) : Int))) then
  (bif ((x345.getD (r395.1.toNat) (0 : Int)) != x344) then
  (k0 false)
  else (rec (IntKind.wrap .i64 (x344 + (1 : Int))) x345 x346))
  else none)
  else none))
  else none)
  else none)
  else (rec (IntKind.wrap .i64 (x344 + (1 : Int))) x345 x346))
  else none)
  else none)
  else k1)
noncomputable def F52_1_it {R : Type} (n : Nat) (k0 : Bool → Option R) (k1 : Option R) : Nat → Int → List Int → List Ety → Option R
  | 0, _, _, _ => none
  | k + 1, x344, x345, x346 => F52_1_step n k0 k1 (F52_1_it n k0 k1 k) x344 x345 x346
noncomputable def F52_1 {R : Type} (n : Nat) (x344 : Int) (x345 : List Int) (x346 : List Ety) (k0 : Bool → Option R) (k1 : Option R) : Option R := F52_1_it n k0 k1 n x344 x345 x346
noncomputable def F52_1z (n : Nat) : Sm G := inZ G 0 ⟨[1, 6], []⟩ F52_1s fun R x K => F52_1_it n (fun u0 => K .ret (SSh.enc G F52_1x0 ((u0, ()), ()))) (K (.exit 2) (SSh.enc G F52_1x1 ((), ()))) n x.1.2.1 x.2.1.1 x.2.1.2.1
theorem F52_1_eq (n : Nat) (R : Type) (rec : SSh.den G F52_1s → Option R) (x : SSh.den G F52_1s) (K : AE → St G → Option R) :
  F52_1_step n (fun u0 => K .ret (SSh.enc G F52_1x0 ((u0, ()), ()))) (K (.exit 2) (SSh.enc G F52_1x1 ((), ()))) (fun x344 x345 x346 => rec (((), (x344, ())), ((x345, (x346, ())), ()))) x.1.2.1 x.2.1.1 x.2.1.2.1 = exec prog G (ro G (tabOf (E15 n)) (frOf [F52_0z n]) R) 0 (codeAt F52c [1, 1, 1, 1, 1, 1, 0, 1, 0, 0]) .no (SSh.enc G F52_1s x) (kLoop G (ro G (tabOf (E15 n)) (frOf [F52_0z n]) R) 0 ⟨[1, 6], []⟩ F52_1s ⟨⟨[], []⟩, ⟨[2], []⟩, [(2, ⟨[], []⟩)]⟩ rec K) := by kernel_rfl
theorem F52_1_ok (n : Nat) : FragOK prog G 0 (codeAt F52c [1, 1, 1, 1, 1, 1, 0, 1, 0]) (F52_1z n) :=
  frag_loop (Z := fun R k (x : SSh.den G F52_1s) K => F52_1_it n (fun u0 => K .ret (SSh.enc G F52_1x0 ((u0, ()), ()))) (K (.exit 2) (SSh.enc G F52_1x1 ((), ()))) k x.1.2.1 x.2.1.1 x.2.1.2.1) laws fnok (E15_ok n).tab (AllF.of (l := []) (by kernel_rfl) AllF.nil) (fun _ _ _ => rfl) (fun R k y K => F52_1_eq n R (fun (x : SSh.den G F52_1s) => F52_1_it n (fun u0 => K .ret (SSh.enc G F52_1x0 ((u0, ()), ()))) (K (.exit 2) (SSh.enc G F52_1x1 ((), ()))) k x.1.2.1 x.2.1.1 x.2.1.2.1) y K) n
noncomputable def F52 (n : Nat) (a171 : List Int) (a172 : List Ety) : Option (Bool × Unit) :=
  let v173 := ((a171.length) : Int)
  (bif (v173 != (8 : Int)) then
  (bif (v173 != (16 : Int)) then
  (bif (v173 != (32 : Int)) then
  (bif (v173 != (64 : Int)) then
  (bif (v173 != (128 : Int)) then
  some (false, ())
  else (bif (decide (((a172.length) : Int) > (IntKind.wrap .i64 ((IntKind.wrap .i64 (v173 * (2 : Int))).tdiv (3 : Int))))) then
  some (false, ())
  else (andThen (F66 n a171 a172) fun r204 =>
  (bif (decide (r204.1 > (40 : Int))) then
  some (false, ())
  else (F52_0 n (0 : Int) a171 a172 (fun z259 =>
  some (z259, ())) (fun z260 z261 =>
  (andThen (F82 n z260 z261) fun r342 =>
  (bif (!r342.1) then
  some (false, ())
  else (F52_1 n (0 : Int) z260 z261 (fun z401 =>
  some (z401, ())) (
  some (true, ())))))))))))
  else (bif (decide (((a172.length) : Int) > (IntKind.wrap .i64 ((IntKind.wrap .i64 (v173 * (2 : Int))).tdiv (3 : Int))))) then
  some (false, ())
  else (andThen (F66 n a171 a172) fun r406 =>
  (bif (decide (r406.1 > (40 : Int))) then
  some (false, ())
  else (F52_0 n (0 : Int) a171 a172 (fun z408 =>
  some (z408, ())) (fun z409 z410 =>
  (andThen (F82 n z409 z410) fun r411 =>
  (bif (!r411.1) then
  some (false, ())
  else (F52_1 n (0 : Int) z409 z410 (fun z413 =>
  some (z413, ())) (
  some (true, ())))))))))))
  else (bif (decide (((a172.length) : Int) > (IntKind.wrap .i64 ((IntKind.wrap .i64 (v173 * (2 : Int))).tdiv (3 : Int))))) then
  some (false, ())
  else (andThen (F66 n a171 a172) fun r418 =>
  (bif (decide (r418.1 > (40 : Int))) then
  some (false, ())
  else (F52_0 n (0 : Int) a171 a172 (fun z420 =>
  some (z420, ())) (fun z421 z422 =>
  (andThen (F82 n z421 z422) fun r423 =>
  (bif (!r423.1) then
  some (false, ())
  else (F52_1 n (0 : Int) z421 z422 (fun z425 =>
  some (z425, ())) (
  some (true, ())))))))))))
  else (bif (decide (((a172.length) : Int) > (IntKind.wrap .i64 ((IntKind.wrap .i64 (v173 * (2 : Int))).tdiv (3 : Int))))) then
  some (false, ())
  else (andThen (F66 n a171 a172) fun r430 =>
  (bif (decide (r430.1 > (40 : Int))) then
  some (false, ())
  else (F52_0 n (0 : Int) a171 a172 (fun z432 =>
  some (z432, ())) (fun z433 z434 =>
  (andThen (F82 n z433 z434) fun r435 =>
  (bif (!r435.1) then
  some (false, ())
  else (F52_1 n (0 : Int) z433 z434 (fun z437 =>
  some (z437, ())) (
  some (true, ())))))))))))
  else (bif (decide (((a172.length) : Int) > (IntKind.wrap .i64 ((IntKind.wrap .i64 (v173 * (2 : Int))).tdiv (3 : Int))))) then
  some (false, ())
  else (andThen (F66 n a171 a172) fun r442 =>
  (bif (decide (r442.1 > (40 : Int))) then
  some (false, ())
  else (F52_0 n (0 : Int) a171 a172 (fun z444 =>
  some (z444, ())) (fun z445 z446 =>
  (andThen (F82 n z445 z446) fun r447 =>
  (bif (!r447.1) then
  some (false, ())
  else (F52_1 n (0 : Int) z445 z446 (fun z449 =>
  some (z449, ())) (
  some (true, ())))))))))))
noncomputable def F52e (n : Nat) : Ent G := ⟨52, (.cons (.agg (.cons (.imm 0) (.cons (.imm 3) .nil))) .nil), [], .bool, [], fun x y => F52 n x.1.1 x.1.2.1⟩
theorem F52_eq (n : Nat) (x : ShL.den G (.cons (.agg (.cons (.imm 0) (.cons (.imm 3) .nil))) .nil)) (y : denO G []) : (F52e n).F x y = runFn prog G (ro G (tabOf (E15 n)) (frOf [F52_0z n, F52_1z n]) _) Go.Proofs.Try.f52 (.nd .no (.nd .no (.nd .no (.nd .no (.nd (.nd .no (.nd (.use 0) .no)) (.nd .no (.nd (.nd .no (.nd (.use 1) .no)) .no))))))) [(0, .fz)] (ShL.enc G (.cons (.agg (.cons (.imm 0) (.cons (.imm 3) .nil))) .nil) x) (encO G [] y) (decR .bool []) := by kernel_rfl
theorem F52_ok (n : Nat) : EntOK prog G (F52e n) :=
  ent_ok (fr := frOf [F52_0z n, F52_1z n]) (ann := (.nd .no (.nd .no (.nd .no (.nd .no (.nd (.nd .no (.nd (.use 0) .no)) (.nd .no (.nd (.nd .no (.nd (.use 1) .no)) .no)))))))) (frm := [(0, .fz)]) laws fnok (E15_ok n).tab (e := F52e n) (fn := Go.Proofs.Try.f52) (by kernel_rfl) (AllF.ofB (cd := F52c) (l := [(0, codeAt F52c [1, 1, 1, 1, 0, 1, 0]), (1, codeAt F52c [1, 1, 1, 1, 1, 1, 0, 1, 0])]) (by kernel_rfl) (by kernel_rfl) (AllF.cons (F52_0_ok n) (AllF.cons (F52_1_ok n) AllF.nil))) (F52_eq n)
noncomputable def E16 (n : Nat) : List (Ent G) := F52e n :: E15 n
theorem E16_ok (n : Nat) : AllE prog G (E16 n) := AllE.cons (F52_ok n) (E15_ok n)
-- 75 loop.example/slowworm/spec.copyDict
noncomputable def F75c : Code := bodyOf Go.Proofs.Try.f75
noncomputable def F75 (n : Nat) (a454 : List Int) (a455 : List Ety) : Option ((Unit × (Unit × Unit)) × (List Int × (List Ety × Unit))) :=
  let v456 := []
  (bif (decide (((v456.length) + (a454.length)) ≤ (68719476736 : Nat))) then
  let v458 := []
  (bif (decide (((v458.length) + (a455.length)) ≤ (68719476736 : Nat))) then
  some (((), ((), ())), ((v456 ++ a454), ((v458 ++ a455), ())))
  else none)
  else none)
noncomputable def F75e (n : Nat) : Ent G := ⟨75, (.cons (.agg (.cons (.imm 0) (.cons (.imm 3) .nil))) .nil), [], (.agg (.cons (.own 0) (.cons (.own 1) .nil))), [(.arr 0 true), (.arr 3 true)], fun x y => F75 n x.1.1 x.1.2.1⟩
theorem F75_eq (n : Nat) (x : ShL.den G (.cons (.agg (.cons (.imm 0) (.cons (.imm 3) .nil))) .nil)) (y : denO G []) : (F75e n).F x y = runFn prog G (ro G (tabOf (E16 n)) (frOf []) _) Go.Proofs.Try.f75 .no [] (ShL.enc G (.cons (.agg (.cons (.imm 0) (.cons (.imm 3) .nil))) .nil) x) (encO G [] y) (decR (.agg (.cons (.own 0) (.cons (.own 1) .nil))) [(.arr 0 true), (.arr 3 true)]) := by kernel_rfl
theorem F75_ok (n : Nat) : EntOK prog G (F75e n) :=
  ent_ok (fr := frOf []) (ann := .no) (frm := []) laws fnok (E16_ok n).tab (e := F75e n) (fn := Go.Proofs.Try.f75) (by kernel_rfl) (AllF.ofB (cd := F75c) (l := []) (by kernel_rfl) (by kernel_rfl) AllF.nil) (F75_eq n)
noncomputable def E17 (n : Nat) : List (Ent G) := F75e n :: E16 n
theorem E17_ok (n : Nat) : AllE prog G (E17 n) := AllE.cons (F75_ok n) (E16_ok n)
noncomputable def F47 (n : Nat) (a168 : List Int) (a169 : List Ety) (a170 : ByteArray) : Option (((Unit × (Unit × Unit)) × (Bool × Unit)) × (List Int × (List Ety × Unit))) :=
  (andThen (F52 n a168 a169) fun r450 =>
  (bif (!r450.1) then
  some ((((), ((), ())), (false, ())), ([], ([], ())))
  else (andThen (F53 n a170) fun r452 =>
  (bif (!r452.1) then
  some ((((), ((), ())), (false, ())), ([], ([], ())))
  else (andThen (F75 n a168 a169) fun r460 =>
  (andThen (F67 n r460.2.1 r460.2.2.1 a170) fun r461 =>
  (bif (decide ((0 : Int) ≤ r461.1)) then
  (bif (decide (r461.1 < ((r460.2.1.length) : Int))) then
  let v463 := (r460.2.1.getD (r461.1.toNat) (0 : Int))
  (bif (decide (v463 < (0 : Int))) then
  some ((((), ((), ())), (false, ())), (r460.2.1, (r460.2.2.1, ())))
  else (bif (decide ((0 : Int) ≤ r461.1)) then
  (bif (decide (r461.1 < ((r460.2.1.length) : Int))) then
  (bif (decide ((0 : Int) ≤ v463)) then
  (bif (decide (v463 < ((r460.2.2.1.length) : Int))) then
  some ((((), ((), ())), (true, ())), ((r460.2.1.set (r461.1.toNat) (-2 : Int)), ((r460.2.2.1.set (v463.toNat) (Ety.mk ({ data := #[] } : ByteArray) (0 : Int) (0 : Int) false)), ())))
  else none)
  else none)
  else none)
  else none))
  else none)
  else none)))))))
noncomputable def F47e (n : Nat) : Ent G := ⟨47, (.cons (.agg (.cons (.imm 0) (.cons (.imm 3) .nil))) (.cons .str .nil)), [], (.tup (.cons (.agg (.cons (.own 0) (.cons (.own 1) .nil))) (.cons .bool .nil))), [(.arr 0 true), (.arr 3 true)], fun x y => F47 n x.1.1 x.1.2.1 x.2.1⟩
theorem F47_eq (n : Nat) (x : ShL.den G (.cons (.agg (.cons (.imm 0) (.cons (.imm 3) .nil))) (.cons .str .nil))) (y : denO G []) : (F47e n).F x y = runFn prog G (ro G (tabOf (E17 n)) (frOf []) _) Go.Proofs.Try.f47 .no [(0, (.fld 0 (.own 0))), (0, (.fld 1 (.own 3)))] (ShL.enc G (.cons (.agg (.cons (.imm 0) (.cons (.imm 3) .nil))) (.cons .str .nil)) x) (encO G [] y) (decR (.tup (.cons (.agg (.cons (.own 0) (.cons (.own 1) .nil))) (.cons .bool .nil))) [(.arr 0 true), (.arr 3 true)]) := by kernel_rfl
theorem F47_ok (n : Nat) : EntOK prog G (F47e n) :=
  ent_ok (fr := frOf []) (ann := .no) (frm := [(0, (.fld 0 (.own 0))), (0, (.fld 1 (.own 3)))]) laws fnok (E17_ok n).tab (e := F47e n) (fn := Go.Proofs.Try.f47) (by kernel_rfl) (AllF.ofB (cd := F47c) (l := []) (by kernel_rfl) (by kernel_rfl) AllF.nil) (F47_eq n)
noncomputable def E18 (n : Nat) : List (Ent G) := F47e n :: E17 n
theorem E18_ok (n : Nat) : AllE prog G (E18 n) := AllE.cons (F47_ok n) (E17_ok n)
-- 45 loop.example/slowworm/spec.DictSet
noncomputable def F45c : Code := bodyOf Go.Proofs.Try.f45
-- 76 loop.example/slowworm/spec.setKey
noncomputable def F76c : Code := bodyOf Go.Proofs.Try.f76
-- 71 loop.example/slowworm/spec.sizeFor
noncomputable def F71c : Code := bodyOf Go.Proofs.Try.f71
noncomputable def F71_0x0 : SSh := ⟨12, [(3, (.int .i64))], []⟩
noncomputable def F71_0s : SSh := ⟨12, [(0, (.int .i64)), (3, (.int .i64))], []⟩
noncomputable def F71_0_step {R : Type} (n : Nat) (k0 : Int → Option R) (rec : Int → Int → Option R) (x515 : Int) (x516 : Int) : Option R :=
  (bif (decide (x516 ≤ (IntKind.wrap .i64 (x515 * (3 : Int))))) then
  (rec x515 (IntKind.wrap .i64 (x516 * (2 : Int))))
  else (k0 x516))
noncomputable def F71_0_it {R : Type} (n : Nat) (k0 : Int → Option R) : Nat → Int → Int → Option R
  | 0, _, _ => none
  | k + 1, x515, x516 => F71_0_step n k0 (F71_0_it n k0 k) x515 x516
noncomputable def F71_0 {R : Type} (n : Nat) (x515 : Int) (x516 : Int) (k0 : Int → Option R) : Option R := F71_0_it n k0 n x515 x516
noncomputable def F71_0z (n : Nat) : Sm G := inZ G 0 ⟨[0, 3], []⟩ F71_0s fun R x K => F71_0_it n (fun u0 => K (.exit 0) (SSh.enc G F71_0x0 ((u0, ()), ()))) n x.1.1 x.1.2.1
theorem F71_0_eq (n : Nat) (R : Type) (rec : SSh.den G F71_0s → Option R) (x : SSh.den G F71_0s) (K : AE → St G → Option R) :
  F71_0_step n (fun u0 => K (.exit 0) (SSh.enc G F71_0x0 ((u0, ()), ()))) (fun x515 x516 => rec ((x515, (x516, ())), ())) x.1.1 x.1.2.1 = exec prog G (ro G (tabOf (E18 n)) (frOf []) R) 0 (codeAt F71c [1, 1, 0, 0, 0]) .no (SSh.enc G F71_0s x) (kLoop G (ro G (tabOf (E18 n)) (frOf []) R) 0 ⟨[0, 3], []⟩ F71_0s ⟨⟨[3], []⟩, ⟨[2], []⟩, [(0, ⟨[3], []⟩)]⟩ rec K) := by kernel_rfl
theorem F71_0_ok (n : Nat) : FragOK prog G 0 (codeAt F71c [1, 1, 0, 0]) (F71_0z n) :=
  frag_loop (Z := fun R k (x : SSh.den G F71_0s) K => F71_0_it n (fun u0 => K (.exit 0) (SSh.enc G F71_0x0 ((u0, ()), ()))) k x.1.1 x.1.2.1) laws fnok (E18_ok n).tab (AllF.of (l := []) (by kernel_rfl) AllF.nil) (fun _ _ _ => rfl) (fun R k y K => F71_0_eq n R (fun (x : SSh.den G F71_0s) => F71_0_it n (fun u0 => K (.exit 0) (SSh.enc G F71_0x0 ((u0, ()), ()))) k x.1.1 x.1.2.1) y K) n
noncomputable def F71 (n : Nat) (a514 : Int) : Option (Int × Unit) :=
  (F71_0 n a514 (8 : Int) (fun z520 =>
  some ((if ((128 : Int) < z520) then (128 : Int) else z520), ())))
noncomputable def F71e (n : Nat) : Ent G := ⟨71, (.cons (.int .i64) .nil), [], (.int .i64), [], fun x y => F71 n x.1⟩
theorem F71_eq (n : Nat) (x : ShL.den G (.cons (.int .i64) .nil)) (y : denO G []) : (F71e n).F x y = runFn prog G (ro G (tabOf (E18 n)) (frOf [F71_0z n]) _) Go.Proofs.Try.f71 (.nd .no (.nd .no (.nd (.nd (.use 0) .no) .no))) [(0, .fz)] (ShL.enc G (.cons (.int .i64) .nil) x) (encO G [] y) (decR (.int .i64) []) := by kernel_rfl
theorem F71_ok (n : Nat) : EntOK prog G (F71e n) :=
  ent_ok (fr := frOf [F71_0z n]) (ann := (.nd .no (.nd .no (.nd (.nd (.use 0) .no) .no)))) (frm := [(0, .fz)]) laws fnok (E18_ok n).tab (e := F71e n) (fn := Go.Proofs.Try.f71) (by kernel_rfl) (AllF.ofB (cd := F71c) (l := [(0, codeAt F71c [1, 1, 0, 0])]) (by kernel_rfl) (by kernel_rfl) (AllF.cons (F71_0_ok n) AllF.nil)) (F71_eq n)
noncomputable def E19 (n : Nat) : List (Ent G) := F71e n :: E18 n
theorem E19_ok (n : Nat) : AllE prog G (E19 n) := AllE.cons (F71_ok n) (E18_ok n)
-- 70 loop.example/slowworm/spec.packed
noncomputable def F70c : Code := bodyOf Go.Proofs.Try.f70
noncomputable def F70_0x0 : SSh := ⟨42, [(2, (.ptr 0 0)), (4, (.ptr 1 0)), (5, (.ptr 2 0)), (6, (.int .i64))], [(.box 26 (.cons (.imm 0) (.cons (.imm 3) .nil))), (.box 26 (.cons .nil0 (.cons .nil0 .nil))), (.box 26 (.cons (.own 3) (.cons (.own 4) .nil))), (.arr 0 true), (.arr 3 true)]⟩
noncomputable def F70_0s : SSh := ⟨42, [(2, (.ptr 0 0)), (4, (.ptr 1 0)), (5, (.ptr 2 0)), (6, (.int .i64))], [(.box 26 (.cons (.imm 0) (.cons (.imm 3) .nil))), (.box 26 (.cons .nil0 (.cons .nil0 .nil))), (.box 26 (.cons (.own 3) (.cons (.own 4) .nil))), (.arr 0 true), (.arr 3 true)]⟩
noncomputable def F70_0 {R : Type} (n : Nat) (x564 : Int) (x565 : List Int) (x566 : List Ety) (x567 : List Int) (x568 : List Ety) (k0 : Int → List Int → List Ety → List Int → List Ety → Option R) : Option R :=
  (bif (decide ((0 : Int) ≤ x564)) then
  (bif (decide (x564 < ((x566.length) : Int))) then
  let v569 := (x566.getD (x564.toNat) (Ety.mk ({ data := #[] } : ByteArray) (0 : Int) (0 : Int) false))
  let v570 := v569.key
  let v573 := v569.live
  (bif v573 then
  (andThen (F67 n x567 x568 v570) fun r574 =>
  (bif (decide ((0 : Int) ≤ r574.1)) then
  (bif (decide (r574.1 < ((x567.length) : Int))) then
  let v578 := ((Ety.mk v570 v569.hash v569.val v573) :: [])
  (bif (decide (((x568.length) + (v578.length)) ≤ (68719476736 : Nat))) then
  (k0 x564 x565 x566 (x567.set (r574.1.toNat) ((x568.length) : Int)) (x568 ++ v578))
  else none)
  else none)
  else none))
  else (k0 x564 x565 x566 x567 x568))
  else none)
  else none)
noncomputable def F70_0z (n : Nat) : Sm G := inZ G 0 ⟨[2, 4, 5, 6], []⟩ F70_0s fun R x K => F70_0 n x.1.2.2.2.1 x.2.1.1 x.2.1.2.1 x.2.2.2.2.1 x.2.2.2.2.2.1 (fun u0 u1 u2 u3 u4 => K .normal (SSh.enc G F70_0x0 (((), ((), ((), (u0, ())))), ((u1, (u2, ())), (((), ((), ())), (((), ((), ())), (u3, (u4, ()))))))))
theorem F70_0_eq (n : Nat) (R : Type) (x : SSh.den G F70_0s) (K : AE → St G → Option R) :
  F70_0 n x.1.2.2.2.1 x.2.1.1 x.2.1.2.1 x.2.2.2.2.1 x.2.2.2.2.2.1 (fun u0 u1 u2 u3 u4 => K .normal (SSh.enc G F70_0x0 (((), ((), ((), (u0, ())))), ((u1, (u2, ())), (((), ((), ())), (((), ((), ())), (u3, (u4, ())))))))) = exec prog G (ro G (tabOf (E19 n)) (frOf []) R) 0 (codeAt F70c [1, 1, 0, 1, 0, 0, 1, 0]) .no (SSh.enc G F70_0s x) (kNrm G (ro G (tabOf (E19 n)) (frOf []) R) 0 ⟨⟨[2, 4, 5, 6], []⟩, ⟨[4], []⟩, [(0, ⟨[4, 5], []⟩)]⟩ K) := by kernel_rfl
theorem F70_0_ok (n : Nat) : FragOK prog G 0 (codeAt F70c [1, 1, 0, 1, 0, 0, 1, 0]) (F70_0z n) :=
  frag_plain laws fnok (E19_ok n).tab (AllF.of (l := []) (by kernel_rfl) AllF.nil) (F70_0_eq n)
noncomputable def F70_1x0 : SSh := ⟨42, [(4, (.ptr 0 0)), (5, (.ptr 1 0))], [(.box 26 (.cons .nil0 (.cons .nil0 .nil))), (.box 26 (.cons (.own 2) (.cons (.own 3) .nil))), (.arr 0 true), (.arr 3 true)]⟩
noncomputable def F70_1s : SSh := ⟨42, [(2, (.ptr 0 0)), (4, (.ptr 1 0)), (5, (.ptr 2 0)), (6, (.int .i64))], [(.box 26 (.cons (.imm 0) (.cons (.imm 3) .nil))), (.box 26 (.cons .nil0 (.cons .nil0 .nil))), (.box 26 (.cons (.own 3) (.cons (.own 4) .nil))), (.arr 0 true), (.arr 3 true)]⟩
noncomputable def F70_1_step {R : Type} (n : Nat) (k0 : List Int → List Ety → Option R) (rec : Int → List Int → List Ety → List Int → List Ety → Option R) (x557 : Int) (x558 : List Int) (x559 : List Ety) (x560 : List Int) (x561 : List Ety) : Option R :=
  (bif (decide (x557 < ((x559.length) : Int))) then
  (F70_0 n x557 x558 x559 x560 x561 (fun z580 z581 z582 z583 z584 =>
  (rec (IntKind.wrap .i64 (z580 + (1 : Int))) z581 z582 z583 z584)))
  else (k0 x560 x561))
noncomputable def F70_1_it {R : Type} (n : Nat) (k0 : List Int → List Ety → Option R) : Nat → Int → List Int → List Ety → List Int → List Ety → Option R
  | 0, _, _, _, _, _ => none
  | k + 1, x557, x558, x559, x560, x561 => F70_1_step n k0 (F70_1_it n k0 k) x557 x558 x559 x560 x561
noncomputable def F70_1 {R : Type} (n : Nat) (x557 : Int) (x558 : List Int) (x559 : List Ety) (x560 : List Int) (x561 : List Ety) (k0 : List Int → List Ety → Option R) : Option R := F70_1_it n k0 n x557 x558 x559 x560 x561
noncomputable def F70_1z (n : Nat) : Sm G := inZ G 0 ⟨[2, 4, 5, 6], [(5, (.cell 1 (.own 3)))]⟩ F70_1s fun R x K => F70_1_it n (fun u0 u1 => K (.exit 0) (SSh.enc G F70_1x0 (((), ((), ())), (((), ((), ())), (((), ((), ())), (u0, (u1, ()))))))) n x.1.2.2.2.1 x.2.1.1 x.2.1.2.1 x.2.2.2.2.1 x.2.2.2.2.2.1
theorem F70_1_eq (n : Nat) (R : Type) (rec : SSh.den G F70_1s → Option R) (x : SSh.den G F70_1s) (K : AE → St G → Option R) :
  F70_1_step n (fun u0 u1 => K (.exit 0) (SSh.enc G F70_1x0 (((), ((), ())), (((), ((), ())), (((), ((), ())), (u0, (u1, ()))))))) (fun x557 x558 x559 x560 x561 => rec (((), ((), ((), (x557, ())))), ((x558, (x559, ())), (((), ((), ())), (((), ((), ())), (x560, (x561, ()))))))) x.1.2.2.2.1 x.2.1.1 x.2.1.2.1 x.2.2.2.2.1 x.2.2.2.2.2.1 = exec prog G (ro G (tabOf (E19 n)) (frOf [F70_0z n]) R) 0 (codeAt F70c [1, 1, 0, 1, 0, 0]) (.nd .no (.nd (.use 0) .no)) (SSh.enc G F70_1s x) (kLoop G (ro G (tabOf (E19 n)) (frOf [F70_0z n]) R) 0 ⟨[2, 4, 5, 6], [(5, (.cell 1 (.own 3)))]⟩ F70_1s ⟨⟨[4, 5], []⟩, ⟨[4], []⟩, [(0, ⟨[4, 5], []⟩)]⟩ rec K) := by kernel_rfl
theorem F70_1_ok (n : Nat) : FragOK prog G 0 (codeAt F70c [1, 1, 0, 1, 0]) (F70_1z n) :=
  frag_loop (Z := fun R k (x : SSh.den G F70_1s) K => F70_1_it n (fun u0 u1 => K (.exit 0) (SSh.enc G F70_1x0 (((), ((), ())), (((), ((), ())), (((), ((), ())), (u0, (u1, ()))))))) k x.1.2.2.2.1 x.2.1.1 x.2.1.2.1 x.2.2.2.2.1 x.2.2.2.2.2.1) laws fnok (E19_ok n).tab (AllF.of (l := [(0, codeAt F70c [1, 1, 0, 1, 0, 0, 1, 0])]) (by kernel_rfl) (AllF.cons (F70_0_ok n) AllF.nil)) (fun _ _ _ => rfl) (fun R k y K => F70_1_eq n R (fun (x : SSh.den G F70_1s) => F70_1_it n (fun u0 u1 => K (.exit 0) (SSh.enc G F70_1x0 (((), ((), ())), (((), ((), ())), (((), ((), ())), (u0, (u1, ()))))))) k x.1.2.2.2.1 x.2.1.1 x.2.1.2.1 x.2.2.2.2.1 x.2.2.2.2.2.1) y K) n
noncomputable def F70 (n : Nat) (a553 : List Int) (a554 : List Ety) (a555 : Int) : Option ((Unit × (Unit × Unit)) × (List Int × (List Ety × Unit))) :=
  (andThen (F64 n a555) fun r556 =>
  (F70_1 n (0 : Int) a553 a554 r556.2.1 [] (fun z586 z587 =>
  some (((), ((), ())), (z586, (z587, ()))))))
noncomputable def F70e (n : Nat) : Ent G := ⟨70, (.cons (.agg (.cons (.imm 0) (.cons (.imm 3) .nil))) (.cons (.int .i64) .nil)), [], (.agg (.cons (.own 0) (.cons (.own 1) .nil))), [(.arr 0 true), (.arr 3 true)], fun x y => F70 n x.1.1 x.1.2.1 x.2.1⟩
theorem F70_eq (n : Nat) (x : ShL.den G (.cons (.agg (.cons (.imm 0) (.cons (.imm 3) .nil))) (.cons (.int .i64) .nil))) (y : denO G []) : (F70e n).F x y = runFn prog G (ro G (tabOf (E19 n)) (frOf [F70_0z n, F70_1z n]) _) Go.Proofs.Try.f70 (.nd .no (.nd .no (.nd (.nd .no (.nd (.use 1) .no)) .no))) [] (ShL.enc G (.cons (.agg (.cons (.imm 0) (.cons (.imm 3) .nil))) (.cons (.int .i64) .nil)) x) (encO G [] y) (decR (.agg (.cons (.own 0) (.cons (.own 1) .nil))) [(.arr 0 true), (.arr 3 true)]) := by kernel_rfl
theorem F70_ok (n : Nat) : EntOK prog G (F70e n) :=
  ent_ok (fr := frOf [F70_0z n, F70_1z n]) (ann := (.nd .no (.nd .no (.nd (.nd .no (.nd (.use 1) .no)) .no)))) (frm := []) laws fnok (E19_ok n).tab (e := F70e n) (fn := Go.Proofs.Try.f70) (by kernel_rfl) (AllF.ofB (cd := F70c) (l := [(1, codeAt F70c [1, 1, 0, 1, 0])]) (by kernel_rfl) (by kernel_rfl) (AllF.cons (F70_1_ok n) AllF.nil)) (F70_eq n)
noncomputable def E20 (n : Nat) : List (Ent G) := F70e n :: E19 n
theorem E20_ok (n : Nat) : AllE prog G (E20 n) := AllE.cons (F70_ok n) (E19_ok n)
noncomputable def F76_0x0 : SSh := ⟨67, [(1, .str), (2, (.int .i64)), (6, (.ptr 0 0)), (7, (.ptr 1 0)), (8, (.int .i64))], [(.box 26 (.cons .nil0 (.cons .nil0 .nil))), (.box 26 (.cons (.own 2) (.cons (.own 3) .nil))), (.arr 0 true), (.arr 3 true)]⟩
noncomputable def F76_0s : SSh := ⟨67, [(1, .str), (2, (.int .i64)), (6, (.ptr 0 0)), (7, (.ptr 1 0)), (8, (.int .i64))], [(.box 26 (.cons .nil0 (.cons .nil0 .nil))), (.box 26 (.cons (.own 2) (.cons (.own 3) .nil))), (.arr 0 true), (.arr 3 true)]⟩
noncomputable def F76_0 {R : Type} (n : Nat) (x502 : ByteArray) (x503 : Int) (x504 : Int) (x505 : List Int) (x506 : List Ety) (k0 : ByteArray → Int → Int → List Int → List Ety → Option R) : Option R :=
  (bif (decide (((x506.length) : Int) ≥ (IntKind.wrap .i64 ((IntKind.wrap .i64 (((x505.length) : Int) * (2 : Int))).tdiv (3 : Int))))) then
  (andThen (F66 n x505 x506) fun r512 =>
  (andThen (F71 n (IntKind.wrap .i64 (r512.1 + (1 : Int)))) fun r522 =>
  (andThen (F70 n x505 x506 r522.1) fun r588 =>
  (andThen (F67 n r588.2.1 r588.2.2.1 x502) fun r589 =>
  (k0 x502 x503 r589.1 r588.2.1 r588.2.2.1)))))
  else (k0 x502 x503 x504 x505 x506))
noncomputable def F76_0z (n : Nat) : Sm G := inZ G 0 ⟨[1, 2, 6, 7, 8], []⟩ F76_0s fun R x K => F76_0 n x.1.1 x.1.2.1 x.1.2.2.2.2.1 x.2.2.2.1 x.2.2.2.2.1 (fun u0 u1 u2 u3 u4 => K .normal (SSh.enc G F76_0x0 ((u0, (u1, ((), ((), (u2, ()))))), (((), ((), ())), (((), ((), ())), (u3, (u4, ())))))))
theorem F76_0_eq (n : Nat) (R : Type) (x : SSh.den G F76_0s) (K : AE → St G → Option R) :
  F76_0 n x.1.1 x.1.2.1 x.1.2.2.2.2.1 x.2.2.2.1 x.2.2.2.2.1 (fun u0 u1 u2 u3 u4 => K .normal (SSh.enc G F76_0x0 ((u0, (u1, ((), ((), (u2, ()))))), (((), ((), ())), (((), ((), ())), (u3, (u4, ()))))))) = exec prog G (ro G (tabOf (E20 n)) (frOf []) R) 0 (codeAt F76c [1, 1, 1, 1, 0]) .no (SSh.enc G F76_0s x) (kNrm G (ro G (tabOf (E20 n)) (frOf []) R) 0 ⟨⟨[1, 2, 6, 7, 8], []⟩, ⟨[6], []⟩, []⟩ K) := by kernel_rfl
theorem F76_0_ok (n : Nat) : FragOK prog G 0 (codeAt F76c [1, 1, 1, 1, 0]) (F76_0z n) :=
  frag_plain laws fnok (E20_ok n).tab (AllF.of (l := []) (by kernel_rfl) AllF.nil) (F76_0_eq n)
noncomputable def F76 (n : Nat) (a489 : List Int) (a490 : List Ety) (a491 : ByteArray) (a492 : Int) : Option ((Unit × (Unit × Unit)) × (List Int × (List Ety × Unit))) :=
  (andThen (F75 n a489 a490) fun r493 =>
  (andThen (F67 n r493.2.1 r493.2.2.1 a491) fun r494 =>
  (bif (decide ((0 : Int) ≤ r494.1)) then
  (bif (decide (r494.1 < ((r493.2.1.length) : Int))) then
  (bif (decide ((r493.2.1.getD (r494.1.toNat) (0 : Int)) ≥ (0 : Int))) then
  (bif (decide ((0 : Int) ≤ r494.1)) then
  (bif (decide (r494.1 < ((r493.2.1.length) : Int))) then
  let v499 := (r493.2.1.getD (r494.1.toNat) (0 : Int))
  (bif (decide ((0 : Int) ≤ v499)) then
  (bif (decide (v499 < ((r493.2.2.1.length) : Int))) then
  let v500 := (v499.toNat)
  some (((), ((), ())), (r493.2.1, ((r493.2.2.1.set v500 (Ety.mk (r493.2.2.1.getD v500 (Ety.mk ({ data := #[] } : ByteArray) (0 : Int) (0 : Int) false)).key (r493.2.2.1.getD v500 (Ety.mk ({ data := #[] } : ByteArray) (0 : Int) (0 : Int) false)).hash a492 (r493.2.2.1.getD v500 (Ety.mk ({ data := #[] } : ByteArray) (0 : Int) (0 : Int) false)).live)), ())))
  else none)
  else none)
  else none)
  else none)
  else (F76_0 n a491 a492 r494.1 r493.2.1 r493.2.2.1 (fun z590 z591 z592 z593 z594 =>
  (bif (decide ((0 : Int) ≤ z592)) then
  (bif (decide (z592 < ((z593.length) : Int))) then
  (andThen (F81 n z590) fun r598 =>
  let v599 := ((Ety.mk z590 r598.1 z591 true) :: [])
  (bif (decide (((z594.length) + (v599.length)) ≤ (68719476736 : Nat))) then
  some (((), ((), ())), ((z593.set (z592.toNat) ((z594.length) : Int)), ((z594 ++ v599), ())))
  else none))
  else none)
  else none))))
  else none)
  else none)))
noncomputable def F76e (n : Nat) : Ent G := ⟨76, (.cons (.agg (.cons (.imm 0) (.cons (.imm 3) .nil))) (.cons .str (.cons (.int .i64) .nil))), [], (.agg (.cons (.own 0) (.cons (.own 1) .nil))), [(.arr 0 true), (.arr 3 true)], fun x y => F76 n x.1.1 x.1.2.1 x.2.1 x.2.2.1⟩
theorem F76_eq (n : Nat) (x : ShL.den G (.cons (.agg (.cons (.imm 0) (.cons (.imm 3) .nil))) (.cons .str (.cons (.int .i64) .nil)))) (y : denO G []) : (F76e n).F x y = runFn prog G (ro G (tabOf (E20 n)) (frOf [F76_0z n]) _) Go.Proofs.Try.f76 (.nd .no (.nd .no (.nd .no (.nd .no (.nd (.use 0) .no))))) [] (ShL.enc G (.cons (.agg (.cons (.imm 0) (.cons (.imm 3) .nil))) (.cons .str (.cons (.int .i64) .nil))) x) (encO G [] y) (decR (.agg (.cons (.own 0) (.cons (.own 1) .nil))) [(.arr 0 true), (.arr 3 true)]) := by kernel_rfl
theorem F76_ok (n : Nat) : EntOK prog G (F76e n) :=
  ent_ok (fr := frOf [F76_0z n]) (ann := (.nd .no (.nd .no (.nd .no (.nd .no (.nd (.use 0) .no)))))) (frm := []) laws fnok (E20_ok n).tab (e := F76e n) (fn := Go.Proofs.Try.f76) (by kernel_rfl) (AllF.ofB (cd := F76c) (l := [(0, codeAt F76c [1, 1, 1, 1, 0])]) (by kernel_rfl) (by kernel_rfl) (AllF.cons (F76_0_ok n) AllF.nil)) (F76_eq n)
noncomputable def E21 (n : Nat) : List (Ent G) := F76e n :: E20 n
theorem E21_ok (n : Nat) : AllE prog G (E21 n) := AllE.cons (F76_ok n) (E20_ok n)
noncomputable def F45 (n : Nat) (a472 : List Int) (a473 : List Ety) (a474 : ByteArray) (a475 : Int) : Option (((Unit × (Unit × Unit)) × (Bool × Unit)) × (List Int × (List Ety × Unit))) :=
  (andThen (F52 n a472 a473) fun r476 =>
  (bif (!r476.1) then
  some ((((), ((), ())), (false, ())), ([], ([], ())))
  else (andThen (F53 n a474) fun r478 =>
  (bif (!r478.1) then
  some ((((), ((), ())), (false, ())), ([], ([], ())))
  else (andThen (F74 n a475 (-1000000 : Int) (1000000 : Int)) fun r480 =>
  (bif (!r480.1) then
  some ((((), ((), ())), (false, ())), ([], ([], ())))
  else (andThen (F67 n a472 a473 a474) fun r482 =>
  (bif (decide ((0 : Int) ≤ r482.1)) then
  (bif (decide (r482.1 < ((a472.length) : Int))) then
  (bif (decide ((a472.getD (r482.1.toNat) (0 : Int)) < (0 : Int))) then
  (andThen (F66 n a472 a473) fun r486 =>
  (bif (decide (r486.1 ≥ (40 : Int))) then
  (andThen (F75 n a472 a473) fun r488 =>
  some ((((), ((), ())), (false, ())), (r488.2.1, (r488.2.2.1, ()))))
  else (andThen (F76 n a472 a473 a474 a475) fun r601 =>
  some ((((), ((), ())), (true, ())), (r601.2.1, (r601.2.2.1, ()))))))
  else (andThen (F76 n a472 a473 a474 a475) fun r602 =>
  some ((((), ((), ())), (true, ())), (r602.2.1, (r602.2.2.1, ())))))
  else none)
  else none))))))))
noncomputable def F45e (n : Nat) : Ent G := ⟨45, (.cons (.agg (.cons (.imm 0) (.cons (.imm 3) .nil))) (.cons .str (.cons (.int .i64) .nil))), [], (.tup (.cons (.agg (.cons (.own 0) (.cons (.own 1) .nil))) (.cons .bool .nil))), [(.arr 0 true), (.arr 3 true)], fun x y => F45 n x.1.1 x.1.2.1 x.2.1 x.2.2.1⟩
theorem F45_eq (n : Nat) (x : ShL.den G (.cons (.agg (.cons (.imm 0) (.cons (.imm 3) .nil))) (.cons .str (.cons (.int .i64) .nil)))) (y : denO G []) : (F45e n).F x y = runFn prog G (ro G (tabOf (E21 n)) (frOf []) _) Go.Proofs.Try.f45 .no [(0, (.fld 0 (.own 0))), (0, (.fld 1 (.own 3)))] (ShL.enc G (.cons (.agg (.cons (.imm 0) (.cons (.imm 3) .nil))) (.cons .str (.cons (.int .i64) .nil))) x) (encO G [] y) (decR (.tup (.cons (.agg (.cons (.own 0) (.cons (.own 1) .nil))) (.cons .bool .nil))) [(.arr 0 true), (.arr 3 true)]) := by kernel_rfl
theorem F45_ok (n : Nat) : EntOK prog G (F45e n) :=
  ent_ok (fr := frOf []) (ann := .no) (frm := [(0, (.fld 0 (.own 0))), (0, (.fld 1 (.own 3)))]) laws fnok (E21_ok n).tab (e := F45e n) (fn := Go.Proofs.Try.f45) (by kernel_rfl) (AllF.ofB (cd := F45c) (l := []) (by kernel_rfl) (by kernel_rfl) AllF.nil) (F45_eq n)
noncomputable def E22 (n : Nat) : List (Ent G) := F45e n :: E21 n
theorem E22_ok (n : Nat) : AllE prog G (E22 n) := AllE.cons (F45_ok n) (E21_ok n)
-- 49 (*loop.example/slowworm/spec.rnd).dict
noncomputable def F49c : Code := bodyOf Go.Proofs.Try.f49
noncomputable def F49_0x0 : SSh := ⟨83, [(0, (.ptr 0 0)), (2, (.ptr 1 0)), (3, (.ptr 2 0)), (4, (.imm 2)), (5, (.int .i64)), (6, .str)], [(.box 72 (.cons (.imm 1) (.cons (.int .i64) .nil))), (.box 26 (.cons .nil0 (.cons .nil0 .nil))), (.box 26 (.cons (.own 3) (.cons (.own 4) .nil))), (.arr 0 true), (.arr 3 true)]⟩
noncomputable def F49_0s : SSh := ⟨83, [(0, (.ptr 0 0)), (2, (.ptr 1 0)), (3, (.ptr 2 0)), (4, (.imm 2)), (5, (.int .i64)), (6, .str)], [(.box 72 (.cons (.imm 1) (.cons (.int .i64) .nil))), (.box 26 (.cons .nil0 (.cons .nil0 .nil))), (.box 26 (.cons (.own 3) (.cons (.own 4) .nil))), (.arr 0 true), (.arr 3 true)]⟩
noncomputable def F49_0 {R : Type} (n : Nat) (x639 : List ByteArray) (x640 : Int) (x641 : ByteArray) (x642 : List Int) (x643 : Int) (x644 : List Int) (x645 : List Ety) (k0 : List ByteArray → Int → ByteArray → List Int → Int → List Int → List Ety → Option R) : Option R :=
  (andThen (F65 n (3 : Int) x642 x643) fun r646 =>
  (bif (r646.1 == (0 : Int)) then
  (andThen (F65 n (30 : Int) r646.2.1.1 r646.2.1.2.1) fun r648 =>
  (andThen (F79 n r648.1) fun r649 =>
  (bif (decide (((x641.size) + (r649.1.size)) ≤ (68719476736 : Nat))) then
  (k0 x639 x640 (x641 ++ r649.1) r648.2.1.1 r648.2.1.2.1 x644 x645)
  else none)))
  else (k0 x639 x640 x641 r646.2.1.1 r646.2.1.2.1 x644 x645)))
noncomputable def F49_0z (n : Nat) : Sm G := inZ G 1 ⟨[0, 2, 3, 4, 5, 6], []⟩ F49_0s fun R x K => F49_0 n x.1.2.2.2.1 x.1.2.2.2.2.1 x.1.2.2.2.2.2.1 x.2.1.1 x.2.1.2.1 x.2.2.2.2.1 x.2.2.2.2.2.1 (fun u0 u1 u2 u3 u4 u5 u6 => K .normal (SSh.enc G F49_0x0 (((), ((), ((), (u0, (u1, (u2, ())))))), ((u3, (u4, ())), (((), ((), ())), (((), ((), ())), (u5, (u6, ()))))))))
theorem F49_0_eq (n : Nat) (R : Type) (x : SSh.den G F49_0s) (K : AE → St G → Option R) :
  F49_0 n x.1.2.2.2.1 x.1.2.2.2.2.1 x.1.2.2.2.2.2.1 x.2.1.1 x.2.1.2.1 x.2.2.2.2.1 x.2.2.2.2.2.1 (fun u0 u1 u2 u3 u4 u5 u6 => K .normal (SSh.enc G F49_0x0 (((), ((), ((), (u0, (u1, (u2, ())))))), ((u3, (u4, ())), (((), ((), ())), (((), ((), ())), (u5, (u6, ())))))))) = exec prog G (ro G (tabOf (E22 n)) (frOf []) R) 1 (codeAt F49c [1, 1, 1, 0, 1, 0, 0, 1, 0, 0, 1, 0]) .no (SSh.enc G F49_0s x) (kNrm G (ro G (tabOf (E22 n)) (frOf []) R) 1 ⟨⟨[0, 2, 3, 4, 5, 6], []⟩, ⟨[2], []⟩, [(1, ⟨[0, 2, 3, 4, 5], []⟩), (0, ⟨[0, 2, 3], []⟩)]⟩ K) := by kernel_rfl
theorem F49_0_ok (n : Nat) : FragOK prog G 1 (codeAt F49c [1, 1, 1, 0, 1, 0, 0, 1, 0, 0, 1, 0]) (F49_0z n) :=
  frag_plain laws fnok (E22_ok n).tab (AllF.of (l := []) (by kernel_rfl) AllF.nil) (F49_0_eq n)
noncomputable def F49_1x0 : SSh := ⟨83, [(0, (.ptr 0 0)), (2, (.ptr 1 0)), (3, (.ptr 2 0)), (4, (.imm 2)), (5, (.int .i64)), (7, (.ptr 3 0))], [(.box 72 (.cons (.imm 1) (.cons (.int .i64) .nil))), (.box 26 (.cons .nil0 (.cons .nil0 .nil))), (.box 26 (.cons (.own 4) (.cons (.own 5) .nil))), (.box 26 (.cons (.own 6) (.cons (.own 7) .nil))), (.arr 0 true), (.arr 3 true), (.arr 0 true), (.arr 3 true)]⟩
noncomputable def F49_1s : SSh := ⟨83, [(0, (.ptr 0 0)), (2, (.ptr 1 0)), (3, (.ptr 2 0)), (4, (.imm 2)), (5, (.int .i64)), (6, .str), (7, (.ptr 3 0))], [(.box 72 (.cons (.imm 1) (.cons (.int .i64) .nil))), (.box 26 (.cons .nil0 (.cons .nil0 .nil))), (.box 26 (.cons (.own 4) (.cons (.own 5) .nil))), (.box 26 (.cons (.own 4) (.cons (.own 5) .nil))), (.arr 0 true), (.arr 3 true)]⟩
noncomputable def F49_1 {R : Type} (n : Nat) (x658 : List ByteArray) (x659 : Int) (x660 : ByteArray) (x661 : List Int) (x662 : Int) (x663 : List Int) (x664 : List Ety) (k0 : List ByteArray → Int → List Int → Int → List Int → List Ety → List Int → List Ety → Option R) : Option R :=
  (andThen (F65 n (4 : Int) x661 x662) fun r665 =>
  (bif (r665.1 == (0 : Int)) then
  (andThen (F47 n x663 x664 x660) fun r667 =>
  (k0 x658 x659 r665.2.1.1 r665.2.1.2.1 x663 x664 r667.2.1 r667.2.2.1))
  else (andThen (F65 n (100 : Int) r665.2.1.1 r665.2.1.2.1) fun r668 =>
  (andThen (F45 n x663 x664 x660 (IntKind.wrap .i64 (r668.1 - (50 : Int)))) fun r670 =>
  (k0 x658 x659 r668.2.1.1 r668.2.1.2.1 x663 x664 r670.2.1 r670.2.2.1)))))
noncomputable def F49_1z (n : Nat) : Sm G := inZ G 1 ⟨[0, 2, 3, 4, 5, 6, 7], []⟩ F49_1s fun R x K => F49_1 n x.1.2.2.2.1 x.1.2.2.2.2.1 x.1.2.2.2.2.2.1 x.2.1.1 x.2.1.2.1 x.2.2.2.2.2.1 x.2.2.2.2.2.2.1 (fun u0 u1 u2 u3 u4 u5 u6 u7 => K .normal (SSh.enc G F49_1x0 (((), ((), ((), (u0, (u1, ((), ())))))), ((u2, (u3, ())), (((), ((), ())), (((), ((), ())), (((), ((), ())), (u4, (u5, (u6, (u7, ())))))))))))
theorem F49_1_eq (n : Nat) (R : Type) (x : SSh.den G F49_1s) (K : AE → St G → Option R) :
  F49_1 n x.1.2.2.2.1 x.1.2.2.2.2.1 x.1.2.2.2.2.2.1 x.2.1.1 x.2.1.2.1 x.2.2.2.2.2.1 x.2.2.2.2.2.2.1 (fun u0 u1 u2 u3 u4 u5 u6 u7 => K .normal (SSh.enc G F49_1x0 (((), ((), ((), (u0, (u1, ((), ())))))), ((u2, (u3, ())), (((), ((), ())), (((), ((), ())), (((), ((), ())), (u4, (u5, (u6, (u7, ()))))))))))) = exec prog G (ro G (tabOf (E22 n)) (frOf [F49_0z n]) R) 1 (codeAt F49c [1, 1, 1, 0, 1, 0, 0, 1, 0, 0, 1, 1, 1, 0]) .no (SSh.enc G F49_1s x) (kNrm G (ro G (tabOf (E22 n)) (frOf [F49_0z n]) R) 1 ⟨⟨[0, 2, 3, 4, 5, 7], []⟩, ⟨[2], []⟩, [(1, ⟨[0, 2, 3, 4, 5], []⟩), (0, ⟨[0, 2, 3], []⟩)]⟩ K) := by kernel_rfl
theorem F49_1_ok (n : Nat) : FragOK prog G 1 (codeAt F49c [1, 1, 1, 0, 1, 0, 0, 1, 0, 0, 1, 1, 1, 0]) (F49_1z n) :=
  frag_plain laws fnok (E22_ok n).tab (AllF.of (l := []) (by kernel_rfl) AllF.nil) (F49_1_eq n)
noncomputable def F49_2x0 : SSh := ⟨83, [(0, (.ptr 0 0)), (2, (.ptr 1 0)), (3, (.ptr 2 0)), (4, (.imm 2)), (5, (.int .i64))], [(.box 72 (.cons (.imm 1) (.cons (.int .i64) .nil))), (.box 26 (.cons .nil0 (.cons .nil0 .nil))), (.box 26 (.cons (.own 3) (.cons (.own 4) .nil))), (.arr 0 true), (.arr 3 true)]⟩
noncomputable def F49_2s : SSh := ⟨83, [(0, (.ptr 0 0)), (2, (.ptr 1 0)), (3, (.ptr 2 0)), (4, (.imm 2)), (5, (.int .i64))], [(.box 72 (.cons (.imm 1) (.cons (.int .i64) .nil))), (.box 26 (.cons .nil0 (.cons .nil0 .nil))), (.box 26 (.cons (.own 3) (.cons (.own 4) .nil))), (.arr 0 true), (.arr 3 true)]⟩
noncomputable def F49_2 {R : Type} (n : Nat) (x632 : List ByteArray) (x633 : Int) (x634 : List Int) (x635 : Int) (x636 : List Int) (x637 : List Ety) (k0 : List ByteArray → Int → List Int → Int → List Int → List Ety → Option R) : Option R :=
  (andThen (F78 n x632 x634 x635) fun r638 =>
  (F49_0 n x632 x633 r638.1 r638.2.1.1 r638.2.1.2.1 x636 x637 (fun z651 z652 z653 z654 z655 z656 z657 =>
  (F49_1 n z651 z652 z653 z654 z655 z656 z657 (fun z671 z672 z673 z674 z675 z676 z677 z678 =>
  (k0 z671 z672 z673 z674 z677 z678))))))
noncomputable def F49_2z (n : Nat) : Sm G := inZ G 1 ⟨[0, 2, 3, 4, 5], []⟩ F49_2s fun R x K => F49_2 n x.1.2.2.2.1 x.1.2.2.2.2.1 x.2.1.1 x.2.1.2.1 x.2.2.2.2.1 x.2.2.2.2.2.1 (fun u0 u1 u2 u3 u4 u5 => K .normal (SSh.enc G F49_2x0 (((), ((), ((), (u0, (u1, ()))))), ((u2, (u3, ())), (((), ((), ())), (((), ((), ())), (u4, (u5, ()))))))))
theorem F49_2_eq (n : Nat) (R : Type) (x : SSh.den G F49_2s) (K : AE → St G → Option R) :
  F49_2 n x.1.2.2.2.1 x.1.2.2.2.2.1 x.2.1.1 x.2.1.2.1 x.2.2.2.2.1 x.2.2.2.2.2.1 (fun u0 u1 u2 u3 u4 u5 => K .normal (SSh.enc G F49_2x0 (((), ((), ((), (u0, (u1, ()))))), ((u2, (u3, ())), (((), ((), ())), (((), ((), ())), (u4, (u5, ())))))))) = exec prog G (ro G (tabOf (E22 n)) (frOf [F49_0z n, F49_1z n]) R) 1 (codeAt F49c [1, 1, 1, 0, 1, 0, 0, 1, 0]) (.nd (.nd .no (.nd (.use 0) (.nd .no (.nd (.use 1) .no)))) .no) (SSh.enc G F49_2s x) (kNrm G (ro G (tabOf (E22 n)) (frOf [F49_0z n, F49_1z n]) R) 1 ⟨⟨[0, 2, 3, 4, 5], []⟩, ⟨[2], []⟩, [(0, ⟨[0, 2, 3], []⟩)]⟩ K) := by kernel_rfl
theorem F49_2_ok (n : Nat) : FragOK prog G 1 (codeAt F49c [1, 1, 1, 0, 1, 0, 0, 1, 0]) (F49_2z n) :=
  frag_plain laws fnok (E22_ok n).tab (AllF.of (l := [(0, codeAt F49c [1, 1, 1, 0, 1, 0, 0, 1, 0, 0, 1, 0]), (1, codeAt F49c [1, 1, 1, 0, 1, 0, 0, 1, 0, 0, 1, 1, 1, 0])]) (by kernel_rfl) (AllF.cons (F49_0_ok n) (AllF.cons (F49_1_ok n) AllF.nil))) (F49_2_eq n)
noncomputable def F49_3x0 : SSh := ⟨83, [(0, (.ptr 0 0)), (2, (.ptr 1 0)), (3, (.ptr 2 0))], [(.box 72 (.cons (.imm 1) (.cons (.int .i64) .nil))), (.box 26 (.cons .nil0 (.cons .nil0 .nil))), (.box 26 (.cons (.own 3) (.cons (.own 4) .nil))), (.arr 0 true), (.arr 3 true)]⟩
noncomputable def F49_3s : SSh := ⟨83, [(0, (.ptr 0 0)), (2, (.ptr 1 0)), (3, (.ptr 2 0)), (4, (.imm 2)), (5, (.int .i64))], [(.box 72 (.cons (.imm 1) (.cons (.int .i64) .nil))), (.box 26 (.cons .nil0 (.cons .nil0 .nil))), (.box 26 (.cons (.own 3) (.cons (.own 4) .nil))), (.arr 0 true), (.arr 3 true)]⟩
noncomputable def F49_3_step {R : Type} (n : Nat) (k0 : List Int → Int → List Int → List Ety → Option R) (rec : List ByteArray → Int → List Int → Int → List Int → List Ety → Option R) (x625 : List ByteArray) (x626 : Int) (x627 : List Int) (x628 : Int) (x629 : List Int) (x630 : List Ety) : Option R :=
  (bif (decide (x626 > (0 : Int))) then
  (F49_2 n x625 x626 x627 x628 x629 x630 (fun z679 z680 z681 z682 z683 z684 =>
  (rec z679 (IntKind.wrap .i64 (z680 - (1 : Int))) z681 z682 z683 z684)))
  else (k0 x627 x628 x629 x630))
noncomputable def F49_3_it {R : Type} (n : Nat) (k0 : List Int → Int → List Int → List Ety → Option R) : Nat → List ByteArray → Int → List Int → Int → List Int → List Ety → Option R
  | 0, _, _, _, _, _, _ => none
  | k + 1, x625, x626, x627, x628, x629, x630 => F49_3_step n k0 (F49_3_it n k0 k) x625 x626 x627 x628 x629 x630
noncomputable def F49_3 {R : Type} (n : Nat) (x625 : List ByteArray) (x626 : Int) (x627 : List Int) (x628 : Int) (x629 : List Int) (x630 : List Ety) (k0 : List Int → Int → List Int → List Ety → Option R) : Option R := F49_3_it n k0 n x625 x626 x627 x628 x629 x630
noncomputable def F49_3z (n : Nat) : Sm G := inZ G 1 ⟨[0, 2, 3, 4, 5], [(4, .fz)]⟩ F49_3s fun R x K => F49_3_it n (fun u0 u1 u2 u3 => K (.exit 0) (SSh.enc G F49_3x0 (((), ((), ((), ()))), ((u0, (u1, ())), (((), ((), ())), (((), ((), ())), (u2, (u3, ())))))))) n x.1.2.2.2.1 x.1.2.2.2.2.1 x.2.1.1 x.2.1.2.1 x.2.2.2.2.1 x.2.2.2.2.2.1
theorem F49_3_eq (n : Nat) (R : Type) (rec : SSh.den G F49_3s → Option R) (x : SSh.den G F49_3s) (K : AE → St G → Option R) :
  F49_3_step n (fun u0 u1 u2 u3 => K (.exit 0) (SSh.enc G F49_3x0 (((), ((), ((), ()))), ((u0, (u1, ())), (((), ((), ())), (((), ((), ())), (u2, (u3, ())))))))) (fun x625 x626 x627 x628 x629 x630 => rec (((), ((), ((), (x625, (x626, ()))))), ((x627, (x628, ())), (((), ((), ())), (((), ((), ())), (x629, (x630, ()))))))) x.1.2.2.2.1 x.1.2.2.2.2.1 x.2.1.1 x.2.1.2.1 x.2.2.2.2.1 x.2.2.2.2.2.1 = exec prog G (ro G (tabOf (E22 n)) (frOf [F49_0z n, F49_1z n, F49_2z n]) R) 1 (codeAt F49c [1, 1, 1, 0, 1, 0, 0]) (.nd .no (.nd (.use 2) .no)) (SSh.enc G F49_3s x) (kLoop G (ro G (tabOf (E22 n)) (frOf [F49_0z n, F49_1z n, F49_2z n]) R) 1 ⟨[0, 2, 3, 4, 5], [(4, .fz)]⟩ F49_3s ⟨⟨[0, 2, 3], []⟩, ⟨[2], []⟩, [(0, ⟨[0, 2, 3], []⟩)]⟩ rec K) := by kernel_rfl
theorem F49_3_ok (n : Nat) : FragOK prog G 1 (codeAt F49c [1, 1, 1, 0, 1, 0]) (F49_3z n) :=
  frag_loop (Z := fun R k (x : SSh.den G F49_3s) K => F49_3_it n (fun u0 u1 u2 u3 => K (.exit 0) (SSh.enc G F49_3x0 (((), ((), ((), ()))), ((u0, (u1, ())), (((), ((), ())), (((), ((), ())), (u2, (u3, ())))))))) k x.1.2.2.2.1 x.1.2.2.2.2.1 x.2.1.1 x.2.1.2.1 x.2.2.2.2.1 x.2.2.2.2.2.1) laws fnok (E22_ok n).tab (AllF.of (l := [(2, codeAt F49c [1, 1, 1, 0, 1, 0, 0, 1, 0])]) (by kernel_rfl) (AllF.cons (F49_2_ok n) AllF.nil)) (fun _ _ _ => rfl) (fun R k y K => F49_3_eq n R (fun (x : SSh.den G F49_3s) => F49_3_it n (fun u0 u1 u2 u3 => K (.exit 0) (SSh.enc G F49_3x0 (((), ((), ((), ()))), ((u0, (u1, ())), (((), ((), ())), (((), ((), ())), (u2, (u3, ())))))))) k x.1.2.2.2.1 x.1.2.2.2.2.1 x.2.1.1 x.2.1.2.1 x.2.2.2.2.1 x.2.2.2.2.2.1) y K) n
-- 80 (*loop.example/slowworm/spec.rnd).odd
noncomputable def F80c : Code := bodyOf Go.Proofs.Try.f80
noncomputable def F80 (n : Nat) (a700 : List Int) (a701 : Int) : Option (Int × ((List Int × (Int × Unit)) × Unit)) :=
  (andThen (F77 n ((-1 : Int) :: ((4611686018427387904 : Int) :: ((-4611686018427387904 : Int) :: ((1001 : Int) :: ((7 : Int) :: ((1000001 : Int) :: ((-9223372036854775808 : Int) :: ((9223372036854775807 : Int) :: [])))))))) a700 a701) fun r703 =>
  some (r703.1, ((r703.2.1.1, (r703.2.1.2.1, ())), ())))
noncomputable def F80e (n : Nat) : Ent G := ⟨80, (.cons (.ptr 0 0) .nil), [(.box 72 (.cons (.imm 1) (.cons (.int .i64) .nil)))], (.int .i64), [(.box 72 (.cons (.imm 1) (.cons (.int .i64) .nil)))], fun x y => F80 n y.1.1 y.1.2.1⟩
theorem F80_eq (n : Nat) (x : ShL.den G (.cons (.ptr 0 0) .nil)) (y : denO G [(.box 72 (.cons (.imm 1) (.cons (.int .i64) .nil)))]) : (F80e n).F x y = runFn prog G (ro G (tabOf (E22 n)) (frOf []) _) Go.Proofs.Try.f80 .no [(0, .fz)] (ShL.enc G (.cons (.ptr 0 0) .nil) x) (encO G [(.box 72 (.cons (.imm 1) (.cons (.int .i64) .nil)))] y) (decR (.int .i64) [(.box 72 (.cons (.imm 1) (.cons (.int .i64) .nil)))]) := by kernel_rfl
theorem F80_ok (n : Nat) : EntOK prog G (F80e n) :=
  ent_ok (fr := frOf []) (ann := .no) (frm := [(0, .fz)]) laws fnok (E22_ok n).tab (e := F80e n) (fn := Go.Proofs.Try.f80) (by kernel_rfl) (AllF.ofB (cd := F80c) (l := []) (by kernel_rfl) (by kernel_rfl) AllF.nil) (F80_eq n)
noncomputable def E23 (n : Nat) : List (Ent G) := F80e n :: E22 n
theorem E23_ok (n : Nat) : AllE prog G (E23 n) := AllE.cons (F80_ok n) (E22_ok n)
noncomputable def F49_4x0 : SSh := ⟨83, [(0, (.ptr 0 0)), (2, (.ptr 1 0)), (3, (.ptr 2 0))], [(.box 72 (.cons (.imm 1) (.cons (.int .i64) .nil))), (.box 26 (.cons .nil0 (.cons .nil0 .nil))), (.box 26 (.cons (.own 3) (.cons (.own 4) .nil))), (.arr 0 true), (.arr 3 true)]⟩
noncomputable def F49_4s : SSh := ⟨83, [(0, (.ptr 0 0)), (2, (.ptr 1 0)), (3, (.ptr 2 0))], [(.box 72 (.cons (.imm 1) (.cons (.int .i64) .nil))), (.box 26 (.cons .nil0 (.cons .nil0 .nil))), (.box 26 (.cons (.own 3) (.cons (.own 4) .nil))), (.arr 0 true), (.arr 3 true)]⟩
noncomputable def F49_4 {R : Type} (n : Nat) (x690 : List Int) (x691 : Int) (x692 : List Int) (x693 : List Ety) (k0 : List Int → Int → List Int → List Ety → Option R) : Option R :=
  (andThen (F65 n (12 : Int) x690 x691) fun r694 =>
  (bif (r694.1 == (0 : Int)) then
  (bif (decide (((x693.length) : Int) > (0 : Int))) then
  (andThen (F65 n ((x693.length) : Int) r694.2.1.1 r694.2.1.2.1) fun r699 =>
  (andThen (F80 n r699.2.1.1 r699.2.1.2.1) fun r704 =>
  (bif (decide ((0 : Int) ≤ r699.1)) then
  (bif (decide (r699.1 < ((x693.length) : Int))) then
  let v705 := (r699.1.toNat)
  (k0 r704.2.1.1 r704.2.1.2.1 x692 (x693.set v705 (Ety.mk (x693.getD v705 (Ety.mk ({ data := #[] } : ByteArray) (0 : Int) (0 : Int) false)).key r704.1 (x693.getD v705 (Ety.mk ({ data := #[] } : ByteArray) (0 : Int) (0 : Int) false)).val (x693.getD v705 (Ety.mk ({ data := #[] } : ByteArray) (0 : Int) (0 : Int) false)).live)))
  else none)
  else none)))
  else (k0 r694.2.1.1 r694.2.1.2.1 x692 x693))
  else (k0 r694.2.1.1 r694.2.1.2.1 x692 x693)))
noncomputable def F49_4z (n : Nat) : Sm G := inZ G 1 ⟨[0, 2, 3], []⟩ F49_4s fun R x K => F49_4 n x.2.1.1 x.2.1.2.1 x.2.2.2.2.1 x.2.2.2.2.2.1 (fun u0 u1 u2 u3 => K .normal (SSh.enc G F49_4x0 (((), ((), ((), ()))), ((u0, (u1, ())), (((), ((), ())), (((), ((), ())), (u2, (u3, ()))))))))
theorem F49_4_eq (n : Nat) (R : Type) (x : SSh.den G F49_4s) (K : AE → St G → Option R) :
  F49_4 n x.2.1.1 x.2.1.2.1 x.2.2.2.2.1 x.2.2.2.2.2.1 (fun u0 u1 u2 u3 => K .normal (SSh.enc G F49_4x0 (((), ((), ((), ()))), ((u0, (u1, ())), (((), ((), ())), (((), ((), ())), (u2, (u3, ())))))))) = exec prog G (ro G (tabOf (E23 n)) (frOf [F49_0z n, F49_1z n, F49_2z n, F49_3z n]) R) 1 (codeAt F49c [1, 1, 1, 1, 0]) .no (SSh.enc G F49_4s x) (kNrm G (ro G (tabOf (E23 n)) (frOf [F49_0z n, F49_1z n, F49_2z n, F49_3z n]) R) 1 ⟨⟨[0, 2, 3], []⟩, ⟨[2], []⟩, []⟩ K) := by kernel_rfl
theorem F49_4_ok (n : Nat) : FragOK prog G 1 (codeAt F49c [1, 1, 1, 1, 0]) (F49_4z n) :=
  frag_plain laws fnok (E23_ok n).tab (AllF.of (l := []) (by kernel_rfl) AllF.nil) (F49_4_eq n)
noncomputable def F49_5x0 : SSh := ⟨83, [(2, (.ptr 1 0)), (3, (.ptr 2 0))], [(.box 72 (.cons (.imm 1) (.cons (.int .i64) .nil))), (.box 26 (.cons .nil0 (.cons .nil0 .nil))), (.box 26 (.cons (.own 3) (.cons (.own 4) .nil))), (.arr 0 true), (.arr 3 true)]⟩
noncomputable def F49_5s : SSh := ⟨83, [(0, (.ptr 0 0)), (2, (.ptr 1 0)), (3, (.ptr 2 0))], [(.box 72 (.cons (.imm 1) (.cons (.int .i64) .nil))), (.box 26 (.cons .nil0 (.cons .nil0 .nil))), (.box 26 (.cons (.own 3) (.cons (.own 4) .nil))), (.arr 0 true), (.arr 3 true)]⟩
noncomputable def F49_5 {R : Type} (n : Nat) (x711 : List Int) (x712 : Int) (x713 : List Int) (x714 : List Ety) (k0 : List Int → Int → List Int → List Ety → Option R) : Option R :=
  (andThen (F65 n (12 : Int) x711 x712) fun r715 =>
  (bif (r715.1 == (0 : Int)) then
  (andThen (F65 n ((x713.length) : Int) r715.2.1.1 r715.2.1.2.1) fun r718 =>
  (andThen (F77 n ((-1 : Int) :: ((-2 : Int) :: ((0 : Int) :: ((1 : Int) :: ((99 : Int) :: ((-3 : Int) :: [])))))) r718.2.1.1 r718.2.1.2.1) fun r720 =>
  (bif (decide ((0 : Int) ≤ r718.1)) then
  (bif (decide (r718.1 < ((x713.length) : Int))) then
  (k0 r720.2.1.1 r720.2.1.2.1 (x713.set (r718.1.toNat) r720.1) x714)
  else none)
  else none)))
  else (k0 r715.2.1.1 r715.2.1.2.1 x713 x714)))
noncomputable def F49_5z (n : Nat) : Sm G := inZ G 1 ⟨[0, 2, 3], []⟩ F49_5s fun R x K => F49_5 n x.2.1.1 x.2.1.2.1 x.2.2.2.2.1 x.2.2.2.2.2.1 (fun u0 u1 u2 u3 => K .normal (SSh.enc G F49_5x0 (((), ((), ())), ((u0, (u1, ())), (((), ((), ())), (((), ((), ())), (u2, (u3, ()))))))))
theorem F49_5_eq (n : Nat) (R : Type) (x : SSh.den G F49_5s) (K : AE → St G → Option R) :
  F49_5 n x.2.1.1 x.2.1.2.1 x.2.2.2.2.1 x.2.2.2.2.2.1 (fun u0 u1 u2 u3 => K .normal (SSh.enc G F49_5x0 (((), ((), ())), ((u0, (u1, ())), (((), ((), ())), (((), ((), ())), (u2, (u3, ())))))))) = exec prog G (ro G (tabOf (E23 n)) (frOf [F49_0z n, F49_1z n, F49_2z n, F49_3z n, F49_4z n]) R) 1 (codeAt F49c [1, 1, 1, 1, 1, 0]) .no (SSh.enc G F49_5s x) (kNrm G (ro G (tabOf (E23 n)) (frOf [F49_0z n, F49_1z n, F49_2z n, F49_3z n, F49_4z n]) R) 1 ⟨⟨[2, 3], []⟩, ⟨[2], []⟩, []⟩ K) := by kernel_rfl
theorem F49_5_ok (n : Nat) : FragOK prog G 1 (codeAt F49c [1, 1, 1, 1, 1, 0]) (F49_5z n) :=
  frag_plain laws fnok (E23_ok n).tab (AllF.of (l := []) (by kernel_rfl) AllF.nil) (F49_5_eq n)
noncomputable def F49 (n : Nat) (a619 : List Int) (a620 : Int) : Option ((List Int × (List Ety × Unit)) × ((List Int × (Int × Unit)) × Unit)) :=
  (andThen (F31 n) fun r621 =>
  (andThen (F77 n ((0 : Int) :: ((3 : Int) :: ((8 : Int) :: ((20 : Int) :: ((45 : Int) :: []))))) a619 a620) fun r624 =>
  (F49_3 n (({ data := #[97] } : ByteArray) :: (({ data := #[98] } : ByteArray) :: (({ data := #[99] } : ByteArray) :: (({ data := #[97, 97] } : ByteArray) :: (({ data := #[97, 98] } : ByteArray) :: (({ data := #[107, 101, 121] } : ByteArray) :: (({ data := #[] } : ByteArray) :: (({ data := #[122] } : ByteArray) :: (({ data := #[113, 49] } : ByteArray) :: (({ data := #[113, 50] } : ByteArray) :: (({ data := #[113, 51] } : ByteArray) :: (({ data := #[113, 52] } : ByteArray) :: [])))))))))))) r624.1 r624.2.1.1 r624.2.1.2.1 r621.2.1 r621.2.2.1 (fun z686 z687 z688 z689 =>
  (F49_4 n z686 z687 z688 z689 (fun z707 z708 z709 z710 =>
  (F49_5 n z707 z708 z709 z710 (fun z723 z724 z725 z726 =>
  some ((z725, (z726, ())), ((z723, (z724, ())), ()))))))))))
noncomputable def F49e (n : Nat) : Ent G := ⟨49, (.cons (.ptr 0 0) .nil), [(.box 72 (.cons (.imm 1) (.cons (.int .i64) .nil)))], (.agg (.cons (.imm 0) (.cons (.imm 3) .nil))), [(.box 72 (.cons (.imm 1) (.cons (.int .i64) .nil)))], fun x y => F49 n y.1.1 y.1.2.1⟩
theorem F49_eq (n : Nat) (x : ShL.den G (.cons (.ptr 0 0) .nil)) (y : denO G [(.box 72 (.cons (.imm 1) (.cons (.int .i64) .nil)))]) : (F49e n).F x y = runFn prog G (ro G (tabOf (E23 n)) (frOf [F49_0z n, F49_1z n, F49_2z n, F49_3z n, F49_4z n, F49_5z n]) _) Go.Proofs.Try.f49 (.nd .no (.nd .no (.nd .no (.nd (.nd .no (.nd (.use 3) .no)) (.nd (.use 4) (.nd (.use 5) .no)))))) [(0, .fz)] (ShL.enc G (.cons (.ptr 0 0) .nil) x) (encO G [(.box 72 (.cons (.imm 1) (.cons (.int .i64) .nil)))] y) (decR (.agg (.cons (.imm 0) (.cons (.imm 3) .nil))) [(.box 72 (.cons (.imm 1) (.cons (.int .i64) .nil)))]) := by kernel_rfl
theorem F49_ok (n : Nat) : EntOK prog G (F49e n) :=
  ent_ok (fr := frOf [F49_0z n, F49_1z n, F49_2z n, F49_3z n, F49_4z n, F49_5z n]) (ann := (.nd .no (.nd .no (.nd .no (.nd (.nd .no (.nd (.use 3) .no)) (.nd (.use 4) (.nd (.use 5) .no))))))) (frm := [(0, .fz)]) laws fnok (E23_ok n).tab (e := F49e n) (fn := Go.Proofs.Try.f49) (by kernel_rfl) (AllF.ofB (cd := F49c) (l := [(3, codeAt F49c [1, 1, 1, 0, 1, 0]), (4, codeAt F49c [1, 1, 1, 1, 0]), (5, codeAt F49c [1, 1, 1, 1, 1, 0])]) (by kernel_rfl) (by kernel_rfl) (AllF.cons (F49_3_ok n) (AllF.cons (F49_4_ok n) (AllF.cons (F49_5_ok n) AllF.nil)))) (F49_eq n)
noncomputable def E24 (n : Nat) : List (Ent G) := F49e n :: E23 n
theorem E24_ok (n : Nat) : AllE prog G (E24 n) := AllE.cons (F49_ok n) (E23_ok n)
-- 50 (*loop.example/slowworm/spec.rnd).key
noncomputable def F50c : Code := bodyOf Go.Proofs.Try.f50
noncomputable def F50 (n : Nat) (a728 : List Int) (a729 : Int) : Option (ByteArray × ((List Int × (Int × Unit)) × Unit)) :=
  (andThen (F65 n (30 : Int) a728 a729) fun r730 =>
  (andThen (F79 n r730.1) fun r731 =>
  (bif (decide (((2 : Nat) + (r731.1.size)) ≤ (68719476736 : Nat))) then
  (andThen (F65 n (30 : Int) r730.2.1.1 r730.2.1.2.1) fun r733 =>
  (andThen (F79 n r733.1) fun r734 =>
  (bif (decide (((1 : Nat) + (r734.1.size)) ≤ (68719476736 : Nat))) then
  (andThen (F78 n (({ data := #[97] } : ByteArray) :: (({ data := #[98] } : ByteArray) :: (({ data := #[99] } : ByteArray) :: (({ data := #[97, 97] } : ByteArray) :: (({ data := #[97, 98] } : ByteArray) :: (({ data := #[107, 101, 121] } : ByteArray) :: (({ data := #[] } : ByteArray) :: (({ data := #[122] } : ByteArray) :: (({ data := #[113, 49] } : ByteArray) :: ((({ data := #[113, 50] } : ByteArray) ++ r731.1) :: ((({ data := #[97] } : ByteArray) ++ r734.1) :: (({ data := #[97, 97, 97, 97, 97, 97, 97, 97, 97, 97, 97, 97, 97, 97, 97, 97, 97, 97, 97, 97, 97] } : ByteArray) :: [])))))))))))) r733.2.1.1 r733.2.1.2.1) fun r737 =>
  some (r737.1, ((r737.2.1.1, (r737.2.1.2.1, ())), ())))
  else none)))
  else none)))
noncomputable def F50e (n : Nat) : Ent G := ⟨50, (.cons (.ptr 0 0) .nil), [(.box 72 (.cons (.imm 1) (.cons (.int .i64) .nil)))], .str, [(.box 72 (.cons (.imm 1) (.cons (.int .i64) .nil)))], fun x y => F50 n y.1.1 y.1.2.1⟩
theorem F50_eq (n : Nat) (x : ShL.den G (.cons (.ptr 0 0) .nil)) (y : denO G [(.box 72 (.cons (.imm 1) (.cons (.int .i64) .nil)))]) : (F50e n).F x y = runFn prog G (ro G (tabOf (E24 n)) (frOf []) _) Go.Proofs.Try.f50 .no [(0, .fz)] (ShL.enc G (.cons (.ptr 0 0) .nil) x) (encO G [(.box 72 (.cons (.imm 1) (.cons (.int .i64) .nil)))] y) (decR .str [(.box 72 (.cons (.imm 1) (.cons (.int .i64) .nil)))]) := by kernel_rfl
theorem F50_ok (n : Nat) : EntOK prog G (F50e n) :=
  ent_ok (fr := frOf []) (ann := .no) (frm := [(0, .fz)]) laws fnok (E24_ok n).tab (e := F50e n) (fn := Go.Proofs.Try.f50) (by kernel_rfl) (AllF.ofB (cd := F50c) (l := []) (by kernel_rfl) (by kernel_rfl) AllF.nil) (F50_eq n)
noncomputable def E25 (n : Nat) : List (Ent G) := F50e n :: E24 n
theorem E25_ok (n : Nat) : AllE prog G (E25 n) := AllE.cons (F50_ok n) (E24_ok n)
noncomputable def F28 (n : Nat) (a3 : List Int) : Option (((List Int × (List Ety × Unit)) × (ByteArray × Unit)) × Unit) :=
  (andThen (F48 n a3) fun r8 =>
  (andThen (F49 n r8.2.1.1 r8.2.1.2.1) fun r727 =>
  (andThen (F50 n r727.2.1.1 r727.2.1.2.1) fun r738 =>
  some (((r727.1.1, (r727.1.2.1, ())), (r738.1, ())), ()))))
noncomputable def F28e (n : Nat) : Ent G := ⟨28, (.cons (.imm 1) .nil), [], (.tup (.cons (.agg (.cons (.imm 0) (.cons (.imm 3) .nil))) (.cons .str .nil))), [], fun x y => F28 n x.1⟩
theorem F28_eq (n : Nat) (x : ShL.den G (.cons (.imm 1) .nil)) (y : denO G []) : (F28e n).F x y = runFn prog G (ro G (tabOf (E25 n)) (frOf []) _) Go.Proofs.Try.f28 .no [(0, .fz), (1, .fz)] (ShL.enc G (.cons (.imm 1) .nil) x) (encO G [] y) (decR (.tup (.cons (.agg (.cons (.imm 0) (.cons (.imm 3) .nil))) (.cons .str .nil))) []) := by kernel_rfl
theorem F28_ok (n : Nat) : EntOK prog G (F28e n) :=
  ent_ok (fr := frOf []) (ann := .no) (frm := [(0, .fz), (1, .fz)]) laws fnok (E25_ok n).tab (e := F28e n) (fn := Go.Proofs.Try.f28) (by kernel_rfl) (AllF.ofB (cd := F28c) (l := []) (by kernel_rfl) (by kernel_rfl) AllF.nil) (F28_eq n)
noncomputable def E26 (n : Nat) : List (Ent G) := F28e n :: E25 n
theorem E26_ok (n : Nat) : AllE prog G (E26 n) := AllE.cons (F28_ok n) (E25_ok n)
-- 20 loop.example/slowworm/impl.DictGet
noncomputable def F20c : Code := bodyOf Go.Proofs.Try.f20
-- 29 loop.example/slowworm/impl.DictOk
noncomputable def F29c : Code := bodyOf Go.Proofs.Try.f29
-- 60 slices.Contains[[]int,int]
noncomputable def F60c : Code := bodyOf Go.Proofs.Try.f60
-- 83 slices.Index[[]int,int]
noncomputable def F83c : Code := bodyOf Go.Proofs.Try.f83
noncomputable def F83_0x0 : SSh := ⟨19, [(4, (.int .i64))], []⟩
noncomputable def F83_0x1 : SSh := ⟨19, [], []⟩
noncomputable def F83_0s : SSh := ⟨19, [(0, (.imm 0)), (1, (.int .i64)), (7, (.int .i64)), (8, (.int .i64))], []⟩
noncomputable def F83_0_step {R : Type} (n : Nat) (k0 : Int → Option R) (k1 : Option R) (rec : List Int → Int → Int → Int → Option R) (x752 : List Int) (x753 : Int) (x754 : Int) (x755 : Int) : Option R :=
  (bif (decide (x755 < x754)) then
  (bif (decide ((0 : Int) ≤ x755)) then
  (bif (decide (x755 < ((x752.length) : Int))) then
  (bif (x753 == (x752.getD (x755.toNat) (0 : Int))) then
  (k0 x755)
  else (rec x752 x753 x754 (IntKind.wrap .i64 (x755 + (1 : Int)))))
  else none)
  else none)
  else k1)
noncomputable def F83_0_it {R : Type} (n : Nat) (k0 : Int → Option R) (k1 : Option R) : Nat → List Int → Int → Int → Int → Option R
  | 0, _, _, _, _ => none
  | k + 1, x752, x753, x754, x755 => F83_0_step n k0 k1 (F83_0_it n k0 k1 k) x752 x753 x754 x755
noncomputable def F83_0 {R : Type} (n : Nat) (x752 : List Int) (x753 : Int) (x754 : Int) (x755 : Int) (k0 : Int → Option R) (k1 : Option R) : Option R := F83_0_it n k0 k1 n x752 x753 x754 x755
noncomputable def F83_0z (n : Nat) : Sm G := inZ G 0 ⟨[0, 1, 7, 8], []⟩ F83_0s fun R x K => F83_0_it n (fun u0 => K .ret (SSh.enc G F83_0x0 ((u0, ()), ()))) (K (.exit 0) (SSh.enc G F83_0x1 ((), ()))) n x.1.1 x.1.2.1 x.1.2.2.1 x.1.2.2.2.1
theorem F83_0_eq (n : Nat) (R : Type) (rec : SSh.den G F83_0s → Option R) (x : SSh.den G F83_0s) (K : AE → St G → Option R) :
  F83_0_step n (fun u0 => K .ret (SSh.enc G F83_0x0 ((u0, ()), ()))) (K (.exit 0) (SSh.enc G F83_0x1 ((), ()))) (fun x752 x753 x754 x755 => rec ((x752, (x753, (x754, (x755, ())))), ())) x.1.1 x.1.2.1 x.1.2.2.1 x.1.2.2.2.1 = exec prog G (ro G (tabOf (E26 n)) (frOf []) R) 0 (codeAt F83c [1, 0, 1, 0, 0]) .no (SSh.enc G F83_0s x) (kLoop G (ro G (tabOf (E26 n)) (frOf []) R) 0 ⟨[0, 1, 7, 8], []⟩ F83_0s ⟨⟨[], []⟩, ⟨[4], []⟩, [(0, ⟨[], []⟩)]⟩ rec K) := by kernel_rfl
theorem F83_0_ok (n : Nat) : FragOK prog G 0 (codeAt F83c [1, 0, 1, 0]) (F83_0z n) :=
  frag_loop (Z := fun R k (x : SSh.den G F83_0s) K => F83_0_it n (fun u0 => K .ret (SSh.enc G F83_0x0 ((u0, ()), ()))) (K (.exit 0) (SSh.enc G F83_0x1 ((), ()))) k x.1.1 x.1.2.1 x.1.2.2.1 x.1.2.2.2.1) laws fnok (E26_ok n).tab (AllF.of (l := []) (by kernel_rfl) AllF.nil) (fun _ _ _ => rfl) (fun R k y K => F83_0_eq n R (fun (x : SSh.den G F83_0s) => F83_0_it n (fun u0 => K .ret (SSh.enc G F83_0x0 ((u0, ()), ()))) (K (.exit 0) (SSh.enc G F83_0x1 ((), ()))) k x.1.1 x.1.2.1 x.1.2.2.1 x.1.2.2.2.1) y K) n
noncomputable def F83 (n : Nat) (a749 : List Int) (a750 : Int) : Option (Int × Unit) :=
  (F83_0 n a749 a750 ((a749.length) : Int) (0 : Int) (fun z761 =>
  some (z761, ())) (
  some ((-1 : Int), ())))
noncomputable def F83e (n : Nat) : Ent G := ⟨83, (.cons (.imm 0) (.cons (.int .i64) .nil)), [], (.int .i64), [], fun x y => F83 n x.1 x.2.1⟩
theorem F83_eq (n : Nat) (x : ShL.den G (.cons (.imm 0) (.cons (.int .i64) .nil))) (y : denO G []) : (F83e n).F x y = runFn prog G (ro G (tabOf (E26 n)) (frOf [F83_0z n]) _) Go.Proofs.Try.f83 (.nd .no (.nd (.nd .no (.nd (.use 0) .no)) .no)) [(0, .fz)] (ShL.enc G (.cons (.imm 0) (.cons (.int .i64) .nil)) x) (encO G [] y) (decR (.int .i64) []) := by kernel_rfl
theorem F83_ok (n : Nat) : EntOK prog G (F83e n) :=
  ent_ok (fr := frOf [F83_0z n]) (ann := (.nd .no (.nd (.nd .no (.nd (.use 0) .no)) .no))) (frm := [(0, .fz)]) laws fnok (E26_ok n).tab (e := F83e n) (fn := Go.Proofs.Try.f83) (by kernel_rfl) (AllF.ofB (cd := F83c) (l := [(0, codeAt F83c [1, 0, 1, 0])]) (by kernel_rfl) (by kernel_rfl) (AllF.cons (F83_0_ok n) AllF.nil)) (F83_eq n)
noncomputable def E27 (n : Nat) : List (Ent G) := F83e n :: E26 n
theorem E27_ok (n : Nat) : AllE prog G (E27 n) := AllE.cons (F83_ok n) (E26_ok n)
noncomputable def F60 (n : Nat) (a747 : List Int) (a748 : Int) : Option (Bool × Unit) :=
  (andThen (F83 n a747 a748) fun r762 =>
  some ((decide (r762.1 ≥ (0 : Int))), ()))
noncomputable def F60e (n : Nat) : Ent G := ⟨60, (.cons (.imm 0) (.cons (.int .i64) .nil)), [], .bool, [], fun x y => F60 n x.1 x.2.1⟩
theorem F60_eq (n : Nat) (x : ShL.den G (.cons (.imm 0) (.cons (.int .i64) .nil))) (y : denO G []) : (F60e n).F x y = runFn prog G (ro G (tabOf (E27 n)) (frOf []) _) Go.Proofs.Try.f60 .no [(0, .fz)] (ShL.enc G (.cons (.imm 0) (.cons (.int .i64) .nil)) x) (encO G [] y) (decR .bool []) := by kernel_rfl
theorem F60_ok (n : Nat) : EntOK prog G (F60e n) :=
  ent_ok (fr := frOf []) (ann := .no) (frm := [(0, .fz)]) laws fnok (E27_ok n).tab (e := F60e n) (fn := Go.Proofs.Try.f60) (by kernel_rfl) (AllF.ofB (cd := F60c) (l := []) (by kernel_rfl) (by kernel_rfl) AllF.nil) (F60_eq n)
noncomputable def E28 (n : Nat) : List (Ent G) := F60e n :: E27 n
theorem E28_ok (n : Nat) : AllE prog G (E28 n) := AllE.cons (F60_ok n) (E27_ok n)
-- 61 (loop.example/slowworm/impl.Dict).live
noncomputable def F61c : Code := bodyOf Go.Proofs.Try.f61
noncomputable def F61_0x0 : SSh := ⟨19, [(3, (.int .i64)), (7, (.imm 3)), (8, (.int .i64)), (9, (.int .i64))], []⟩
noncomputable def F61_0s : SSh := ⟨19, [(3, (.int .i64)), (7, (.imm 3)), (8, (.int .i64)), (9, (.int .i64))], []⟩
noncomputable def F61_0 {R : Type} (n : Nat) (x779 : Int) (x780 : List Ety) (x781 : Int) (x782 : Int) (k0 : Int → List Ety → Int → Int → Option R) : Option R :=
  (bif (decide ((0 : Int) ≤ x782)) then
  (bif (decide (x782 < ((x780.length) : Int))) then
  (bif (x780.getD (x782.toNat) (Ety.mk ({ data := #[] } : ByteArray) (0 : Int) (0 : Int) false)).live then
  (k0 (IntKind.wrap .i64 (x779 + (1 : Int))) x780 x781 x782)
  else (k0 x779 x780 x781 x782))
  else none)
  else none)
noncomputable def F61_0z (n : Nat) : Sm G := inZ G 0 ⟨[3, 7, 8, 9], []⟩ F61_0s fun R x K => F61_0 n x.1.1 x.1.2.1 x.1.2.2.1 x.1.2.2.2.1 (fun u0 u1 u2 u3 => K .normal (SSh.enc G F61_0x0 ((u0, (u1, (u2, (u3, ())))), ())))
theorem F61_0_eq (n : Nat) (R : Type) (x : SSh.den G F61_0s) (K : AE → St G → Option R) :
  F61_0 n x.1.1 x.1.2.1 x.1.2.2.1 x.1.2.2.2.1 (fun u0 u1 u2 u3 => K .normal (SSh.enc G F61_0x0 ((u0, (u1, (u2, (u3, ())))), ()))) = exec prog G (ro G (tabOf (E28 n)) (frOf []) R) 0 (codeAt F61c [1, 1, 0, 1, 0, 0, 1, 1, 0]) .no (SSh.enc G F61_0s x) (kNrm G (ro G (tabOf (E28 n)) (frOf []) R) 0 ⟨⟨[3, 7, 8, 9], []⟩, ⟨[2], []⟩, [(0, ⟨[3], []⟩)]⟩ K) := by kernel_rfl
theorem F61_0_ok (n : Nat) : FragOK prog G 0 (codeAt F61c [1, 1, 0, 1, 0, 0, 1, 1, 0]) (F61_0z n) :=
  frag_plain laws fnok (E28_ok n).tab (AllF.of (l := []) (by kernel_rfl) AllF.nil) (F61_0_eq n)
noncomputable def F61_1x0 : SSh := ⟨19, [(3, (.int .i64))], []⟩
noncomputable def F61_1s : SSh := ⟨19, [(3, (.int .i64)), (7, (.imm 3)), (8, (.int .i64)), (9, (.int .i64))], []⟩
noncomputable def F61_1_step {R : Type} (n : Nat) (k0 : Int → Option R) (rec : Int → List Ety → Int → Int → Option R) (x774 : Int) (x775 : List Ety) (x776 : Int) (x777 : Int) : Option R :=
  (bif (decide (x777 < x776)) then
  (F61_0 n x774 x775 x776 x777 (fun z789 z790 z791 z792 =>
  (rec z789 z790 z791 (IntKind.wrap .i64 (z792 + (1 : Int))))))
  else (k0 x774))
noncomputable def F61_1_it {R : Type} (n : Nat) (k0 : Int → Option R) : Nat → Int → List Ety → Int → Int → Option R
  | 0, _, _, _, _ => none
  | k + 1, x774, x775, x776, x777 => F61_1_step n k0 (F61_1_it n k0 k) x774 x775 x776 x777
noncomputable def F61_1 {R : Type} (n : Nat) (x774 : Int) (x775 : List Ety) (x776 : Int) (x777 : Int) (k0 : Int → Option R) : Option R := F61_1_it n k0 n x774 x775 x776 x777
noncomputable def F61_1z (n : Nat) : Sm G := inZ G 0 ⟨[3, 7, 8, 9], []⟩ F61_1s fun R x K => F61_1_it n (fun u0 => K (.exit 0) (SSh.enc G F61_1x0 ((u0, ()), ()))) n x.1.1 x.1.2.1 x.1.2.2.1 x.1.2.2.2.1
theorem F61_1_eq (n : Nat) (R : Type) (rec : SSh.den G F61_1s → Option R) (x : SSh.den G F61_1s) (K : AE → St G → Option R) :
  F61_1_step n (fun u0 => K (.exit 0) (SSh.enc G F61_1x0 ((u0, ()), ()))) (fun x774 x775 x776 x777 => rec ((x774, (x775, (x776, (x777, ())))), ())) x.1.1 x.1.2.1 x.1.2.2.1 x.1.2.2.2.1 = exec prog G (ro G (tabOf (E28 n)) (frOf [F61_0z n]) R) 0 (codeAt F61c [1, 1, 0, 1, 0, 0]) (.nd .no (.nd .no (.nd (.use 0) .no))) (SSh.enc G F61_1s x) (kLoop G (ro G (tabOf (E28 n)) (frOf [F61_0z n]) R) 0 ⟨[3, 7, 8, 9], []⟩ F61_1s ⟨⟨[3], []⟩, ⟨[2], []⟩, [(0, ⟨[3], []⟩)]⟩ rec K) := by kernel_rfl
theorem F61_1_ok (n : Nat) : FragOK prog G 0 (codeAt F61c [1, 1, 0, 1, 0]) (F61_1z n) :=
  frag_loop (Z := fun R k (x : SSh.den G F61_1s) K => F61_1_it n (fun u0 => K (.exit 0) (SSh.enc G F61_1x0 ((u0, ()), ()))) k x.1.1 x.1.2.1 x.1.2.2.1 x.1.2.2.2.1) laws fnok (E28_ok n).tab (AllF.of (l := [(0, codeAt F61c [1, 1, 0, 1, 0, 0, 1, 1, 0])]) (by kernel_rfl) (AllF.cons (F61_0_ok n) AllF.nil)) (fun _ _ _ => rfl) (fun R k y K => F61_1_eq n R (fun (x : SSh.den G F61_1s) => F61_1_it n (fun u0 => K (.exit 0) (SSh.enc G F61_1x0 ((u0, ()), ()))) k x.1.1 x.1.2.1 x.1.2.2.1 x.1.2.2.2.1) y K) n
noncomputable def F61 (n : Nat) (a771 : List Int) (a772 : List Ety) : Option (Int × Unit) :=
  (F61_1 n (0 : Int) a772 ((a772.length) : Int) (0 : Int) (fun z794 =>
  some (z794, ())))
noncomputable def F61e (n : Nat) : Ent G := ⟨61, (.cons (.agg (.cons (.imm 0) (.cons (.imm 3) .nil))) .nil), [], (.int .i64), [], fun x y => F61 n x.1.1 x.1.2.1⟩
theorem F61_eq (n : Nat) (x : ShL.den G (.cons (.agg (.cons (.imm 0) (.cons (.imm 3) .nil))) .nil)) (y : denO G []) : (F61e n).F x y = runFn prog G (ro G (tabOf (E28 n)) (frOf [F61_0z n, F61_1z n]) _) Go.Proofs.Try.f61 (.nd .no (.nd .no (.nd (.nd .no (.nd (.use 1) .no)) .no))) [(0, .fz)] (ShL.enc G (.cons (.agg (.cons (.imm 0) (.cons (.imm 3) .nil))) .nil) x) (encO G [] y) (decR (.int .i64) []) := by kernel_rfl
theorem F61_ok (n : Nat) : EntOK prog G (F61e n) :=
  ent_ok (fr := frOf [F61_0z n, F61_1z n]) (ann := (.nd .no (.nd .no (.nd (.nd .no (.nd (.use 1) .no)) .no)))) (frm := [(0, .fz)]) laws fnok (E28_ok n).tab (e := F61e n) (fn := Go.Proofs.Try.f61) (by kernel_rfl) (AllF.ofB (cd := F61c) (l := [(1, codeAt F61c [1, 1, 0, 1, 0])]) (by kernel_rfl) (by kernel_rfl) (AllF.cons (F61_1_ok n) AllF.nil)) (F61_eq n)
noncomputable def E29 (n : Nat) : List (Ent G) := F61e n :: E28 n
theorem E29_ok (n : Nat) : AllE prog G (E29 n) := AllE.cons (F61_ok n) (E28_ok n)
noncomputable def F29_0x0 : SSh := ⟨154, [(1, (.ptr 0 0)), (3, (.own 1)), (4, (.int .i64)), (39, (.imm 0)), (40, (.int .i64)), (41, (.int .i64))], [(.box 26 (.cons (.imm 0) (.cons (.imm 3) .nil))), (.arr 0 true)]⟩
noncomputable def F29_0x1 : SSh := ⟨154, [(2, .bool)], []⟩
noncomputable def F29_0s : SSh := ⟨154, [(1, (.ptr 0 0)), (3, (.own 1)), (4, (.int .i64)), (39, (.imm 0)), (40, (.int .i64)), (41, (.int .i64))], [(.box 26 (.cons (.imm 0) (.cons (.imm 3) .nil))), (.arr 0 true)]⟩
noncomputable def F29_0 {R : Type} (n : Nat) (x808 : Int) (x809 : List Int) (x810 : Int) (x811 : Int) (x812 : List Int) (x813 : List Ety) (x814 : List Int) (k0 : Int → List Int → Int → Int → List Int → List Ety → List Int → Option R) (k1 : Bool → Option R) : Option R :=
  (bif (decide ((0 : Int) ≤ x811)) then
  (bif (decide (x811 < ((x809.length) : Int))) then
  let v816 := (x809.getD (x811.toNat) (0 : Int))
  (bif (v816 == (-2 : Int)) then
  (k0 (IntKind.wrap .i64 (x808 + (1 : Int))) x809 x810 x811 x812 x813 x814)
  else (bif (v816 == (-1 : Int)) then
  (k0 x808 x809 x810 x811 x812 x813 x814)
  else (bif (decide (v816 < (0 : Int))) then
  (k1 false)
  else (bif (decide (v816 ≥ ((x813.length) : Int))) then
  (k1 false)
  else (bif (decide ((0 : Int) ≤ v816)) then
  (bif (decide (v816 < ((x813.length) : Int))) then
  (bif (!(x813.getD (v816.toNat) (Ety.mk ({ data := #[] } : ByteArray) (0 : Int) (0 : Int) false)).live) then
  (k1 false)
  else (bif (decide ((0 : Int) ≤ v816)) then
  (bif (decide (v816 < ((x814.length) : Int))) then
  (bif (decide ((0 : Int) ≤ v816)) then
  (bif (decide (v816 < ((x814.length) : Int))) then
  (k0 x808 x809 x810 x811 x812 x813 (x814.set (v816.toNat) (IntKind.wrap .i64 ((x814.getD (v816.toNat) (0 : Int)) + (1 : Int)))))
  else none)
  else none)
  else none)
  else none))
  else none)
  else none)))))
  else none)
  else none)
noncomputable def F29_0z (n : Nat) : Sm G := inZ G 0 ⟨[1, 3, 4, 39, 40, 41], []⟩ F29_0s fun R x K => F29_0 n x.1.2.2.1 x.1.2.2.2.1 x.1.2.2.2.2.1 x.1.2.2.2.2.2.1 x.2.1.1 x.2.1.2.1 x.2.2.1 (fun u0 u1 u2 u3 u4 u5 u6 => K .normal (SSh.enc G F29_0x0 (((), ((), (u0, (u1, (u2, (u3, ())))))), ((u4, (u5, ())), (u6, ()))))) (fun u0 => K .ret (SSh.enc G F29_0x1 ((u0, ()), ())))
theorem F29_0_eq (n : Nat) (R : Type) (x : SSh.den G F29_0s) (K : AE → St G → Option R) :
  F29_0 n x.1.2.2.1 x.1.2.2.2.1 x.1.2.2.2.2.1 x.1.2.2.2.2.2.1 x.2.1.1 x.2.1.2.1 x.2.2.1 (fun u0 u1 u2 u3 u4 u5 u6 => K .normal (SSh.enc G F29_0x0 (((), ((), (u0, (u1, (u2, (u3, ())))))), ((u4, (u5, ())), (u6, ()))))) (fun u0 => K .ret (SSh.enc G F29_0x1 ((u0, ()), ()))) = exec prog G (ro G (tabOf (E29 n)) (frOf []) R) 0 (codeAt F29c [1, 1, 1, 1, 0, 1, 0, 0, 1, 1, 0]) .no (SSh.enc G F29_0s x) (kNrm G (ro G (tabOf (E29 n)) (frOf []) R) 0 ⟨⟨[1, 3, 4, 39, 40, 41], []⟩, ⟨[2], []⟩, [(0, ⟨[1, 3, 4], []⟩)]⟩ K) := by kernel_rfl
theorem F29_0_ok (n : Nat) : FragOK prog G 0 (codeAt F29c [1, 1, 1, 1, 0, 1, 0, 0, 1, 1, 0]) (F29_0z n) :=
  frag_plain laws fnok (E29_ok n).tab (AllF.of (l := []) (by kernel_rfl) AllF.nil) (F29_0_eq n)
noncomputable def F29_1x0 : SSh := ⟨154, [(2, .bool)], []⟩
noncomputable def F29_1x1 : SSh := ⟨154, [(1, (.ptr 0 0)), (3, (.own 1)), (4, (.int .i64))], [(.box 26 (.cons (.imm 0) (.cons (.imm 3) .nil))), (.arr 0 true)]⟩
noncomputable def F29_1s : SSh := ⟨154, [(1, (.ptr 0 0)), (3, (.own 1)), (4, (.int .i64)), (39, (.imm 0)), (40, (.int .i64)), (41, (.int .i64))], [(.box 26 (.cons (.imm 0) (.cons (.imm 3) .nil))), (.arr 0 true)]⟩
noncomputable def F29_1_step {R : Type} (n : Nat) (k0 : Bool → Option R) (k1 : Int → List Int → List Ety → List Int → Option R) (rec : Int → List Int → Int → Int → List Int → List Ety → List Int → Option R) (x800 : Int) (x801 : List Int) (x802 : Int) (x803 : Int) (x804 : List Int) (x805 : List Ety) (x806 : List Int) : Option R :=
  (bif (decide (x803 < x802)) then
  (F29_0 n x800 x801 x802 x803 x804 x805 x806 (fun z831 z832 z833 z834 z835 z836 z837 =>
  (rec z831 z832 z833 (IntKind.wrap .i64 (z834 + (1 : Int))) z835 z836 z837)) (fun z839 =>
  (k0 z839)))
  else (k1 x800 x804 x805 x806))
noncomputable def F29_1_it {R : Type} (n : Nat) (k0 : Bool → Option R) (k1 : Int → List Int → List Ety → List Int → Option R) : Nat → Int → List Int → Int → Int → List Int → List Ety → List Int → Option R
  | 0, _, _, _, _, _, _, _ => none
  | k + 1, x800, x801, x802, x803, x804, x805, x806 => F29_1_step n k0 k1 (F29_1_it n k0 k1 k) x800 x801 x802 x803 x804 x805 x806
noncomputable def F29_1 {R : Type} (n : Nat) (x800 : Int) (x801 : List Int) (x802 : Int) (x803 : Int) (x804 : List Int) (x805 : List Ety) (x806 : List Int) (k0 : Bool → Option R) (k1 : Int → List Int → List Ety → List Int → Option R) : Option R := F29_1_it n k0 k1 n x800 x801 x802 x803 x804 x805 x806
noncomputable def F29_1z (n : Nat) : Sm G := inZ G 0 ⟨[1, 3, 4, 39, 40, 41], []⟩ F29_1s fun R x K => F29_1_it n (fun u0 => K .ret (SSh.enc G F29_1x0 ((u0, ()), ()))) (fun u0 u1 u2 u3 => K (.exit 0) (SSh.enc G F29_1x1 (((), ((), (u0, ()))), ((u1, (u2, ())), (u3, ()))))) n x.1.2.2.1 x.1.2.2.2.1 x.1.2.2.2.2.1 x.1.2.2.2.2.2.1 x.2.1.1 x.2.1.2.1 x.2.2.1
theorem F29_1_eq (n : Nat) (R : Type) (rec : SSh.den G F29_1s → Option R) (x : SSh.den G F29_1s) (K : AE → St G → Option R) :
  F29_1_step n (fun u0 => K .ret (SSh.enc G F29_1x0 ((u0, ()), ()))) (fun u0 u1 u2 u3 => K (.exit 0) (SSh.enc G F29_1x1 (((), ((), (u0, ()))), ((u1, (u2, ())), (u3, ()))))) (fun x800 x801 x802 x803 x804 x805 x806 => rec (((), ((), (x800, (x801, (x802, (x803, ())))))), ((x804, (x805, ())), (x806, ())))) x.1.2.2.1 x.1.2.2.2.1 x.1.2.2.2.2.1 x.1.2.2.2.2.2.1 x.2.1.1 x.2.1.2.1 x.2.2.1 = exec prog G (ro G (tabOf (E29 n)) (frOf [F29_0z n]) R) 0 (codeAt F29c [1, 1, 1, 1, 0, 1, 0, 0]) (.nd .no (.nd .no (.nd (.use 0) .no))) (SSh.enc G F29_1s x) (kLoop G (ro G (tabOf (E29 n)) (frOf [F29_0z n]) R) 0 ⟨[1, 3, 4, 39, 40, 41], []⟩ F29_1s ⟨⟨[1, 3, 4], []⟩, ⟨[2], []⟩, [(0, ⟨[1, 3, 4], []⟩)]⟩ rec K) := by kernel_rfl
theorem F29_1_ok (n : Nat) : FragOK prog G 0 (codeAt F29c [1, 1, 1, 1, 0, 1, 0]) (F29_1z n) :=
  frag_loop (Z := fun R k (x : SSh.den G F29_1s) K => F29_1_it n (fun u0 => K .ret (SSh.enc G F29_1x0 ((u0, ()), ()))) (fun u0 u1 u2 u3 => K (.exit 0) (SSh.enc G F29_1x1 (((), ((), (u0, ()))), ((u1, (u2, ())), (u3, ()))))) k x.1.2.2.1 x.1.2.2.2.1 x.1.2.2.2.2.1 x.1.2.2.2.2.2.1 x.2.1.1 x.2.1.2.1 x.2.2.1) laws fnok (E29_ok n).tab (AllF.of (l := [(0, codeAt F29c [1, 1, 1, 1, 0, 1, 0, 0, 1, 1, 0])]) (by kernel_rfl) (AllF.cons (F29_0_ok n) AllF.nil)) (fun _ _ _ => rfl) (fun R k y K => F29_1_eq n R (fun (x : SSh.den G F29_1s) => F29_1_it n (fun u0 => K .ret (SSh.enc G F29_1x0 ((u0, ()), ()))) (fun u0 u1 u2 u3 => K (.exit 0) (SSh.enc G F29_1x1 (((), ((), (u0, ()))), ((u1, (u2, ())), (u3, ()))))) k x.1.2.2.1 x.1.2.2.2.1 x.1.2.2.2.2.1 x.1.2.2.2.2.2.1 x.2.1.1 x.2.1.2.1 x.2.2.1) y K) n
-- 21 loop.example/slowworm/impl.DictHash
noncomputable def F21c : Code := bodyOf Go.Proofs.Try.f21
noncomputable def F21_0x0 : SSh := ⟨23, [(3, (.int .i64))], []⟩
noncomputable def F21_0s : SSh := ⟨23, [(0, .str), (3, (.int .i64)), (9, (.int .i64)), (10, (.int .i64))], []⟩
noncomputable def F21_0_step {R : Type} (n : Nat) (k0 : Int → Option R) (rec : ByteArray → Int → Int → Int → Option R) (x879 : ByteArray) (x880 : Int) (x881 : Int) (x882 : Int) : Option R :=
  (bif (decide (x882 < x881)) then
  (bif (decide ((0 : Int) ≤ x882)) then
  (bif (decide (x882 < ((x879.size) : Int))) then
  (rec x879 ((IntKind.wrap .i64 ((IntKind.wrap .i64 (x880 * (31 : Int))) + (IntKind.wrap .i64 (strOf x879 (x882.toNat))))).tmod (65536 : Int)) x881 (IntKind.wrap .i64 (x882 + (1 : Int))))
  else none)
  else none)
  else (k0 x880))
noncomputable def F21_0_it {R : Type} (n : Nat) (k0 : Int → Option R) : Nat → ByteArray → Int → Int → Int → Option R
  | 0, _, _, _, _ => none
  | k + 1, x879, x880, x881, x882 => F21_0_step n k0 (F21_0_it n k0 k) x879 x880 x881 x882
noncomputable def F21_0 {R : Type} (n : Nat) (x879 : ByteArray) (x880 : Int) (x881 : Int) (x882 : Int) (k0 : Int → Option R) : Option R := F21_0_it n k0 n x879 x880 x881 x882
noncomputable def F21_0z (n : Nat) : Sm G := inZ G 0 ⟨[0, 3, 9, 10], []⟩ F21_0s fun R x K => F21_0_it n (fun u0 => K (.exit 0) (SSh.enc G F21_0x0 ((u0, ()), ()))) n x.1.1 x.1.2.1 x.1.2.2.1 x.1.2.2.2.1
theorem F21_0_eq (n : Nat) (R : Type) (rec : SSh.den G F21_0s → Option R) (x : SSh.den G F21_0s) (K : AE → St G → Option R) :
  F21_0_step n (fun u0 => K (.exit 0) (SSh.enc G F21_0x0 ((u0, ()), ()))) (fun x879 x880 x881 x882 => rec ((x879, (x880, (x881, (x882, ())))), ())) x.1.1 x.1.2.1 x.1.2.2.1 x.1.2.2.2.1 = exec prog G (ro G (tabOf (E29 n)) (frOf []) R) 0 (codeAt F21c [1, 1, 1, 0, 1, 0, 0]) .no (SSh.enc G F21_0s x) (kLoop G (ro G (tabOf (E29 n)) (frOf []) R) 0 ⟨[0, 3, 9, 10], []⟩ F21_0s ⟨⟨[3], []⟩, ⟨[2], []⟩, [(0, ⟨[3], []⟩)]⟩ rec K) := by kernel_rfl
theorem F21_0_ok (n : Nat) : FragOK prog G 0 (codeAt F21c [1, 1, 1, 0, 1, 0]) (F21_0z n) :=
  frag_loop (Z := fun R k (x : SSh.den G F21_0s) K => F21_0_it n (fun u0 => K (.exit 0) (SSh.enc G F21_0x0 ((u0, ()), ()))) k x.1.1 x.1.2.1 x.1.2.2.1 x.1.2.2.2.1) laws fnok (E29_ok n).tab (AllF.of (l := []) (by kernel_rfl) AllF.nil) (fun _ _ _ => rfl) (fun R k y K => F21_0_eq n R (fun (x : SSh.den G F21_0s) => F21_0_it n (fun u0 => K (.exit 0) (SSh.enc G F21_0x0 ((u0, ()), ()))) k x.1.1 x.1.2.1 x.1.2.2.1 x.1.2.2.2.1) y K) n
noncomputable def F21 (n : Nat) (a875 : ByteArray) : Option (Int × Unit) :=
  (bif (decide (((a875.size) : Int) > (20 : Int))) then
  some ((-1 : Int), ())
  else (F21_0 n a875 (7 : Int) ((a875.size) : Int) (0 : Int) (fun z890 =>
  some (z890, ()))))
noncomputable def F21e (n : Nat) : Ent G := ⟨21, (.cons .str .nil), [], (.int .i64), [], fun x y => F21 n x.1⟩
theorem F21_eq (n : Nat) (x : ShL.den G (.cons .str .nil)) (y : denO G []) : (F21e n).F x y = runFn prog G (ro G (tabOf (E29 n)) (frOf [F21_0z n]) _) Go.Proofs.Try.f21 (.nd .no (.nd .no (.nd .no (.nd (.nd .no (.nd (.use 0) .no)) .no)))) [(0, .fz)] (ShL.enc G (.cons .str .nil) x) (encO G [] y) (decR (.int .i64) []) := by kernel_rfl
theorem F21_ok (n : Nat) : EntOK prog G (F21e n) :=
  ent_ok (fr := frOf [F21_0z n]) (ann := (.nd .no (.nd .no (.nd .no (.nd (.nd .no (.nd (.use 0) .no)) .no))))) (frm := [(0, .fz)]) laws fnok (E29_ok n).tab (e := F21e n) (fn := Go.Proofs.Try.f21) (by kernel_rfl) (AllF.ofB (cd := F21c) (l := [(0, codeAt F21c [1, 1, 1, 0, 1, 0])]) (by kernel_rfl) (by kernel_rfl) (AllF.cons (F21_0_ok n) AllF.nil)) (F21_eq n)
noncomputable def E30 (n : Nat) : List (Ent G) := F21e n :: E29 n
theorem E30_ok (n : Nat) : AllE prog G (E30 n) := AllE.cons (F21_ok n) (E29_ok n)
-- 62 loop.example/slowworm/impl.within
noncomputable def F62c : Code := bodyOf Go.Proofs.Try.f62
noncomputable def F62 (n : Nat) (a893 : Int) (a894 : Int) (a895 : Int) : Option (Bool × Unit) :=
  (bif (decide (a893 ≥ a894)) then
  some ((decide (a893 ≤ a895)), ())
  else some (false, ()))
noncomputable def F62e (n : Nat) : Ent G := ⟨62, (.cons (.int .i64) (.cons (.int .i64) (.cons (.int .i64) .nil))), [], .bool, [], fun x y => F62 n x.1 x.2.1 x.2.2.1⟩
theorem F62_eq (n : Nat) (x : ShL.den G (.cons (.int .i64) (.cons (.int .i64) (.cons (.int .i64) .nil)))) (y : denO G []) : (F62e n).F x y = runFn prog G (ro G (tabOf (E30 n)) (frOf []) _) Go.Proofs.Try.f62 .no [(0, .fz)] (ShL.enc G (.cons (.int .i64) (.cons (.int .i64) (.cons (.int .i64) .nil))) x) (encO G [] y) (decR .bool []) := by kernel_rfl
theorem F62_ok (n : Nat) : EntOK prog G (F62e n) :=
  ent_ok (fr := frOf []) (ann := .no) (frm := [(0, .fz)]) laws fnok (E30_ok n).tab (e := F62e n) (fn := Go.Proofs.Try.f62) (by kernel_rfl) (AllF.ofB (cd := F62c) (l := []) (by kernel_rfl) (by kernel_rfl) AllF.nil) (F62_eq n)
noncomputable def E31 (n : Nat) : List (Ent G) := F62e n :: E30 n
theorem E31_ok (n : Nat) : AllE prog G (E31 n) := AllE.cons (F62_ok n) (E30_ok n)
noncomputable def F29_2x0 : SSh := ⟨154, [(2, .bool)], []⟩
noncomputable def F29_2x1 : SSh := ⟨154, [(1, (.ptr 0 0)), (3, (.own 1)), (88, (.imm 3)), (89, (.int .i64)), (90, (.int .i64))], [(.box 26 (.cons (.imm 0) (.cons (.imm 3) .nil))), (.arr 0 true)]⟩
noncomputable def F29_2s : SSh := ⟨154, [(1, (.ptr 0 0)), (3, (.own 1)), (88, (.imm 3)), (89, (.int .i64)), (90, (.int .i64))], [(.box 26 (.cons (.imm 0) (.cons (.imm 3) .nil))), (.arr 0 true)]⟩
noncomputable def F29_2 {R : Type} (n : Nat) (x857 : List Ety) (x858 : Int) (x859 : Int) (x860 : List Int) (x861 : List Ety) (x862 : List Int) (k0 : Bool → Option R) (k1 : List Ety → Int → Int → List Int → List Ety → List Int → Option R) : Option R :=
  (bif (decide ((0 : Int) ≤ x859)) then
  (bif (decide (x859 < ((x857.length) : Int))) then
  let v863 := (x857.getD (x859.toNat) (Ety.mk ({ data := #[] } : ByteArray) (0 : Int) (0 : Int) false))
  let v864 := v863.key
  let v865 := v863.hash
  let v866 := v863.val
  let v867 := v863.live
  (bif (!v867) then
  (bif (!((v864 == ({ data := #[] } : ByteArray)) && ((v865 == (0 : Int)) && ((v866 == (0 : Int)) && (v867 == false))))) then
  (k0 false)
  else (k1 x857 x858 x859 x860 x861 x862))
  else (bif (decide ((0 : Int) ≤ x859)) then
  (bif (decide (x859 < ((x862.length) : Int))) then
  (bif ((x862.getD (x859.toNat) (0 : Int)) != (1 : Int)) then
  (k0 false)
  else (bif (decide (((v864.size) : Int) > (20 : Int))) then
  (k0 false)
  else (andThen (F21 n v864) fun r891 =>
  (bif (v865 != r891.1) then
  (k0 false)
  else (andThen (F62 n v866 (-1000000 : Int) (1000000 : Int)) fun r898 =>
  (bif (!r898.1) then
  (k0 false)
  else (k1 x857 x858 x859 x860 x861 x862)))))))
  else none)
  else none))
  else none)
  else none)
noncomputable def F29_2z (n : Nat) : Sm G := inZ G 0 ⟨[1, 3, 88, 89, 90], []⟩ F29_2s fun R x K => F29_2 n x.1.2.2.1 x.1.2.2.2.1 x.1.2.2.2.2.1 x.2.1.1 x.2.1.2.1 x.2.2.1 (fun u0 => K .ret (SSh.enc G F29_2x0 ((u0, ()), ()))) (fun u0 u1 u2 u3 u4 u5 => K .normal (SSh.enc G F29_2x1 (((), ((), (u0, (u1, (u2, ()))))), ((u3, (u4, ())), (u5, ())))))
theorem F29_2_eq (n : Nat) (R : Type) (x : SSh.den G F29_2s) (K : AE → St G → Option R) :
  F29_2 n x.1.2.2.1 x.1.2.2.2.1 x.1.2.2.2.2.1 x.2.1.1 x.2.1.2.1 x.2.2.1 (fun u0 => K .ret (SSh.enc G F29_2x0 ((u0, ()), ()))) (fun u0 u1 u2 u3 u4 u5 => K .normal (SSh.enc G F29_2x1 (((), ((), (u0, (u1, (u2, ()))))), ((u3, (u4, ())), (u5, ()))))) = exec prog G (ro G (tabOf (E31 n)) (frOf [F29_0z n, F29_1z n]) R) 0 (codeAt F29c [1, 1, 1, 1, 1, 1, 0, 1, 0, 0, 1, 1, 0]) .no (SSh.enc G F29_2s x) (kNrm G (ro G (tabOf (E31 n)) (frOf [F29_0z n, F29_1z n]) R) 0 ⟨⟨[1, 3, 88, 89, 90], []⟩, ⟨[2], []⟩, [(3, ⟨[1], []⟩)]⟩ K) := by kernel_rfl
theorem F29_2_ok (n : Nat) : FragOK prog G 0 (codeAt F29c [1, 1, 1, 1, 1, 1, 0, 1, 0, 0, 1, 1, 0]) (F29_2z n) :=
  frag_plain laws fnok (E31_ok n).tab (AllF.of (l := []) (by kernel_rfl) AllF.nil) (F29_2_eq n)
noncomputable def F29_3x0 : SSh := ⟨154, [(2, .bool)], []⟩
noncomputable def F29_3x1 : SSh := ⟨154, [(1, (.ptr 0 0))], [(.box 26 (.cons (.imm 0) (.cons (.imm 3) .nil)))]⟩
noncomputable def F29_3s : SSh := ⟨154, [(1, (.ptr 0 0)), (3, (.own 1)), (88, (.imm 3)), (89, (.int .i64)), (90, (.int .i64))], [(.box 26 (.cons (.imm 0) (.cons (.imm 3) .nil))), (.arr 0 true)]⟩
noncomputable def F29_3_step {R : Type} (n : Nat) (k0 : Bool → Option R) (k1 : List Int → List Ety → Option R) (rec : List Ety → Int → Int → List Int → List Ety → List Int → Option R) (x850 : List Ety) (x851 : Int) (x852 : Int) (x853 : List Int) (x854 : List Ety) (x855 : List Int) : Option R :=
  (bif (decide (x852 < x851)) then
  (F29_2 n x850 x851 x852 x853 x854 x855 (fun z900 =>
  (k0 z900)) (fun z901 z902 z903 z904 z905 z906 =>
  (rec z901 z902 (IntKind.wrap .i64 (z903 + (1 : Int))) z904 z905 z906)))
  else (k1 x853 x854))
noncomputable def F29_3_it {R : Type} (n : Nat) (k0 : Bool → Option R) (k1 : List Int → List Ety → Option R) : Nat → List Ety → Int → Int → List Int → List Ety → List Int → Option R
  | 0, _, _, _, _, _, _ => none
  | k + 1, x850, x851, x852, x853, x854, x855 => F29_3_step n k0 k1 (F29_3_it n k0 k1 k) x850 x851 x852 x853 x854 x855
noncomputable def F29_3 {R : Type} (n : Nat) (x850 : List Ety) (x851 : Int) (x852 : Int) (x853 : List Int) (x854 : List Ety) (x855 : List Int) (k0 : Bool → Option R) (k1 : List Int → List Ety → Option R) : Option R := F29_3_it n k0 k1 n x850 x851 x852 x853 x854 x855
noncomputable def F29_3z (n : Nat) : Sm G := inZ G 0 ⟨[1, 3, 88, 89, 90], []⟩ F29_3s fun R x K => F29_3_it n (fun u0 => K .ret (SSh.enc G F29_3x0 ((u0, ()), ()))) (fun u0 u1 => K (.exit 3) (SSh.enc G F29_3x1 (((), ()), ((u0, (u1, ())), ())))) n x.1.2.2.1 x.1.2.2.2.1 x.1.2.2.2.2.1 x.2.1.1 x.2.1.2.1 x.2.2.1
theorem F29_3_eq (n : Nat) (R : Type) (rec : SSh.den G F29_3s → Option R) (x : SSh.den G F29_3s) (K : AE → St G → Option R) :
  F29_3_step n (fun u0 => K .ret (SSh.enc G F29_3x0 ((u0, ()), ()))) (fun u0 u1 => K (.exit 3) (SSh.enc G F29_3x1 (((), ()), ((u0, (u1, ())), ())))) (fun x850 x851 x852 x853 x854 x855 => rec (((), ((), (x850, (x851, (x852, ()))))), ((x853, (x854, ())), (x855, ())))) x.1.2.2.1 x.1.2.2.2.1 x.1.2.2.2.2.1 x.2.1.1 x.2.1.2.1 x.2.2.1 = exec prog G (ro G (tabOf (E31 n)) (frOf [F29_0z n, F29_1z n, F29_2z n]) R) 0 (codeAt F29c [1, 1, 1, 1, 1, 1, 0, 1, 0, 0]) (.nd .no (.nd .no (.nd (.use 2) .no))) (SSh.enc G F29_3s x) (kLoop G (ro G (tabOf (E31 n)) (frOf [F29_0z n, F29_1z n, F29_2z n]) R) 0 ⟨[1, 3, 88, 89, 90], []⟩ F29_3s ⟨⟨[1], []⟩, ⟨[2], []⟩, [(3, ⟨[1], []⟩)]⟩ rec K) := by kernel_rfl
theorem F29_3_ok (n : Nat) : FragOK prog G 0 (codeAt F29c [1, 1, 1, 1, 1, 1, 0, 1, 0]) (F29_3z n) :=
  frag_loop (Z := fun R k (x : SSh.den G F29_3s) K => F29_3_it n (fun u0 => K .ret (SSh.enc G F29_3x0 ((u0, ()), ()))) (fun u0 u1 => K (.exit 3) (SSh.enc G F29_3x1 (((), ()), ((u0, (u1, ())), ())))) k x.1.2.2.1 x.1.2.2.2.1 x.1.2.2.2.2.1 x.2.1.1 x.2.1.2.1 x.2.2.1) laws fnok (E31_ok n).tab (AllF.of (l := [(2, codeAt F29c [1, 1, 1, 1, 1, 1, 0, 1, 0, 0, 1, 1, 0])]) (by kernel_rfl) (AllF.cons (F29_2_ok n) AllF.nil)) (fun _ _ _ => rfl) (fun R k y K => F29_3_eq n R (fun (x : SSh.den G F29_3s) => F29_3_it n (fun u0 => K .ret (SSh.enc G F29_3x0 ((u0, ()), ()))) (fun u0 u1 => K (.exit 3) (SSh.enc G F29_3x1 (((), ()), ((u0, (u1, ())), ())))) k x.1.2.2.1 x.1.2.2.2.1 x.1.2.2.2.2.1 x.2.1.1 x.2.1.2.1 x.2.2.1) y K) n
-- 51 (loop.example/slowworm/impl.Dict).probe
noncomputable def F51c : Code := bodyOf Go.Proofs.Try.f51
noncomputable def F51_0x0 : SSh := ⟨62, [(4, (.own 0))], [(.arr 0 true)]⟩
noncomputable def F51_0x1 : SSh := ⟨62, [(9, (.own 0))], [(.arr 0 true)]⟩
noncomputable def F51_0s : SSh := ⟨62, [(1, .str), (2, (.ptr 0 0)), (6, (.int .i64)), (7, (.int .i64)), (8, (.int .i64)), (9, (.own 1)), (22, (.int .i64)), (23, (.int .i64))], [(.box 26 (.cons (.imm 0) (.cons (.imm 3) .nil))), (.arr 0 true)]⟩
noncomputable def F51_0_step {R : Type} (n : Nat) (k0 : List Int → Option R) (k1 : List Int → Option R) (rec : ByteArray → Int → Int → Int → Int → Int → List Int → List Ety → List Int → Option R) (x968 : ByteArray) (x969 : Int) (x970 : Int) (x971 : Int) (x972 : Int) (x973 : Int) (x974 : List Int) (x975 : List Ety) (x976 : List Int) : Option R :=
  (bif (decide (x973 < x972)) then
  let v978 := (x970 :: [])
  (bif (decide (((x976.length) + (v978.length)) ≤ (68719476736 : Nat))) then
  let v979 := (x976 ++ v978)
  (bif (decide ((0 : Int) ≤ x970)) then
  (bif (decide (x970 < ((x974.length) : Int))) then
  let v981 := (x974.getD (x970.toNat) (0 : Int))
  (bif (v981 == (-1 : Int)) then
  (k0 v979)
  else (bif (decide (v981 ≥ (0 : Int))) then
  (bif (decide ((0 : Int) ≤ v981)) then
  (bif (decide (v981 < ((x975.length) : Int))) then
  (bif (((x975.getD (v981.toNat) (Ety.mk ({ data := #[] } : ByteArray) (0 : Int) (0 : Int) false)).key.toList) == (x968.toList)) then
  (k0 v979)
  else let v987 := (IntKind.wrap .i64 (x971.tdiv (8 : Int)))
  (bif (!(decide (x969 = (0 : Int)))) then
  (rec x968 x969 ((IntKind.wrap .i64 ((IntKind.wrap .i64 ((IntKind.wrap .i64 ((5 : Int) * x970)) + v987)) + (1 : Int))).tmod x969) v987 x972 (IntKind.wrap .i64 (x973 + (1 : Int))) x974 x975 v979)
  else none))
  else none)
  else none)
  else let v993 := (IntKind.wrap .i64 (x971.tdiv (8 : Int)))
  (bif (!(decide (x969 = (0 : Int)))) then
  (rec x968 x969 ((IntKind.wrap .i64 ((IntKind.wrap .i64 ((IntKind.wrap .i64 ((5 : Int) * x970)) + v993)) + (1 : Int))).tmod x969) v993 x972 (IntKind.wrap .i64 (x973 + (1 : Int))) x974 x975 v979)
  else none)))
  else none)
  else none)
  else none)
  else (k1 x976))
noncomputable def F51_0_it {R : Type} (n : Nat) (k0 : List Int → Option R) (k1 : List Int → Option R) : Nat → ByteArray → Int → Int → Int → Int → Int → List Int → List Ety → List Int → Option R
  | 0, _, _, _, _, _, _, _, _, _ => none
  | k + 1, x968, x969, x970, x971, x972, x973, x974, x975, x976 => F51_0_step n k0 k1 (F51_0_it n k0 k1 k) x968 x969 x970 x971 x972 x973 x974 x975 x976
noncomputable def F51_0 {R : Type} (n : Nat) (x968 : ByteArray) (x969 : Int) (x970 : Int) (x971 : Int) (x972 : Int) (x973 : Int) (x974 : List Int) (x975 : List Ety) (x976 : List Int) (k0 : List Int → Option R) (k1 : List Int → Option R) : Option R := F51_0_it n k0 k1 n x968 x969 x970 x971 x972 x973 x974 x975 x976
noncomputable def F51_0z (n : Nat) : Sm G := inZ G 0 ⟨[1, 2, 6, 7, 8, 9, 22, 23], [(9, (.own 0))]⟩ F51_0s fun R x K => F51_0_it n (fun u0 => K .ret (SSh.enc G F51_0x0 (((), ()), (u0, ())))) (fun u0 => K (.exit 0) (SSh.enc G F51_0x1 (((), ()), (u0, ())))) n x.1.1 x.1.2.2.1 x.1.2.2.2.1 x.1.2.2.2.2.1 x.1.2.2.2.2.2.2.1 x.1.2.2.2.2.2.2.2.1 x.2.1.1 x.2.1.2.1 x.2.2.1
theorem F51_0_eq (n : Nat) (R : Type) (rec : SSh.den G F51_0s → Option R) (x : SSh.den G F51_0s) (K : AE → St G → Option R) :
  F51_0_step n (fun u0 => K .ret (SSh.enc G F51_0x0 (((), ()), (u0, ())))) (fun u0 => K (.exit 0) (SSh.enc G F51_0x1 (((), ()), (u0, ())))) (fun x968 x969 x970 x971 x972 x973 x974 x975 x976 => rec ((x968, ((), (x969, (x970, (x971, ((), (x972, (x973, ())))))))), ((x974, (x975, ())), (x976, ())))) x.1.1 x.1.2.2.1 x.1.2.2.2.1 x.1.2.2.2.2.1 x.1.2.2.2.2.2.2.1 x.1.2.2.2.2.2.2.2.1 x.2.1.1 x.2.1.2.1 x.2.2.1 = exec prog G (ro G (tabOf (E31 n)) (frOf []) R) 0 (codeAt F51c [1, 1, 1, 1, 1, 0, 1, 0, 0]) .no (SSh.enc G F51_0s x) (kLoop G (ro G (tabOf (E31 n)) (frOf []) R) 0 ⟨[1, 2, 6, 7, 8, 9, 22, 23], [(9, (.own 0))]⟩ F51_0s ⟨⟨[9], []⟩, ⟨[4], []⟩, [(0, ⟨[9], []⟩)]⟩ rec K) := by kernel_rfl
theorem F51_0_ok (n : Nat) : FragOK prog G 0 (codeAt F51c [1, 1, 1, 1, 1, 0, 1, 0]) (F51_0z n) :=
  frag_loop (Z := fun R k (x : SSh.den G F51_0s) K => F51_0_it n (fun u0 => K .ret (SSh.enc G F51_0x0 (((), ()), (u0, ())))) (fun u0 => K (.exit 0) (SSh.enc G F51_0x1 (((), ()), (u0, ())))) k x.1.1 x.1.2.2.1 x.1.2.2.2.1 x.1.2.2.2.2.1 x.1.2.2.2.2.2.2.1 x.1.2.2.2.2.2.2.2.1 x.2.1.1 x.2.1.2.1 x.2.2.1) laws fnok (E31_ok n).tab (AllF.of (l := []) (by kernel_rfl) AllF.nil) (fun _ _ _ => rfl) (fun R k y K => F51_0_eq n R (fun (x : SSh.den G F51_0s) => F51_0_it n (fun u0 => K .ret (SSh.enc G F51_0x0 (((), ()), (u0, ())))) (fun u0 => K (.exit 0) (SSh.enc G F51_0x1 (((), ()), (u0, ())))) k x.1.1 x.1.2.2.1 x.1.2.2.2.1 x.1.2.2.2.2.1 x.1.2.2.2.2.2.2.1 x.1.2.2.2.2.2.2.2.1 x.2.1.1 x.2.1.2.1 x.2.2.1) y K) n
noncomputable def F51 (n : Nat) (a960 : List Int) (a961 : List Ety) (a962 : ByteArray) : Option (List Int × Unit) :=
  (andThen (F21 n a962) fun r963 =>
  let v964 := ((a960.length) : Int)
  (bif (!(decide (v964 = (0 : Int)))) then
  (F51_0 n a962 v964 (r963.1.tmod v964) r963.1 (IntKind.wrap .i64 ((65536 : Int) + (IntKind.wrap .i64 ((2 : Int) * v964)))) (0 : Int) a960 a961 [] (fun z999 =>
  some (z999, ())) (fun z1000 =>
  some (z1000, ())))
  else none))
noncomputable def F51e (n : Nat) : Ent G := ⟨51, (.cons (.agg (.cons (.imm 0) (.cons (.imm 3) .nil))) (.cons .str .nil)), [], (.imm 0), [], fun x y => F51 n x.1.1 x.1.2.1 x.2.1⟩
theorem F51_eq (n : Nat) (x : ShL.den G (.cons (.agg (.cons (.imm 0) (.cons (.imm 3) .nil))) (.cons .str .nil))) (y : denO G []) : (F51e n).F x y = runFn prog G (ro G (tabOf (E31 n)) (frOf [F51_0z n]) _) Go.Proofs.Try.f51 (.nd .no (.nd .no (.nd .no (.nd .no (.nd .no (.nd (.nd .no (.nd (.use 0) .no)) .no)))))) [(0, .fz)] (ShL.enc G (.cons (.agg (.cons (.imm 0) (.cons (.imm 3) .nil))) (.cons .str .nil)) x) (encO G [] y) (decR (.imm 0) []) := by kernel_rfl
theorem F51_ok (n : Nat) : EntOK prog G (F51e n) :=
  ent_ok (fr := frOf [F51_0z n]) (ann := (.nd .no (.nd .no (.nd .no (.nd .no (.nd .no (.nd (.nd .no (.nd (.use 0) .no)) .no))))))) (frm := [(0, .fz)]) laws fnok (E31_ok n).tab (e := F51e n) (fn := Go.Proofs.Try.f51) (by kernel_rfl) (AllF.ofB (cd := F51c) (l := [(0, codeAt F51c [1, 1, 1, 1, 1, 0, 1, 0])]) (by kernel_rfl) (by kernel_rfl) (AllF.cons (F51_0_ok n) AllF.nil)) (F51_eq n)
noncomputable def E32 (n : Nat) : List (Ent G) := F51e n :: E31 n
theorem E32_ok (n : Nat) : AllE prog G (E32 n) := AllE.cons (F51_ok n) (E31_ok n)
noncomputable def F29_4x0 : SSh := ⟨154, [(2, .bool)], []⟩
noncomputable def F29_4x1 : SSh := ⟨154, [(1, (.ptr 0 0)), (128, (.imm 3)), (129, (.int .i64)), (130, (.int .i64))], [(.box 26 (.cons (.imm 0) (.cons (.imm 3) .nil)))]⟩
noncomputable def F29_4s : SSh := ⟨154, [(1, (.ptr 0 0)), (128, (.imm 3)), (129, (.int .i64)), (130, (.int .i64))], [(.box 26 (.cons (.imm 0) (.cons (.imm 3) .nil)))]⟩
noncomputable def F29_4 {R : Type} (n : Nat) (x918 : List Ety) (x919 : Int) (x920 : Int) (x921 : List Int) (x922 : List Ety) (k0 : Bool → Option R) (k1 : List Ety → Int → Int → List Int → List Ety → Option R) : Option R :=
  (bif (decide ((0 : Int) ≤ x920)) then
  (bif (decide (x920 < ((x918.length) : Int))) then
  let v923 := (x918.getD (x920.toNat) (Ety.mk ({ data := #[] } : ByteArray) (0 : Int) (0 : Int) false))
  (bif v923.live then
  (andThen (F51 n x921 x922 v923.key) fun r1001 =>
  let v1003 := (IntKind.wrap .i64 (((r1001.1.length) : Int) - (1 : Int)))
  (bif (decide ((0 : Int) ≤ v1003)) then
  (bif (decide (v1003 < ((r1001.1.length) : Int))) then
  let v1005 := (r1001.1.getD (v1003.toNat) (0 : Int))
  (bif (decide ((0 : Int) ≤ v1005)) then
  (bif (decide (v1005 < ((x921.length) : Int))) then
  (bif ((x921.getD (v1005.toNat) (0 : Int)) != x920) then
  (k0 false)
  else (k1 x918 x919 x920 x921 x922))
  else none)
  else none)
  else none)
  else none))
  else (k1 x918 x919 x920 x921 x922))
  else none)
  else none)
noncomputable def F29_4z (n : Nat) : Sm G := inZ G 0 ⟨[1, 128, 129, 130], []⟩ F29_4s fun R x K => F29_4 n x.1.2.1 x.1.2.2.1 x.1.2.2.2.1 x.2.1.1 x.2.1.2.1 (fun u0 => K .ret (SSh.enc G F29_4x0 ((u0, ()), ()))) (fun u0 u1 u2 u3 u4 => K .normal (SSh.enc G F29_4x1 (((), (u0, (u1, (u2, ())))), ((u3, (u4, ())), ()))))
theorem F29_4_eq (n : Nat) (R : Type) (x : SSh.den G F29_4s) (K : AE → St G → Option R) :
  F29_4 n x.1.2.1 x.1.2.2.1 x.1.2.2.2.1 x.2.1.1 x.2.1.2.1 (fun u0 => K .ret (SSh.enc G F29_4x0 ((u0, ()), ()))) (fun u0 u1 u2 u3 u4 => K .normal (SSh.enc G F29_4x1 (((), (u0, (u1, (u2, ())))), ((u3, (u4, ())), ())))) = exec prog G (ro G (tabOf (E32 n)) (frOf [F29_0z n, F29_1z n, F29_2z n, F29_3z n]) R) 0 (codeAt F29c [1, 1, 1, 1, 1, 1, 1, 0, 1, 0, 0, 1, 1, 0]) .no (SSh.enc G F29_4s x) (kNrm G (ro G (tabOf (E32 n)) (frOf [F29_0z n, F29_1z n, F29_2z n, F29_3z n]) R) 0 ⟨⟨[1, 128, 129, 130], []⟩, ⟨[2], []⟩, [(5, ⟨[], []⟩)]⟩ K) := by kernel_rfl
theorem F29_4_ok (n : Nat) : FragOK prog G 0 (codeAt F29c [1, 1, 1, 1, 1, 1, 1, 0, 1, 0, 0, 1, 1, 0]) (F29_4z n) :=
  frag_plain laws fnok (E32_ok n).tab (AllF.of (l := []) (by kernel_rfl) AllF.nil) (F29_4_eq n)
noncomputable def F29_5x0 : SSh := ⟨154, [(2, .bool)], []⟩
noncomputable def F29_5x1 : SSh := ⟨154, [], []⟩
noncomputable def F29_5s : SSh := ⟨154, [(1, (.ptr 0 0)), (128, (.imm 3)), (129, (.int .i64)), (130, (.int .i64))], [(.box 26 (.cons (.imm 0) (.cons (.imm 3) .nil)))]⟩
noncomputable def F29_5_step {R : Type} (n : Nat) (k0 : Bool → Option R) (k1 : Option R) (rec : List Ety → Int → Int → List Int → List Ety → Option R) (x912 : List Ety) (x913 : Int) (x914 : Int) (x915 : List Int) (x916 : List Ety) : Option R :=
  (bif (decide (x914 < x913)) then
  (F29_4 n x912 x913 x914 x915 x916 (fun z1009 =>
  (k0 z1009)) (fun z1010 z1011 z1012 z1013 z1014 =>
  (rec z1010 z1011 (IntKind.wrap .i64 (z1012 + (1 : Int))) z1013 z1014)))
  else k1)
noncomputable def F29_5_it {R : Type} (n : Nat) (k0 : Bool → Option R) (k1 : Option R) : Nat → List Ety → Int → Int → List Int → List Ety → Option R
  | 0, _, _, _, _, _ => none
  | k + 1, x912, x913, x914, x915, x916 => F29_5_step n k0 k1 (F29_5_it n k0 k1 k) x912 x913 x914 x915 x916
noncomputable def F29_5 {R : Type} (n : Nat) (x912 : List Ety) (x913 : Int) (x914 : Int) (x915 : List Int) (x916 : List Ety) (k0 : Bool → Option R) (k1 : Option R) : Option R := F29_5_it n k0 k1 n x912 x913 x914 x915 x916
noncomputable def F29_5z (n : Nat) : Sm G := inZ G 0 ⟨[1, 128, 129, 130], []⟩ F29_5s fun R x K => F29_5_it n (fun u0 => K .ret (SSh.enc G F29_5x0 ((u0, ()), ()))) (K (.exit 5) (SSh.enc G F29_5x1 ((), ()))) n x.1.2.1 x.1.2.2.1 x.1.2.2.2.1 x.2.1.1 x.2.1.2.1
theorem F29_5_eq (n : Nat) (R : Type) (rec : SSh.den G F29_5s → Option R) (x : SSh.den G F29_5s) (K : AE → St G → Option R) :
  F29_5_step n (fun u0 => K .ret (SSh.enc G F29_5x0 ((u0, ()), ()))) (K (.exit 5) (SSh.enc G F29_5x1 ((), ()))) (fun x912 x913 x914 x915 x916 => rec (((), (x912, (x913, (x914, ())))), ((x915, (x916, ())), ()))) x.1.2.1 x.1.2.2.1 x.1.2.2.2.1 x.2.1.1 x.2.1.2.1 = exec prog G (ro G (tabOf (E32 n)) (frOf [F29_0z n, F29_1z n, F29_2z n, F29_3z n, F29_4z n]) R) 0 (codeAt F29c [1, 1, 1, 1, 1, 1, 1, 0, 1, 0, 0]) (.nd .no (.nd .no (.nd (.use 4) .no))) (SSh.enc G F29_5s x) (kLoop G (ro G (tabOf (E32 n)) (frOf [F29_0z n, F29_1z n, F29_2z n, F29_3z n, F29_4z n]) R) 0 ⟨[1, 128, 129, 130], []⟩ F29_5s ⟨⟨[], []⟩, ⟨[2], []⟩, [(5, ⟨[], []⟩)]⟩ rec K) := by kernel_rfl
theorem F29_5_ok (n : Nat) : FragOK prog G 0 (codeAt F29c [1, 1, 1, 1, 1, 1, 1, 0, 1, 0]) (F29_5z n) :=
  frag_loop (Z := fun R k (x : SSh.den G F29_5s) K => F29_5_it n (fun u0 => K .ret (SSh.enc G F29_5x0 ((u0, ()), ()))) (K (.exit 5) (SSh.enc G F29_5x1 ((), ()))) k x.1.2.1 x.1.2.2.1 x.1.2.2.2.1 x.2.1.1 x.2.1.2.1) laws fnok (E32_ok n).tab (AllF.of (l := [(4, codeAt F29c [1, 1, 1, 1, 1, 1, 1, 0, 1, 0, 0, 1, 1, 0])]) (by kernel_rfl) (AllF.cons (F29_4_ok n) AllF.nil)) (fun _ _ _ => rfl) (fun R k y K => F29_5_eq n R (fun (x : SSh.den G F29_5s) => F29_5_it n (fun u0 => K .ret (SSh.enc G F29_5x0 ((u0, ()), ()))) (K (.exit 5) (SSh.enc G F29_5x1 ((), ()))) k x.1.2.1 x.1.2.2.1 x.1.2.2.2.1 x.2.1.1 x.2.1.2.1) y K) n
noncomputable def F29 (n : Nat) (a743 : List Int) (a744 : List Ety) : Option (Bool × Unit) :=
  (andThen (F60 n ((8 : Int) :: ((16 : Int) :: ((32 : Int) :: ((64 : Int) :: ((128 : Int) :: []))))) ((a743.length) : Int)) fun r764 =>
  (bif (!r764.1) then
  some (false, ())
  else (bif (decide (((a744.length) : Int) > (IntKind.wrap .i64 ((IntKind.wrap .i64 ((2 : Int) * ((a743.length) : Int))).tdiv (3 : Int))))) then
  some (false, ())
  else (andThen (F61 n a743 a744) fun r795 =>
  (bif (decide (r795.1 > (40 : Int))) then
  some (false, ())
  else let v797 := ((a744.length) : Int)
  (bif (decide ((0 : Int) ≤ v797)) then
  (bif (decide (v797 ≤ v797)) then
  (bif (decide (v797 ≤ ((68719476736 : Nat) : Int))) then
  (F29_1 n (0 : Int) a743 ((a743.length) : Int) (0 : Int) a743 a744 (List.replicate (v797.toNat) (0 : Int)) (fun z840 =>
  some (z840, ())) (fun z841 z842 z843 z844 =>
  (andThen (F61 n z842 z843) fun r846 =>
  (bif (z841 != (IntKind.wrap .i64 (((z843.length) : Int) - r846.1))) then
  some (false, ())
  else (F29_3 n z843 ((z843.length) : Int) (0 : Int) z842 z843 z844 (fun z908 =>
  some (z908, ())) (fun z909 z910 =>
  (F29_5 n z910 ((z910.length) : Int) (0 : Int) z909 z910 (fun z1016 =>
  some (z1016, ())) (
  some (true, ())))))))))
  else none)
  else none)
  else none))))))
noncomputable def F29e (n : Nat) : Ent G := ⟨29, (.cons (.agg (.cons (.imm 0) (.cons (.imm 3) .nil))) .nil), [], .bool, [], fun x y => F29 n x.1.1 x.1.2.1⟩
theorem F29_eq (n : Nat) (x : ShL.den G (.cons (.agg (.cons (.imm 0) (.cons (.imm 3) .nil))) .nil)) (y : denO G []) : (F29e n).F x y = runFn prog G (ro G (tabOf (E32 n)) (frOf [F29_0z n, F29_1z n, F29_2z n, F29_3z n, F29_4z n, F29_5z n]) _) Go.Proofs.Try.f29 (.nd .no (.nd .no (.nd .no (.nd .no (.nd (.nd .no (.nd (.use 1) .no)) (.nd .no (.nd (.nd .no (.nd (.use 3) .no)) (.nd (.nd .no (.nd (.use 5) .no)) .no)))))))) [(0, .fz)] (ShL.enc G (.cons (.agg (.cons (.imm 0) (.cons (.imm 3) .nil))) .nil) x) (encO G [] y) (decR .bool []) := by kernel_rfl
theorem F29_ok (n : Nat) : EntOK prog G (F29e n) :=
  ent_ok (fr := frOf [F29_0z n, F29_1z n, F29_2z n, F29_3z n, F29_4z n, F29_5z n]) (ann := (.nd .no (.nd .no (.nd .no (.nd .no (.nd (.nd .no (.nd (.use 1) .no)) (.nd .no (.nd (.nd .no (.nd (.use 3) .no)) (.nd (.nd .no (.nd (.use 5) .no)) .no))))))))) (frm := [(0, .fz)]) laws fnok (E32_ok n).tab (e := F29e n) (fn := Go.Proofs.Try.f29) (by kernel_rfl) (AllF.ofB (cd := F29c) (l := [(1, codeAt F29c [1, 1, 1, 1, 0, 1, 0]), (3, codeAt F29c [1, 1, 1, 1, 1, 1, 0, 1, 0]), (5, codeAt F29c [1, 1, 1, 1, 1, 1, 1, 0, 1, 0])]) (by kernel_rfl) (by kernel_rfl) (AllF.cons (F29_1_ok n) (AllF.cons (F29_3_ok n) (AllF.cons (F29_5_ok n) AllF.nil)))) (F29_eq n)
noncomputable def E33 (n : Nat) : List (Ent G) := F29e n :: E32 n
theorem E33_ok (n : Nat) : AllE prog G (E33 n) := AllE.cons (F29_ok n) (E32_ok n)
-- 56 (loop.example/slowworm/impl.Dict).find
noncomputable def F56c : Code := bodyOf Go.Proofs.Try.f56
noncomputable def F56 (n : Nat) (a1021 : List Int) (a1022 : List Ety) (a1023 : ByteArray) : Option (Int × Unit) :=
  (andThen (F51 n a1021 a1022 a1023) fun r1024 =>
  let v1026 := (IntKind.wrap .i64 (((r1024.1.length) : Int) - (1 : Int)))
  (bif (decide ((0 : Int) ≤ v1026)) then
  (bif (decide (v1026 < ((r1024.1.length) : Int))) then
  let v1028 := (r1024.1.getD (v1026.toNat) (0 : Int))
  (bif (decide ((0 : Int) ≤ v1028)) then
  (bif (decide (v1028 < ((a1021.length) : Int))) then
  let v1030 := (a1021.getD (v1028.toNat) (0 : Int))
  some ((if ((-1 : Int) > v1030) then (-1 : Int) else v1030), ())
  else none)
  else none)
  else none)
  else none))
noncomputable def F56e (n : Nat) : Ent G := ⟨56, (.cons (.agg (.cons (.imm 0) (.cons (.imm 3) .nil))) (.cons .str .nil)), [], (.int .i64), [], fun x y => F56 n x.1.1 x.1.2.1 x.2.1⟩
theorem F56_eq (n : Nat) (x : ShL.den G (.cons (.agg (.cons (.imm 0) (.cons (.imm 3) .nil))) (.cons .str .nil))) (y : denO G []) : (F56e n).F x y = runFn prog G (ro G (tabOf (E33 n)) (frOf []) _) Go.Proofs.Try.f56 .no [(0, .fz)] (ShL.enc G (.cons (.agg (.cons (.imm 0) (.cons (.imm 3) .nil))) (.cons .str .nil)) x) (encO G [] y) (decR (.int .i64) []) := by kernel_rfl
theorem F56_ok (n : Nat) : EntOK prog G (F56e n) :=
  ent_ok (fr := frOf []) (ann := .no) (frm := [(0, .fz)]) laws fnok (E33_ok n).tab (e := F56e n) (fn := Go.Proofs.Try.f56) (by kernel_rfl) (AllF.ofB (cd := F56c) (l := []) (by kernel_rfl) (by kernel_rfl) AllF.nil) (F56_eq n)
noncomputable def E34 (n : Nat) : List (Ent G) := F56e n :: E33 n
theorem E34_ok (n : Nat) : AllE prog G (E34 n) := AllE.cons (F56_ok n) (E33_ok n)
noncomputable def F20 (n : Nat) (a740 : List Int) (a741 : List Ety) (a742 : ByteArray) : Option ((Int × (Bool × Unit)) × Unit) :=
  (andThen (F29 n a740 a741) fun r1017 =>
  (bif (!r1017.1) then
  some (((0 : Int), (false, ())), ())
  else (bif (decide (((a742.size) : Int) > (20 : Int))) then
  some (((0 : Int), (false, ())), ())
  else (andThen (F56 n a740 a741 a742) fun r1032 =>
  (bif (decide (r1032.1 < (0 : Int))) then
  some (((0 : Int), (false, ())), ())
  else (bif (decide ((0 : Int) ≤ r1032.1)) then
  (bif (decide (r1032.1 < ((a741.length) : Int))) then
  some (((a741.getD (r1032.1.toNat) (Ety.mk ({ data := #[] } : ByteArray) (0 : Int) (0 : Int) false)).val, (true, ())), ())
  else none)
  else none))))))
noncomputable def F20e (n : Nat) : Ent G := ⟨20, (.cons (.agg (.cons (.imm 0) (.cons (.imm 3) .nil))) (.cons .str .nil)), [], (.tup (.cons (.int .i64) (.cons .bool .nil))), [], fun x y => F20 n x.1.1 x.1.2.1 x.2.1⟩
theorem F20_eq (n : Nat) (x : ShL.den G (.cons (.agg (.cons (.imm 0) (.cons (.imm 3) .nil))) (.cons .str .nil))) (y : denO G []) : (F20e n).F x y = runFn prog G (ro G (tabOf (E34 n)) (frOf []) _) Go.Proofs.Try.f20 .no [(0, .fz), (1, .fz)] (ShL.enc G (.cons (.agg (.cons (.imm 0) (.cons (.imm 3) .nil))) (.cons .str .nil)) x) (encO G [] y) (decR (.tup (.cons (.int .i64) (.cons .bool .nil))) []) := by kernel_rfl
theorem F20_ok (n : Nat) : EntOK prog G (F20e n) :=
  ent_ok (fr := frOf []) (ann := .no) (frm := [(0, .fz), (1, .fz)]) laws fnok (E34_ok n).tab (e := F20e n) (fn := Go.Proofs.Try.f20) (by kernel_rfl) (AllF.ofB (cd := F20c) (l := []) (by kernel_rfl) (by kernel_rfl) AllF.nil) (F20_eq n)
noncomputable def E35 (n : Nat) : List (Ent G) := F20e n :: E34 n
theorem E35_ok (n : Nat) : AllE prog G (E35 n) := AllE.cons (F20_ok n) (E34_ok n)
-- 38 loop.example/slowworm/spec.DictGet
noncomputable def F38c : Code := bodyOf Go.Proofs.Try.f38
noncomputable def F38 (n : Nat) (a1037 : List Int) (a1038 : List Ety) (a1039 : ByteArray) : Option ((Int × (Bool × Unit)) × Unit) :=
  (andThen (F52 n a1037 a1038) fun r1040 =>
  (bif (!r1040.1) then
  some (((0 : Int), (false, ())), ())
  else (andThen (F53 n a1039) fun r1042 =>
  (bif (!r1042.1) then
  some (((0 : Int), (false, ())), ())
  else (andThen (F67 n a1037 a1038 a1039) fun r1044 =>
  (bif (decide ((0 : Int) ≤ r1044.1)) then
  (bif (decide (r1044.1 < ((a1037.length) : Int))) then
  let v1046 := (a1037.getD (r1044.1.toNat) (0 : Int))
  (bif (decide (v1046 < (0 : Int))) then
  some (((0 : Int), (false, ())), ())
  else (bif (decide ((0 : Int) ≤ v1046)) then
  (bif (decide (v1046 < ((a1038.length) : Int))) then
  some (((a1038.getD (v1046.toNat) (Ety.mk ({ data := #[] } : ByteArray) (0 : Int) (0 : Int) false)).val, (true, ())), ())
  else none)
  else none))
  else none)
  else none))))))
noncomputable def F38e (n : Nat) : Ent G := ⟨38, (.cons (.agg (.cons (.imm 0) (.cons (.imm 3) .nil))) (.cons .str .nil)), [], (.tup (.cons (.int .i64) (.cons .bool .nil))), [], fun x y => F38 n x.1.1 x.1.2.1 x.2.1⟩
theorem F38_eq (n : Nat) (x : ShL.den G (.cons (.agg (.cons (.imm 0) (.cons (.imm 3) .nil))) (.cons .str .nil))) (y : denO G []) : (F38e n).F x y = runFn prog G (ro G (tabOf (E35 n)) (frOf []) _) Go.Proofs.Try.f38 .no [(0, .fz), (1, .fz)] (ShL.enc G (.cons (.agg (.cons (.imm 0) (.cons (.imm 3) .nil))) (.cons .str .nil)) x) (encO G [] y) (decR (.tup (.cons (.int .i64) (.cons .bool .nil))) []) := by kernel_rfl
theorem F38_ok (n : Nat) : EntOK prog G (F38e n) :=
  ent_ok (fr := frOf []) (ann := .no) (frm := [(0, .fz), (1, .fz)]) laws fnok (E35_ok n).tab (e := F38e n) (fn := Go.Proofs.Try.f38) (by kernel_rfl) (AllF.ofB (cd := F38c) (l := []) (by kernel_rfl) (by kernel_rfl) AllF.nil) (F38_eq n)
noncomputable def E36 (n : Nat) : List (Ent G) := F38e n :: E35 n
theorem E36_ok (n : Nat) : AllE prog G (E36 n) := AllE.cons (F38_ok n) (E35_ok n)
-- 69 (loop.example/slowworm/impl.Dict).clone
noncomputable def F69c : Code := bodyOf Go.Proofs.Try.f69
-- 84 slices.Clone[[]int,int]
noncomputable def F84c : Code := bodyOf Go.Proofs.Try.f84
noncomputable def F84 (n : Nat) (a1064 : List Int) : Option (Unit × (List Int × Unit)) :=
  (bif (decide ((a1064.length) ≤ (0 : Nat))) then
  (both
  (some ((), ([], ())))
  (let v1066 := []
  (bif (decide (((v1066.length) + (a1064.length)) ≤ (68719476736 : Nat))) then
  some ((), ((v1066 ++ a1064), ()))
  else none)))
  else let v1068 := []
  (bif (decide (((v1068.length) + (a1064.length)) ≤ (68719476736 : Nat))) then
  some ((), ((v1068 ++ a1064), ()))
  else none))
noncomputable def F84e (n : Nat) : Ent G := ⟨84, (.cons (.imm 0) .nil), [], (.own 0), [(.arr 0 true)], fun x y => F84 n x.1⟩
theorem F84_eq (n : Nat) (x : ShL.den G (.cons (.imm 0) .nil)) (y : denO G []) : (F84e n).F x y = runFn prog G (ro G (tabOf (E36 n)) (frOf []) _) Go.Proofs.Try.f84 .no [(0, (.own 0))] (ShL.enc G (.cons (.imm 0) .nil) x) (encO G [] y) (decR (.own 0) [(.arr 0 true)]) := by kernel_rfl
theorem F84_ok (n : Nat) : EntOK prog G (F84e n) :=
  ent_ok (fr := frOf []) (ann := .no) (frm := [(0, (.own 0))]) laws fnok (E36_ok n).tab (e := F84e n) (fn := Go.Proofs.Try.f84) (by kernel_rfl) (AllF.ofB (cd := F84c) (l := []) (by kernel_rfl) (by kernel_rfl) AllF.nil) (F84_eq n)
noncomputable def E37 (n : Nat) : List (Ent G) := F84e n :: E36 n
theorem E37_ok (n : Nat) : AllE prog G (E37 n) := AllE.cons (F84_ok n) (E36_ok n)
-- 85 slices.Clone[[]loop.example/slowworm/impl.Entry,loop.example/slowworm/impl.Entry]
noncomputable def F85c : Code := bodyOf Go.Proofs.Try.f85
noncomputable def F85 (n : Nat) (a1071 : List Ety) : Option (Unit × (List Ety × Unit)) :=
  (bif (decide ((a1071.length) ≤ (0 : Nat))) then
  (both
  (some ((), ([], ())))
  (let v1073 := []
  (bif (decide (((v1073.length) + (a1071.length)) ≤ (68719476736 : Nat))) then
  some ((), ((v1073 ++ a1071), ()))
  else none)))
  else let v1075 := []
  (bif (decide (((v1075.length) + (a1071.length)) ≤ (68719476736 : Nat))) then
  some ((), ((v1075 ++ a1071), ()))
  else none))
noncomputable def F85e (n : Nat) : Ent G := ⟨85, (.cons (.imm 3) .nil), [], (.own 0), [(.arr 3 true)], fun x y => F85 n x.1⟩
theorem F85_eq (n : Nat) (x : ShL.den G (.cons (.imm 3) .nil)) (y : denO G []) : (F85e n).F x y = runFn prog G (ro G (tabOf (E37 n)) (frOf []) _) Go.Proofs.Try.f85 .no [(0, (.own 3))] (ShL.enc G (.cons (.imm 3) .nil) x) (encO G [] y) (decR (.own 0) [(.arr 3 true)]) := by kernel_rfl
theorem F85_ok (n : Nat) : EntOK prog G (F85e n) :=
  ent_ok (fr := frOf []) (ann := .no) (frm := [(0, (.own 3))]) laws fnok (E37_ok n).tab (e := F85e n) (fn := Go.Proofs.Try.f85) (by kernel_rfl) (AllF.ofB (cd := F85c) (l := []) (by kernel_rfl) (by kernel_rfl) AllF.nil) (F85_eq n)
noncomputable def E38 (n : Nat) : List (Ent G) := F85e n :: E37 n
theorem E38_ok (n : Nat) : AllE prog G (E38 n) := AllE.cons (F85_ok n) (E37_ok n)
noncomputable def F69 (n : Nat) (a1062 : List Int) (a1063 : List Ety) : Option ((Unit × (Unit × Unit)) × (List Int × (List Ety × Unit))) :=
  (andThen (F84 n a1062) fun r1070 =>
  (andThen (F85 n a1063) fun r1077 =>
  some (((), ((), ())), (r1070.2.1, (r1077.2.1, ())))))
noncomputable def F69e (n : Nat) : Ent G := ⟨69, (.cons (.agg (.cons (.imm 0) (.cons (.imm 3) .nil))) .nil), [], (.agg (.cons (.own 0) (.cons (.own 1) .nil))), [(.arr 0 true), (.arr 3 true)], fun x y => F69 n x.1.1 x.1.2.1⟩
theorem F69_eq (n : Nat) (x : ShL.den G (.cons (.agg (.cons (.imm 0) (.cons (.imm 3) .nil))) .nil)) (y : denO G []) : (F69e n).F x y = runFn prog G (ro G (tabOf (E38 n)) (frOf []) _) Go.Proofs.Try.f69 .no [] (ShL.enc G (.cons (.agg (.cons (.imm 0) (.cons (.imm 3) .nil))) .nil) x) (encO G [] y) (decR (.agg (.cons (.own 0) (.cons (.own 1) .nil))) [(.arr 0 true), (.arr 3 true)]) := by kernel_rfl
theorem F69_ok (n : Nat) : EntOK prog G (F69e n) :=
  ent_ok (fr := frOf []) (ann := .no) (frm := []) laws fnok (E38_ok n).tab (e := F69e n) (fn := Go.Proofs.Try.f69) (by kernel_rfl) (AllF.ofB (cd := F69c) (l := []) (by kernel_rfl) (by kernel_rfl) AllF.nil) (F69_eq n)
noncomputable def E39 (n : Nat) : List (Ent G) := F69e n :: E38 n
theorem E39_ok (n : Nat) : AllE prog G (E39 n) := AllE.cons (F69_ok n) (E38_ok n)
-- 51 (loop.example/slowworm/impl.Dict).probe
end Go.Proofs.Ytdnbepnajhggpaa.Am
