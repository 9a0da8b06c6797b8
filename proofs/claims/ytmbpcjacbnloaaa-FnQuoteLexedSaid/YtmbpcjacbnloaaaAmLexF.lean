/- The functions of the seat of quoted texts, printed. -/
import Derived.Test.YtmbpcjacbnloaaaAmLexLib
namespace Go.Proofs.Ytmbpcjacbnloaaa.Am
open Go Go.Proofs.Try
set_option autoImplicit false
set_option linter.unusedVariables false
set_option maxRecDepth 100000
noncomputable def E0 (n : Nat) : List (Ent G) := [L27e, L20e, indexByteE]
theorem E0_ok (n : Nat) : AllE prog G (E0 n) := AllE.cons L27_ok (AllE.cons L20_ok (AllE.cons indexByte_ok AllE.nil))
-- 3 loop.example/slowworm/laws.FnQuoteLexed
noncomputable def F3c : Code := bodyOf Go.Proofs.Try.f3
-- 4 loop.example/slowworm/spec.DrawTextQuote
noncomputable def F4c : Code := bodyOf Go.Proofs.Try.f4
-- 8 loop.example/slowworm/spec.newRnd
noncomputable def F8c : Code := bodyOf Go.Proofs.Try.f8
noncomputable def F8 (n : Nat) (a4 : List Int) : Option (Unit × ((List Int × (Int × Unit)) × Unit)) :=
  let v5 := ((a4.length) : Int)
  let v6 := (if ((4000 : Int) < v5) then (4000 : Int) else v5)
  (bif (decide ((0 : Int) ≤ v6)) then
  (bif (decide (v6 ≤ ((a4.length) : Int))) then
  some ((), ((((a4.take (v6.toNat)).drop (0 : Nat)), ((0 : Int), ())), ()))
  else none)
  else none)
noncomputable def F8e (n : Nat) : Ent G := ⟨8, (.cons (.imm 1) .nil), [], (.ptr 0 0), [(.box 44 (.cons (.imm 1) (.cons (.int .i64) .nil)))], fun x y => F8 n x.1⟩
theorem F8_eq (n : Nat) (x : ShL.den G (.cons (.imm 1) .nil)) (y : denO G []) : (F8e n).F x y = runFn prog G (ro G (tabOf (E0 n)) (frOf []) _) Go.Proofs.Try.f8 .no [(0, .fz)] (ShL.enc G (.cons (.imm 1) .nil) x) (encO G [] y) (decR (.ptr 0 0) [(.box 44 (.cons (.imm 1) (.cons (.int .i64) .nil)))]) := by kernel_rfl
theorem F8_ok (n : Nat) : EntOK prog G (F8e n) :=
  ent_ok (fr := frOf []) (ann := .no) (frm := [(0, .fz)]) laws fnok (E0_ok n).tab (e := F8e n) (fn := Go.Proofs.Try.f8) (by kernel_rfl) (AllF.ofB (cd := F8c) (l := []) (by kernel_rfl) (by kernel_rfl) AllF.nil) (F8_eq n)
noncomputable def E1 (n : Nat) : List (Ent G) := F8e n :: E0 n
theorem E1_ok (n : Nat) : AllE prog G (E1 n) := AllE.cons (F8_ok n) (E0_ok n)
-- 9 (*loop.example/slowworm/spec.rnd).text
noncomputable def F9c : Code := bodyOf Go.Proofs.Try.f9
-- 16 (*loop.example/slowworm/spec.rnd).pick
noncomputable def F16c : Code := bodyOf Go.Proofs.Try.f16
noncomputable def F16_0x0 : SSh := ⟨101, [(0, (.ptr 0 0)), (1, (.int .i64)), (5, (.int .i64))], [(.box 44 (.cons (.imm 1) (.cons (.int .i64) .nil)))]⟩
noncomputable def F16_0s : SSh := ⟨101, [(0, (.ptr 0 0)), (1, (.int .i64)), (5, (.int .i64))], [(.box 44 (.cons (.imm 1) (.cons (.int .i64) .nil)))]⟩
noncomputable def F16_0 {R : Type} (n : Nat) (x15 : Int) (x16 : Int) (x17 : List Int) (x18 : Int) (k0 : Int → Int → List Int → Int → Option R) : Option R :=
  (bif (decide (((x17.length) : Int) > (0 : Int))) then
  let v21 := ((x17.length) : Int)
  (bif (!(decide (v21 = (0 : Int)))) then
  let v22 := (x18.tmod v21)
  (bif (decide ((0 : Int) ≤ v22)) then
  (bif (decide (v22 < ((x17.length) : Int))) then
  let v25 := (IntKind.wrap .i64 (x17.getD (v22.toNat) (0 : Int)))
  (bif (decide (x15 > (256 : Int))) then
  let v30 := ((x17.length) : Int)
  (bif (!(decide (v30 = (0 : Int)))) then
  let v31 := ((IntKind.wrap .i64 ((IntKind.wrap .i64 (x18 * (7 : Int))) + (3 : Int))).tmod v30)
  (bif (decide ((0 : Int) ≤ v31)) then
  (bif (decide (v31 < ((x17.length) : Int))) then
  let v39 := ((x17.length) : Int)
  (bif (!(decide (v39 = (0 : Int)))) then
  let v42 := (IntKind.wrap .i64 ((IntKind.wrap .i64 ((IntKind.wrap .i64 ((IntKind.wrap .i64 (v25 * (131 : Int))) + (IntKind.wrap .i64 ((IntKind.wrap .i64 (x17.getD (v31.toNat) (0 : Int))) * (1117 : Int))))) + (IntKind.wrap .i64 (x18 * (29 : Int))))) + (IntKind.wrap .i64 ((IntKind.wrap .i64 (x18.tdiv v39)) * (53 : Int)))))
  (k0 x15 (IntKind.wrap .i64 ((((BitVec.ofInt (64 : Nat) v42) ^^^ (BitVec.ofInt (64 : Nat) (IntKind.wrap .i64 (v42.tdiv (64 : Int))))).toNat) : Int)) x17 x18)
  else none)
  else none)
  else none)
  else none)
  else (bif (decide (x18 ≥ ((x17.length) : Int))) then
  let v50 := ((x17.length) : Int)
  (bif (!(decide (v50 = (0 : Int)))) then
  let v51 := ((IntKind.wrap .i64 ((IntKind.wrap .i64 (x18 * (7 : Int))) + (3 : Int))).tmod v50)
  (bif (decide ((0 : Int) ≤ v51)) then
  (bif (decide (v51 < ((x17.length) : Int))) then
  let v59 := ((x17.length) : Int)
  (bif (!(decide (v59 = (0 : Int)))) then
  let v62 := (IntKind.wrap .i64 ((IntKind.wrap .i64 ((IntKind.wrap .i64 ((IntKind.wrap .i64 (v25 * (131 : Int))) + (IntKind.wrap .i64 ((IntKind.wrap .i64 (x17.getD (v51.toNat) (0 : Int))) * (1117 : Int))))) + (IntKind.wrap .i64 (x18 * (29 : Int))))) + (IntKind.wrap .i64 ((IntKind.wrap .i64 (x18.tdiv v59)) * (53 : Int)))))
  (k0 x15 (IntKind.wrap .i64 ((((BitVec.ofInt (64 : Nat) v62) ^^^ (BitVec.ofInt (64 : Nat) (IntKind.wrap .i64 (v62.tdiv (64 : Int))))).toNat) : Int)) x17 x18)
  else none)
  else none)
  else none)
  else none)
  else (k0 x15 v25 x17 x18)))
  else none)
  else none)
  else none)
  else (k0 x15 x16 x17 x18))
noncomputable def F16_0z (n : Nat) : Sm G := inZ G 1 ⟨[0, 1, 5], []⟩ F16_0s fun R x K => F16_0 n x.1.2.1 x.1.2.2.1 x.2.1.1 x.2.1.2.1 (fun u0 u1 u2 u3 => K .normal (SSh.enc G F16_0x0 (((), (u0, (u1, ()))), ((u2, (u3, ())), ()))))
theorem F16_0_eq (n : Nat) (R : Type) (x : SSh.den G F16_0s) (K : AE → St G → Option R) :
  F16_0 n x.1.2.1 x.1.2.2.1 x.2.1.1 x.2.1.2.1 (fun u0 u1 u2 u3 => K .normal (SSh.enc G F16_0x0 (((), (u0, (u1, ()))), ((u2, (u3, ())), ())))) = exec prog G (ro G (tabOf (E1 n)) (frOf []) R) 1 (codeAt F16c [1, 1, 1, 0]) .no (SSh.enc G F16_0s x) (kNrm G (ro G (tabOf (E1 n)) (frOf []) R) 1 ⟨⟨[0, 1, 5], []⟩, ⟨[4], []⟩, []⟩ K) := by kernel_rfl
theorem F16_0_ok (n : Nat) : FragOK prog G 1 (codeAt F16c [1, 1, 1, 0]) (F16_0z n) :=
  frag_plain laws fnok (E1_ok n).tab (AllF.of (l := []) (by kernel_rfl) AllF.nil) (F16_0_eq n)
noncomputable def F16 (n : Nat) (a11 : Int) (a12 : List Int) (a13 : Int) : Option (Int × ((List Int × (Int × Unit)) × Unit)) :=
  (bif (decide (a11 < (2 : Int))) then
  some ((0 : Int), ((a12, (a13, ())), ()))
  else (F16_0 n a11 (0 : Int) a12 a13 (fun z65 z66 z67 z68 =>
  (bif (!(decide (z65 = (0 : Int)))) then
  some ((z66.tmod z65), ((z67, ((IntKind.wrap .i64 (z68 + (1 : Int))), ())), ()))
  else none))))
noncomputable def F16e (n : Nat) : Ent G := ⟨16, (.cons (.ptr 0 0) (.cons (.int .i64) .nil)), [(.box 44 (.cons (.imm 1) (.cons (.int .i64) .nil)))], (.int .i64), [(.box 44 (.cons (.imm 1) (.cons (.int .i64) .nil)))], fun x y => F16 n x.2.1 y.1.1 y.1.2.1⟩
theorem F16_eq (n : Nat) (x : ShL.den G (.cons (.ptr 0 0) (.cons (.int .i64) .nil))) (y : denO G [(.box 44 (.cons (.imm 1) (.cons (.int .i64) .nil)))]) : (F16e n).F x y = runFn prog G (ro G (tabOf (E1 n)) (frOf [F16_0z n]) _) Go.Proofs.Try.f16 (.nd .no (.nd .no (.nd .no (.nd (.use 0) .no)))) [(0, .fz)] (ShL.enc G (.cons (.ptr 0 0) (.cons (.int .i64) .nil)) x) (encO G [(.box 44 (.cons (.imm 1) (.cons (.int .i64) .nil)))] y) (decR (.int .i64) [(.box 44 (.cons (.imm 1) (.cons (.int .i64) .nil)))]) := by kernel_rfl
theorem F16_ok (n : Nat) : EntOK prog G (F16e n) :=
  ent_ok (fr := frOf [F16_0z n]) (ann := (.nd .no (.nd .no (.nd .no (.nd (.use 0) .no))))) (frm := [(0, .fz)]) laws fnok (E1_ok n).tab (e := F16e n) (fn := Go.Proofs.Try.f16) (by kernel_rfl) (AllF.ofB (cd := F16c) (l := [(0, codeAt F16c [1, 1, 1, 0])]) (by kernel_rfl) (by kernel_rfl) (AllF.cons (F16_0_ok n) AllF.nil)) (F16_eq n)
noncomputable def E2 (n : Nat) : List (Ent G) := F16e n :: E1 n
theorem E2_ok (n : Nat) : AllE prog G (E2 n) := AllE.cons (F16_ok n) (E1_ok n)
-- 17 (*loop.example/slowworm/spec.rnd).of
noncomputable def F17c : Code := bodyOf Go.Proofs.Try.f17
noncomputable def F17 (n : Nat) (a81 : List ByteArray) (a82 : List Int) (a83 : Int) : Option (ByteArray × ((List Int × (Int × Unit)) × Unit)) :=
  (andThen (F16 n ((a81.length) : Int) a82 a83) fun r85 =>
  (bif (decide ((0 : Int) ≤ r85.1)) then
  (bif (decide (r85.1 < ((a81.length) : Int))) then
  some ((a81.getD (r85.1.toNat) ({ data := #[] } : ByteArray)), ((r85.2.1.1, (r85.2.1.2.1, ())), ()))
  else none)
  else none))
noncomputable def F17e (n : Nat) : Ent G := ⟨17, (.cons (.ptr 0 0) (.cons (.imm 2) .nil)), [(.box 44 (.cons (.imm 1) (.cons (.int .i64) .nil)))], .str, [(.box 44 (.cons (.imm 1) (.cons (.int .i64) .nil)))], fun x y => F17 n x.2.1 y.1.1 y.1.2.1⟩
theorem F17_eq (n : Nat) (x : ShL.den G (.cons (.ptr 0 0) (.cons (.imm 2) .nil))) (y : denO G [(.box 44 (.cons (.imm 1) (.cons (.int .i64) .nil)))]) : (F17e n).F x y = runFn prog G (ro G (tabOf (E2 n)) (frOf []) _) Go.Proofs.Try.f17 .no [(0, .fz)] (ShL.enc G (.cons (.ptr 0 0) (.cons (.imm 2) .nil)) x) (encO G [(.box 44 (.cons (.imm 1) (.cons (.int .i64) .nil)))] y) (decR .str [(.box 44 (.cons (.imm 1) (.cons (.int .i64) .nil)))]) := by kernel_rfl
theorem F17_ok (n : Nat) : EntOK prog G (F17e n) :=
  ent_ok (fr := frOf []) (ann := .no) (frm := [(0, .fz)]) laws fnok (E2_ok n).tab (e := F17e n) (fn := Go.Proofs.Try.f17) (by kernel_rfl) (AllF.ofB (cd := F17c) (l := []) (by kernel_rfl) (by kernel_rfl) AllF.nil) (F17_eq n)
noncomputable def E3 (n : Nat) : List (Ent G) := F17e n :: E2 n
theorem E3_ok (n : Nat) : AllE prog G (E3 n) := AllE.cons (F17_ok n) (E2_ok n)
noncomputable def F9_0x0 : SSh := ⟨27, [(0, (.ptr 0 0)), (3, .str)], [(.box 44 (.cons (.imm 1) (.cons (.int .i64) .nil)))]⟩
noncomputable def F9_0s : SSh := ⟨27, [(0, (.ptr 0 0)), (3, .str), (4, (.int .i64))], [(.box 44 (.cons (.imm 1) (.cons (.int .i64) .nil)))]⟩
noncomputable def F9_0_step {R : Type} (n : Nat) (k0 : ByteArray → List Int → Int → Option R) (rec : ByteArray → Int → List Int → Int → Option R) (x72 : ByteArray) (x73 : Int) (x74 : List Int) (x75 : Int) : Option R :=
  (bif (decide (x73 > (0 : Int))) then
  (andThen (F17 n (({ data := #[97] } : ByteArray) :: (({ data := #[98] } : ByteArray) :: (({ data := #[97, 98] } : ByteArray) :: (({ data := #[32] } : ByteArray) :: (({ data := #[97, 98, 97] } : ByteArray) :: (({ data := #[10] } : ByteArray) :: (({ data := #[39] } : ByteArray) :: ((bytesOfInts (List.map (fun y79 => y79) ((92 : Int) :: []))) :: (({ data := #[0] } : ByteArray) :: (({ data := #[255] } : ByteArray) :: (({ data := #[195, 169] } : ByteArray) :: (({ data := #[44] } : ByteArray) :: [])))))))))))) x74 x75) fun r88 =>
  (bif (decide (((x72.size) + (r88.1.size)) ≤ (68719476736 : Nat))) then
  (rec (x72 ++ r88.1) (IntKind.wrap .i64 (x73 - (1 : Int))) r88.2.1.1 r88.2.1.2.1)
  else none))
  else (k0 x72 x74 x75))
noncomputable def F9_0_it {R : Type} (n : Nat) (k0 : ByteArray → List Int → Int → Option R) : Nat → ByteArray → Int → List Int → Int → Option R
  | 0, _, _, _, _ => none
  | k + 1, x72, x73, x74, x75 => F9_0_step n k0 (F9_0_it n k0 k) x72 x73 x74 x75
noncomputable def F9_0 {R : Type} (n : Nat) (x72 : ByteArray) (x73 : Int) (x74 : List Int) (x75 : Int) (k0 : ByteArray → List Int → Int → Option R) : Option R := F9_0_it n k0 n x72 x73 x74 x75
noncomputable def F9_0z (n : Nat) : Sm G := inZ G 1 ⟨[0, 3, 4], []⟩ F9_0s fun R x K => F9_0_it n (fun u0 u1 u2 => K (.exit 0) (SSh.enc G F9_0x0 (((), (u0, ())), ((u1, (u2, ())), ())))) n x.1.2.1 x.1.2.2.1 x.2.1.1 x.2.1.2.1
theorem F9_0_eq (n : Nat) (R : Type) (rec : SSh.den G F9_0s → Option R) (x : SSh.den G F9_0s) (K : AE → St G → Option R) :
  F9_0_step n (fun u0 u1 u2 => K (.exit 0) (SSh.enc G F9_0x0 (((), (u0, ())), ((u1, (u2, ())), ())))) (fun x72 x73 x74 x75 => rec (((), (x72, (x73, ()))), ((x74, (x75, ())), ()))) x.1.2.1 x.1.2.2.1 x.2.1.1 x.2.1.2.1 = exec prog G (ro G (tabOf (E3 n)) (frOf []) R) 1 (codeAt F9c [1, 1, 0, 1, 0, 0]) .no (SSh.enc G F9_0s x) (kLoop G (ro G (tabOf (E3 n)) (frOf []) R) 1 ⟨[0, 3, 4], []⟩ F9_0s ⟨⟨[0, 3], []⟩, ⟨[2], []⟩, [(0, ⟨[0, 3], []⟩)]⟩ rec K) := by kernel_rfl
theorem F9_0_ok (n : Nat) : FragOK prog G 1 (codeAt F9c [1, 1, 0, 1, 0]) (F9_0z n) :=
  frag_loop (Z := fun R k (x : SSh.den G F9_0s) K => F9_0_it n (fun u0 u1 u2 => K (.exit 0) (SSh.enc G F9_0x0 (((), (u0, ())), ((u1, (u2, ())), ())))) k x.1.2.1 x.1.2.2.1 x.2.1.1 x.2.1.2.1) laws fnok (E3_ok n).tab (AllF.of (l := []) (by kernel_rfl) AllF.nil) (fun _ _ _ => rfl) (fun R k y K => F9_0_eq n R (fun (x : SSh.den G F9_0s) => F9_0_it n (fun u0 u1 u2 => K (.exit 0) (SSh.enc G F9_0x0 (((), (u0, ())), ((u1, (u2, ())), ())))) k x.1.2.1 x.1.2.2.1 x.2.1.1 x.2.1.2.1) y K) n
noncomputable def F9_1x0 : SSh := ⟨27, [(3, .str)], [(.box 44 (.cons (.imm 1) (.cons (.int .i64) .nil)))]⟩
noncomputable def F9_1s : SSh := ⟨27, [(3, .str)], [(.box 44 (.cons (.imm 1) (.cons (.int .i64) .nil)))]⟩
noncomputable def F9_1_step {R : Type} (n : Nat) (k0 : ByteArray → List Int → Int → Option R) (rec : ByteArray → List Int → Int → Option R) (x99 : ByteArray) (x100 : List Int) (x101 : Int) : Option R :=
  (bif (decide (((x99.size) : Int) < (399 : Int))) then
  (bif (decide (((x99.size) + (2 : Nat)) ≤ (68719476736 : Nat))) then
  (rec (x99 ++ ({ data := #[97, 98] } : ByteArray)) x100 x101)
  else none)
  else (k0 x99 x100 x101))
noncomputable def F9_1_it {R : Type} (n : Nat) (k0 : ByteArray → List Int → Int → Option R) : Nat → ByteArray → List Int → Int → Option R
  | 0, _, _, _ => none
  | k + 1, x99, x100, x101 => F9_1_step n k0 (F9_1_it n k0 k) x99 x100 x101
noncomputable def F9_1 {R : Type} (n : Nat) (x99 : ByteArray) (x100 : List Int) (x101 : Int) (k0 : ByteArray → List Int → Int → Option R) : Option R := F9_1_it n k0 n x99 x100 x101
noncomputable def F9_1z (n : Nat) : Sm G := inZ G 1 ⟨[3], []⟩ F9_1s fun R x K => F9_1_it n (fun u0 u1 u2 => K (.exit 2) (SSh.enc G F9_1x0 ((u0, ()), ((u1, (u2, ())), ())))) n x.1.1 x.2.1.1 x.2.1.2.1
theorem F9_1_eq (n : Nat) (R : Type) (rec : SSh.den G F9_1s → Option R) (x : SSh.den G F9_1s) (K : AE → St G → Option R) :
  F9_1_step n (fun u0 u1 u2 => K (.exit 2) (SSh.enc G F9_1x0 ((u0, ()), ((u1, (u2, ())), ())))) (fun x99 x100 x101 => rec ((x99, ()), ((x100, (x101, ())), ()))) x.1.1 x.2.1.1 x.2.1.2.1 = exec prog G (ro G (tabOf (E3 n)) (frOf [F9_0z n]) R) 1 (codeAt F9c [1, 1, 1, 0, 1, 0, 0, 0]) .no (SSh.enc G F9_1s x) (kLoop G (ro G (tabOf (E3 n)) (frOf [F9_0z n]) R) 1 ⟨[3], []⟩ F9_1s ⟨⟨[3], []⟩, ⟨[2], []⟩, [(2, ⟨[3], []⟩)]⟩ rec K) := by kernel_rfl
theorem F9_1_ok (n : Nat) : FragOK prog G 1 (codeAt F9c [1, 1, 1, 0, 1, 0, 0]) (F9_1z n) :=
  frag_loop (Z := fun R k (x : SSh.den G F9_1s) K => F9_1_it n (fun u0 u1 u2 => K (.exit 2) (SSh.enc G F9_1x0 ((u0, ()), ((u1, (u2, ())), ())))) k x.1.1 x.2.1.1 x.2.1.2.1) laws fnok (E3_ok n).tab (AllF.of (l := []) (by kernel_rfl) AllF.nil) (fun _ _ _ => rfl) (fun R k y K => F9_1_eq n R (fun (x : SSh.den G F9_1s) => F9_1_it n (fun u0 u1 u2 => K (.exit 2) (SSh.enc G F9_1x0 ((u0, ()), ((u1, (u2, ())), ())))) k x.1.1 x.2.1.1 x.2.1.2.1) y K) n
noncomputable def F9_2x0 : SSh := ⟨27, [(3, .str)], [(.box 44 (.cons (.imm 1) (.cons (.int .i64) .nil)))]⟩
noncomputable def F9_2s : SSh := ⟨27, [(0, (.ptr 0 0)), (3, .str)], [(.box 44 (.cons (.imm 1) (.cons (.int .i64) .nil)))]⟩
noncomputable def F9_2 {R : Type} (n : Nat) (x94 : ByteArray) (x95 : List Int) (x96 : Int) (k0 : ByteArray → List Int → Int → Option R) : Option R :=
  (andThen (F16 n (40 : Int) x95 x96) fun r97 =>
  (bif (r97.1 == (0 : Int)) then
  (F9_1 n x94 r97.2.1.1 r97.2.1.2.1 (fun z105 z106 z107 =>
  (k0 z105 z106 z107)))
  else (k0 x94 r97.2.1.1 r97.2.1.2.1)))
noncomputable def F9_2z (n : Nat) : Sm G := inZ G 1 ⟨[0, 3], []⟩ F9_2s fun R x K => F9_2 n x.1.2.1 x.2.1.1 x.2.1.2.1 (fun u0 u1 u2 => K .normal (SSh.enc G F9_2x0 ((u0, ()), ((u1, (u2, ())), ()))))
theorem F9_2_eq (n : Nat) (R : Type) (x : SSh.den G F9_2s) (K : AE → St G → Option R) :
  F9_2 n x.1.2.1 x.2.1.1 x.2.1.2.1 (fun u0 u1 u2 => K .normal (SSh.enc G F9_2x0 ((u0, ()), ((u1, (u2, ())), ())))) = exec prog G (ro G (tabOf (E3 n)) (frOf [F9_0z n, F9_1z n]) R) 1 (codeAt F9c [1, 1, 1, 0]) (.nd .no (.nd (.nd (.use 1) .no) .no)) (SSh.enc G F9_2s x) (kNrm G (ro G (tabOf (E3 n)) (frOf [F9_0z n, F9_1z n]) R) 1 ⟨⟨[3], []⟩, ⟨[2], []⟩, []⟩ K) := by kernel_rfl
theorem F9_2_ok (n : Nat) : FragOK prog G 1 (codeAt F9c [1, 1, 1, 0]) (F9_2z n) :=
  frag_plain laws fnok (E3_ok n).tab (AllF.of (l := [(1, codeAt F9c [1, 1, 1, 0, 1, 0, 0])]) (by kernel_rfl) (AllF.cons (F9_1_ok n) AllF.nil)) (F9_2_eq n)
noncomputable def F9 (n : Nat) (a9 : List Int) (a10 : Int) : Option (ByteArray × ((List Int × (Int × Unit)) × Unit)) :=
  (andThen (F16 n (9 : Int) a9 a10) fun r71 =>
  (F9_0 n ({ data := #[] } : ByteArray) r71.1 r71.2.1.1 r71.2.1.2.1 (fun z91 z92 z93 =>
  (F9_2 n z91 z92 z93 (fun z108 z109 z110 =>
  some (z108, ((z109, (z110, ())), ())))))))
noncomputable def F9e (n : Nat) : Ent G := ⟨9, (.cons (.ptr 0 0) .nil), [(.box 44 (.cons (.imm 1) (.cons (.int .i64) .nil)))], .str, [(.box 44 (.cons (.imm 1) (.cons (.int .i64) .nil)))], fun x y => F9 n y.1.1 y.1.2.1⟩
theorem F9_eq (n : Nat) (x : ShL.den G (.cons (.ptr 0 0) .nil)) (y : denO G [(.box 44 (.cons (.imm 1) (.cons (.int .i64) .nil)))]) : (F9e n).F x y = runFn prog G (ro G (tabOf (E3 n)) (frOf [F9_0z n, F9_1z n, F9_2z n]) _) Go.Proofs.Try.f9 (.nd .no (.nd .no (.nd (.nd .no (.nd (.use 0) .no)) (.nd (.use 2) .no)))) [(0, .fz)] (ShL.enc G (.cons (.ptr 0 0) .nil) x) (encO G [(.box 44 (.cons (.imm 1) (.cons (.int .i64) .nil)))] y) (decR .str [(.box 44 (.cons (.imm 1) (.cons (.int .i64) .nil)))]) := by kernel_rfl
theorem F9_ok (n : Nat) : EntOK prog G (F9e n) :=
  ent_ok (fr := frOf [F9_0z n, F9_1z n, F9_2z n]) (ann := (.nd .no (.nd .no (.nd (.nd .no (.nd (.use 0) .no)) (.nd (.use 2) .no))))) (frm := [(0, .fz)]) laws fnok (E3_ok n).tab (e := F9e n) (fn := Go.Proofs.Try.f9) (by kernel_rfl) (AllF.ofB (cd := F9c) (l := [(0, codeAt F9c [1, 1, 0, 1, 0]), (2, codeAt F9c [1, 1, 1, 0])]) (by kernel_rfl) (by kernel_rfl) (AllF.cons (F9_0_ok n) (AllF.cons (F9_2_ok n) AllF.nil))) (F9_eq n)
noncomputable def E4 (n : Nat) : List (Ent G) := F9e n :: E3 n
theorem E4_ok (n : Nat) : AllE prog G (E4 n) := AllE.cons (F9_ok n) (E3_ok n)
noncomputable def F4 (n : Nat) (a3 : List Int) : Option (ByteArray × Unit) :=
  (andThen (F8 n a3) fun r8 =>
  (andThen (F9 n r8.2.1.1 r8.2.1.2.1) fun r111 =>
  some (r111.1, ())))
noncomputable def F4e (n : Nat) : Ent G := ⟨4, (.cons (.imm 1) .nil), [], .str, [], fun x y => F4 n x.1⟩
theorem F4_eq (n : Nat) (x : ShL.den G (.cons (.imm 1) .nil)) (y : denO G []) : (F4e n).F x y = runFn prog G (ro G (tabOf (E4 n)) (frOf []) _) Go.Proofs.Try.f4 .no [(0, .fz)] (ShL.enc G (.cons (.imm 1) .nil) x) (encO G [] y) (decR .str []) := by kernel_rfl
theorem F4_ok (n : Nat) : EntOK prog G (F4e n) :=
  ent_ok (fr := frOf []) (ann := .no) (frm := [(0, .fz)]) laws fnok (E4_ok n).tab (e := F4e n) (fn := Go.Proofs.Try.f4) (by kernel_rfl) (AllF.ofB (cd := F4c) (l := []) (by kernel_rfl) (by kernel_rfl) AllF.nil) (F4_eq n)
noncomputable def E5 (n : Nat) : List (Ent G) := F4e n :: E4 n
theorem E5_ok (n : Nat) : AllE prog G (E5 n) := AllE.cons (F4_ok n) (E4_ok n)
-- 5 loop.example/slowworm/impl.TextQuote
noncomputable def F5c : Code := bodyOf Go.Proofs.Try.f5
-- 10 loop.example/slowworm/impl.shortTexts
noncomputable def F10c : Code := bodyOf Go.Proofs.Try.f10
noncomputable def F10_0x0 : SSh := ⟨15, [(2, .bool)], []⟩
noncomputable def F10_0x1 : SSh := ⟨15, [], []⟩
noncomputable def F10_0s : SSh := ⟨15, [(5, (.imm 2)), (6, (.int .i64)), (7, (.int .i64))], []⟩
noncomputable def F10_0_step {R : Type} (n : Nat) (k0 : Bool → Option R) (k1 : Option R) (rec : List ByteArray → Int → Int → Option R) (x117 : List ByteArray) (x118 : Int) (x119 : Int) : Option R :=
  (bif (decide (x119 < x118)) then
  (bif (decide ((0 : Int) ≤ x119)) then
  (bif (decide (x119 < ((x117.length) : Int))) then
  (bif (decide ((((x117.getD (x119.toNat) ({ data := #[] } : ByteArray)).size) : Int) > (400 : Int))) then
  (k0 false)
  else (rec x117 x118 (IntKind.wrap .i64 (x119 + (1 : Int)))))
  else none)
  else none)
  else k1)
noncomputable def F10_0_it {R : Type} (n : Nat) (k0 : Bool → Option R) (k1 : Option R) : Nat → List ByteArray → Int → Int → Option R
  | 0, _, _, _ => none
  | k + 1, x117, x118, x119 => F10_0_step n k0 k1 (F10_0_it n k0 k1 k) x117 x118 x119
noncomputable def F10_0 {R : Type} (n : Nat) (x117 : List ByteArray) (x118 : Int) (x119 : Int) (k0 : Bool → Option R) (k1 : Option R) : Option R := F10_0_it n k0 k1 n x117 x118 x119
noncomputable def F10_0z (n : Nat) : Sm G := inZ G 0 ⟨[5, 6, 7], []⟩ F10_0s fun R x K => F10_0_it n (fun u0 => K .ret (SSh.enc G F10_0x0 ((u0, ()), ()))) (K (.exit 0) (SSh.enc G F10_0x1 ((), ()))) n x.1.1 x.1.2.1 x.1.2.2.1
theorem F10_0_eq (n : Nat) (R : Type) (rec : SSh.den G F10_0s → Option R) (x : SSh.den G F10_0s) (K : AE → St G → Option R) :
  F10_0_step n (fun u0 => K .ret (SSh.enc G F10_0x0 ((u0, ()), ()))) (K (.exit 0) (SSh.enc G F10_0x1 ((), ()))) (fun x117 x118 x119 => rec ((x117, (x118, (x119, ()))), ())) x.1.1 x.1.2.1 x.1.2.2.1 = exec prog G (ro G (tabOf (E5 n)) (frOf []) R) 0 (codeAt F10c [1, 0, 1, 0, 0]) .no (SSh.enc G F10_0s x) (kLoop G (ro G (tabOf (E5 n)) (frOf []) R) 0 ⟨[5, 6, 7], []⟩ F10_0s ⟨⟨[], []⟩, ⟨[2], []⟩, [(0, ⟨[], []⟩)]⟩ rec K) := by kernel_rfl
theorem F10_0_ok (n : Nat) : FragOK prog G 0 (codeAt F10c [1, 0, 1, 0]) (F10_0z n) :=
  frag_loop (Z := fun R k (x : SSh.den G F10_0s) K => F10_0_it n (fun u0 => K .ret (SSh.enc G F10_0x0 ((u0, ()), ()))) (K (.exit 0) (SSh.enc G F10_0x1 ((), ()))) k x.1.1 x.1.2.1 x.1.2.2.1) laws fnok (E5_ok n).tab (AllF.of (l := []) (by kernel_rfl) AllF.nil) (fun _ _ _ => rfl) (fun R k y K => F10_0_eq n R (fun (x : SSh.den G F10_0s) => F10_0_it n (fun u0 => K .ret (SSh.enc G F10_0x0 ((u0, ()), ()))) (K (.exit 0) (SSh.enc G F10_0x1 ((), ()))) k x.1.1 x.1.2.1 x.1.2.2.1) y K) n
noncomputable def F10 (n : Nat) (a115 : List ByteArray) : Option (Bool × Unit) :=
  (F10_0 n a115 ((a115.length) : Int) (0 : Int) (fun z126 =>
  some (z126, ())) (
  some (true, ())))
noncomputable def F10e (n : Nat) : Ent G := ⟨10, (.cons (.imm 2) .nil), [], .bool, [], fun x y => F10 n x.1⟩
theorem F10_eq (n : Nat) (x : ShL.den G (.cons (.imm 2) .nil)) (y : denO G []) : (F10e n).F x y = runFn prog G (ro G (tabOf (E5 n)) (frOf [F10_0z n]) _) Go.Proofs.Try.f10 (.nd .no (.nd (.nd .no (.nd (.use 0) .no)) .no)) [(0, .fz)] (ShL.enc G (.cons (.imm 2) .nil) x) (encO G [] y) (decR .bool []) := by kernel_rfl
theorem F10_ok (n : Nat) : EntOK prog G (F10e n) :=
  ent_ok (fr := frOf [F10_0z n]) (ann := (.nd .no (.nd (.nd .no (.nd (.use 0) .no)) .no))) (frm := [(0, .fz)]) laws fnok (E5_ok n).tab (e := F10e n) (fn := Go.Proofs.Try.f10) (by kernel_rfl) (AllF.ofB (cd := F10c) (l := [(0, codeAt F10c [1, 0, 1, 0])]) (by kernel_rfl) (by kernel_rfl) (AllF.cons (F10_0_ok n) AllF.nil)) (F10_eq n)
noncomputable def E6 (n : Nat) : List (Ent G) := F10e n :: E5 n
theorem E6_ok (n : Nat) : AllE prog G (E6 n) := AllE.cons (F10_ok n) (E5_ok n)
-- 11 loop.example/slowworm/impl.quoted
noncomputable def F11c : Code := bodyOf Go.Proofs.Try.f11
-- 18 (*strings.Builder).WriteByte
noncomputable def F18c : Code := bodyOf Go.Proofs.Try.f18
noncomputable def F18 (n : Nat) (a130 : Int) (a131 : List Int) : Option (Unit × ((Unit × (Unit × Unit)) × (Unit × (List Int × Unit)))) :=
  (andThen (L27 a131) fun r132 =>
  let v133 := (a130 :: [])
  (bif (decide (((r132.2.2.1.length) + (v133.length)) ≤ (68719476736 : Nat))) then
  some ((), (((), ((), ())), ((), ((r132.2.2.1 ++ v133), ()))))
  else none))
noncomputable def F18e (n : Nat) : Ent G := ⟨18, (.cons (.ptr 0 0) (.cons (.int .u8) .nil)), [(.box 50 (.cons (.nsp 0) (.cons (.own 1) .nil))), (.arr 1 true)], .nili, [(.box 50 (.cons (.nsp 0) (.cons (.own 2) .nil))), .dead, (.arr 1 true)], fun x y => F18 n x.2.1 y.2.1⟩
theorem F18_eq (n : Nat) (x : ShL.den G (.cons (.ptr 0 0) (.cons (.int .u8) .nil))) (y : denO G [(.box 50 (.cons (.nsp 0) (.cons (.own 1) .nil))), (.arr 1 true)]) : (F18e n).F x y = runFn prog G (ro G (tabOf (E6 n)) (frOf []) _) Go.Proofs.Try.f18 .no [(0, .fz)] (ShL.enc G (.cons (.ptr 0 0) (.cons (.int .u8) .nil)) x) (encO G [(.box 50 (.cons (.nsp 0) (.cons (.own 1) .nil))), (.arr 1 true)] y) (decR .nili [(.box 50 (.cons (.nsp 0) (.cons (.own 2) .nil))), .dead, (.arr 1 true)]) := by kernel_rfl
theorem F18_ok (n : Nat) : EntOK prog G (F18e n) :=
  ent_ok (fr := frOf []) (ann := .no) (frm := [(0, .fz)]) laws fnok (E6_ok n).tab (e := F18e n) (fn := Go.Proofs.Try.f18) (by kernel_rfl) (AllF.ofB (cd := F18c) (l := []) (by kernel_rfl) (by kernel_rfl) AllF.nil) (F18_eq n)
noncomputable def E7 (n : Nat) : List (Ent G) := F18e n :: E6 n
theorem E7_ok (n : Nat) : AllE prog G (E7 n) := AllE.cons (F18_ok n) (E6_ok n)
-- 19 (*strings.Builder).WriteString
noncomputable def F19c : Code := bodyOf Go.Proofs.Try.f19
noncomputable def F19 (n : Nat) (a154 : ByteArray) (a155 : List Int) : Option ((Int × (Unit × Unit)) × ((Unit × (Unit × Unit)) × (Unit × (List Int × Unit)))) :=
  (andThen (L27 a155) fun r156 =>
  (bif (decide (((r156.2.2.1.length) + ((List.map (fun y157 => y157) (intsOfBytes a154)).length)) ≤ (68719476736 : Nat))) then
  some ((((a154.size) : Int), ((), ())), (((), ((), ())), ((), ((r156.2.2.1 ++ (List.map (fun y159 => y159) (intsOfBytes a154))), ()))))
  else none))
noncomputable def F19e (n : Nat) : Ent G := ⟨19, (.cons (.ptr 0 0) (.cons .str .nil)), [(.box 50 (.cons (.nsp 0) (.cons (.own 1) .nil))), (.arr 1 true)], (.tup (.cons (.int .i64) (.cons .nili .nil))), [(.box 50 (.cons (.nsp 0) (.cons (.own 2) .nil))), .dead, (.arr 1 true)], fun x y => F19 n x.2.1 y.2.1⟩
theorem F19_eq (n : Nat) (x : ShL.den G (.cons (.ptr 0 0) (.cons .str .nil))) (y : denO G [(.box 50 (.cons (.nsp 0) (.cons (.own 1) .nil))), (.arr 1 true)]) : (F19e n).F x y = runFn prog G (ro G (tabOf (E7 n)) (frOf []) _) Go.Proofs.Try.f19 .no [(0, .fz), (1, .fz)] (ShL.enc G (.cons (.ptr 0 0) (.cons .str .nil)) x) (encO G [(.box 50 (.cons (.nsp 0) (.cons (.own 1) .nil))), (.arr 1 true)] y) (decR (.tup (.cons (.int .i64) (.cons .nili .nil))) [(.box 50 (.cons (.nsp 0) (.cons (.own 2) .nil))), .dead, (.arr 1 true)]) := by kernel_rfl
theorem F19_ok (n : Nat) : EntOK prog G (F19e n) :=
  ent_ok (fr := frOf []) (ann := .no) (frm := [(0, .fz), (1, .fz)]) laws fnok (E7_ok n).tab (e := F19e n) (fn := Go.Proofs.Try.f19) (by kernel_rfl) (AllF.ofB (cd := F19c) (l := []) (by kernel_rfl) (by kernel_rfl) AllF.nil) (F19_eq n)
noncomputable def E8 (n : Nat) : List (Ent G) := F19e n :: E7 n
theorem E8_ok (n : Nat) : AllE prog G (E8 n) := AllE.cons (F19_ok n) (E7_ok n)
noncomputable def F11_0x0 : SSh := ⟨50, [(0, .str), (3, (.ptr 0 0)), (8, (.int .i64)), (9, (.int .i64))], [(.box 50 (.cons (.nsp 0) (.cons (.own 1) .nil))), (.arr 1 true)]⟩
noncomputable def F11_0s : SSh := ⟨50, [(0, .str), (3, (.ptr 0 0)), (8, (.int .i64)), (9, (.int .i64))], [(.box 50 (.cons (.nsp 0) (.cons (.own 1) .nil))), (.arr 1 true)]⟩
noncomputable def F11_0 {R : Type} (n : Nat) (x142 : ByteArray) (x143 : Int) (x144 : Int) (x145 : List Int) (k0 : ByteArray → Int → Int → List Int → Option R) : Option R :=
  (bif (decide ((0 : Int) ≤ x144)) then
  (bif (decide (x144 < ((x142.size) : Int))) then
  let v146 := (strOf x142 (x144.toNat))
  (bif (v146 == (39 : Int)) then
  (andThen (F18 n (92 : Int) x145) fun r148 =>
  (andThen (F18 n v146 r148.2.2.2.1) fun r149 =>
  (k0 x142 x143 x144 r149.2.2.2.1)))
  else (bif (v146 == (92 : Int)) then
  (andThen (F18 n (92 : Int) x145) fun r151 =>
  (andThen (F18 n v146 r151.2.2.2.1) fun r152 =>
  (k0 x142 x143 x144 r152.2.2.2.1)))
  else (bif (v146 == (10 : Int)) then
  (andThen (F19 n ({ data := #[92, 110] } : ByteArray) x145) fun r161 =>
  (k0 x142 x143 x144 r161.2.2.2.1))
  else (bif (decide (v146 < (32 : Int))) then
  (andThen (F19 n ({ data := #[92, 120] } : ByteArray) x145) fun r163 =>
  let v164 := (IntKind.wrap .u8 (v146.tdiv (16 : Int)))
  (bif (decide ((0 : Int) ≤ v164)) then
  (bif (decide (v164 < ((16 : Nat) : Int))) then
  (andThen (F18 n (strOf ({ data := #[48, 49, 50, 51, 52, 53, 54, 55, 56, 57, 97, 98, 99, 100, 101, 102] } : ByteArray) (v164.toNat)) r163.2.2.2.1) fun r166 =>
  let v167 := (v146.tmod (16 : Int))
  (bif (decide ((0 : Int) ≤ v167)) then
  (bif (decide (v167 < ((16 : Nat) : Int))) then
  (andThen (F18 n (strOf ({ data := #[48, 49, 50, 51, 52, 53, 54, 55, 56, 57, 97, 98, 99, 100, 101, 102] } : ByteArray) (v167.toNat)) r166.2.2.2.1) fun r169 =>
  (k0 x142 x143 x144 r169.2.2.2.1))
  else none)
  else none))
  else none)
  else none))
  else (bif (decide (v146 > (126 : Int))) then
  (andThen (F19 n ({ data := #[92, 120] } : ByteArray) x145) fun r171 =>
  let v172 := (IntKind.wrap .u8 (v146.tdiv (16 : Int)))
  (bif (decide ((0 : Int) ≤ v172)) then
  (bif (decide (v172 < ((16 : Nat) : Int))) then
  (andThen (F18 n (strOf ({ data := #[48, 49, 50, 51, 52, 53, 54, 55, 56, 57, 97, 98, 99, 100, 101, 102] } : ByteArray) (v172.toNat)) r171.2.2.2.1) fun r174 =>
  let v175 := (v146.tmod (16 : Int))
  (bif (decide ((0 : Int) ≤ v175)) then
  (bif (decide (v175 < ((16 : Nat) : Int))) then
  (andThen (F18 n (strOf ({ data := #[48, 49, 50, 51, 52, 53, 54, 55, 56, 57, 97, 98, 99, 100, 101, 102] } : ByteArray) (v175.toNat)) r174.2.2.2.1) fun r177 =>
  (k0 x142 x143 x144 r177.2.2.2.1))
  else none)
  else none))
  else none)
  else none))
  else (andThen (F18 n v146 x145) fun r178 =>
  (k0 x142 x143 x144 r178.2.2.2.1)))))))
  else none)
  else none)
noncomputable def F11_0z (n : Nat) : Sm G := inZ G 0 ⟨[0, 3, 8, 9], []⟩ F11_0s fun R x K => F11_0 n x.1.1 x.1.2.2.1 x.1.2.2.2.1 x.2.2.1 (fun u0 u1 u2 u3 => K .normal (SSh.enc G F11_0x0 ((u0, ((), (u1, (u2, ())))), (((), ((), ())), (u3, ())))))
theorem F11_0_eq (n : Nat) (R : Type) (x : SSh.den G F11_0s) (K : AE → St G → Option R) :
  F11_0 n x.1.1 x.1.2.2.1 x.1.2.2.2.1 x.2.2.1 (fun u0 u1 u2 u3 => K .normal (SSh.enc G F11_0x0 ((u0, ((), (u1, (u2, ())))), (((), ((), ())), (u3, ()))))) = exec prog G (ro G (tabOf (E8 n)) (frOf []) R) 0 (codeAt F11c [1, 1, 1, 0, 1, 0, 0, 1, 1, 0]) .no (SSh.enc G F11_0s x) (kNrm G (ro G (tabOf (E8 n)) (frOf []) R) 0 ⟨⟨[0, 3, 8, 9], []⟩, ⟨[2], []⟩, [(0, ⟨[3], []⟩)]⟩ K) := by kernel_rfl
theorem F11_0_ok (n : Nat) : FragOK prog G 0 (codeAt F11c [1, 1, 1, 0, 1, 0, 0, 1, 1, 0]) (F11_0z n) :=
  frag_plain laws fnok (E8_ok n).tab (AllF.of (l := []) (by kernel_rfl) AllF.nil) (F11_0_eq n)
noncomputable def F11_1x0 : SSh := ⟨50, [(3, (.ptr 0 0))], [(.box 50 (.cons (.nsp 0) (.cons (.own 1) .nil))), (.arr 1 true)]⟩
noncomputable def F11_1s : SSh := ⟨50, [(0, .str), (3, (.ptr 0 0)), (8, (.int .i64)), (9, (.int .i64))], [(.box 50 (.cons (.nsp 0) (.cons (.own 1) .nil))), (.arr 1 true)]⟩
noncomputable def F11_1_step {R : Type} (n : Nat) (k0 : List Int → Option R) (rec : ByteArray → Int → Int → List Int → Option R) (x137 : ByteArray) (x138 : Int) (x139 : Int) (x140 : List Int) : Option R :=
  (bif (decide (x139 < x138)) then
  (F11_0 n x137 x138 x139 x140 (fun z179 z180 z181 z182 =>
  (rec z179 z180 (IntKind.wrap .i64 (z181 + (1 : Int))) z182)))
  else (k0 x140))
noncomputable def F11_1_it {R : Type} (n : Nat) (k0 : List Int → Option R) : Nat → ByteArray → Int → Int → List Int → Option R
  | 0, _, _, _, _ => none
  | k + 1, x137, x138, x139, x140 => F11_1_step n k0 (F11_1_it n k0 k) x137 x138 x139 x140
noncomputable def F11_1 {R : Type} (n : Nat) (x137 : ByteArray) (x138 : Int) (x139 : Int) (x140 : List Int) (k0 : List Int → Option R) : Option R := F11_1_it n k0 n x137 x138 x139 x140
noncomputable def F11_1z (n : Nat) : Sm G := inZ G 0 ⟨[0, 3, 8, 9], []⟩ F11_1s fun R x K => F11_1_it n (fun u0 => K (.exit 0) (SSh.enc G F11_1x0 (((), ()), (((), ((), ())), (u0, ()))))) n x.1.1 x.1.2.2.1 x.1.2.2.2.1 x.2.2.1
theorem F11_1_eq (n : Nat) (R : Type) (rec : SSh.den G F11_1s → Option R) (x : SSh.den G F11_1s) (K : AE → St G → Option R) :
  F11_1_step n (fun u0 => K (.exit 0) (SSh.enc G F11_1x0 (((), ()), (((), ((), ())), (u0, ()))))) (fun x137 x138 x139 x140 => rec ((x137, ((), (x138, (x139, ())))), (((), ((), ())), (x140, ())))) x.1.1 x.1.2.2.1 x.1.2.2.2.1 x.2.2.1 = exec prog G (ro G (tabOf (E8 n)) (frOf [F11_0z n]) R) 0 (codeAt F11c [1, 1, 1, 0, 1, 0, 0]) (.nd .no (.nd .no (.nd (.use 0) .no))) (SSh.enc G F11_1s x) (kLoop G (ro G (tabOf (E8 n)) (frOf [F11_0z n]) R) 0 ⟨[0, 3, 8, 9], []⟩ F11_1s ⟨⟨[3], []⟩, ⟨[2], []⟩, [(0, ⟨[3], []⟩)]⟩ rec K) := by kernel_rfl
theorem F11_1_ok (n : Nat) : FragOK prog G 0 (codeAt F11c [1, 1, 1, 0, 1, 0]) (F11_1z n) :=
  frag_loop (Z := fun R k (x : SSh.den G F11_1s) K => F11_1_it n (fun u0 => K (.exit 0) (SSh.enc G F11_1x0 (((), ()), (((), ((), ())), (u0, ()))))) k x.1.1 x.1.2.2.1 x.1.2.2.2.1 x.2.2.1) laws fnok (E8_ok n).tab (AllF.of (l := [(0, codeAt F11c [1, 1, 1, 0, 1, 0, 0, 1, 1, 0])]) (by kernel_rfl) (AllF.cons (F11_0_ok n) AllF.nil)) (fun _ _ _ => rfl) (fun R k y K => F11_1_eq n R (fun (x : SSh.den G F11_1s) => F11_1_it n (fun u0 => K (.exit 0) (SSh.enc G F11_1x0 (((), ()), (((), ((), ())), (u0, ()))))) k x.1.1 x.1.2.2.1 x.1.2.2.2.1 x.2.2.1) y K) n
noncomputable def F11 (n : Nat) (a129 : ByteArray) : Option (ByteArray × Unit) :=
  (andThen (F18 n (39 : Int) []) fun r135 =>
  (F11_1 n a129 ((a129.size) : Int) (0 : Int) r135.2.2.2.1 (fun z184 =>
  (andThen (F18 n (39 : Int) z184) fun r185 =>
  (andThen (L20 r185.2.2.2.1) fun r186 =>
  some (r186.1, ()))))))
noncomputable def F11e (n : Nat) : Ent G := ⟨11, (.cons .str .nil), [], .str, [], fun x y => F11 n x.1⟩
theorem F11_eq (n : Nat) (x : ShL.den G (.cons .str .nil)) (y : denO G []) : (F11e n).F x y = runFn prog G (ro G (tabOf (E8 n)) (frOf [F11_0z n, F11_1z n]) _) Go.Proofs.Try.f11 (.nd .no (.nd .no (.nd .no (.nd (.nd .no (.nd (.use 1) .no)) .no)))) [(0, .fz)] (ShL.enc G (.cons .str .nil) x) (encO G [] y) (decR .str []) := by kernel_rfl
theorem F11_ok (n : Nat) : EntOK prog G (F11e n) :=
  ent_ok (fr := frOf [F11_0z n, F11_1z n]) (ann := (.nd .no (.nd .no (.nd .no (.nd (.nd .no (.nd (.use 1) .no)) .no))))) (frm := [(0, .fz)]) laws fnok (E8_ok n).tab (e := F11e n) (fn := Go.Proofs.Try.f11) (by kernel_rfl) (AllF.ofB (cd := F11c) (l := [(1, codeAt F11c [1, 1, 1, 0, 1, 0])]) (by kernel_rfl) (by kernel_rfl) (AllF.cons (F11_1_ok n) AllF.nil)) (F11_eq n)
noncomputable def E9 (n : Nat) : List (Ent G) := F11e n :: E8 n
theorem E9_ok (n : Nat) : AllE prog G (E9 n) := AllE.cons (F11_ok n) (E8_ok n)
noncomputable def F5 (n : Nat) (a113 : ByteArray) : Option (ByteArray × Unit) :=
  (andThen (F10 n (a113 :: [])) fun r127 =>
  (bif (!r127.1) then
  some (({ data := #[] } : ByteArray), ())
  else (andThen (F11 n a113) fun r187 =>
  some (r187.1, ()))))
noncomputable def F5e (n : Nat) : Ent G := ⟨5, (.cons .str .nil), [], .str, [], fun x y => F5 n x.1⟩
theorem F5_eq (n : Nat) (x : ShL.den G (.cons .str .nil)) (y : denO G []) : (F5e n).F x y = runFn prog G (ro G (tabOf (E9 n)) (frOf []) _) Go.Proofs.Try.f5 .no [(0, .fz)] (ShL.enc G (.cons .str .nil) x) (encO G [] y) (decR .str []) := by kernel_rfl
theorem F5_ok (n : Nat) : EntOK prog G (F5e n) :=
  ent_ok (fr := frOf []) (ann := .no) (frm := [(0, .fz)]) laws fnok (E9_ok n).tab (e := F5e n) (fn := Go.Proofs.Try.f5) (by kernel_rfl) (AllF.ofB (cd := F5c) (l := []) (by kernel_rfl) (by kernel_rfl) AllF.nil) (F5_eq n)
noncomputable def E10 (n : Nat) : List (Ent G) := F5e n :: E9 n
theorem E10_ok (n : Nat) : AllE prog G (E10 n) := AllE.cons (F5_ok n) (E9_ok n)
-- 6 loop.example/slowworm/spec.TextQuote
noncomputable def F6c : Code := bodyOf Go.Proofs.Try.f6
-- 12 loop.example/slowworm/spec.validText
noncomputable def F12c : Code := bodyOf Go.Proofs.Try.f12
noncomputable def F12 (n : Nat) (a190 : ByteArray) : Option (Bool × Unit) :=
  some ((decide (((a190.size) : Int) ≤ (400 : Int))), ())
noncomputable def F12e (n : Nat) : Ent G := ⟨12, (.cons .str .nil), [], .bool, [], fun x y => F12 n x.1⟩
theorem F12_eq (n : Nat) (x : ShL.den G (.cons .str .nil)) (y : denO G []) : (F12e n).F x y = runFn prog G (ro G (tabOf (E10 n)) (frOf []) _) Go.Proofs.Try.f12 .no [(0, .fz)] (ShL.enc G (.cons .str .nil) x) (encO G [] y) (decR .bool []) := by kernel_rfl
theorem F12_ok (n : Nat) : EntOK prog G (F12e n) :=
  ent_ok (fr := frOf []) (ann := .no) (frm := [(0, .fz)]) laws fnok (E10_ok n).tab (e := F12e n) (fn := Go.Proofs.Try.f12) (by kernel_rfl) (AllF.ofB (cd := F12c) (l := []) (by kernel_rfl) (by kernel_rfl) AllF.nil) (F12_eq n)
noncomputable def E11 (n : Nat) : List (Ent G) := F12e n :: E10 n
theorem E11_ok (n : Nat) : AllE prog G (E11 n) := AllE.cons (F12_ok n) (E10_ok n)
-- 13 loop.example/slowworm/spec.quoted
noncomputable def F13c : Code := bodyOf Go.Proofs.Try.f13
-- 21 loop.example/slowworm/spec.hexDigit
noncomputable def F21c : Code := bodyOf Go.Proofs.Try.f21
noncomputable def F21 (n : Nat) (a227 : Int) : Option (ByteArray × Unit) :=
  let v228 := (IntKind.wrap .i64 (a227 + (1 : Int)))
  (bif (decide ((0 : Int) ≤ a227)) then
  (bif (decide (a227 ≤ v228)) then
  (bif (decide (v228 ≤ ((16 : Nat) : Int))) then
  some ((({ data := #[48, 49, 50, 51, 52, 53, 54, 55, 56, 57, 97, 98, 99, 100, 101, 102] } : ByteArray).extract (a227.toNat) (v228.toNat)), ())
  else none)
  else none)
  else none)
noncomputable def F21e (n : Nat) : Ent G := ⟨21, (.cons (.int .i64) .nil), [], .str, [], fun x y => F21 n x.1⟩
theorem F21_eq (n : Nat) (x : ShL.den G (.cons (.int .i64) .nil)) (y : denO G []) : (F21e n).F x y = runFn prog G (ro G (tabOf (E11 n)) (frOf []) _) Go.Proofs.Try.f21 .no [(0, .fz)] (ShL.enc G (.cons (.int .i64) .nil) x) (encO G [] y) (decR .str []) := by kernel_rfl
theorem F21_ok (n : Nat) : EntOK prog G (F21e n) :=
  ent_ok (fr := frOf []) (ann := .no) (frm := [(0, .fz)]) laws fnok (E11_ok n).tab (e := F21e n) (fn := Go.Proofs.Try.f21) (by kernel_rfl) (AllF.ofB (cd := F21c) (l := []) (by kernel_rfl) (by kernel_rfl) AllF.nil) (F21_eq n)
noncomputable def E12 (n : Nat) : List (Ent G) := F21e n :: E11 n
theorem E12_ok (n : Nat) : AllE prog G (E12 n) := AllE.cons (F21_ok n) (E11_ok n)
noncomputable def F13_0x0 : SSh := ⟨64, [(0, .str), (3, .str), (4, (.int .i64))], []⟩
noncomputable def F13_0s : SSh := ⟨64, [(0, .str), (3, .str), (4, (.int .i64))], []⟩
noncomputable def F13_0 {R : Type} (n : Nat) (x201 : ByteArray) (x202 : ByteArray) (x203 : Int) (k0 : ByteArray → ByteArray → Int → Option R) : Option R :=
  (bif (decide ((0 : Int) ≤ x203)) then
  (bif (decide (x203 < ((x201.size) : Int))) then
  let v204 := (strOf x201 (x203.toNat))
  (bif (v204 == (39 : Int)) then
  let v207 := (bytesOfInts (List.map (fun y208 => y208) ((92 : Int) :: (v204 :: []))))
  (bif (decide (((x202.size) + (v207.size)) ≤ (68719476736 : Nat))) then
  (k0 x201 (x202 ++ v207) x203)
  else none)
  else (bif (v204 == (92 : Int)) then
  let v212 := (bytesOfInts (List.map (fun y213 => y213) ((92 : Int) :: (v204 :: []))))
  (bif (decide (((x202.size) + (v212.size)) ≤ (68719476736 : Nat))) then
  (k0 x201 (x202 ++ v212) x203)
  else none)
  else (bif (v204 == (10 : Int)) then
  let v217 := (bytesOfInts (List.map (fun y218 => y218) ((92 : Int) :: ((110 : Int) :: []))))
  (bif (decide (((x202.size) + (v217.size)) ≤ (68719476736 : Nat))) then
  (k0 x201 (x202 ++ v217) x203)
  else none)
  else (bif (decide (v204 < (32 : Int))) then
  let v222 := (bytesOfInts (List.map (fun y223 => y223) ((92 : Int) :: ((120 : Int) :: []))))
  (bif (decide (((x202.size) + (v222.size)) ≤ (68719476736 : Nat))) then
  let v224 := (x202 ++ v222)
  (andThen (F21 n (IntKind.wrap .i64 ((IntKind.wrap .i64 v204).tdiv (16 : Int)))) fun r230 =>
  (bif (decide (((v224.size) + (r230.1.size)) ≤ (68719476736 : Nat))) then
  let v231 := (v224 ++ r230.1)
  (andThen (F21 n ((IntKind.wrap .i64 v204).tmod (16 : Int))) fun r234 =>
  (bif (decide (((v231.size) + (r234.1.size)) ≤ (68719476736 : Nat))) then
  (k0 x201 (v231 ++ r234.1) x203)
  else none))
  else none))
  else none)
  else (bif (decide (v204 > (126 : Int))) then
  let v238 := (bytesOfInts (List.map (fun y239 => y239) ((92 : Int) :: ((120 : Int) :: []))))
  (bif (decide (((x202.size) + (v238.size)) ≤ (68719476736 : Nat))) then
  let v240 := (x202 ++ v238)
  (andThen (F21 n (IntKind.wrap .i64 ((IntKind.wrap .i64 v204).tdiv (16 : Int)))) fun r243 =>
  (bif (decide (((v240.size) + (r243.1.size)) ≤ (68719476736 : Nat))) then
  let v244 := (v240 ++ r243.1)
  (andThen (F21 n ((IntKind.wrap .i64 v204).tmod (16 : Int))) fun r247 =>
  (bif (decide (((v244.size) + (r247.1.size)) ≤ (68719476736 : Nat))) then
  (k0 x201 (v244 ++ r247.1) x203)
  else none))
  else none))
  else none)
  else let v249 := (IntKind.wrap .i64 (x203 + (1 : Int)))
  (bif (decide ((0 : Int) ≤ x203)) then
  (bif (decide (x203 ≤ v249)) then
  (bif (decide (v249 ≤ ((x201.size) : Int))) then
  let v250 := (x201.extract (x203.toNat) (v249.toNat))
  (bif (decide (((x202.size) + (v250.size)) ≤ (68719476736 : Nat))) then
  (k0 x201 (x202 ++ v250) x203)
  else none)
  else none)
  else none)
  else none))))))
  else none)
  else none)
noncomputable def F13_0z (n : Nat) : Sm G := inZ G 0 ⟨[0, 3, 4], []⟩ F13_0s fun R x K => F13_0 n x.1.1 x.1.2.1 x.1.2.2.1 (fun u0 u1 u2 => K .normal (SSh.enc G F13_0x0 ((u0, (u1, (u2, ()))), ())))
theorem F13_0_eq (n : Nat) (R : Type) (x : SSh.den G F13_0s) (K : AE → St G → Option R) :
  F13_0 n x.1.1 x.1.2.1 x.1.2.2.1 (fun u0 u1 u2 => K .normal (SSh.enc G F13_0x0 ((u0, (u1, (u2, ()))), ()))) = exec prog G (ro G (tabOf (E12 n)) (frOf []) R) 0 (codeAt F13c [1, 1, 0, 1, 0, 0, 1, 0]) .no (SSh.enc G F13_0s x) (kNrm G (ro G (tabOf (E12 n)) (frOf []) R) 0 ⟨⟨[0, 3, 4], []⟩, ⟨[2], []⟩, [(0, ⟨[3], []⟩)]⟩ K) := by kernel_rfl
theorem F13_0_ok (n : Nat) : FragOK prog G 0 (codeAt F13c [1, 1, 0, 1, 0, 0, 1, 0]) (F13_0z n) :=
  frag_plain laws fnok (E12_ok n).tab (AllF.of (l := []) (by kernel_rfl) AllF.nil) (F13_0_eq n)
noncomputable def F13_1x0 : SSh := ⟨64, [(3, .str)], []⟩
noncomputable def F13_1s : SSh := ⟨64, [(0, .str), (3, .str), (4, (.int .i64))], []⟩
noncomputable def F13_1_step {R : Type} (n : Nat) (k0 : ByteArray → Option R) (rec : ByteArray → ByteArray → Int → Option R) (x196 : ByteArray) (x197 : ByteArray) (x198 : Int) : Option R :=
  (bif (decide (x198 < ((x196.size) : Int))) then
  (F13_0 n x196 x197 x198 (fun z252 z253 z254 =>
  (rec z252 z253 (IntKind.wrap .i64 (z254 + (1 : Int))))))
  else (k0 x197))
noncomputable def F13_1_it {R : Type} (n : Nat) (k0 : ByteArray → Option R) : Nat → ByteArray → ByteArray → Int → Option R
  | 0, _, _, _ => none
  | k + 1, x196, x197, x198 => F13_1_step n k0 (F13_1_it n k0 k) x196 x197 x198
noncomputable def F13_1 {R : Type} (n : Nat) (x196 : ByteArray) (x197 : ByteArray) (x198 : Int) (k0 : ByteArray → Option R) : Option R := F13_1_it n k0 n x196 x197 x198
noncomputable def F13_1z (n : Nat) : Sm G := inZ G 0 ⟨[0, 3, 4], []⟩ F13_1s fun R x K => F13_1_it n (fun u0 => K (.exit 0) (SSh.enc G F13_1x0 ((u0, ()), ()))) n x.1.1 x.1.2.1 x.1.2.2.1
theorem F13_1_eq (n : Nat) (R : Type) (rec : SSh.den G F13_1s → Option R) (x : SSh.den G F13_1s) (K : AE → St G → Option R) :
  F13_1_step n (fun u0 => K (.exit 0) (SSh.enc G F13_1x0 ((u0, ()), ()))) (fun x196 x197 x198 => rec ((x196, (x197, (x198, ()))), ())) x.1.1 x.1.2.1 x.1.2.2.1 = exec prog G (ro G (tabOf (E12 n)) (frOf [F13_0z n]) R) 0 (codeAt F13c [1, 1, 0, 1, 0, 0]) (.nd .no (.nd (.use 0) .no)) (SSh.enc G F13_1s x) (kLoop G (ro G (tabOf (E12 n)) (frOf [F13_0z n]) R) 0 ⟨[0, 3, 4], []⟩ F13_1s ⟨⟨[3], []⟩, ⟨[2], []⟩, [(0, ⟨[3], []⟩)]⟩ rec K) := by kernel_rfl
theorem F13_1_ok (n : Nat) : FragOK prog G 0 (codeAt F13c [1, 1, 0, 1, 0]) (F13_1z n) :=
  frag_loop (Z := fun R k (x : SSh.den G F13_1s) K => F13_1_it n (fun u0 => K (.exit 0) (SSh.enc G F13_1x0 ((u0, ()), ()))) k x.1.1 x.1.2.1 x.1.2.2.1) laws fnok (E12_ok n).tab (AllF.of (l := [(0, codeAt F13c [1, 1, 0, 1, 0, 0, 1, 0])]) (by kernel_rfl) (AllF.cons (F13_0_ok n) AllF.nil)) (fun _ _ _ => rfl) (fun R k y K => F13_1_eq n R (fun (x : SSh.den G F13_1s) => F13_1_it n (fun u0 => K (.exit 0) (SSh.enc G F13_1x0 ((u0, ()), ()))) k x.1.1 x.1.2.1 x.1.2.2.1) y K) n
noncomputable def F13 (n : Nat) (a195 : ByteArray) : Option (ByteArray × Unit) :=
  (F13_1 n a195 ({ data := #[39] } : ByteArray) (0 : Int) (fun z256 =>
  (bif (decide (((z256.size) + (1 : Nat)) ≤ (68719476736 : Nat))) then
  some ((z256 ++ ({ data := #[39] } : ByteArray)), ())
  else none)))
noncomputable def F13e (n : Nat) : Ent G := ⟨13, (.cons .str .nil), [], .str, [], fun x y => F13 n x.1⟩
theorem F13_eq (n : Nat) (x : ShL.den G (.cons .str .nil)) (y : denO G []) : (F13e n).F x y = runFn prog G (ro G (tabOf (E12 n)) (frOf [F13_0z n, F13_1z n]) _) Go.Proofs.Try.f13 (.nd .no (.nd .no (.nd (.nd .no (.nd (.use 1) .no)) .no))) [(0, .fz)] (ShL.enc G (.cons .str .nil) x) (encO G [] y) (decR .str []) := by kernel_rfl
theorem F13_ok (n : Nat) : EntOK prog G (F13e n) :=
  ent_ok (fr := frOf [F13_0z n, F13_1z n]) (ann := (.nd .no (.nd .no (.nd (.nd .no (.nd (.use 1) .no)) .no)))) (frm := [(0, .fz)]) laws fnok (E12_ok n).tab (e := F13e n) (fn := Go.Proofs.Try.f13) (by kernel_rfl) (AllF.ofB (cd := F13c) (l := [(1, codeAt F13c [1, 1, 0, 1, 0])]) (by kernel_rfl) (by kernel_rfl) (AllF.cons (F13_1_ok n) AllF.nil)) (F13_eq n)
noncomputable def E13 (n : Nat) : List (Ent G) := F13e n :: E12 n
theorem E13_ok (n : Nat) : AllE prog G (E13 n) := AllE.cons (F13_ok n) (E12_ok n)
noncomputable def F6 (n : Nat) (a189 : ByteArray) : Option (ByteArray × Unit) :=
  (andThen (F12 n a189) fun r193 =>
  (bif (!r193.1) then
  some (({ data := #[] } : ByteArray), ())
  else (andThen (F13 n a189) fun r258 =>
  some (r258.1, ()))))
noncomputable def F6e (n : Nat) : Ent G := ⟨6, (.cons .str .nil), [], .str, [], fun x y => F6 n x.1⟩
theorem F6_eq (n : Nat) (x : ShL.den G (.cons .str .nil)) (y : denO G []) : (F6e n).F x y = runFn prog G (ro G (tabOf (E13 n)) (frOf []) _) Go.Proofs.Try.f6 .no [(0, .fz)] (ShL.enc G (.cons .str .nil) x) (encO G [] y) (decR .str []) := by kernel_rfl
theorem F6_ok (n : Nat) : EntOK prog G (F6e n) :=
  ent_ok (fr := frOf []) (ann := .no) (frm := [(0, .fz)]) laws fnok (E13_ok n).tab (e := F6e n) (fn := Go.Proofs.Try.f6) (by kernel_rfl) (AllF.ofB (cd := F6c) (l := []) (by kernel_rfl) (by kernel_rfl) AllF.nil) (F6_eq n)
noncomputable def E14 (n : Nat) : List (Ent G) := F6e n :: E13 n
theorem E14_ok (n : Nat) : AllE prog G (E14 n) := AllE.cons (F6_ok n) (E13_ok n)
-- 15 (*loop.example/slowworm/impl.lexer).fine
noncomputable def F15c : Code := bodyOf Go.Proofs.Try.f15
noncomputable def F15 (n : Nat) (a293 : ByteArray) (a294 : Int) (a295 : Int) (a296 : Int) (a297 : Int) (a298 : List Int) : Option (Bool × ((ByteArray × (Int × (Int × (Unit × (Unit × (Unit × (Int × (Int × Unit)))))))) × (List Int × Unit))) :=
  some (((a296 == (0 : Int)) && (a297 == (0 : Int))), ((a293, (a294, (a295, ((), ((), ((), (a296, (a297, ())))))))), (a298, ())))
noncomputable def F15e (n : Nat) : Ent G := ⟨15, (.cons (.ptr 0 0) .nil), [(.box 41 (.cons .str (.cons (.int .i64) (.cons (.int .i64) (.cons (.own 1) (.cons .nil0 (.cons .nil0 (.cons (.int .i64) (.cons (.int .i64) .nil))))))))), (.arr 0 true)], .bool, [(.box 41 (.cons .str (.cons (.int .i64) (.cons (.int .i64) (.cons (.own 1) (.cons .nil0 (.cons .nil0 (.cons (.int .i64) (.cons (.int .i64) .nil))))))))), (.arr 0 true)], fun x y => F15 n y.1.1 y.1.2.1 y.1.2.2.1 y.1.2.2.2.2.2.2.1 y.1.2.2.2.2.2.2.2.1 y.2.1⟩
theorem F15_eq (n : Nat) (x : ShL.den G (.cons (.ptr 0 0) .nil)) (y : denO G [(.box 41 (.cons .str (.cons (.int .i64) (.cons (.int .i64) (.cons (.own 1) (.cons .nil0 (.cons .nil0 (.cons (.int .i64) (.cons (.int .i64) .nil))))))))), (.arr 0 true)]) : (F15e n).F x y = runFn prog G (ro G (tabOf (E14 n)) (frOf []) _) Go.Proofs.Try.f15 .no [(0, .fz)] (ShL.enc G (.cons (.ptr 0 0) .nil) x) (encO G [(.box 41 (.cons .str (.cons (.int .i64) (.cons (.int .i64) (.cons (.own 1) (.cons .nil0 (.cons .nil0 (.cons (.int .i64) (.cons (.int .i64) .nil))))))))), (.arr 0 true)] y) (decR .bool [(.box 41 (.cons .str (.cons (.int .i64) (.cons (.int .i64) (.cons (.own 1) (.cons .nil0 (.cons .nil0 (.cons (.int .i64) (.cons (.int .i64) .nil))))))))), (.arr 0 true)]) := by kernel_rfl
theorem F15_ok (n : Nat) : EntOK prog G (F15e n) :=
  ent_ok (fr := frOf []) (ann := .no) (frm := [(0, .fz)]) laws fnok (E14_ok n).tab (e := F15e n) (fn := Go.Proofs.Try.f15) (by kernel_rfl) (AllF.ofB (cd := F15c) (l := []) (by kernel_rfl) (by kernel_rfl) AllF.nil) (F15_eq n)
noncomputable def E15 (n : Nat) : List (Ent G) := F15e n :: E14 n
theorem E15_ok (n : Nat) : AllE prog G (E15 n) := AllE.cons (F15_ok n) (E14_ok n)
-- 22 (*loop.example/slowworm/impl.lexer).skip
noncomputable def F22c : Code := bodyOf Go.Proofs.Try.f22
noncomputable def F22_0x0 : SSh := ⟨31, [], [(.box 41 (.cons .str (.cons (.int .i64) (.cons (.int .i64) (.cons (.own 1) (.cons .nil0 (.cons .nil0 (.cons (.int .i64) (.cons (.int .i64) .nil))))))))), (.arr 0 true)]⟩
noncomputable def F22_0s : SSh := ⟨31, [(0, (.ptr 0 0))], [(.box 41 (.cons .str (.cons (.int .i64) (.cons (.int .i64) (.cons (.own 1) (.cons .nil0 (.cons .nil0 (.cons (.int .i64) (.cons (.int .i64) .nil))))))))), (.arr 0 true)]⟩
noncomputable def F22_0_step {R : Type} (n : Nat) (k0 : ByteArray → Int → Int → Int → Int → List Int → Option R) (rec : ByteArray → Int → Int → Int → Int → List Int → Option R) (x339 : ByteArray) (x340 : Int) (x341 : Int) (x342 : Int) (x343 : Int) (x344 : List Int) : Option R :=
  (bif (decide (x340 < ((x339.size) : Int))) then
  (bif (decide ((0 : Int) ≤ x340)) then
  (bif (decide (x340 < ((x339.size) : Int))) then
  (bif ((strOf x339 (x340.toNat)) != (10 : Int)) then
  (rec x339 (IntKind.wrap .i64 (x340 + (1 : Int))) x341 x342 x343 x344)
  else (k0 x339 x340 x341 x342 x343 x344))
  else none)
  else none)
  else (k0 x339 x340 x341 x342 x343 x344))
noncomputable def F22_0_it {R : Type} (n : Nat) (k0 : ByteArray → Int → Int → Int → Int → List Int → Option R) : Nat → ByteArray → Int → Int → Int → Int → List Int → Option R
  | 0, _, _, _, _, _, _ => none
  | k + 1, x339, x340, x341, x342, x343, x344 => F22_0_step n k0 (F22_0_it n k0 k) x339 x340 x341 x342 x343 x344
noncomputable def F22_0 {R : Type} (n : Nat) (x339 : ByteArray) (x340 : Int) (x341 : Int) (x342 : Int) (x343 : Int) (x344 : List Int) (k0 : ByteArray → Int → Int → Int → Int → List Int → Option R) : Option R := F22_0_it n k0 n x339 x340 x341 x342 x343 x344
noncomputable def F22_0z (n : Nat) : Sm G := inZ G 2 ⟨[0], []⟩ F22_0s fun R x K => F22_0_it n (fun u0 u1 u2 u3 u4 u5 => K (.exit 0) (SSh.enc G F22_0x0 ((), ((u0, (u1, (u2, ((), ((), ((), (u3, (u4, ())))))))), (u5, ()))))) n x.2.1.1 x.2.1.2.1 x.2.1.2.2.1 x.2.1.2.2.2.2.2.2.1 x.2.1.2.2.2.2.2.2.2.1 x.2.2.1
theorem F22_0_eq (n : Nat) (R : Type) (rec : SSh.den G F22_0s → Option R) (x : SSh.den G F22_0s) (K : AE → St G → Option R) :
  F22_0_step n (fun u0 u1 u2 u3 u4 u5 => K (.exit 0) (SSh.enc G F22_0x0 ((), ((u0, (u1, (u2, ((), ((), ((), (u3, (u4, ())))))))), (u5, ()))))) (fun x339 x340 x341 x342 x343 x344 => rec (((), ()), ((x339, (x340, (x341, ((), ((), ((), (x342, (x343, ())))))))), (x344, ())))) x.2.1.1 x.2.1.2.1 x.2.1.2.2.1 x.2.1.2.2.2.2.2.2.1 x.2.1.2.2.2.2.2.2.2.1 x.2.2.1 = exec prog G (ro G (tabOf (E15 n)) (frOf []) R) 2 (codeAt F22c [0, 0]) .no (SSh.enc G F22_0s x) (kLoop G (ro G (tabOf (E15 n)) (frOf []) R) 2 ⟨[0], []⟩ F22_0s ⟨⟨[], []⟩, ⟨[], []⟩, [(0, ⟨[], []⟩)]⟩ rec K) := by kernel_rfl
theorem F22_0_ok (n : Nat) : FragOK prog G 2 (codeAt F22c [0]) (F22_0z n) :=
  frag_loop (Z := fun R k (x : SSh.den G F22_0s) K => F22_0_it n (fun u0 u1 u2 u3 u4 u5 => K (.exit 0) (SSh.enc G F22_0x0 ((), ((u0, (u1, (u2, ((), ((), ((), (u3, (u4, ())))))))), (u5, ()))))) k x.2.1.1 x.2.1.2.1 x.2.1.2.2.1 x.2.1.2.2.2.2.2.2.1 x.2.1.2.2.2.2.2.2.2.1 x.2.2.1) laws fnok (E15_ok n).tab (AllF.of (l := []) (by kernel_rfl) AllF.nil) (fun _ _ _ => rfl) (fun R k y K => F22_0_eq n R (fun (x : SSh.den G F22_0s) => F22_0_it n (fun u0 u1 u2 u3 u4 u5 => K (.exit 0) (SSh.enc G F22_0x0 ((), ((u0, (u1, (u2, ((), ((), ((), (u3, (u4, ())))))))), (u5, ()))))) k x.2.1.1 x.2.1.2.1 x.2.1.2.2.1 x.2.1.2.2.2.2.2.2.1 x.2.1.2.2.2.2.2.2.2.1 x.2.2.1) y K) n
noncomputable def F22 (n : Nat) (a333 : ByteArray) (a334 : Int) (a335 : Int) (a336 : Int) (a337 : Int) (a338 : List Int) : Option (Unit × ((ByteArray × (Int × (Int × (Unit × (Unit × (Unit × (Int × (Int × Unit)))))))) × (List Int × Unit))) :=
  (F22_0 n a333 a334 a335 a336 a337 a338 (fun z350 z351 z352 z353 z354 z355 =>
  some ((), ((z350, (z351, (z352, ((), ((), ((), (z353, (z354, ())))))))), (z355, ())))))
noncomputable def F22e (n : Nat) : Ent G := ⟨22, (.cons (.ptr 0 0) .nil), [(.box 41 (.cons .str (.cons (.int .i64) (.cons (.int .i64) (.cons (.own 1) (.cons .nil0 (.cons .nil0 (.cons (.int .i64) (.cons (.int .i64) .nil))))))))), (.arr 0 true)], (.tup .nil), [(.box 41 (.cons .str (.cons (.int .i64) (.cons (.int .i64) (.cons (.own 1) (.cons .nil0 (.cons .nil0 (.cons (.int .i64) (.cons (.int .i64) .nil))))))))), (.arr 0 true)], fun x y => F22 n y.1.1 y.1.2.1 y.1.2.2.1 y.1.2.2.2.2.2.2.1 y.1.2.2.2.2.2.2.2.1 y.2.1⟩
theorem F22_eq (n : Nat) (x : ShL.den G (.cons (.ptr 0 0) .nil)) (y : denO G [(.box 41 (.cons .str (.cons (.int .i64) (.cons (.int .i64) (.cons (.own 1) (.cons .nil0 (.cons .nil0 (.cons (.int .i64) (.cons (.int .i64) .nil))))))))), (.arr 0 true)]) : (F22e n).F x y = runFn prog G (ro G (tabOf (E15 n)) (frOf [F22_0z n]) _) Go.Proofs.Try.f22 (.nd (.use 0) .no) [] (ShL.enc G (.cons (.ptr 0 0) .nil) x) (encO G [(.box 41 (.cons .str (.cons (.int .i64) (.cons (.int .i64) (.cons (.own 1) (.cons .nil0 (.cons .nil0 (.cons (.int .i64) (.cons (.int .i64) .nil))))))))), (.arr 0 true)] y) (decR (.tup .nil) [(.box 41 (.cons .str (.cons (.int .i64) (.cons (.int .i64) (.cons (.own 1) (.cons .nil0 (.cons .nil0 (.cons (.int .i64) (.cons (.int .i64) .nil))))))))), (.arr 0 true)]) := by kernel_rfl
theorem F22_ok (n : Nat) : EntOK prog G (F22e n) :=
  ent_ok (fr := frOf [F22_0z n]) (ann := (.nd (.use 0) .no)) (frm := []) laws fnok (E15_ok n).tab (e := F22e n) (fn := Go.Proofs.Try.f22) (by kernel_rfl) (AllF.ofB (cd := F22c) (l := [(0, codeAt F22c [0])]) (by kernel_rfl) (by kernel_rfl) (AllF.cons (F22_0_ok n) AllF.nil)) (F22_eq n)
noncomputable def E16 (n : Nat) : List (Ent G) := F22e n :: E15 n
theorem E16_ok (n : Nat) : AllE prog G (E16 n) := AllE.cons (F22_ok n) (E15_ok n)
-- 24 (*loop.example/slowworm/impl.lexer).put
noncomputable def F24c : Code := bodyOf Go.Proofs.Try.f24
noncomputable def F24 (n : Nat) (a371 : Int) (a372 : ByteArray) (a373 : Int) (a374 : ByteArray) (a375 : Int) (a376 : Int) (a377 : Int) (a378 : Int) (a379 : List Int) : Option (Unit × ((ByteArray × (Int × (Int × (Unit × (Unit × (Unit × (Int × (Int × Unit)))))))) × (List Int × (List Tok × Unit)))) :=
  (andThen (F15 n a374 a375 a376 a377 a378 a379) fun r380 =>
  (bif (!r380.1) then
  some ((), ((r380.2.1.1, (r380.2.1.2.1, (r380.2.1.2.2.1, ((), ((), ((), (r380.2.1.2.2.2.2.2.2.1, (r380.2.1.2.2.2.2.2.2.2.1, ())))))))), (r380.2.2.1, ([], ()))))
  else let v382 := ((Tok.mk a371 a372 a373) :: [])
  (bif (decide ((v382.length) ≤ (68719476736 : Nat))) then
  some ((), ((r380.2.1.1, (r380.2.1.2.1, (r380.2.1.2.2.1, ((), ((), ((), (r380.2.1.2.2.2.2.2.2.1, (r380.2.1.2.2.2.2.2.2.2.1, ())))))))), (r380.2.2.1, (v382, ()))))
  else none)))
noncomputable def F24e (n : Nat) : Ent G := ⟨24, (.cons (.ptr 0 0) (.cons (.int .i64) (.cons .str (.cons (.int .i64) .nil)))), [(.box 41 (.cons .str (.cons (.int .i64) (.cons (.int .i64) (.cons (.own 1) (.cons .nil0 (.cons .nil0 (.cons (.int .i64) (.cons (.int .i64) .nil))))))))), (.arr 0 true)], (.tup .nil), [(.box 41 (.cons .str (.cons (.int .i64) (.cons (.int .i64) (.cons (.own 1) (.cons .nil0 (.cons (.own 2) (.cons (.int .i64) (.cons (.int .i64) .nil))))))))), (.arr 0 true), (.arr 3 true)], fun x y => F24 n x.2.1 x.2.2.1 x.2.2.2.1 y.1.1 y.1.2.1 y.1.2.2.1 y.1.2.2.2.2.2.2.1 y.1.2.2.2.2.2.2.2.1 y.2.1⟩
theorem F24_eq (n : Nat) (x : ShL.den G (.cons (.ptr 0 0) (.cons (.int .i64) (.cons .str (.cons (.int .i64) .nil))))) (y : denO G [(.box 41 (.cons .str (.cons (.int .i64) (.cons (.int .i64) (.cons (.own 1) (.cons .nil0 (.cons .nil0 (.cons (.int .i64) (.cons (.int .i64) .nil))))))))), (.arr 0 true)]) : (F24e n).F x y = runFn prog G (ro G (tabOf (E16 n)) (frOf []) _) Go.Proofs.Try.f24 .no [(0, (.obj 0 5 (.mv 3)))] (ShL.enc G (.cons (.ptr 0 0) (.cons (.int .i64) (.cons .str (.cons (.int .i64) .nil)))) x) (encO G [(.box 41 (.cons .str (.cons (.int .i64) (.cons (.int .i64) (.cons (.own 1) (.cons .nil0 (.cons .nil0 (.cons (.int .i64) (.cons (.int .i64) .nil))))))))), (.arr 0 true)] y) (decR (.tup .nil) [(.box 41 (.cons .str (.cons (.int .i64) (.cons (.int .i64) (.cons (.own 1) (.cons .nil0 (.cons (.own 2) (.cons (.int .i64) (.cons (.int .i64) .nil))))))))), (.arr 0 true), (.arr 3 true)]) := by kernel_rfl
theorem F24_ok (n : Nat) : EntOK prog G (F24e n) :=
  ent_ok (fr := frOf []) (ann := .no) (frm := [(0, (.obj 0 5 (.mv 3)))]) laws fnok (E16_ok n).tab (e := F24e n) (fn := Go.Proofs.Try.f24) (by kernel_rfl) (AllF.ofB (cd := F24c) (l := []) (by kernel_rfl) (by kernel_rfl) AllF.nil) (F24_eq n)
noncomputable def E17 (n : Nat) : List (Ent G) := F24e n :: E16 n
theorem E17_ok (n : Nat) : AllE prog G (E17 n) := AllE.cons (F24_ok n) (E16_ok n)
-- 28 slices.Contains[[]int,int]
noncomputable def F28c : Code := bodyOf Go.Proofs.Try.f28
-- 37 slices.Index[[]int,int]
noncomputable def F37c : Code := bodyOf Go.Proofs.Try.f37
noncomputable def F37_0x0 : SSh := ⟨19, [(4, (.int .i64))], []⟩
noncomputable def F37_0x1 : SSh := ⟨19, [], []⟩
noncomputable def F37_0s : SSh := ⟨19, [(0, (.imm 0)), (1, (.int .i64)), (7, (.int .i64)), (8, (.int .i64))], []⟩
noncomputable def F37_0_step {R : Type} (n : Nat) (k0 : Int → Option R) (k1 : Option R) (rec : List Int → Int → Int → Int → Option R) (x390 : List Int) (x391 : Int) (x392 : Int) (x393 : Int) : Option R :=
  (bif (decide (x393 < x392)) then
  (bif (decide ((0 : Int) ≤ x393)) then
  (bif (decide (x393 < ((x390.length) : Int))) then
  (bif (x391 == (x390.getD (x393.toNat) (0 : Int))) then
  (k0 x393)
  else (rec x390 x391 x392 (IntKind.wrap .i64 (x393 + (1 : Int)))))
  else none)
  else none)
  else k1)
noncomputable def F37_0_it {R : Type} (n : Nat) (k0 : Int → Option R) (k1 : Option R) : Nat → List Int → Int → Int → Int → Option R
  | 0, _, _, _, _ => none
  | k + 1, x390, x391, x392, x393 => F37_0_step n k0 k1 (F37_0_it n k0 k1 k) x390 x391 x392 x393
noncomputable def F37_0 {R : Type} (n : Nat) (x390 : List Int) (x391 : Int) (x392 : Int) (x393 : Int) (k0 : Int → Option R) (k1 : Option R) : Option R := F37_0_it n k0 k1 n x390 x391 x392 x393
noncomputable def F37_0z (n : Nat) : Sm G := inZ G 0 ⟨[0, 1, 7, 8], []⟩ F37_0s fun R x K => F37_0_it n (fun u0 => K .ret (SSh.enc G F37_0x0 ((u0, ()), ()))) (K (.exit 0) (SSh.enc G F37_0x1 ((), ()))) n x.1.1 x.1.2.1 x.1.2.2.1 x.1.2.2.2.1
theorem F37_0_eq (n : Nat) (R : Type) (rec : SSh.den G F37_0s → Option R) (x : SSh.den G F37_0s) (K : AE → St G → Option R) :
  F37_0_step n (fun u0 => K .ret (SSh.enc G F37_0x0 ((u0, ()), ()))) (K (.exit 0) (SSh.enc G F37_0x1 ((), ()))) (fun x390 x391 x392 x393 => rec ((x390, (x391, (x392, (x393, ())))), ())) x.1.1 x.1.2.1 x.1.2.2.1 x.1.2.2.2.1 = exec prog G (ro G (tabOf (E17 n)) (frOf []) R) 0 (codeAt F37c [1, 0, 1, 0, 0]) .no (SSh.enc G F37_0s x) (kLoop G (ro G (tabOf (E17 n)) (frOf []) R) 0 ⟨[0, 1, 7, 8], []⟩ F37_0s ⟨⟨[], []⟩, ⟨[4], []⟩, [(0, ⟨[], []⟩)]⟩ rec K) := by kernel_rfl
theorem F37_0_ok (n : Nat) : FragOK prog G 0 (codeAt F37c [1, 0, 1, 0]) (F37_0z n) :=
  frag_loop (Z := fun R k (x : SSh.den G F37_0s) K => F37_0_it n (fun u0 => K .ret (SSh.enc G F37_0x0 ((u0, ()), ()))) (K (.exit 0) (SSh.enc G F37_0x1 ((), ()))) k x.1.1 x.1.2.1 x.1.2.2.1 x.1.2.2.2.1) laws fnok (E17_ok n).tab (AllF.of (l := []) (by kernel_rfl) AllF.nil) (fun _ _ _ => rfl) (fun R k y K => F37_0_eq n R (fun (x : SSh.den G F37_0s) => F37_0_it n (fun u0 => K .ret (SSh.enc G F37_0x0 ((u0, ()), ()))) (K (.exit 0) (SSh.enc G F37_0x1 ((), ()))) k x.1.1 x.1.2.1 x.1.2.2.1 x.1.2.2.2.1) y K) n
noncomputable def F37 (n : Nat) (a387 : List Int) (a388 : Int) : Option (Int × Unit) :=
  (F37_0 n a387 a388 ((a387.length) : Int) (0 : Int) (fun z399 =>
  some (z399, ())) (
  some ((-1 : Int), ())))
noncomputable def F37e (n : Nat) : Ent G := ⟨37, (.cons (.imm 0) (.cons (.int .i64) .nil)), [], (.int .i64), [], fun x y => F37 n x.1 x.2.1⟩
theorem F37_eq (n : Nat) (x : ShL.den G (.cons (.imm 0) (.cons (.int .i64) .nil))) (y : denO G []) : (F37e n).F x y = runFn prog G (ro G (tabOf (E17 n)) (frOf [F37_0z n]) _) Go.Proofs.Try.f37 (.nd .no (.nd (.nd .no (.nd (.use 0) .no)) .no)) [(0, .fz)] (ShL.enc G (.cons (.imm 0) (.cons (.int .i64) .nil)) x) (encO G [] y) (decR (.int .i64) []) := by kernel_rfl
theorem F37_ok (n : Nat) : EntOK prog G (F37e n) :=
  ent_ok (fr := frOf [F37_0z n]) (ann := (.nd .no (.nd (.nd .no (.nd (.use 0) .no)) .no))) (frm := [(0, .fz)]) laws fnok (E17_ok n).tab (e := F37e n) (fn := Go.Proofs.Try.f37) (by kernel_rfl) (AllF.ofB (cd := F37c) (l := [(0, codeAt F37c [1, 0, 1, 0])]) (by kernel_rfl) (by kernel_rfl) (AllF.cons (F37_0_ok n) AllF.nil)) (F37_eq n)
noncomputable def E18 (n : Nat) : List (Ent G) := F37e n :: E17 n
theorem E18_ok (n : Nat) : AllE prog G (E18 n) := AllE.cons (F37_ok n) (E17_ok n)
noncomputable def F28 (n : Nat) (a385 : List Int) (a386 : Int) : Option (Bool × Unit) :=
  (andThen (F37 n a385 a386) fun r400 =>
  some ((decide (r400.1 ≥ (0 : Int))), ()))
noncomputable def F28e (n : Nat) : Ent G := ⟨28, (.cons (.imm 0) (.cons (.int .i64) .nil)), [], .bool, [], fun x y => F28 n x.1 x.2.1⟩
theorem F28_eq (n : Nat) (x : ShL.den G (.cons (.imm 0) (.cons (.int .i64) .nil))) (y : denO G []) : (F28e n).F x y = runFn prog G (ro G (tabOf (E18 n)) (frOf []) _) Go.Proofs.Try.f28 .no [(0, .fz)] (ShL.enc G (.cons (.imm 0) (.cons (.int .i64) .nil)) x) (encO G [] y) (decR .bool []) := by kernel_rfl
theorem F28_ok (n : Nat) : EntOK prog G (F28e n) :=
  ent_ok (fr := frOf []) (ann := .no) (frm := [(0, .fz)]) laws fnok (E18_ok n).tab (e := F28e n) (fn := Go.Proofs.Try.f28) (by kernel_rfl) (AllF.ofB (cd := F28c) (l := []) (by kernel_rfl) (by kernel_rfl) AllF.nil) (F28_eq n)
noncomputable def E19 (n : Nat) : List (Ent G) := F28e n :: E18 n
theorem E19_ok (n : Nat) : AllE prog G (E19 n) := AllE.cons (F28_ok n) (E18_ok n)
-- 26 (*loop.example/slowworm/impl.lexer).bad
noncomputable def F26c : Code := bodyOf Go.Proofs.Try.f26
noncomputable def F26 (n : Nat) (a404 : Int) (a405 : Int) (a406 : ByteArray) (a407 : Int) (a408 : Int) (a409 : Int) (a410 : Int) (a411 : List Int) : Option (Unit × ((ByteArray × (Int × (Int × (Unit × (Unit × (Unit × (Int × (Int × Unit)))))))) × (List Int × Unit))) :=
  (bif ((a409 == (0 : Int)) && (a410 == (0 : Int))) then
  some ((), ((a406, (a407, (a408, ((), ((), ((), (a405, (a404, ())))))))), (a411, ())))
  else some ((), ((a406, (a407, (a408, ((), ((), ((), (a409, (a410, ())))))))), (a411, ()))))
noncomputable def F26e (n : Nat) : Ent G := ⟨26, (.cons (.ptr 0 0) (.cons (.int .i64) (.cons (.int .i64) .nil))), [(.box 41 (.cons .str (.cons (.int .i64) (.cons (.int .i64) (.cons (.own 1) (.cons .nil0 (.cons .nil0 (.cons (.int .i64) (.cons (.int .i64) .nil))))))))), (.arr 0 true)], (.tup .nil), [(.box 41 (.cons .str (.cons (.int .i64) (.cons (.int .i64) (.cons (.own 1) (.cons .nil0 (.cons .nil0 (.cons (.int .i64) (.cons (.int .i64) .nil))))))))), (.arr 0 true)], fun x y => F26 n x.2.1 x.2.2.1 y.1.1 y.1.2.1 y.1.2.2.1 y.1.2.2.2.2.2.2.1 y.1.2.2.2.2.2.2.2.1 y.2.1⟩
theorem F26_eq (n : Nat) (x : ShL.den G (.cons (.ptr 0 0) (.cons (.int .i64) (.cons (.int .i64) .nil)))) (y : denO G [(.box 41 (.cons .str (.cons (.int .i64) (.cons (.int .i64) (.cons (.own 1) (.cons .nil0 (.cons .nil0 (.cons (.int .i64) (.cons (.int .i64) .nil))))))))), (.arr 0 true)]) : (F26e n).F x y = runFn prog G (ro G (tabOf (E19 n)) (frOf []) _) Go.Proofs.Try.f26 .no [] (ShL.enc G (.cons (.ptr 0 0) (.cons (.int .i64) (.cons (.int .i64) .nil))) x) (encO G [(.box 41 (.cons .str (.cons (.int .i64) (.cons (.int .i64) (.cons (.own 1) (.cons .nil0 (.cons .nil0 (.cons (.int .i64) (.cons (.int .i64) .nil))))))))), (.arr 0 true)] y) (decR (.tup .nil) [(.box 41 (.cons .str (.cons (.int .i64) (.cons (.int .i64) (.cons (.own 1) (.cons .nil0 (.cons .nil0 (.cons (.int .i64) (.cons (.int .i64) .nil))))))))), (.arr 0 true)]) := by kernel_rfl
theorem F26_ok (n : Nat) : EntOK prog G (F26e n) :=
  ent_ok (fr := frOf []) (ann := .no) (frm := []) laws fnok (E19_ok n).tab (e := F26e n) (fn := Go.Proofs.Try.f26) (by kernel_rfl) (AllF.ofB (cd := F26c) (l := []) (by kernel_rfl) (by kernel_rfl) AllF.nil) (F26_eq n)
noncomputable def E20 (n : Nat) : List (Ent G) := F26e n :: E19 n
theorem E20_ok (n : Nat) : AllE prog G (E20 n) := AllE.cons (F26_ok n) (E19_ok n)
-- 24 (*loop.example/slowworm/impl.lexer).put
noncomputable def F24v1c : Code := bodyOf Go.Proofs.Try.f24
-- 15 (*loop.example/slowworm/impl.lexer).fine
noncomputable def F15v1c : Code := bodyOf Go.Proofs.Try.f15
noncomputable def F15v1 (n : Nat) (a439 : ByteArray) (a440 : Int) (a441 : Int) (a442 : Nat) (a443 : Int) (a444 : Int) (a445 : List Int) : Option (Bool × ((ByteArray × (Int × (Int × (Nat × (Unit × (Unit × (Int × (Int × Unit)))))))) × (List Int × Unit))) :=
  some (((a443 == (0 : Int)) && (a444 == (0 : Int))), ((a439, (a440, (a441, (a442, ((), ((), (a443, (a444, ())))))))), (a445, ())))
noncomputable def F15v1e (n : Nat) : Ent G := ⟨15, (.cons (.ptr 0 0) .nil), [(.box 41 (.cons .str (.cons (.int .i64) (.cons (.int .i64) (.cons (.pre 1) (.cons .nil0 (.cons .nil0 (.cons (.int .i64) (.cons (.int .i64) .nil))))))))), (.arr 0 true)], .bool, [(.box 41 (.cons .str (.cons (.int .i64) (.cons (.int .i64) (.cons (.pre 1) (.cons .nil0 (.cons .nil0 (.cons (.int .i64) (.cons (.int .i64) .nil))))))))), (.arr 0 true)], fun x y => F15v1 n y.1.1 y.1.2.1 y.1.2.2.1 y.1.2.2.2.1 y.1.2.2.2.2.2.2.1 y.1.2.2.2.2.2.2.2.1 y.2.1⟩
theorem F15v1_eq (n : Nat) (x : ShL.den G (.cons (.ptr 0 0) .nil)) (y : denO G [(.box 41 (.cons .str (.cons (.int .i64) (.cons (.int .i64) (.cons (.pre 1) (.cons .nil0 (.cons .nil0 (.cons (.int .i64) (.cons (.int .i64) .nil))))))))), (.arr 0 true)]) : (F15v1e n).F x y = runFn prog G (ro G (tabOf (E20 n)) (frOf []) _) Go.Proofs.Try.f15 .no [(0, .fz)] (ShL.enc G (.cons (.ptr 0 0) .nil) x) (encO G [(.box 41 (.cons .str (.cons (.int .i64) (.cons (.int .i64) (.cons (.pre 1) (.cons .nil0 (.cons .nil0 (.cons (.int .i64) (.cons (.int .i64) .nil))))))))), (.arr 0 true)] y) (decR .bool [(.box 41 (.cons .str (.cons (.int .i64) (.cons (.int .i64) (.cons (.pre 1) (.cons .nil0 (.cons .nil0 (.cons (.int .i64) (.cons (.int .i64) .nil))))))))), (.arr 0 true)]) := by kernel_rfl
theorem F15v1_ok (n : Nat) : EntOK prog G (F15v1e n) :=
  ent_ok (fr := frOf []) (ann := .no) (frm := [(0, .fz)]) laws fnok (E20_ok n).tab (e := F15v1e n) (fn := Go.Proofs.Try.f15) (by kernel_rfl) (AllF.ofB (cd := F15v1c) (l := []) (by kernel_rfl) (by kernel_rfl) AllF.nil) (F15v1_eq n)
noncomputable def E21 (n : Nat) : List (Ent G) := F15v1e n :: E20 n
theorem E21_ok (n : Nat) : AllE prog G (E21 n) := AllE.cons (F15v1_ok n) (E20_ok n)
noncomputable def F24v1 (n : Nat) (a429 : Int) (a430 : ByteArray) (a431 : Int) (a432 : ByteArray) (a433 : Int) (a434 : Int) (a435 : Nat) (a436 : Int) (a437 : Int) (a438 : List Int) : Option (Unit × ((ByteArray × (Int × (Int × (Nat × (Unit × (Unit × (Int × (Int × Unit)))))))) × (List Int × (List Tok × Unit)))) :=
  (andThen (F15v1 n a432 a433 a434 a435 a436 a437 a438) fun r447 =>
  (bif (!r447.1) then
  some ((), ((r447.2.1.1, (r447.2.1.2.1, (r447.2.1.2.2.1, (r447.2.1.2.2.2.1, ((), ((), (r447.2.1.2.2.2.2.2.2.1, (r447.2.1.2.2.2.2.2.2.2.1, ())))))))), (r447.2.2.1, ([], ()))))
  else let v449 := ((Tok.mk a429 a430 a431) :: [])
  (bif (decide ((v449.length) ≤ (68719476736 : Nat))) then
  some ((), ((r447.2.1.1, (r447.2.1.2.1, (r447.2.1.2.2.1, (r447.2.1.2.2.2.1, ((), ((), (r447.2.1.2.2.2.2.2.2.1, (r447.2.1.2.2.2.2.2.2.2.1, ())))))))), (r447.2.2.1, (v449, ()))))
  else none)))
noncomputable def F24v1e (n : Nat) : Ent G := ⟨24, (.cons (.ptr 0 0) (.cons (.int .i64) (.cons .str (.cons (.int .i64) .nil)))), [(.box 41 (.cons .str (.cons (.int .i64) (.cons (.int .i64) (.cons (.pre 1) (.cons .nil0 (.cons .nil0 (.cons (.int .i64) (.cons (.int .i64) .nil))))))))), (.arr 0 true)], (.tup .nil), [(.box 41 (.cons .str (.cons (.int .i64) (.cons (.int .i64) (.cons (.pre 1) (.cons .nil0 (.cons (.own 2) (.cons (.int .i64) (.cons (.int .i64) .nil))))))))), (.arr 0 true), (.arr 3 true)], fun x y => F24v1 n x.2.1 x.2.2.1 x.2.2.2.1 y.1.1 y.1.2.1 y.1.2.2.1 y.1.2.2.2.1 y.1.2.2.2.2.2.2.1 y.1.2.2.2.2.2.2.2.1 y.2.1⟩
theorem F24v1_eq (n : Nat) (x : ShL.den G (.cons (.ptr 0 0) (.cons (.int .i64) (.cons .str (.cons (.int .i64) .nil))))) (y : denO G [(.box 41 (.cons .str (.cons (.int .i64) (.cons (.int .i64) (.cons (.pre 1) (.cons .nil0 (.cons .nil0 (.cons (.int .i64) (.cons (.int .i64) .nil))))))))), (.arr 0 true)]) : (F24v1e n).F x y = runFn prog G (ro G (tabOf (E21 n)) (frOf []) _) Go.Proofs.Try.f24 .no [(0, (.obj 0 5 (.mv 3)))] (ShL.enc G (.cons (.ptr 0 0) (.cons (.int .i64) (.cons .str (.cons (.int .i64) .nil)))) x) (encO G [(.box 41 (.cons .str (.cons (.int .i64) (.cons (.int .i64) (.cons (.pre 1) (.cons .nil0 (.cons .nil0 (.cons (.int .i64) (.cons (.int .i64) .nil))))))))), (.arr 0 true)] y) (decR (.tup .nil) [(.box 41 (.cons .str (.cons (.int .i64) (.cons (.int .i64) (.cons (.pre 1) (.cons .nil0 (.cons (.own 2) (.cons (.int .i64) (.cons (.int .i64) .nil))))))))), (.arr 0 true), (.arr 3 true)]) := by kernel_rfl
theorem F24v1_ok (n : Nat) : EntOK prog G (F24v1e n) :=
  ent_ok (fr := frOf []) (ann := .no) (frm := [(0, (.obj 0 5 (.mv 3)))]) laws fnok (E21_ok n).tab (e := F24v1e n) (fn := Go.Proofs.Try.f24) (by kernel_rfl) (AllF.ofB (cd := F24v1c) (l := []) (by kernel_rfl) (by kernel_rfl) AllF.nil) (F24v1_eq n)
noncomputable def E22 (n : Nat) : List (Ent G) := F24v1e n :: E21 n
theorem E22_ok (n : Nat) : AllE prog G (E22 n) := AllE.cons (F24v1_ok n) (E21_ok n)
-- 23 (*loop.example/slowworm/impl.lexer).indent
noncomputable def F23c : Code := bodyOf Go.Proofs.Try.f23
-- 24 (*loop.example/slowworm/impl.lexer).put
noncomputable def F24v2c : Code := bodyOf Go.Proofs.Try.f24
-- 15 (*loop.example/slowworm/impl.lexer).fine
noncomputable def F15v2c : Code := bodyOf Go.Proofs.Try.f15
noncomputable def F15v2 (n : Nat) (a532 : ByteArray) (a533 : Int) (a534 : Int) (a535 : Nat) (a536 : Int) (a537 : Int) (a538 : List Int) (a539 : List Tok) : Option (Bool × ((ByteArray × (Int × (Int × (Nat × (Unit × (Unit × (Int × (Int × Unit)))))))) × (List Int × (List Tok × Unit)))) :=
  some (((a536 == (0 : Int)) && (a537 == (0 : Int))), ((a532, (a533, (a534, (a535, ((), ((), (a536, (a537, ())))))))), (a538, (a539, ()))))
noncomputable def F15v2e (n : Nat) : Ent G := ⟨15, (.cons (.ptr 0 0) .nil), [(.box 41 (.cons .str (.cons (.int .i64) (.cons (.int .i64) (.cons (.pre 1) (.cons .nil0 (.cons (.own 2) (.cons (.int .i64) (.cons (.int .i64) .nil))))))))), (.arr 0 true), (.arr 3 true)], .bool, [(.box 41 (.cons .str (.cons (.int .i64) (.cons (.int .i64) (.cons (.pre 1) (.cons .nil0 (.cons (.own 2) (.cons (.int .i64) (.cons (.int .i64) .nil))))))))), (.arr 0 true), (.arr 3 true)], fun x y => F15v2 n y.1.1 y.1.2.1 y.1.2.2.1 y.1.2.2.2.1 y.1.2.2.2.2.2.2.1 y.1.2.2.2.2.2.2.2.1 y.2.1 y.2.2.1⟩
theorem F15v2_eq (n : Nat) (x : ShL.den G (.cons (.ptr 0 0) .nil)) (y : denO G [(.box 41 (.cons .str (.cons (.int .i64) (.cons (.int .i64) (.cons (.pre 1) (.cons .nil0 (.cons (.own 2) (.cons (.int .i64) (.cons (.int .i64) .nil))))))))), (.arr 0 true), (.arr 3 true)]) : (F15v2e n).F x y = runFn prog G (ro G (tabOf (E22 n)) (frOf []) _) Go.Proofs.Try.f15 .no [(0, .fz)] (ShL.enc G (.cons (.ptr 0 0) .nil) x) (encO G [(.box 41 (.cons .str (.cons (.int .i64) (.cons (.int .i64) (.cons (.pre 1) (.cons .nil0 (.cons (.own 2) (.cons (.int .i64) (.cons (.int .i64) .nil))))))))), (.arr 0 true), (.arr 3 true)] y) (decR .bool [(.box 41 (.cons .str (.cons (.int .i64) (.cons (.int .i64) (.cons (.pre 1) (.cons .nil0 (.cons (.own 2) (.cons (.int .i64) (.cons (.int .i64) .nil))))))))), (.arr 0 true), (.arr 3 true)]) := by kernel_rfl
theorem F15v2_ok (n : Nat) : EntOK prog G (F15v2e n) :=
  ent_ok (fr := frOf []) (ann := .no) (frm := [(0, .fz)]) laws fnok (E22_ok n).tab (e := F15v2e n) (fn := Go.Proofs.Try.f15) (by kernel_rfl) (AllF.ofB (cd := F15v2c) (l := []) (by kernel_rfl) (by kernel_rfl) AllF.nil) (F15v2_eq n)
noncomputable def E23 (n : Nat) : List (Ent G) := F15v2e n :: E22 n
theorem E23_ok (n : Nat) : AllE prog G (E23 n) := AllE.cons (F15v2_ok n) (E22_ok n)
-- 26 (*loop.example/slowworm/impl.lexer).bad
noncomputable def F26v1c : Code := bodyOf Go.Proofs.Try.f26
noncomputable def F26v1 (n : Nat) (a545 : Int) (a546 : Int) (a547 : ByteArray) (a548 : Int) (a549 : Int) (a550 : Nat) (a551 : Int) (a552 : Int) (a553 : List Int) (a554 : List Tok) : Option (Unit × ((ByteArray × (Int × (Int × (Nat × (Unit × (Unit × (Int × (Int × Unit)))))))) × (List Int × (List Tok × Unit)))) :=
  (bif ((a551 == (0 : Int)) && (a552 == (0 : Int))) then
  some ((), ((a547, (a548, (a549, (a550, ((), ((), (a546, (a545, ())))))))), (a553, (a554, ()))))
  else some ((), ((a547, (a548, (a549, (a550, ((), ((), (a551, (a552, ())))))))), (a553, (a554, ())))))
noncomputable def F26v1e (n : Nat) : Ent G := ⟨26, (.cons (.ptr 0 0) (.cons (.int .i64) (.cons (.int .i64) .nil))), [(.box 41 (.cons .str (.cons (.int .i64) (.cons (.int .i64) (.cons (.pre 1) (.cons .nil0 (.cons (.own 2) (.cons (.int .i64) (.cons (.int .i64) .nil))))))))), (.arr 0 true), (.arr 3 true)], (.tup .nil), [(.box 41 (.cons .str (.cons (.int .i64) (.cons (.int .i64) (.cons (.pre 1) (.cons .nil0 (.cons (.own 2) (.cons (.int .i64) (.cons (.int .i64) .nil))))))))), (.arr 0 true), (.arr 3 true)], fun x y => F26v1 n x.2.1 x.2.2.1 y.1.1 y.1.2.1 y.1.2.2.1 y.1.2.2.2.1 y.1.2.2.2.2.2.2.1 y.1.2.2.2.2.2.2.2.1 y.2.1 y.2.2.1⟩
theorem F26v1_eq (n : Nat) (x : ShL.den G (.cons (.ptr 0 0) (.cons (.int .i64) (.cons (.int .i64) .nil)))) (y : denO G [(.box 41 (.cons .str (.cons (.int .i64) (.cons (.int .i64) (.cons (.pre 1) (.cons .nil0 (.cons (.own 2) (.cons (.int .i64) (.cons (.int .i64) .nil))))))))), (.arr 0 true), (.arr 3 true)]) : (F26v1e n).F x y = runFn prog G (ro G (tabOf (E23 n)) (frOf []) _) Go.Proofs.Try.f26 .no [] (ShL.enc G (.cons (.ptr 0 0) (.cons (.int .i64) (.cons (.int .i64) .nil))) x) (encO G [(.box 41 (.cons .str (.cons (.int .i64) (.cons (.int .i64) (.cons (.pre 1) (.cons .nil0 (.cons (.own 2) (.cons (.int .i64) (.cons (.int .i64) .nil))))))))), (.arr 0 true), (.arr 3 true)] y) (decR (.tup .nil) [(.box 41 (.cons .str (.cons (.int .i64) (.cons (.int .i64) (.cons (.pre 1) (.cons .nil0 (.cons (.own 2) (.cons (.int .i64) (.cons (.int .i64) .nil))))))))), (.arr 0 true), (.arr 3 true)]) := by kernel_rfl
theorem F26v1_ok (n : Nat) : EntOK prog G (F26v1e n) :=
  ent_ok (fr := frOf []) (ann := .no) (frm := []) laws fnok (E23_ok n).tab (e := F26v1e n) (fn := Go.Proofs.Try.f26) (by kernel_rfl) (AllF.ofB (cd := F26v1c) (l := []) (by kernel_rfl) (by kernel_rfl) AllF.nil) (F26v1_eq n)
noncomputable def E24 (n : Nat) : List (Ent G) := F26v1e n :: E23 n
theorem E24_ok (n : Nat) : AllE prog G (E24 n) := AllE.cons (F26v1_ok n) (E23_ok n)
noncomputable def F24v2 (n : Nat) (a521 : Int) (a522 : ByteArray) (a523 : Int) (a524 : ByteArray) (a525 : Int) (a526 : Int) (a527 : Nat) (a528 : Int) (a529 : Int) (a530 : List Int) (a531 : List Tok) : Option (Unit × ((ByteArray × (Int × (Int × (Nat × (Unit × (Unit × (Int × (Int × Unit)))))))) × (List Int × (Unit × (List Tok × Unit))))) :=
  (andThen (F15v2 n a524 a525 a526 a527 a528 a529 a530 a531) fun r541 =>
  (bif (!r541.1) then
  some ((), ((r541.2.1.1, (r541.2.1.2.1, (r541.2.1.2.2.1, (r541.2.1.2.2.2.1, ((), ((), (r541.2.1.2.2.2.2.2.2.1, (r541.2.1.2.2.2.2.2.2.2.1, ())))))))), (r541.2.2.1, ((), (r541.2.2.2.1, ())))))
  else (bif (((r541.2.2.2.1.length) : Int) == (1500 : Int)) then
  (andThen (F26v1 n (6 : Int) a523 r541.2.1.1 r541.2.1.2.1 r541.2.1.2.2.1 r541.2.1.2.2.2.1 r541.2.1.2.2.2.2.2.2.1 r541.2.1.2.2.2.2.2.2.2.1 r541.2.2.1 r541.2.2.2.1) fun r556 =>
  some ((), ((r556.2.1.1, (r556.2.1.2.1, (r556.2.1.2.2.1, (r556.2.1.2.2.2.1, ((), ((), (r556.2.1.2.2.2.2.2.2.1, (r556.2.1.2.2.2.2.2.2.2.1, ())))))))), (r556.2.2.1, ((), (r556.2.2.2.1, ()))))))
  else let v557 := ((Tok.mk a521 a522 a523) :: [])
  (bif (decide (((r541.2.2.2.1.length) + (v557.length)) ≤ (68719476736 : Nat))) then
  some ((), ((r541.2.1.1, (r541.2.1.2.1, (r541.2.1.2.2.1, (r541.2.1.2.2.2.1, ((), ((), (r541.2.1.2.2.2.2.2.2.1, (r541.2.1.2.2.2.2.2.2.2.1, ())))))))), (r541.2.2.1, ((), ((r541.2.2.2.1 ++ v557), ())))))
  else none))))
noncomputable def F24v2e (n : Nat) : Ent G := ⟨24, (.cons (.ptr 0 0) (.cons (.int .i64) (.cons .str (.cons (.int .i64) .nil)))), [(.box 41 (.cons .str (.cons (.int .i64) (.cons (.int .i64) (.cons (.pre 1) (.cons .nil0 (.cons (.own 2) (.cons (.int .i64) (.cons (.int .i64) .nil))))))))), (.arr 0 true), (.arr 3 true)], (.tup .nil), [(.box 41 (.cons .str (.cons (.int .i64) (.cons (.int .i64) (.cons (.pre 1) (.cons .nil0 (.cons (.own 3) (.cons (.int .i64) (.cons (.int .i64) .nil))))))))), (.arr 0 true), .dead, (.arr 3 true)], fun x y => F24v2 n x.2.1 x.2.2.1 x.2.2.2.1 y.1.1 y.1.2.1 y.1.2.2.1 y.1.2.2.2.1 y.1.2.2.2.2.2.2.1 y.1.2.2.2.2.2.2.2.1 y.2.1 y.2.2.1⟩
theorem F24v2_eq (n : Nat) (x : ShL.den G (.cons (.ptr 0 0) (.cons (.int .i64) (.cons .str (.cons (.int .i64) .nil))))) (y : denO G [(.box 41 (.cons .str (.cons (.int .i64) (.cons (.int .i64) (.cons (.pre 1) (.cons .nil0 (.cons (.own 2) (.cons (.int .i64) (.cons (.int .i64) .nil))))))))), (.arr 0 true), (.arr 3 true)]) : (F24v2e n).F x y = runFn prog G (ro G (tabOf (E24 n)) (frOf []) _) Go.Proofs.Try.f24 .no [(0, (.obj 0 5 (.mv 3)))] (ShL.enc G (.cons (.ptr 0 0) (.cons (.int .i64) (.cons .str (.cons (.int .i64) .nil)))) x) (encO G [(.box 41 (.cons .str (.cons (.int .i64) (.cons (.int .i64) (.cons (.pre 1) (.cons .nil0 (.cons (.own 2) (.cons (.int .i64) (.cons (.int .i64) .nil))))))))), (.arr 0 true), (.arr 3 true)] y) (decR (.tup .nil) [(.box 41 (.cons .str (.cons (.int .i64) (.cons (.int .i64) (.cons (.pre 1) (.cons .nil0 (.cons (.own 3) (.cons (.int .i64) (.cons (.int .i64) .nil))))))))), (.arr 0 true), .dead, (.arr 3 true)]) := by kernel_rfl
theorem F24v2_ok (n : Nat) : EntOK prog G (F24v2e n) :=
  ent_ok (fr := frOf []) (ann := .no) (frm := [(0, (.obj 0 5 (.mv 3)))]) laws fnok (E24_ok n).tab (e := F24v2e n) (fn := Go.Proofs.Try.f24) (by kernel_rfl) (AllF.ofB (cd := F24v2c) (l := []) (by kernel_rfl) (by kernel_rfl) AllF.nil) (F24v2_eq n)
noncomputable def E25 (n : Nat) : List (Ent G) := F24v2e n :: E24 n
theorem E25_ok (n : Nat) : AllE prog G (E25 n) := AllE.cons (F24v2_ok n) (E24_ok n)
noncomputable def F23_0x0 : SSh := ⟨83, [], [(.box 41 (.cons .str (.cons (.int .i64) (.cons (.int .i64) (.cons (.own 2) (.cons .nil0 (.cons (.own 3) (.cons (.int .i64) (.cons (.int .i64) .nil))))))))), .dead, (.arr 0 true), (.arr 3 true)]⟩
noncomputable def F23_0s : SSh := ⟨83, [(0, (.ptr 0 0)), (1, (.int .i64))], [(.box 41 (.cons .str (.cons (.int .i64) (.cons (.int .i64) (.cons (.own 2) (.cons .nil0 (.cons (.own 3) (.cons (.int .i64) (.cons (.int .i64) .nil))))))))), .dead, (.arr 0 true), (.arr 3 true)]⟩
noncomputable def F23_0_step {R : Type} (n : Nat) (k0 : ByteArray → Int → Int → Int → Int → List Int → List Tok → Option R) (rec : Int → ByteArray → Int → Int → Int → Int → List Int → List Tok → Option R) (x505 : Int) (x506 : ByteArray) (x507 : Int) (x508 : Int) (x509 : Int) (x510 : Int) (x511 : List Int) (x512 : List Tok) : Option R :=
  let v514 := (IntKind.wrap .i64 (((x511.length) : Int) - (1 : Int)))
  (bif (decide ((0 : Int) ≤ v514)) then
  (bif (decide (v514 < ((x511.length) : Int))) then
  (bif (decide ((x511.getD (v514.toNat) (0 : Int)) > x505)) then
  let v519 := (IntKind.wrap .i64 (((x511.length) : Int) - (1 : Int)))
  (bif (decide ((0 : Int) ≤ v519)) then
  (bif (decide (v519 ≤ ((x511.length) : Int))) then
  (andThen (F24v2 n (8 : Int) ({ data := #[] } : ByteArray) x508 x506 x507 x508 (v519.toNat) x509 x510 x511 x512) fun r559 =>
  (rec x505 r559.2.1.1 r559.2.1.2.1 r559.2.1.2.2.1 r559.2.1.2.2.2.2.2.2.1 r559.2.1.2.2.2.2.2.2.2.1 (r559.2.2.1.take r559.2.1.2.2.2.1) r559.2.2.2.2.1))
  else none)
  else none)
  else (k0 x506 x507 x508 x509 x510 x511 x512))
  else none)
  else none)
noncomputable def F23_0_it {R : Type} (n : Nat) (k0 : ByteArray → Int → Int → Int → Int → List Int → List Tok → Option R) : Nat → Int → ByteArray → Int → Int → Int → Int → List Int → List Tok → Option R
  | 0, _, _, _, _, _, _, _, _ => none
  | k + 1, x505, x506, x507, x508, x509, x510, x511, x512 => F23_0_step n k0 (F23_0_it n k0 k) x505 x506 x507 x508 x509 x510 x511 x512
noncomputable def F23_0 {R : Type} (n : Nat) (x505 : Int) (x506 : ByteArray) (x507 : Int) (x508 : Int) (x509 : Int) (x510 : Int) (x511 : List Int) (x512 : List Tok) (k0 : ByteArray → Int → Int → Int → Int → List Int → List Tok → Option R) : Option R := F23_0_it n k0 n x505 x506 x507 x508 x509 x510 x511 x512
noncomputable def F23_0z (n : Nat) : Sm G := inZ G 2 ⟨[0, 1], [(0, (.cell 3 (.mv 0))), (0, (.cell 5 (.own 3)))]⟩ F23_0s fun R x K => F23_0_it n (fun u0 u1 u2 u3 u4 u5 u6 => K (.exit 0) (SSh.enc G F23_0x0 ((), ((u0, (u1, (u2, ((), ((), ((), (u3, (u4, ())))))))), ((), (u5, (u6, ()))))))) n x.1.2.1 x.2.1.1 x.2.1.2.1 x.2.1.2.2.1 x.2.1.2.2.2.2.2.2.1 x.2.1.2.2.2.2.2.2.2.1 x.2.2.2.1 x.2.2.2.2.1
theorem F23_0_eq (n : Nat) (R : Type) (rec : SSh.den G F23_0s → Option R) (x : SSh.den G F23_0s) (K : AE → St G → Option R) :
  F23_0_step n (fun u0 u1 u2 u3 u4 u5 u6 => K (.exit 0) (SSh.enc G F23_0x0 ((), ((u0, (u1, (u2, ((), ((), ((), (u3, (u4, ())))))))), ((), (u5, (u6, ()))))))) (fun x505 x506 x507 x508 x509 x510 x511 x512 => rec (((), (x505, ())), ((x506, (x507, (x508, ((), ((), ((), (x509, (x510, ())))))))), ((), (x511, (x512, ())))))) x.1.2.1 x.2.1.1 x.2.1.2.1 x.2.1.2.2.1 x.2.1.2.2.2.2.2.2.1 x.2.1.2.2.2.2.2.2.2.1 x.2.2.2.1 x.2.2.2.2.1 = exec prog G (ro G (tabOf (E25 n)) (frOf []) R) 2 (codeAt F23c [1, 1, 1, 0, 0]) .no (SSh.enc G F23_0s x) (kLoop G (ro G (tabOf (E25 n)) (frOf []) R) 2 ⟨[0, 1], [(0, (.cell 3 (.mv 0))), (0, (.cell 5 (.own 3)))]⟩ F23_0s ⟨⟨[], []⟩, ⟨[], []⟩, [(0, ⟨[], []⟩)]⟩ rec K) := by kernel_rfl
theorem F23_0_ok (n : Nat) : FragOK prog G 2 (codeAt F23c [1, 1, 1, 0]) (F23_0z n) :=
  frag_loop (Z := fun R k (x : SSh.den G F23_0s) K => F23_0_it n (fun u0 u1 u2 u3 u4 u5 u6 => K (.exit 0) (SSh.enc G F23_0x0 ((), ((u0, (u1, (u2, ((), ((), ((), (u3, (u4, ())))))))), ((), (u5, (u6, ()))))))) k x.1.2.1 x.2.1.1 x.2.1.2.1 x.2.1.2.2.1 x.2.1.2.2.2.2.2.2.1 x.2.1.2.2.2.2.2.2.2.1 x.2.2.2.1 x.2.2.2.2.1) laws fnok (E25_ok n).tab (AllF.of (l := []) (by kernel_rfl) AllF.nil) (fun _ _ _ => rfl) (fun R k y K => F23_0_eq n R (fun (x : SSh.den G F23_0s) => F23_0_it n (fun u0 u1 u2 u3 u4 u5 u6 => K (.exit 0) (SSh.enc G F23_0x0 ((), ((u0, (u1, (u2, ((), ((), ((), (u3, (u4, ())))))))), ((), (u5, (u6, ()))))))) k x.1.2.1 x.2.1.1 x.2.1.2.1 x.2.1.2.2.1 x.2.1.2.2.2.2.2.2.1 x.2.1.2.2.2.2.2.2.2.1 x.2.2.2.1 x.2.2.2.2.1) y K) n
noncomputable def F23 (n : Nat) (a487 : Int) (a488 : ByteArray) (a489 : Int) (a490 : Int) (a491 : Int) (a492 : Int) (a493 : List Int) : Option (Unit × ((ByteArray × (Int × (Int × (Unit × (Unit × (Unit × (Int × (Int × Unit)))))))) × (Unit × (List Int × (List Tok × Unit))))) :=
  let v495 := (IntKind.wrap .i64 (((a493.length) : Int) - (1 : Int)))
  (bif (decide ((0 : Int) ≤ v495)) then
  (bif (decide (v495 < ((a493.length) : Int))) then
  (bif (decide (a487 > (a493.getD (v495.toNat) (0 : Int)))) then
  let v499 := (a487 :: [])
  (bif (decide (((a493.length) + (v499.length)) ≤ (68719476736 : Nat))) then
  (andThen (F24 n (7 : Int) ({ data := #[] } : ByteArray) a490 a488 a489 a490 a491 a492 (a493 ++ v499)) fun r501 =>
  some ((), ((r501.2.1.1, (r501.2.1.2.1, (r501.2.1.2.2.1, ((), ((), ((), (r501.2.1.2.2.2.2.2.2.1, (r501.2.1.2.2.2.2.2.2.2.1, ())))))))), ((), (r501.2.2.1, (r501.2.2.2.1, ()))))))
  else none)
  else (andThen (F28 n a493 a487) fun r502 =>
  (bif (!r502.1) then
  (andThen (F26 n (4 : Int) a490 a488 a489 a490 a491 a492 a493) fun r504 =>
  some ((), ((r504.2.1.1, (r504.2.1.2.1, (r504.2.1.2.2.1, ((), ((), ((), (r504.2.1.2.2.2.2.2.2.1, (r504.2.1.2.2.2.2.2.2.2.1, ())))))))), ((), (r504.2.2.1, ([], ()))))))
  else (F23_0 n a487 a488 a489 a490 a491 a492 a493 [] (fun z561 z562 z563 z564 z565 z566 z567 =>
  some ((), ((z561, (z562, (z563, ((), ((), ((), (z564, (z565, ())))))))), ((), (z566, (z567, ()))))))))))
  else none)
  else none)
noncomputable def F23e (n : Nat) : Ent G := ⟨23, (.cons (.ptr 0 0) (.cons (.int .i64) .nil)), [(.box 41 (.cons .str (.cons (.int .i64) (.cons (.int .i64) (.cons (.own 1) (.cons .nil0 (.cons .nil0 (.cons (.int .i64) (.cons (.int .i64) .nil))))))))), (.arr 0 true)], (.tup .nil), [(.box 41 (.cons .str (.cons (.int .i64) (.cons (.int .i64) (.cons (.own 2) (.cons .nil0 (.cons (.own 3) (.cons (.int .i64) (.cons (.int .i64) .nil))))))))), .dead, (.arr 0 true), (.arr 3 true)], fun x y => F23 n x.2.1 y.1.1 y.1.2.1 y.1.2.2.1 y.1.2.2.2.2.2.2.1 y.1.2.2.2.2.2.2.2.1 y.2.1⟩
theorem F23_eq (n : Nat) (x : ShL.den G (.cons (.ptr 0 0) (.cons (.int .i64) .nil))) (y : denO G [(.box 41 (.cons .str (.cons (.int .i64) (.cons (.int .i64) (.cons (.own 1) (.cons .nil0 (.cons .nil0 (.cons (.int .i64) (.cons (.int .i64) .nil))))))))), (.arr 0 true)]) : (F23e n).F x y = runFn prog G (ro G (tabOf (E25 n)) (frOf [F23_0z n]) _) Go.Proofs.Try.f23 (.nd .no (.nd .no (.nd .no (.nd (.use 0) .no)))) [(0, (.obj 0 3 (.mv 0))), (0, (.obj 0 5 (.mv 3)))] (ShL.enc G (.cons (.ptr 0 0) (.cons (.int .i64) .nil)) x) (encO G [(.box 41 (.cons .str (.cons (.int .i64) (.cons (.int .i64) (.cons (.own 1) (.cons .nil0 (.cons .nil0 (.cons (.int .i64) (.cons (.int .i64) .nil))))))))), (.arr 0 true)] y) (decR (.tup .nil) [(.box 41 (.cons .str (.cons (.int .i64) (.cons (.int .i64) (.cons (.own 2) (.cons .nil0 (.cons (.own 3) (.cons (.int .i64) (.cons (.int .i64) .nil))))))))), .dead, (.arr 0 true), (.arr 3 true)]) := by kernel_rfl
theorem F23_ok (n : Nat) : EntOK prog G (F23e n) :=
  ent_ok (fr := frOf [F23_0z n]) (ann := (.nd .no (.nd .no (.nd .no (.nd (.use 0) .no))))) (frm := [(0, (.obj 0 3 (.mv 0))), (0, (.obj 0 5 (.mv 3)))]) laws fnok (E25_ok n).tab (e := F23e n) (fn := Go.Proofs.Try.f23) (by kernel_rfl) (AllF.ofB (cd := F23c) (l := [(0, codeAt F23c [1, 1, 1, 0])]) (by kernel_rfl) (by kernel_rfl) (AllF.cons (F23_0_ok n) AllF.nil)) (F23_eq n)
noncomputable def E26 (n : Nat) : List (Ent G) := F23e n :: E25 n
theorem E26_ok (n : Nat) : AllE prog G (E26 n) := AllE.cons (F23_ok n) (E25_ok n)
-- 14 (*loop.example/slowworm/impl.lexer).run
noncomputable def F14c : Code := bodyOf Go.Proofs.Try.f14
-- 15 (*loop.example/slowworm/impl.lexer).fine
noncomputable def F15v3c : Code := bodyOf Go.Proofs.Try.f15
noncomputable def F15v3 (n : Nat) (a649 : ByteArray) (a650 : Int) (a651 : Int) (a652 : Int) (a653 : Int) (a654 : List Int) (a655 : List Tok) : Option (Bool × ((ByteArray × (Int × (Int × (Unit × (Unit × (Unit × (Int × (Int × Unit)))))))) × (List Int × (List Tok × Unit)))) :=
  some (((a652 == (0 : Int)) && (a653 == (0 : Int))), ((a649, (a650, (a651, ((), ((), ((), (a652, (a653, ())))))))), (a654, (a655, ()))))
noncomputable def F15v3e (n : Nat) : Ent G := ⟨15, (.cons (.ptr 0 0) .nil), [(.box 41 (.cons .str (.cons (.int .i64) (.cons (.int .i64) (.cons (.own 1) (.cons .nil0 (.cons (.own 2) (.cons (.int .i64) (.cons (.int .i64) .nil))))))))), (.arr 0 true), (.arr 3 true)], .bool, [(.box 41 (.cons .str (.cons (.int .i64) (.cons (.int .i64) (.cons (.own 1) (.cons .nil0 (.cons (.own 2) (.cons (.int .i64) (.cons (.int .i64) .nil))))))))), (.arr 0 true), (.arr 3 true)], fun x y => F15v3 n y.1.1 y.1.2.1 y.1.2.2.1 y.1.2.2.2.2.2.2.1 y.1.2.2.2.2.2.2.2.1 y.2.1 y.2.2.1⟩
theorem F15v3_eq (n : Nat) (x : ShL.den G (.cons (.ptr 0 0) .nil)) (y : denO G [(.box 41 (.cons .str (.cons (.int .i64) (.cons (.int .i64) (.cons (.own 1) (.cons .nil0 (.cons (.own 2) (.cons (.int .i64) (.cons (.int .i64) .nil))))))))), (.arr 0 true), (.arr 3 true)]) : (F15v3e n).F x y = runFn prog G (ro G (tabOf (E26 n)) (frOf []) _) Go.Proofs.Try.f15 .no [(0, .fz)] (ShL.enc G (.cons (.ptr 0 0) .nil) x) (encO G [(.box 41 (.cons .str (.cons (.int .i64) (.cons (.int .i64) (.cons (.own 1) (.cons .nil0 (.cons (.own 2) (.cons (.int .i64) (.cons (.int .i64) .nil))))))))), (.arr 0 true), (.arr 3 true)] y) (decR .bool [(.box 41 (.cons .str (.cons (.int .i64) (.cons (.int .i64) (.cons (.own 1) (.cons .nil0 (.cons (.own 2) (.cons (.int .i64) (.cons (.int .i64) .nil))))))))), (.arr 0 true), (.arr 3 true)]) := by kernel_rfl
theorem F15v3_ok (n : Nat) : EntOK prog G (F15v3e n) :=
  ent_ok (fr := frOf []) (ann := .no) (frm := [(0, .fz)]) laws fnok (E26_ok n).tab (e := F15v3e n) (fn := Go.Proofs.Try.f15) (by kernel_rfl) (AllF.ofB (cd := F15v3c) (l := []) (by kernel_rfl) (by kernel_rfl) AllF.nil) (F15v3_eq n)
noncomputable def E27 (n : Nat) : List (Ent G) := F15v3e n :: E26 n
theorem E27_ok (n : Nat) : AllE prog G (E27 n) := AllE.cons (F15v3_ok n) (E26_ok n)
noncomputable def F14_0x0 : SSh := ⟨204, [(0, (.ptr 0 0)), (2, .bool), (3, (.int .i64))], [(.box 41 (.cons .str (.cons (.int .i64) (.cons (.int .i64) (.cons (.own 2) (.cons .nil0 (.cons (.own 3) (.cons (.int .i64) (.cons (.int .i64) .nil))))))))), .dead, (.arr 0 true), (.arr 3 true)]⟩
noncomputable def F14_0s : SSh := ⟨204, [(0, (.ptr 0 0)), (2, .bool), (3, (.int .i64))], [(.box 41 (.cons .str (.cons (.int .i64) (.cons (.int .i64) (.cons (.own 2) (.cons .nil0 (.cons (.own 3) (.cons (.int .i64) (.cons (.int .i64) .nil))))))))), .dead, (.arr 0 true), (.arr 3 true)]⟩
noncomputable def F14_0_step {R : Type} (n : Nat) (k0 : Bool → Int → ByteArray → Int → Int → Int → Int → List Int → List Tok → Option R) (rec : Bool → Int → ByteArray → Int → Int → Int → Int → List Int → List Tok → Option R) (x658 : Bool) (x659 : Int) (x660 : ByteArray) (x661 : Int) (x662 : Int) (x663 : Int) (x664 : Int) (x665 : List Int) (x666 : List Tok) : Option R :=
  (bif (decide ((IntKind.wrap .i64 (x661 + x659)) < ((x660.size) : Int))) then
  let v670 := (IntKind.wrap .i64 (x661 + x659))
  (bif (decide ((0 : Int) ≤ v670)) then
  (bif (decide (v670 < ((x660.size) : Int))) then
  (bif ((strOf x660 (v670.toNat)) == (32 : Int)) then
  (rec x658 (IntKind.wrap .i64 (x659 + (1 : Int))) x660 x661 x662 x663 x664 x665 x666)
  else (k0 x658 x659 x660 x661 x662 x663 x664 x665 x666))
  else none)
  else none)
  else (k0 x658 x659 x660 x661 x662 x663 x664 x665 x666))
noncomputable def F14_0_it {R : Type} (n : Nat) (k0 : Bool → Int → ByteArray → Int → Int → Int → Int → List Int → List Tok → Option R) : Nat → Bool → Int → ByteArray → Int → Int → Int → Int → List Int → List Tok → Option R
  | 0, _, _, _, _, _, _, _, _, _ => none
  | k + 1, x658, x659, x660, x661, x662, x663, x664, x665, x666 => F14_0_step n k0 (F14_0_it n k0 k) x658 x659 x660 x661 x662 x663 x664 x665 x666
noncomputable def F14_0 {R : Type} (n : Nat) (x658 : Bool) (x659 : Int) (x660 : ByteArray) (x661 : Int) (x662 : Int) (x663 : Int) (x664 : Int) (x665 : List Int) (x666 : List Tok) (k0 : Bool → Int → ByteArray → Int → Int → Int → Int → List Int → List Tok → Option R) : Option R := F14_0_it n k0 n x658 x659 x660 x661 x662 x663 x664 x665 x666
noncomputable def F14_0z (n : Nat) : Sm G := inZ G 2 ⟨[0, 2, 3], []⟩ F14_0s fun R x K => F14_0_it n (fun u0 u1 u2 u3 u4 u5 u6 u7 u8 => K (.exit 2) (SSh.enc G F14_0x0 (((), (u0, (u1, ()))), ((u2, (u3, (u4, ((), ((), ((), (u5, (u6, ())))))))), ((), (u7, (u8, ()))))))) n x.1.2.1 x.1.2.2.1 x.2.1.1 x.2.1.2.1 x.2.1.2.2.1 x.2.1.2.2.2.2.2.2.1 x.2.1.2.2.2.2.2.2.2.1 x.2.2.2.1 x.2.2.2.2.1
theorem F14_0_eq (n : Nat) (R : Type) (rec : SSh.den G F14_0s → Option R) (x : SSh.den G F14_0s) (K : AE → St G → Option R) :
  F14_0_step n (fun u0 u1 u2 u3 u4 u5 u6 u7 u8 => K (.exit 2) (SSh.enc G F14_0x0 (((), (u0, (u1, ()))), ((u2, (u3, (u4, ((), ((), ((), (u5, (u6, ())))))))), ((), (u7, (u8, ()))))))) (fun x658 x659 x660 x661 x662 x663 x664 x665 x666 => rec (((), (x658, (x659, ()))), ((x660, (x661, (x662, ((), ((), ((), (x663, (x664, ())))))))), ((), (x665, (x666, ())))))) x.1.2.1 x.1.2.2.1 x.2.1.1 x.2.1.2.1 x.2.1.2.2.1 x.2.1.2.2.2.2.2.2.1 x.2.1.2.2.2.2.2.2.2.1 x.2.2.2.1 x.2.2.2.2.1 = exec prog G (ro G (tabOf (E27 n)) (frOf []) R) 2 (codeAt F14c [1, 0, 0, 0, 1, 0, 0, 1, 0, 1, 0, 0, 0]) .no (SSh.enc G F14_0s x) (kLoop G (ro G (tabOf (E27 n)) (frOf []) R) 2 ⟨[0, 2, 3], []⟩ F14_0s ⟨⟨[0, 2, 3], []⟩, ⟨[], []⟩, [(2, ⟨[0, 2, 3], []⟩), (1, ⟨[0, 2], []⟩), (0, ⟨[0, 2], []⟩)]⟩ rec K) := by kernel_rfl
theorem F14_0_ok (n : Nat) : FragOK prog G 2 (codeAt F14c [1, 0, 0, 0, 1, 0, 0, 1, 0, 1, 0, 0]) (F14_0z n) :=
  frag_loop (Z := fun R k (x : SSh.den G F14_0s) K => F14_0_it n (fun u0 u1 u2 u3 u4 u5 u6 u7 u8 => K (.exit 2) (SSh.enc G F14_0x0 (((), (u0, (u1, ()))), ((u2, (u3, (u4, ((), ((), ((), (u5, (u6, ())))))))), ((), (u7, (u8, ()))))))) k x.1.2.1 x.1.2.2.1 x.2.1.1 x.2.1.2.1 x.2.1.2.2.1 x.2.1.2.2.2.2.2.2.1 x.2.1.2.2.2.2.2.2.2.1 x.2.2.2.1 x.2.2.2.2.1) laws fnok (E27_ok n).tab (AllF.of (l := []) (by kernel_rfl) AllF.nil) (fun _ _ _ => rfl) (fun R k y K => F14_0_eq n R (fun (x : SSh.den G F14_0s) => F14_0_it n (fun u0 u1 u2 u3 u4 u5 u6 u7 u8 => K (.exit 2) (SSh.enc G F14_0x0 (((), (u0, (u1, ()))), ((u2, (u3, (u4, ((), ((), ((), (u5, (u6, ())))))))), ((), (u7, (u8, ()))))))) k x.1.2.1 x.1.2.2.1 x.2.1.1 x.2.1.2.1 x.2.1.2.2.1 x.2.1.2.2.2.2.2.2.1 x.2.1.2.2.2.2.2.2.2.1 x.2.2.2.1 x.2.2.2.2.1) y K) n
-- 22 (*loop.example/slowworm/impl.lexer).skip
noncomputable def F22v1c : Code := bodyOf Go.Proofs.Try.f22
noncomputable def F22v1_0x0 : SSh := ⟨31, [], [(.box 41 (.cons .str (.cons (.int .i64) (.cons (.int .i64) (.cons (.own 1) (.cons .nil0 (.cons (.own 2) (.cons (.int .i64) (.cons (.int .i64) .nil))))))))), (.arr 0 true), (.arr 3 true)]⟩
noncomputable def F22v1_0s : SSh := ⟨31, [(0, (.ptr 0 0))], [(.box 41 (.cons .str (.cons (.int .i64) (.cons (.int .i64) (.cons (.own 1) (.cons .nil0 (.cons (.own 2) (.cons (.int .i64) (.cons (.int .i64) .nil))))))))), (.arr 0 true), (.arr 3 true)]⟩
noncomputable def F22v1_0_step {R : Type} (n : Nat) (k0 : ByteArray → Int → Int → Int → Int → List Int → List Tok → Option R) (rec : ByteArray → Int → Int → Int → Int → List Int → List Tok → Option R) (x699 : ByteArray) (x700 : Int) (x701 : Int) (x702 : Int) (x703 : Int) (x704 : List Int) (x705 : List Tok) : Option R :=
  (bif (decide (x700 < ((x699.size) : Int))) then
  (bif (decide ((0 : Int) ≤ x700)) then
  (bif (decide (x700 < ((x699.size) : Int))) then
  (bif ((strOf x699 (x700.toNat)) != (10 : Int)) then
  (rec x699 (IntKind.wrap .i64 (x700 + (1 : Int))) x701 x702 x703 x704 x705)
  else (k0 x699 x700 x701 x702 x703 x704 x705))
  else none)
  else none)
  else (k0 x699 x700 x701 x702 x703 x704 x705))
noncomputable def F22v1_0_it {R : Type} (n : Nat) (k0 : ByteArray → Int → Int → Int → Int → List Int → List Tok → Option R) : Nat → ByteArray → Int → Int → Int → Int → List Int → List Tok → Option R
  | 0, _, _, _, _, _, _, _ => none
  | k + 1, x699, x700, x701, x702, x703, x704, x705 => F22v1_0_step n k0 (F22v1_0_it n k0 k) x699 x700 x701 x702 x703 x704 x705
noncomputable def F22v1_0 {R : Type} (n : Nat) (x699 : ByteArray) (x700 : Int) (x701 : Int) (x702 : Int) (x703 : Int) (x704 : List Int) (x705 : List Tok) (k0 : ByteArray → Int → Int → Int → Int → List Int → List Tok → Option R) : Option R := F22v1_0_it n k0 n x699 x700 x701 x702 x703 x704 x705
noncomputable def F22v1_0z (n : Nat) : Sm G := inZ G 3 ⟨[0], []⟩ F22v1_0s fun R x K => F22v1_0_it n (fun u0 u1 u2 u3 u4 u5 u6 => K (.exit 0) (SSh.enc G F22v1_0x0 ((), ((u0, (u1, (u2, ((), ((), ((), (u3, (u4, ())))))))), (u5, (u6, ())))))) n x.2.1.1 x.2.1.2.1 x.2.1.2.2.1 x.2.1.2.2.2.2.2.2.1 x.2.1.2.2.2.2.2.2.2.1 x.2.2.1 x.2.2.2.1
theorem F22v1_0_eq (n : Nat) (R : Type) (rec : SSh.den G F22v1_0s → Option R) (x : SSh.den G F22v1_0s) (K : AE → St G → Option R) :
  F22v1_0_step n (fun u0 u1 u2 u3 u4 u5 u6 => K (.exit 0) (SSh.enc G F22v1_0x0 ((), ((u0, (u1, (u2, ((), ((), ((), (u3, (u4, ())))))))), (u5, (u6, ())))))) (fun x699 x700 x701 x702 x703 x704 x705 => rec (((), ()), ((x699, (x700, (x701, ((), ((), ((), (x702, (x703, ())))))))), (x704, (x705, ()))))) x.2.1.1 x.2.1.2.1 x.2.1.2.2.1 x.2.1.2.2.2.2.2.2.1 x.2.1.2.2.2.2.2.2.2.1 x.2.2.1 x.2.2.2.1 = exec prog G (ro G (tabOf (E27 n)) (frOf []) R) 3 (codeAt F22v1c [0, 0]) .no (SSh.enc G F22v1_0s x) (kLoop G (ro G (tabOf (E27 n)) (frOf []) R) 3 ⟨[0], []⟩ F22v1_0s ⟨⟨[], []⟩, ⟨[], []⟩, [(0, ⟨[], []⟩)]⟩ rec K) := by kernel_rfl
theorem F22v1_0_ok (n : Nat) : FragOK prog G 3 (codeAt F22v1c [0]) (F22v1_0z n) :=
  frag_loop (Z := fun R k (x : SSh.den G F22v1_0s) K => F22v1_0_it n (fun u0 u1 u2 u3 u4 u5 u6 => K (.exit 0) (SSh.enc G F22v1_0x0 ((), ((u0, (u1, (u2, ((), ((), ((), (u3, (u4, ())))))))), (u5, (u6, ())))))) k x.2.1.1 x.2.1.2.1 x.2.1.2.2.1 x.2.1.2.2.2.2.2.2.1 x.2.1.2.2.2.2.2.2.2.1 x.2.2.1 x.2.2.2.1) laws fnok (E27_ok n).tab (AllF.of (l := []) (by kernel_rfl) AllF.nil) (fun _ _ _ => rfl) (fun R k y K => F22v1_0_eq n R (fun (x : SSh.den G F22v1_0s) => F22v1_0_it n (fun u0 u1 u2 u3 u4 u5 u6 => K (.exit 0) (SSh.enc G F22v1_0x0 ((), ((u0, (u1, (u2, ((), ((), ((), (u3, (u4, ())))))))), (u5, (u6, ())))))) k x.2.1.1 x.2.1.2.1 x.2.1.2.2.1 x.2.1.2.2.2.2.2.2.1 x.2.1.2.2.2.2.2.2.2.1 x.2.2.1 x.2.2.2.1) y K) n
noncomputable def F22v1 (n : Nat) (a692 : ByteArray) (a693 : Int) (a694 : Int) (a695 : Int) (a696 : Int) (a697 : List Int) (a698 : List Tok) : Option (Unit × ((ByteArray × (Int × (Int × (Unit × (Unit × (Unit × (Int × (Int × Unit)))))))) × (List Int × (List Tok × Unit)))) :=
  (F22v1_0 n a692 a693 a694 a695 a696 a697 a698 (fun z711 z712 z713 z714 z715 z716 z717 =>
  some ((), ((z711, (z712, (z713, ((), ((), ((), (z714, (z715, ())))))))), (z716, (z717, ()))))))
noncomputable def F22v1e (n : Nat) : Ent G := ⟨22, (.cons (.ptr 0 0) .nil), [(.box 41 (.cons .str (.cons (.int .i64) (.cons (.int .i64) (.cons (.own 1) (.cons .nil0 (.cons (.own 2) (.cons (.int .i64) (.cons (.int .i64) .nil))))))))), (.arr 0 true), (.arr 3 true)], (.tup .nil), [(.box 41 (.cons .str (.cons (.int .i64) (.cons (.int .i64) (.cons (.own 1) (.cons .nil0 (.cons (.own 2) (.cons (.int .i64) (.cons (.int .i64) .nil))))))))), (.arr 0 true), (.arr 3 true)], fun x y => F22v1 n y.1.1 y.1.2.1 y.1.2.2.1 y.1.2.2.2.2.2.2.1 y.1.2.2.2.2.2.2.2.1 y.2.1 y.2.2.1⟩
theorem F22v1_eq (n : Nat) (x : ShL.den G (.cons (.ptr 0 0) .nil)) (y : denO G [(.box 41 (.cons .str (.cons (.int .i64) (.cons (.int .i64) (.cons (.own 1) (.cons .nil0 (.cons (.own 2) (.cons (.int .i64) (.cons (.int .i64) .nil))))))))), (.arr 0 true), (.arr 3 true)]) : (F22v1e n).F x y = runFn prog G (ro G (tabOf (E27 n)) (frOf [F22v1_0z n]) _) Go.Proofs.Try.f22 (.nd (.use 0) .no) [] (ShL.enc G (.cons (.ptr 0 0) .nil) x) (encO G [(.box 41 (.cons .str (.cons (.int .i64) (.cons (.int .i64) (.cons (.own 1) (.cons .nil0 (.cons (.own 2) (.cons (.int .i64) (.cons (.int .i64) .nil))))))))), (.arr 0 true), (.arr 3 true)] y) (decR (.tup .nil) [(.box 41 (.cons .str (.cons (.int .i64) (.cons (.int .i64) (.cons (.own 1) (.cons .nil0 (.cons (.own 2) (.cons (.int .i64) (.cons (.int .i64) .nil))))))))), (.arr 0 true), (.arr 3 true)]) := by kernel_rfl
theorem F22v1_ok (n : Nat) : EntOK prog G (F22v1e n) :=
  ent_ok (fr := frOf [F22v1_0z n]) (ann := (.nd (.use 0) .no)) (frm := []) laws fnok (E27_ok n).tab (e := F22v1e n) (fn := Go.Proofs.Try.f22) (by kernel_rfl) (AllF.ofB (cd := F22v1c) (l := [(0, codeAt F22v1c [0])]) (by kernel_rfl) (by kernel_rfl) (AllF.cons (F22v1_0_ok n) AllF.nil)) (F22v1_eq n)
noncomputable def E28 (n : Nat) : List (Ent G) := F22v1e n :: E27 n
theorem E28_ok (n : Nat) : AllE prog G (E28 n) := AllE.cons (F22v1_ok n) (E27_ok n)
-- 24 (*loop.example/slowworm/impl.lexer).put
noncomputable def F24v3c : Code := bodyOf Go.Proofs.Try.f24
-- 26 (*loop.example/slowworm/impl.lexer).bad
noncomputable def F26v2c : Code := bodyOf Go.Proofs.Try.f26
noncomputable def F26v2 (n : Nat) (a748 : Int) (a749 : Int) (a750 : ByteArray) (a751 : Int) (a752 : Int) (a753 : Int) (a754 : Int) (a755 : List Int) (a756 : List Tok) : Option (Unit × ((ByteArray × (Int × (Int × (Unit × (Unit × (Unit × (Int × (Int × Unit)))))))) × (List Int × (List Tok × Unit)))) :=
  (bif ((a753 == (0 : Int)) && (a754 == (0 : Int))) then
  some ((), ((a750, (a751, (a752, ((), ((), ((), (a749, (a748, ())))))))), (a755, (a756, ()))))
  else some ((), ((a750, (a751, (a752, ((), ((), ((), (a753, (a754, ())))))))), (a755, (a756, ())))))
noncomputable def F26v2e (n : Nat) : Ent G := ⟨26, (.cons (.ptr 0 0) (.cons (.int .i64) (.cons (.int .i64) .nil))), [(.box 41 (.cons .str (.cons (.int .i64) (.cons (.int .i64) (.cons (.own 1) (.cons .nil0 (.cons (.own 2) (.cons (.int .i64) (.cons (.int .i64) .nil))))))))), (.arr 0 true), (.arr 3 true)], (.tup .nil), [(.box 41 (.cons .str (.cons (.int .i64) (.cons (.int .i64) (.cons (.own 1) (.cons .nil0 (.cons (.own 2) (.cons (.int .i64) (.cons (.int .i64) .nil))))))))), (.arr 0 true), (.arr 3 true)], fun x y => F26v2 n x.2.1 x.2.2.1 y.1.1 y.1.2.1 y.1.2.2.1 y.1.2.2.2.2.2.2.1 y.1.2.2.2.2.2.2.2.1 y.2.1 y.2.2.1⟩
theorem F26v2_eq (n : Nat) (x : ShL.den G (.cons (.ptr 0 0) (.cons (.int .i64) (.cons (.int .i64) .nil)))) (y : denO G [(.box 41 (.cons .str (.cons (.int .i64) (.cons (.int .i64) (.cons (.own 1) (.cons .nil0 (.cons (.own 2) (.cons (.int .i64) (.cons (.int .i64) .nil))))))))), (.arr 0 true), (.arr 3 true)]) : (F26v2e n).F x y = runFn prog G (ro G (tabOf (E28 n)) (frOf []) _) Go.Proofs.Try.f26 .no [] (ShL.enc G (.cons (.ptr 0 0) (.cons (.int .i64) (.cons (.int .i64) .nil))) x) (encO G [(.box 41 (.cons .str (.cons (.int .i64) (.cons (.int .i64) (.cons (.own 1) (.cons .nil0 (.cons (.own 2) (.cons (.int .i64) (.cons (.int .i64) .nil))))))))), (.arr 0 true), (.arr 3 true)] y) (decR (.tup .nil) [(.box 41 (.cons .str (.cons (.int .i64) (.cons (.int .i64) (.cons (.own 1) (.cons .nil0 (.cons (.own 2) (.cons (.int .i64) (.cons (.int .i64) .nil))))))))), (.arr 0 true), (.arr 3 true)]) := by kernel_rfl
theorem F26v2_ok (n : Nat) : EntOK prog G (F26v2e n) :=
  ent_ok (fr := frOf []) (ann := .no) (frm := []) laws fnok (E28_ok n).tab (e := F26v2e n) (fn := Go.Proofs.Try.f26) (by kernel_rfl) (AllF.ofB (cd := F26v2c) (l := []) (by kernel_rfl) (by kernel_rfl) AllF.nil) (F26v2_eq n)
noncomputable def E29 (n : Nat) : List (Ent G) := F26v2e n :: E28 n
theorem E29_ok (n : Nat) : AllE prog G (E29 n) := AllE.cons (F26v2_ok n) (E28_ok n)
noncomputable def F24v3 (n : Nat) (a734 : Int) (a735 : ByteArray) (a736 : Int) (a737 : ByteArray) (a738 : Int) (a739 : Int) (a740 : Int) (a741 : Int) (a742 : List Int) (a743 : List Tok) : Option (Unit × ((ByteArray × (Int × (Int × (Unit × (Unit × (Unit × (Int × (Int × Unit)))))))) × (List Int × (Unit × (List Tok × Unit))))) :=
  (andThen (F15v3 n a737 a738 a739 a740 a741 a742 a743) fun r744 =>
  (bif (!r744.1) then
  some ((), ((r744.2.1.1, (r744.2.1.2.1, (r744.2.1.2.2.1, ((), ((), ((), (r744.2.1.2.2.2.2.2.2.1, (r744.2.1.2.2.2.2.2.2.2.1, ())))))))), (r744.2.2.1, ((), (r744.2.2.2.1, ())))))
  else (bif (((r744.2.2.2.1.length) : Int) == (1500 : Int)) then
  (andThen (F26v2 n (6 : Int) a736 r744.2.1.1 r744.2.1.2.1 r744.2.1.2.2.1 r744.2.1.2.2.2.2.2.2.1 r744.2.1.2.2.2.2.2.2.2.1 r744.2.2.1 r744.2.2.2.1) fun r758 =>
  some ((), ((r758.2.1.1, (r758.2.1.2.1, (r758.2.1.2.2.1, ((), ((), ((), (r758.2.1.2.2.2.2.2.2.1, (r758.2.1.2.2.2.2.2.2.2.1, ())))))))), (r758.2.2.1, ((), (r758.2.2.2.1, ()))))))
  else let v759 := ((Tok.mk a734 a735 a736) :: [])
  (bif (decide (((r744.2.2.2.1.length) + (v759.length)) ≤ (68719476736 : Nat))) then
  some ((), ((r744.2.1.1, (r744.2.1.2.1, (r744.2.1.2.2.1, ((), ((), ((), (r744.2.1.2.2.2.2.2.2.1, (r744.2.1.2.2.2.2.2.2.2.1, ())))))))), (r744.2.2.1, ((), ((r744.2.2.2.1 ++ v759), ())))))
  else none))))
noncomputable def F24v3e (n : Nat) : Ent G := ⟨24, (.cons (.ptr 0 0) (.cons (.int .i64) (.cons .str (.cons (.int .i64) .nil)))), [(.box 41 (.cons .str (.cons (.int .i64) (.cons (.int .i64) (.cons (.own 1) (.cons .nil0 (.cons (.own 2) (.cons (.int .i64) (.cons (.int .i64) .nil))))))))), (.arr 0 true), (.arr 3 true)], (.tup .nil), [(.box 41 (.cons .str (.cons (.int .i64) (.cons (.int .i64) (.cons (.own 1) (.cons .nil0 (.cons (.own 3) (.cons (.int .i64) (.cons (.int .i64) .nil))))))))), (.arr 0 true), .dead, (.arr 3 true)], fun x y => F24v3 n x.2.1 x.2.2.1 x.2.2.2.1 y.1.1 y.1.2.1 y.1.2.2.1 y.1.2.2.2.2.2.2.1 y.1.2.2.2.2.2.2.2.1 y.2.1 y.2.2.1⟩
theorem F24v3_eq (n : Nat) (x : ShL.den G (.cons (.ptr 0 0) (.cons (.int .i64) (.cons .str (.cons (.int .i64) .nil))))) (y : denO G [(.box 41 (.cons .str (.cons (.int .i64) (.cons (.int .i64) (.cons (.own 1) (.cons .nil0 (.cons (.own 2) (.cons (.int .i64) (.cons (.int .i64) .nil))))))))), (.arr 0 true), (.arr 3 true)]) : (F24v3e n).F x y = runFn prog G (ro G (tabOf (E29 n)) (frOf []) _) Go.Proofs.Try.f24 .no [(0, (.obj 0 5 (.mv 3)))] (ShL.enc G (.cons (.ptr 0 0) (.cons (.int .i64) (.cons .str (.cons (.int .i64) .nil)))) x) (encO G [(.box 41 (.cons .str (.cons (.int .i64) (.cons (.int .i64) (.cons (.own 1) (.cons .nil0 (.cons (.own 2) (.cons (.int .i64) (.cons (.int .i64) .nil))))))))), (.arr 0 true), (.arr 3 true)] y) (decR (.tup .nil) [(.box 41 (.cons .str (.cons (.int .i64) (.cons (.int .i64) (.cons (.own 1) (.cons .nil0 (.cons (.own 3) (.cons (.int .i64) (.cons (.int .i64) .nil))))))))), (.arr 0 true), .dead, (.arr 3 true)]) := by kernel_rfl
theorem F24v3_ok (n : Nat) : EntOK prog G (F24v3e n) :=
  ent_ok (fr := frOf []) (ann := .no) (frm := [(0, (.obj 0 5 (.mv 3)))]) laws fnok (E29_ok n).tab (e := F24v3e n) (fn := Go.Proofs.Try.f24) (by kernel_rfl) (AllF.ofB (cd := F24v3c) (l := []) (by kernel_rfl) (by kernel_rfl) AllF.nil) (F24v3_eq n)
noncomputable def E30 (n : Nat) : List (Ent G) := F24v3e n :: E29 n
theorem E30_ok (n : Nat) : AllE prog G (E30 n) := AllE.cons (F24v3_ok n) (E29_ok n)
-- 23 (*loop.example/slowworm/impl.lexer).indent
noncomputable def F23v1c : Code := bodyOf Go.Proofs.Try.f23
noncomputable def F23v1_0x0 : SSh := ⟨83, [], [(.box 41 (.cons .str (.cons (.int .i64) (.cons (.int .i64) (.cons (.own 3) (.cons .nil0 (.cons (.own 4) (.cons (.int .i64) (.cons (.int .i64) .nil))))))))), .dead, .dead, (.arr 0 true), (.arr 3 true)]⟩
noncomputable def F23v1_0s : SSh := ⟨83, [(0, (.ptr 0 0)), (1, (.int .i64))], [(.box 41 (.cons .str (.cons (.int .i64) (.cons (.int .i64) (.cons (.own 3) (.cons .nil0 (.cons (.own 4) (.cons (.int .i64) (.cons (.int .i64) .nil))))))))), .dead, .dead, (.arr 0 true), (.arr 3 true)]⟩
noncomputable def F23v1_0_step {R : Type} (n : Nat) (k0 : ByteArray → Int → Int → Int → Int → List Int → List Tok → Option R) (rec : Int → ByteArray → Int → Int → Int → Int → List Int → List Tok → Option R) (x802 : Int) (x803 : ByteArray) (x804 : Int) (x805 : Int) (x806 : Int) (x807 : Int) (x808 : List Int) (x809 : List Tok) : Option R :=
  let v811 := (IntKind.wrap .i64 (((x808.length) : Int) - (1 : Int)))
  (bif (decide ((0 : Int) ≤ v811)) then
  (bif (decide (v811 < ((x808.length) : Int))) then
  (bif (decide ((x808.getD (v811.toNat) (0 : Int)) > x802)) then
  let v816 := (IntKind.wrap .i64 (((x808.length) : Int) - (1 : Int)))
  (bif (decide ((0 : Int) ≤ v816)) then
  (bif (decide (v816 ≤ ((x808.length) : Int))) then
  (andThen (F24v2 n (8 : Int) ({ data := #[] } : ByteArray) x805 x803 x804 x805 (v816.toNat) x806 x807 x808 x809) fun r818 =>
  (rec x802 r818.2.1.1 r818.2.1.2.1 r818.2.1.2.2.1 r818.2.1.2.2.2.2.2.2.1 r818.2.1.2.2.2.2.2.2.2.1 (r818.2.2.1.take r818.2.1.2.2.2.1) r818.2.2.2.2.1))
  else none)
  else none)
  else (k0 x803 x804 x805 x806 x807 x808 x809))
  else none)
  else none)
noncomputable def F23v1_0_it {R : Type} (n : Nat) (k0 : ByteArray → Int → Int → Int → Int → List Int → List Tok → Option R) : Nat → Int → ByteArray → Int → Int → Int → Int → List Int → List Tok → Option R
  | 0, _, _, _, _, _, _, _, _ => none
  | k + 1, x802, x803, x804, x805, x806, x807, x808, x809 => F23v1_0_step n k0 (F23v1_0_it n k0 k) x802 x803 x804 x805 x806 x807 x808 x809
noncomputable def F23v1_0 {R : Type} (n : Nat) (x802 : Int) (x803 : ByteArray) (x804 : Int) (x805 : Int) (x806 : Int) (x807 : Int) (x808 : List Int) (x809 : List Tok) (k0 : ByteArray → Int → Int → Int → Int → List Int → List Tok → Option R) : Option R := F23v1_0_it n k0 n x802 x803 x804 x805 x806 x807 x808 x809
noncomputable def F23v1_0z (n : Nat) : Sm G := inZ G 3 ⟨[0, 1], [(0, (.cell 3 (.mv 0))), (0, (.cell 5 (.mv 3)))]⟩ F23v1_0s fun R x K => F23v1_0_it n (fun u0 u1 u2 u3 u4 u5 u6 => K (.exit 0) (SSh.enc G F23v1_0x0 ((), ((u0, (u1, (u2, ((), ((), ((), (u3, (u4, ())))))))), ((), ((), (u5, (u6, ())))))))) n x.1.2.1 x.2.1.1 x.2.1.2.1 x.2.1.2.2.1 x.2.1.2.2.2.2.2.2.1 x.2.1.2.2.2.2.2.2.2.1 x.2.2.2.2.1 x.2.2.2.2.2.1
theorem F23v1_0_eq (n : Nat) (R : Type) (rec : SSh.den G F23v1_0s → Option R) (x : SSh.den G F23v1_0s) (K : AE → St G → Option R) :
  F23v1_0_step n (fun u0 u1 u2 u3 u4 u5 u6 => K (.exit 0) (SSh.enc G F23v1_0x0 ((), ((u0, (u1, (u2, ((), ((), ((), (u3, (u4, ())))))))), ((), ((), (u5, (u6, ())))))))) (fun x802 x803 x804 x805 x806 x807 x808 x809 => rec (((), (x802, ())), ((x803, (x804, (x805, ((), ((), ((), (x806, (x807, ())))))))), ((), ((), (x808, (x809, ()))))))) x.1.2.1 x.2.1.1 x.2.1.2.1 x.2.1.2.2.1 x.2.1.2.2.2.2.2.2.1 x.2.1.2.2.2.2.2.2.2.1 x.2.2.2.2.1 x.2.2.2.2.2.1 = exec prog G (ro G (tabOf (E30 n)) (frOf []) R) 3 (codeAt F23v1c [1, 1, 1, 0, 0]) .no (SSh.enc G F23v1_0s x) (kLoop G (ro G (tabOf (E30 n)) (frOf []) R) 3 ⟨[0, 1], [(0, (.cell 3 (.mv 0))), (0, (.cell 5 (.mv 3)))]⟩ F23v1_0s ⟨⟨[], []⟩, ⟨[], []⟩, [(0, ⟨[], []⟩)]⟩ rec K) := by kernel_rfl
theorem F23v1_0_ok (n : Nat) : FragOK prog G 3 (codeAt F23v1c [1, 1, 1, 0]) (F23v1_0z n) :=
  frag_loop (Z := fun R k (x : SSh.den G F23v1_0s) K => F23v1_0_it n (fun u0 u1 u2 u3 u4 u5 u6 => K (.exit 0) (SSh.enc G F23v1_0x0 ((), ((u0, (u1, (u2, ((), ((), ((), (u3, (u4, ())))))))), ((), ((), (u5, (u6, ())))))))) k x.1.2.1 x.2.1.1 x.2.1.2.1 x.2.1.2.2.1 x.2.1.2.2.2.2.2.2.1 x.2.1.2.2.2.2.2.2.2.1 x.2.2.2.2.1 x.2.2.2.2.2.1) laws fnok (E30_ok n).tab (AllF.of (l := []) (by kernel_rfl) AllF.nil) (fun _ _ _ => rfl) (fun R k y K => F23v1_0_eq n R (fun (x : SSh.den G F23v1_0s) => F23v1_0_it n (fun u0 u1 u2 u3 u4 u5 u6 => K (.exit 0) (SSh.enc G F23v1_0x0 ((), ((u0, (u1, (u2, ((), ((), ((), (u3, (u4, ())))))))), ((), ((), (u5, (u6, ())))))))) k x.1.2.1 x.2.1.1 x.2.1.2.1 x.2.1.2.2.1 x.2.1.2.2.2.2.2.2.1 x.2.1.2.2.2.2.2.2.2.1 x.2.2.2.2.1 x.2.2.2.2.2.1) y K) n
noncomputable def F23v1 (n : Nat) (a783 : Int) (a784 : ByteArray) (a785 : Int) (a786 : Int) (a787 : Int) (a788 : Int) (a789 : List Int) (a790 : List Tok) : Option (Unit × ((ByteArray × (Int × (Int × (Unit × (Unit × (Unit × (Int × (Int × Unit)))))))) × (Unit × (Unit × (List Int × (List Tok × Unit)))))) :=
  let v792 := (IntKind.wrap .i64 (((a789.length) : Int) - (1 : Int)))
  (bif (decide ((0 : Int) ≤ v792)) then
  (bif (decide (v792 < ((a789.length) : Int))) then
  (bif (decide (a783 > (a789.getD (v792.toNat) (0 : Int)))) then
  let v796 := (a783 :: [])
  (bif (decide (((a789.length) + (v796.length)) ≤ (68719476736 : Nat))) then
  (andThen (F24v3 n (7 : Int) ({ data := #[] } : ByteArray) a786 a784 a785 a786 a787 a788 (a789 ++ v796) a790) fun r798 =>
  some ((), ((r798.2.1.1, (r798.2.1.2.1, (r798.2.1.2.2.1, ((), ((), ((), (r798.2.1.2.2.2.2.2.2.1, (r798.2.1.2.2.2.2.2.2.2.1, ())))))))), ((), ((), (r798.2.2.1, (r798.2.2.2.2.1, ())))))))
  else none)
  else (andThen (F28 n a789 a783) fun r799 =>
  (bif (!r799.1) then
  (andThen (F26v2 n (4 : Int) a786 a784 a785 a786 a787 a788 a789 a790) fun r801 =>
  some ((), ((r801.2.1.1, (r801.2.1.2.1, (r801.2.1.2.2.1, ((), ((), ((), (r801.2.1.2.2.2.2.2.2.1, (r801.2.1.2.2.2.2.2.2.2.1, ())))))))), ((), ((), (r801.2.2.1, (r801.2.2.2.1, ())))))))
  else (F23v1_0 n a783 a784 a785 a786 a787 a788 a789 a790 (fun z820 z821 z822 z823 z824 z825 z826 =>
  some ((), ((z820, (z821, (z822, ((), ((), ((), (z823, (z824, ())))))))), ((), ((), (z825, (z826, ())))))))))))
  else none)
  else none)
noncomputable def F23v1e (n : Nat) : Ent G := ⟨23, (.cons (.ptr 0 0) (.cons (.int .i64) .nil)), [(.box 41 (.cons .str (.cons (.int .i64) (.cons (.int .i64) (.cons (.own 1) (.cons .nil0 (.cons (.own 2) (.cons (.int .i64) (.cons (.int .i64) .nil))))))))), (.arr 0 true), (.arr 3 true)], (.tup .nil), [(.box 41 (.cons .str (.cons (.int .i64) (.cons (.int .i64) (.cons (.own 3) (.cons .nil0 (.cons (.own 4) (.cons (.int .i64) (.cons (.int .i64) .nil))))))))), .dead, .dead, (.arr 0 true), (.arr 3 true)], fun x y => F23v1 n x.2.1 y.1.1 y.1.2.1 y.1.2.2.1 y.1.2.2.2.2.2.2.1 y.1.2.2.2.2.2.2.2.1 y.2.1 y.2.2.1⟩
theorem F23v1_eq (n : Nat) (x : ShL.den G (.cons (.ptr 0 0) (.cons (.int .i64) .nil))) (y : denO G [(.box 41 (.cons .str (.cons (.int .i64) (.cons (.int .i64) (.cons (.own 1) (.cons .nil0 (.cons (.own 2) (.cons (.int .i64) (.cons (.int .i64) .nil))))))))), (.arr 0 true), (.arr 3 true)]) : (F23v1e n).F x y = runFn prog G (ro G (tabOf (E30 n)) (frOf [F23v1_0z n]) _) Go.Proofs.Try.f23 (.nd .no (.nd .no (.nd .no (.nd (.use 0) .no)))) [(0, (.obj 0 3 (.mv 0))), (0, (.obj 0 5 (.mv 3)))] (ShL.enc G (.cons (.ptr 0 0) (.cons (.int .i64) .nil)) x) (encO G [(.box 41 (.cons .str (.cons (.int .i64) (.cons (.int .i64) (.cons (.own 1) (.cons .nil0 (.cons (.own 2) (.cons (.int .i64) (.cons (.int .i64) .nil))))))))), (.arr 0 true), (.arr 3 true)] y) (decR (.tup .nil) [(.box 41 (.cons .str (.cons (.int .i64) (.cons (.int .i64) (.cons (.own 3) (.cons .nil0 (.cons (.own 4) (.cons (.int .i64) (.cons (.int .i64) .nil))))))))), .dead, .dead, (.arr 0 true), (.arr 3 true)]) := by kernel_rfl
theorem F23v1_ok (n : Nat) : EntOK prog G (F23v1e n) :=
  ent_ok (fr := frOf [F23v1_0z n]) (ann := (.nd .no (.nd .no (.nd .no (.nd (.use 0) .no))))) (frm := [(0, (.obj 0 3 (.mv 0))), (0, (.obj 0 5 (.mv 3)))]) laws fnok (E30_ok n).tab (e := F23v1e n) (fn := Go.Proofs.Try.f23) (by kernel_rfl) (AllF.ofB (cd := F23v1c) (l := [(0, codeAt F23v1c [1, 1, 1, 0])]) (by kernel_rfl) (by kernel_rfl) (AllF.cons (F23v1_0_ok n) AllF.nil)) (F23v1_eq n)
noncomputable def E31 (n : Nat) : List (Ent G) := F23v1e n :: E30 n
theorem E31_ok (n : Nat) : AllE prog G (E31 n) := AllE.cons (F23v1_ok n) (E30_ok n)
noncomputable def F14_1x0 : SSh := ⟨204, [(0, (.ptr 0 0)), (2, .bool)], [(.box 41 (.cons .str (.cons (.int .i64) (.cons (.int .i64) (.cons (.own 2) (.cons .nil0 (.cons (.own 3) (.cons (.int .i64) (.cons (.int .i64) .nil))))))))), .dead, (.arr 0 true), (.arr 3 true)]⟩
noncomputable def F14_1s : SSh := ⟨204, [(0, (.ptr 0 0)), (2, .bool)], [(.box 41 (.cons .str (.cons (.int .i64) (.cons (.int .i64) (.cons (.own 2) (.cons .nil0 (.cons (.own 3) (.cons (.int .i64) (.cons (.int .i64) .nil))))))))), .dead, (.arr 0 true), (.arr 3 true)]⟩
noncomputable def F14_1 {R : Type} (n : Nat) (x835 : Bool) (x836 : ByteArray) (x837 : Int) (x838 : Int) (x839 : Int) (x840 : Int) (x841 : List Int) (x842 : List Tok) (k0 : Bool → ByteArray → Int → Int → Int → Int → List Int → List Tok → Option R) : Option R :=
  (andThen (F24v3 n (6 : Int) ({ data := #[] } : ByteArray) x838 x836 x837 x838 x839 x840 x841 x842) fun r843 =>
  (k0 true r843.2.1.1 r843.2.1.2.1 r843.2.1.2.2.1 r843.2.1.2.2.2.2.2.2.1 r843.2.1.2.2.2.2.2.2.2.1 r843.2.2.1 r843.2.2.2.2.1))
noncomputable def F14_1z (n : Nat) : Sm G := inZ G 2 ⟨[0, 2], []⟩ F14_1s fun R x K => F14_1 n x.1.2.1 x.2.1.1 x.2.1.2.1 x.2.1.2.2.1 x.2.1.2.2.2.2.2.2.1 x.2.1.2.2.2.2.2.2.2.1 x.2.2.2.1 x.2.2.2.2.1 (fun u0 u1 u2 u3 u4 u5 u6 u7 => K .normal (SSh.enc G F14_1x0 (((), (u0, ())), ((u1, (u2, (u3, ((), ((), ((), (u4, (u5, ())))))))), ((), (u6, (u7, ())))))))
theorem F14_1_eq (n : Nat) (R : Type) (x : SSh.den G F14_1s) (K : AE → St G → Option R) :
  F14_1 n x.1.2.1 x.2.1.1 x.2.1.2.1 x.2.1.2.2.1 x.2.1.2.2.2.2.2.2.1 x.2.1.2.2.2.2.2.2.2.1 x.2.2.2.1 x.2.2.2.2.1 (fun u0 u1 u2 u3 u4 u5 u6 u7 => K .normal (SSh.enc G F14_1x0 (((), (u0, ())), ((u1, (u2, (u3, ((), ((), ((), (u4, (u5, ())))))))), ((), (u6, (u7, ()))))))) = exec prog G (ro G (tabOf (E31 n)) (frOf [F14_0z n]) R) 2 (codeAt F14c [1, 0, 0, 0, 1, 0, 1, 1, 1, 0, 1, 1, 1, 1, 1, 0, 1, 0]) .no (SSh.enc G F14_1s x) (kNrm G (ro G (tabOf (E31 n)) (frOf [F14_0z n]) R) 2 ⟨⟨[0, 2], []⟩, ⟨[], []⟩, [(4, ⟨[0, 2], []⟩), (1, ⟨[0, 2], []⟩), (0, ⟨[0, 2], []⟩)]⟩ K) := by kernel_rfl
theorem F14_1_ok (n : Nat) : FragOK prog G 2 (codeAt F14c [1, 0, 0, 0, 1, 0, 1, 1, 1, 0, 1, 1, 1, 1, 1, 0, 1, 0]) (F14_1z n) :=
  frag_plain laws fnok (E31_ok n).tab (AllF.of (l := []) (by kernel_rfl) AllF.nil) (F14_1_eq n)
-- 25 (*loop.example/slowworm/impl.lexer).token
noncomputable def F25c : Code := bodyOf Go.Proofs.Try.f25
-- 29 loop.example/slowworm/impl.isLetter
noncomputable def F29c : Code := bodyOf Go.Proofs.Try.f29
noncomputable def F29 (n : Nat) (a861 : Int) : Option (Bool × Unit) :=
  (bif (a861 == (95 : Int)) then
  some (true, ())
  else (bif (decide (a861 ≥ (97 : Int))) then
  (bif (decide (a861 ≤ (122 : Int))) then
  some (true, ())
  else (bif (decide (a861 ≥ (65 : Int))) then
  some ((decide (a861 ≤ (90 : Int))), ())
  else some (false, ())))
  else (bif (decide (a861 ≥ (65 : Int))) then
  some ((decide (a861 ≤ (90 : Int))), ())
  else some (false, ()))))
noncomputable def F29e (n : Nat) : Ent G := ⟨29, (.cons (.int .u8) .nil), [], .bool, [], fun x y => F29 n x.1⟩
theorem F29_eq (n : Nat) (x : ShL.den G (.cons (.int .u8) .nil)) (y : denO G []) : (F29e n).F x y = runFn prog G (ro G (tabOf (E31 n)) (frOf []) _) Go.Proofs.Try.f29 .no [(0, .fz)] (ShL.enc G (.cons (.int .u8) .nil) x) (encO G [] y) (decR .bool []) := by kernel_rfl
theorem F29_ok (n : Nat) : EntOK prog G (F29e n) :=
  ent_ok (fr := frOf []) (ann := .no) (frm := [(0, .fz)]) laws fnok (E31_ok n).tab (e := F29e n) (fn := Go.Proofs.Try.f29) (by kernel_rfl) (AllF.ofB (cd := F29c) (l := []) (by kernel_rfl) (by kernel_rfl) AllF.nil) (F29_eq n)
noncomputable def E32 (n : Nat) : List (Ent G) := F29e n :: E31 n
theorem E32_ok (n : Nat) : AllE prog G (E32 n) := AllE.cons (F29_ok n) (E31_ok n)
-- 30 loop.example/slowworm/impl.isDigit
noncomputable def F30c : Code := bodyOf Go.Proofs.Try.f30
noncomputable def F30 (n : Nat) (a885 : Int) : Option (Bool × Unit) :=
  (bif (decide (a885 ≥ (48 : Int))) then
  some ((decide (a885 ≤ (57 : Int))), ())
  else some (false, ()))
noncomputable def F30e (n : Nat) : Ent G := ⟨30, (.cons (.int .u8) .nil), [], .bool, [], fun x y => F30 n x.1⟩
theorem F30_eq (n : Nat) (x : ShL.den G (.cons (.int .u8) .nil)) (y : denO G []) : (F30e n).F x y = runFn prog G (ro G (tabOf (E32 n)) (frOf []) _) Go.Proofs.Try.f30 .no [(0, .fz)] (ShL.enc G (.cons (.int .u8) .nil) x) (encO G [] y) (decR .bool []) := by kernel_rfl
theorem F30_ok (n : Nat) : EntOK prog G (F30e n) :=
  ent_ok (fr := frOf []) (ann := .no) (frm := [(0, .fz)]) laws fnok (E32_ok n).tab (e := F30e n) (fn := Go.Proofs.Try.f30) (by kernel_rfl) (AllF.ofB (cd := F30c) (l := []) (by kernel_rfl) (by kernel_rfl) AllF.nil) (F30_eq n)
noncomputable def E33 (n : Nat) : List (Ent G) := F30e n :: E32 n
theorem E33_ok (n : Nat) : AllE prog G (E33 n) := AllE.cons (F30_ok n) (E32_ok n)
noncomputable def F25_0x0 : SSh := ⟨165, [(0, (.ptr 0 0)), (2, (.int .u8)), (3, (.int .i64))], [(.box 41 (.cons .str (.cons (.int .i64) (.cons (.int .i64) (.cons (.own 1) (.cons .nil0 (.cons (.own 2) (.cons (.int .i64) (.cons (.int .i64) .nil))))))))), (.arr 0 true), (.arr 3 true)]⟩
noncomputable def F25_0s : SSh := ⟨165, [(0, (.ptr 0 0)), (2, (.int .u8)), (3, (.int .i64))], [(.box 41 (.cons .str (.cons (.int .i64) (.cons (.int .i64) (.cons (.own 1) (.cons .nil0 (.cons (.own 2) (.cons (.int .i64) (.cons (.int .i64) .nil))))))))), (.arr 0 true), (.arr 3 true)]⟩
noncomputable def F25_0_step {R : Type} (n : Nat) (k0 : Int → Int → ByteArray → Int → Int → Int → Int → List Int → List Tok → Option R) (rec : Int → Int → ByteArray → Int → Int → Int → Int → List Int → List Tok → Option R) (x870 : Int) (x871 : Int) (x872 : ByteArray) (x873 : Int) (x874 : Int) (x875 : Int) (x876 : Int) (x877 : List Int) (x878 : List Tok) : Option R :=
  (bif (decide (x873 < ((x872.size) : Int))) then
  (bif (decide ((0 : Int) ≤ x873)) then
  (bif (decide (x873 < ((x872.size) : Int))) then
  (andThen (F29 n (strOf x872 (x873.toNat))) fun r882 =>
  (bif r882.1 then
  (rec x870 x871 x872 (IntKind.wrap .i64 (x873 + (1 : Int))) x874 x875 x876 x877 x878)
  else (bif (decide ((0 : Int) ≤ x873)) then
  (bif (decide (x873 < ((x872.size) : Int))) then
  (andThen (F30 n (strOf x872 (x873.toNat))) fun r888 =>
  (bif r888.1 then
  (rec x870 x871 x872 (IntKind.wrap .i64 (x873 + (1 : Int))) x874 x875 x876 x877 x878)
  else (k0 x870 x871 x872 x873 x874 x875 x876 x877 x878)))
  else none)
  else none)))
  else none)
  else none)
  else (k0 x870 x871 x872 x873 x874 x875 x876 x877 x878))
noncomputable def F25_0_it {R : Type} (n : Nat) (k0 : Int → Int → ByteArray → Int → Int → Int → Int → List Int → List Tok → Option R) : Nat → Int → Int → ByteArray → Int → Int → Int → Int → List Int → List Tok → Option R
  | 0, _, _, _, _, _, _, _, _, _ => none
  | k + 1, x870, x871, x872, x873, x874, x875, x876, x877, x878 => F25_0_step n k0 (F25_0_it n k0 k) x870 x871 x872 x873 x874 x875 x876 x877 x878
noncomputable def F25_0 {R : Type} (n : Nat) (x870 : Int) (x871 : Int) (x872 : ByteArray) (x873 : Int) (x874 : Int) (x875 : Int) (x876 : Int) (x877 : List Int) (x878 : List Tok) (k0 : Int → Int → ByteArray → Int → Int → Int → Int → List Int → List Tok → Option R) : Option R := F25_0_it n k0 n x870 x871 x872 x873 x874 x875 x876 x877 x878
noncomputable def F25_0z (n : Nat) : Sm G := inZ G 3 ⟨[0, 2, 3], []⟩ F25_0s fun R x K => F25_0_it n (fun u0 u1 u2 u3 u4 u5 u6 u7 u8 => K (.exit 1) (SSh.enc G F25_0x0 (((), (u0, (u1, ()))), ((u2, (u3, (u4, ((), ((), ((), (u5, (u6, ())))))))), (u7, (u8, ())))))) n x.1.2.1 x.1.2.2.1 x.2.1.1 x.2.1.2.1 x.2.1.2.2.1 x.2.1.2.2.2.2.2.2.1 x.2.1.2.2.2.2.2.2.2.1 x.2.2.1 x.2.2.2.1
theorem F25_0_eq (n : Nat) (R : Type) (rec : SSh.den G F25_0s → Option R) (x : SSh.den G F25_0s) (K : AE → St G → Option R) :
  F25_0_step n (fun u0 u1 u2 u3 u4 u5 u6 u7 u8 => K (.exit 1) (SSh.enc G F25_0x0 (((), (u0, (u1, ()))), ((u2, (u3, (u4, ((), ((), ((), (u5, (u6, ())))))))), (u7, (u8, ())))))) (fun x870 x871 x872 x873 x874 x875 x876 x877 x878 => rec (((), (x870, (x871, ()))), ((x872, (x873, (x874, ((), ((), ((), (x875, (x876, ())))))))), (x877, (x878, ()))))) x.1.2.1 x.1.2.2.1 x.2.1.1 x.2.1.2.1 x.2.1.2.2.1 x.2.1.2.2.2.2.2.2.1 x.2.1.2.2.2.2.2.2.2.1 x.2.2.1 x.2.2.2.1 = exec prog G (ro G (tabOf (E33 n)) (frOf []) R) 3 (codeAt F25c [1, 1, 0, 1, 0, 0, 0, 0]) .no (SSh.enc G F25_0s x) (kLoop G (ro G (tabOf (E33 n)) (frOf []) R) 3 ⟨[0, 2, 3], []⟩ F25_0s ⟨⟨[0, 2, 3], []⟩, ⟨[], []⟩, [(1, ⟨[0, 2, 3], []⟩), (0, ⟨[], []⟩)]⟩ rec K) := by kernel_rfl
theorem F25_0_ok (n : Nat) : FragOK prog G 3 (codeAt F25c [1, 1, 0, 1, 0, 0, 0]) (F25_0z n) :=
  frag_loop (Z := fun R k (x : SSh.den G F25_0s) K => F25_0_it n (fun u0 u1 u2 u3 u4 u5 u6 u7 u8 => K (.exit 1) (SSh.enc G F25_0x0 (((), (u0, (u1, ()))), ((u2, (u3, (u4, ((), ((), ((), (u5, (u6, ())))))))), (u7, (u8, ())))))) k x.1.2.1 x.1.2.2.1 x.2.1.1 x.2.1.2.1 x.2.1.2.2.1 x.2.1.2.2.2.2.2.2.1 x.2.1.2.2.2.2.2.2.2.1 x.2.2.1 x.2.2.2.1) laws fnok (E33_ok n).tab (AllF.of (l := []) (by kernel_rfl) AllF.nil) (fun _ _ _ => rfl) (fun R k y K => F25_0_eq n R (fun (x : SSh.den G F25_0s) => F25_0_it n (fun u0 u1 u2 u3 u4 u5 u6 u7 u8 => K (.exit 1) (SSh.enc G F25_0x0 (((), (u0, (u1, ()))), ((u2, (u3, (u4, ((), ((), ((), (u5, (u6, ())))))))), (u7, (u8, ())))))) k x.1.2.1 x.1.2.2.1 x.2.1.1 x.2.1.2.1 x.2.1.2.2.1 x.2.1.2.2.2.2.2.2.1 x.2.1.2.2.2.2.2.2.2.1 x.2.2.1 x.2.2.2.1) y K) n
-- 34 loop.example/slowworm/impl.quoteEnd
noncomputable def F34c : Code := bodyOf Go.Proofs.Try.f34
noncomputable def F34_0x0 : SSh := ⟨108, [(4, .str), (5, (.int .i64)), (6, .bool)], []⟩
noncomputable def F34_0x1 : SSh := ⟨108, [(0, .str), (1, (.int .i64)), (7, (.ptr 0 0)), (8, (.int .i64))], [(.box 50 (.cons (.nsp 0) (.cons (.own 1) .nil))), (.arr 1 true)]⟩
noncomputable def F34_0s : SSh := ⟨108, [(0, .str), (1, (.int .i64)), (7, (.ptr 0 0)), (8, (.int .i64))], [(.box 50 (.cons (.nsp 0) (.cons (.own 1) .nil))), (.arr 1 true)]⟩
noncomputable def F34_0 {R : Type} (n : Nat) (x927 : ByteArray) (x928 : Int) (x929 : Int) (x930 : List Int) (k0 : ByteArray → Int → Bool → Option R) (k1 : ByteArray → Int → Int → List Int → Option R) : Option R :=
  (bif (decide ((0 : Int) ≤ x929)) then
  (bif (decide (x929 < ((x927.size) : Int))) then
  (bif ((strOf x927 (x929.toNat)) == (39 : Int)) then
  (andThen (L20 x930) fun r933 =>
  let v934 := (IntKind.wrap .i64 (x929 + (1 : Int)))
  (bif (decide (((r933.1.size) : Int) ≤ (400 : Int))) then
  (andThen (F11 n r933.1) fun r937 =>
  let v938 := (IntKind.wrap .i64 (x929 + (1 : Int)))
  (bif (decide ((0 : Int) ≤ x928)) then
  (bif (decide (x928 ≤ v938)) then
  (bif (decide (v938 ≤ ((x927.size) : Int))) then
  (k0 r933.1 v934 ((r937.1.toList) == ((x927.extract (x928.toNat) (v938.toNat)).toList)))
  else none)
  else none)
  else none))
  else (k0 r933.1 v934 false)))
  else (bif (decide ((0 : Int) ≤ x929)) then
  (bif (decide (x929 < ((x927.size) : Int))) then
  (bif ((strOf x927 (x929.toNat)) != (92 : Int)) then
  (bif (decide ((0 : Int) ≤ x929)) then
  (bif (decide (x929 < ((x927.size) : Int))) then
  (andThen (F18 n (strOf x927 (x929.toNat)) x930) fun r944 =>
  (k1 x927 x928 x929 r944.2.2.2.1))
  else none)
  else none)
  else (bif (decide ((IntKind.wrap .i64 (x929 + (1 : Int))) ≥ ((x927.size) : Int))) then
  (k0 ({ data := #[] } : ByteArray) (0 : Int) false)
  else let v948 := (IntKind.wrap .i64 (x929 + (1 : Int)))
  (bif (decide ((0 : Int) ≤ v948)) then
  (bif (decide (v948 < ((x927.size) : Int))) then
  (bif ((strOf x927 (v948.toNat)) == (110 : Int)) then
  (andThen (F18 n (10 : Int) x930) fun r951 =>
  (k1 x927 x928 (IntKind.wrap .i64 (x929 + (1 : Int))) r951.2.2.2.1))
  else let v953 := (IntKind.wrap .i64 (x929 + (1 : Int)))
  (bif (decide ((0 : Int) ≤ v953)) then
  (bif (decide (v953 < ((x927.size) : Int))) then
  (bif ((strOf x927 (v953.toNat)) == (120 : Int)) then
  (bif (decide ((IntKind.wrap .i64 (x929 + (3 : Int))) ≥ ((x927.size) : Int))) then
  (k0 ({ data := #[] } : ByteArray) (0 : Int) false)
  else let v959 := (IntKind.wrap .i64 (x929 + (2 : Int)))
  (bif (decide ((0 : Int) ≤ v959)) then
  (bif (decide (v959 < ((x927.size) : Int))) then
  (andThen (indexByteF ({ data := #[48, 49, 50, 51, 52, 53, 54, 55, 56, 57, 97, 98, 99, 100, 101, 102] } : ByteArray) (strOf x927 (v959.toNat))) fun r961 =>
  let v962 := (IntKind.wrap .i64 (x929 + (3 : Int)))
  (bif (decide ((0 : Int) ≤ v962)) then
  (bif (decide (v962 < ((x927.size) : Int))) then
  (andThen (indexByteF ({ data := #[48, 49, 50, 51, 52, 53, 54, 55, 56, 57, 97, 98, 99, 100, 101, 102] } : ByteArray) (strOf x927 (v962.toNat))) fun r964 =>
  (bif (decide (r961.1 < (0 : Int))) then
  (k0 ({ data := #[] } : ByteArray) (0 : Int) false)
  else (bif (decide (r964.1 < (0 : Int))) then
  (k0 ({ data := #[] } : ByteArray) (0 : Int) false)
  else (andThen (F18 n (IntKind.wrap .u8 (IntKind.wrap .i64 ((IntKind.wrap .i64 ((16 : Int) * r961.1)) + r964.1))) x930) fun r970 =>
  (k1 x927 x928 (IntKind.wrap .i64 (x929 + (3 : Int))) r970.2.2.2.1)))))
  else none)
  else none))
  else none)
  else none))
  else let v972 := (IntKind.wrap .i64 (x929 + (1 : Int)))
  (bif (decide ((0 : Int) ≤ v972)) then
  (bif (decide (v972 < ((x927.size) : Int))) then
  (andThen (F18 n (strOf x927 (v972.toNat)) x930) fun r974 =>
  (k1 x927 x928 (IntKind.wrap .i64 (x929 + (1 : Int))) r974.2.2.2.1))
  else none)
  else none))
  else none)
  else none))
  else none)
  else none)))
  else none)
  else none))
  else none)
  else none)
noncomputable def F34_0z (n : Nat) : Sm G := inZ G 0 ⟨[0, 1, 7, 8], []⟩ F34_0s fun R x K => F34_0 n x.1.1 x.1.2.1 x.1.2.2.2.1 x.2.2.1 (fun u0 u1 u2 => K .ret (SSh.enc G F34_0x0 ((u0, (u1, (u2, ()))), ()))) (fun u0 u1 u2 u3 => K .normal (SSh.enc G F34_0x1 ((u0, (u1, ((), (u2, ())))), (((), ((), ())), (u3, ())))))
theorem F34_0_eq (n : Nat) (R : Type) (x : SSh.den G F34_0s) (K : AE → St G → Option R) :
  F34_0 n x.1.1 x.1.2.1 x.1.2.2.2.1 x.2.2.1 (fun u0 u1 u2 => K .ret (SSh.enc G F34_0x0 ((u0, (u1, (u2, ()))), ()))) (fun u0 u1 u2 u3 => K .normal (SSh.enc G F34_0x1 ((u0, (u1, ((), (u2, ())))), (((), ((), ())), (u3, ()))))) = exec prog G (ro G (tabOf (E33 n)) (frOf []) R) 0 (codeAt F34c [1, 1, 0, 1, 0, 0, 1, 0]) .no (SSh.enc G F34_0s x) (kNrm G (ro G (tabOf (E33 n)) (frOf []) R) 0 ⟨⟨[0, 1, 7, 8], []⟩, ⟨[4, 5, 6], []⟩, [(0, ⟨[], []⟩)]⟩ K) := by kernel_rfl
theorem F34_0_ok (n : Nat) : FragOK prog G 0 (codeAt F34c [1, 1, 0, 1, 0, 0, 1, 0]) (F34_0z n) :=
  frag_plain laws fnok (E33_ok n).tab (AllF.of (l := []) (by kernel_rfl) AllF.nil) (F34_0_eq n)
noncomputable def F34_1x0 : SSh := ⟨108, [(4, .str), (5, (.int .i64)), (6, .bool)], []⟩
noncomputable def F34_1x1 : SSh := ⟨108, [], []⟩
noncomputable def F34_1s : SSh := ⟨108, [(0, .str), (1, (.int .i64)), (7, (.ptr 0 0)), (8, (.int .i64))], [(.box 50 (.cons (.nsp 0) (.cons (.own 1) .nil))), (.arr 1 true)]⟩
noncomputable def F34_1_step {R : Type} (n : Nat) (k0 : ByteArray → Int → Bool → Option R) (k1 : Option R) (rec : ByteArray → Int → Int → List Int → Option R) (x921 : ByteArray) (x922 : Int) (x923 : Int) (x924 : List Int) : Option R :=
  (bif (decide (x923 < ((x921.size) : Int))) then
  (F34_0 n x921 x922 x923 x924 (fun z976 z977 z978 =>
  (k0 z976 z977 z978)) (fun z979 z980 z981 z982 =>
  (rec z979 z980 (IntKind.wrap .i64 (z981 + (1 : Int))) z982)))
  else k1)
noncomputable def F34_1_it {R : Type} (n : Nat) (k0 : ByteArray → Int → Bool → Option R) (k1 : Option R) : Nat → ByteArray → Int → Int → List Int → Option R
  | 0, _, _, _, _ => none
  | k + 1, x921, x922, x923, x924 => F34_1_step n k0 k1 (F34_1_it n k0 k1 k) x921 x922 x923 x924
noncomputable def F34_1 {R : Type} (n : Nat) (x921 : ByteArray) (x922 : Int) (x923 : Int) (x924 : List Int) (k0 : ByteArray → Int → Bool → Option R) (k1 : Option R) : Option R := F34_1_it n k0 k1 n x921 x922 x923 x924
noncomputable def F34_1z (n : Nat) : Sm G := inZ G 0 ⟨[0, 1, 7, 8], []⟩ F34_1s fun R x K => F34_1_it n (fun u0 u1 u2 => K .ret (SSh.enc G F34_1x0 ((u0, (u1, (u2, ()))), ()))) (K (.exit 0) (SSh.enc G F34_1x1 ((), ()))) n x.1.1 x.1.2.1 x.1.2.2.2.1 x.2.2.1
theorem F34_1_eq (n : Nat) (R : Type) (rec : SSh.den G F34_1s → Option R) (x : SSh.den G F34_1s) (K : AE → St G → Option R) :
  F34_1_step n (fun u0 u1 u2 => K .ret (SSh.enc G F34_1x0 ((u0, (u1, (u2, ()))), ()))) (K (.exit 0) (SSh.enc G F34_1x1 ((), ()))) (fun x921 x922 x923 x924 => rec ((x921, (x922, ((), (x923, ())))), (((), ((), ())), (x924, ())))) x.1.1 x.1.2.1 x.1.2.2.2.1 x.2.2.1 = exec prog G (ro G (tabOf (E33 n)) (frOf [F34_0z n]) R) 0 (codeAt F34c [1, 1, 0, 1, 0, 0]) (.nd .no (.nd (.use 0) .no)) (SSh.enc G F34_1s x) (kLoop G (ro G (tabOf (E33 n)) (frOf [F34_0z n]) R) 0 ⟨[0, 1, 7, 8], []⟩ F34_1s ⟨⟨[], []⟩, ⟨[4, 5, 6], []⟩, [(0, ⟨[], []⟩)]⟩ rec K) := by kernel_rfl
theorem F34_1_ok (n : Nat) : FragOK prog G 0 (codeAt F34c [1, 1, 0, 1, 0]) (F34_1z n) :=
  frag_loop (Z := fun R k (x : SSh.den G F34_1s) K => F34_1_it n (fun u0 u1 u2 => K .ret (SSh.enc G F34_1x0 ((u0, (u1, (u2, ()))), ()))) (K (.exit 0) (SSh.enc G F34_1x1 ((), ()))) k x.1.1 x.1.2.1 x.1.2.2.2.1 x.2.2.1) laws fnok (E33_ok n).tab (AllF.of (l := [(0, codeAt F34c [1, 1, 0, 1, 0, 0, 1, 0])]) (by kernel_rfl) (AllF.cons (F34_0_ok n) AllF.nil)) (fun _ _ _ => rfl) (fun R k y K => F34_1_eq n R (fun (x : SSh.den G F34_1s) => F34_1_it n (fun u0 u1 u2 => K .ret (SSh.enc G F34_1x0 ((u0, (u1, (u2, ()))), ()))) (K (.exit 0) (SSh.enc G F34_1x1 ((), ()))) k x.1.1 x.1.2.1 x.1.2.2.2.1 x.2.2.1) y K) n
noncomputable def F34 (n : Nat) (a918 : ByteArray) (a919 : Int) : Option ((ByteArray × (Int × (Bool × Unit))) × Unit) :=
  (F34_1 n a918 a919 (IntKind.wrap .i64 (a919 + (1 : Int))) [] (fun z984 z985 z986 =>
  some ((z984, (z985, (z986, ()))), ())) (
  some ((({ data := #[] } : ByteArray), ((0 : Int), (false, ()))), ())))
noncomputable def F34e (n : Nat) : Ent G := ⟨34, (.cons .str (.cons (.int .i64) .nil)), [], (.tup (.cons .str (.cons (.int .i64) (.cons .bool .nil)))), [], fun x y => F34 n x.1 x.2.1⟩
theorem F34_eq (n : Nat) (x : ShL.den G (.cons .str (.cons (.int .i64) .nil))) (y : denO G []) : (F34e n).F x y = runFn prog G (ro G (tabOf (E33 n)) (frOf [F34_0z n, F34_1z n]) _) Go.Proofs.Try.f34 (.nd .no (.nd .no (.nd (.nd .no (.nd (.use 1) .no)) .no))) [(0, .fz), (1, .fz), (2, .fz)] (ShL.enc G (.cons .str (.cons (.int .i64) .nil)) x) (encO G [] y) (decR (.tup (.cons .str (.cons (.int .i64) (.cons .bool .nil)))) []) := by kernel_rfl
theorem F34_ok (n : Nat) : EntOK prog G (F34e n) :=
  ent_ok (fr := frOf [F34_0z n, F34_1z n]) (ann := (.nd .no (.nd .no (.nd (.nd .no (.nd (.use 1) .no)) .no)))) (frm := [(0, .fz), (1, .fz), (2, .fz)]) laws fnok (E33_ok n).tab (e := F34e n) (fn := Go.Proofs.Try.f34) (by kernel_rfl) (AllF.ofB (cd := F34c) (l := [(1, codeAt F34c [1, 1, 0, 1, 0])]) (by kernel_rfl) (by kernel_rfl) (AllF.cons (F34_1_ok n) AllF.nil)) (F34_eq n)
noncomputable def E34 (n : Nat) : List (Ent G) := F34e n :: E33 n
theorem E34_ok (n : Nat) : AllE prog G (E34 n) := AllE.cons (F34_ok n) (E33_ok n)
noncomputable def F25 (n : Nat) (a853 : ByteArray) (a854 : Int) (a855 : Int) (a856 : Int) (a857 : Int) (a858 : List Int) (a859 : List Tok) : Option (Unit × ((ByteArray × (Int × (Int × (Unit × (Unit × (Unit × (Int × (Int × Unit)))))))) × (List Int × (Unit × (List Tok × Unit))))) :=
  (bif (decide ((0 : Int) ≤ a854)) then
  (bif (decide (a854 < ((a853.size) : Int))) then
  let v860 := (strOf a853 (a854.toNat))
  (andThen (F29 n v860) fun r869 =>
  (bif r869.1 then
  (F25_0 n v860 a854 a853 a854 a855 a856 a857 a858 a859 (fun z890 z891 z892 z893 z894 z895 z896 z897 z898 =>
  (bif (decide ((0 : Int) ≤ z891)) then
  (bif (decide (z891 ≤ z893)) then
  (bif (decide (z893 ≤ ((z892.size) : Int))) then
  (andThen (F30 n z890) fun r900 =>
  (bif r900.1 then
  none
  else (andThen (F30 n z890) fun r901 =>
  (bif r901.1 then
  (andThen (F26v2 n (3 : Int) z894 z892 z893 z894 z895 z896 z897 z898) fun r902 =>
  some ((), ((r902.2.1.1, (r902.2.1.2.1, (r902.2.1.2.2.1, ((), ((), ((), (r902.2.1.2.2.2.2.2.2.1, (r902.2.1.2.2.2.2.2.2.2.1, ())))))))), (r902.2.2.1, ((), (r902.2.2.2.1, ()))))))
  else none))))
  else none)
  else none)
  else none)))
  else (andThen (F30 n v860) fun r903 =>
  (bif r903.1 then
  (F25_0 n v860 a854 a853 a854 a855 a856 a857 a858 a859 (fun z904 z905 z906 z907 z908 z909 z910 z911 z912 =>
  (bif (decide ((0 : Int) ≤ z905)) then
  (bif (decide (z905 ≤ z907)) then
  (bif (decide (z907 ≤ ((z906.size) : Int))) then
  (andThen (F30 n z904) fun r914 =>
  (bif r914.1 then
  none
  else (andThen (F30 n z904) fun r915 =>
  (bif r915.1 then
  (andThen (F26v2 n (3 : Int) z908 z906 z907 z908 z909 z910 z911 z912) fun r916 =>
  some ((), ((r916.2.1.1, (r916.2.1.2.1, (r916.2.1.2.2.1, ((), ((), ((), (r916.2.1.2.2.2.2.2.2.1, (r916.2.1.2.2.2.2.2.2.2.1, ())))))))), (r916.2.2.1, ((), (r916.2.2.2.1, ()))))))
  else none))))
  else none)
  else none)
  else none)))
  else (bif (v860 == (39 : Int)) then
  (andThen (F34 n a853 a854) fun r987 =>
  (bif (!r987.1.2.2.1) then
  (andThen (F26v2 n (2 : Int) a855 a853 a854 a855 a856 a857 a858 a859) fun r989 =>
  some ((), ((r989.2.1.1, (r989.2.1.2.1, (r989.2.1.2.2.1, ((), ((), ((), (r989.2.1.2.2.2.2.2.2.1, (r989.2.1.2.2.2.2.2.2.2.1, ())))))))), (r989.2.2.1, ((), (r989.2.2.2.1, ()))))))
  else (andThen (F24v3 n (4 : Int) r987.1.1 a855 a853 r987.1.2.1 a855 a856 a857 a858 a859) fun r990 =>
  some ((), ((r990.2.1.1, (r990.2.1.2.1, (r990.2.1.2.2.1, ((), ((), ((), (r990.2.1.2.2.2.2.2.2.1, (r990.2.1.2.2.2.2.2.2.2.1, ())))))))), (r990.2.2.1, ((), (r990.2.2.2.2.1, ()))))))))
  else none)))))
  else none)
  else none)
noncomputable def F25e (n : Nat) : Ent G := ⟨25, (.cons (.ptr 0 0) .nil), [(.box 41 (.cons .str (.cons (.int .i64) (.cons (.int .i64) (.cons (.own 1) (.cons .nil0 (.cons (.own 2) (.cons (.int .i64) (.cons (.int .i64) .nil))))))))), (.arr 0 true), (.arr 3 true)], (.tup .nil), [(.box 41 (.cons .str (.cons (.int .i64) (.cons (.int .i64) (.cons (.own 1) (.cons .nil0 (.cons (.own 3) (.cons (.int .i64) (.cons (.int .i64) .nil))))))))), (.arr 0 true), .dead, (.arr 3 true)], fun x y => F25 n y.1.1 y.1.2.1 y.1.2.2.1 y.1.2.2.2.2.2.2.1 y.1.2.2.2.2.2.2.2.1 y.2.1 y.2.2.1⟩
theorem F25_eq (n : Nat) (x : ShL.den G (.cons (.ptr 0 0) .nil)) (y : denO G [(.box 41 (.cons .str (.cons (.int .i64) (.cons (.int .i64) (.cons (.own 1) (.cons .nil0 (.cons (.own 2) (.cons (.int .i64) (.cons (.int .i64) .nil))))))))), (.arr 0 true), (.arr 3 true)]) : (F25e n).F x y = runFn prog G (ro G (tabOf (E34 n)) (frOf [F25_0z n]) _) Go.Proofs.Try.f25 (.nd .no (.nd .no (.nd (.nd .no (.nd (.nd (.nd (.use 0) .no) .no) .no)) .no))) [(0, (.obj 0 5 (.mv 3)))] (ShL.enc G (.cons (.ptr 0 0) .nil) x) (encO G [(.box 41 (.cons .str (.cons (.int .i64) (.cons (.int .i64) (.cons (.own 1) (.cons .nil0 (.cons (.own 2) (.cons (.int .i64) (.cons (.int .i64) .nil))))))))), (.arr 0 true), (.arr 3 true)] y) (decR (.tup .nil) [(.box 41 (.cons .str (.cons (.int .i64) (.cons (.int .i64) (.cons (.own 1) (.cons .nil0 (.cons (.own 3) (.cons (.int .i64) (.cons (.int .i64) .nil))))))))), (.arr 0 true), .dead, (.arr 3 true)]) := by kernel_rfl
theorem F25_ok (n : Nat) : EntOK prog G (F25e n) :=
  ent_ok (fr := frOf [F25_0z n]) (ann := (.nd .no (.nd .no (.nd (.nd .no (.nd (.nd (.nd (.use 0) .no) .no) .no)) .no)))) (frm := [(0, (.obj 0 5 (.mv 3)))]) laws fnok (E34_ok n).tab (e := F25e n) (fn := Go.Proofs.Try.f25) (by kernel_rfl) (AllF.ofB (cd := F25c) (l := [(0, codeAt F25c [1, 1, 0, 1, 0, 0, 0])]) (by kernel_rfl) (by kernel_rfl) (AllF.cons (F25_0_ok n) AllF.nil)) (F25_eq n)
noncomputable def E35 (n : Nat) : List (Ent G) := F25e n :: E34 n
theorem E35_ok (n : Nat) : AllE prog G (E35 n) := AllE.cons (F25_ok n) (E34_ok n)
noncomputable def F14_2x0 : SSh := ⟨204, [(0, (.ptr 0 0)), (2, .bool)], [(.box 41 (.cons .str (.cons (.int .i64) (.cons (.int .i64) (.cons (.own 2) (.cons .nil0 (.cons (.own 3) (.cons (.int .i64) (.cons (.int .i64) .nil))))))))), .dead, (.arr 0 true), (.arr 3 true)]⟩
noncomputable def F14_2s : SSh := ⟨204, [(0, (.ptr 0 0)), (2, .bool)], [(.box 41 (.cons .str (.cons (.int .i64) (.cons (.int .i64) (.cons (.own 2) (.cons .nil0 (.cons (.own 3) (.cons (.int .i64) (.cons (.int .i64) .nil))))))))), .dead, (.arr 0 true), (.arr 3 true)]⟩
noncomputable def F14_2_step {R : Type} (n : Nat) (k0 : Bool → ByteArray → Int → Int → Int → Int → List Int → List Tok → Option R) (rec : Bool → ByteArray → Int → Int → Int → Int → List Int → List Tok → Option R) (x639 : Bool) (x640 : ByteArray) (x641 : Int) (x642 : Int) (x643 : Int) (x644 : Int) (x645 : List Int) (x646 : List Tok) : Option R :=
  (bif (decide (x641 < ((x640.size) : Int))) then
  (andThen (F15v3 n x640 x641 x642 x643 x644 x645 x646) fun r657 =>
  (bif r657.1 then
  (bif x639 then
  (F14_0 n x639 (0 : Int) r657.2.1.1 r657.2.1.2.1 r657.2.1.2.2.1 r657.2.1.2.2.2.2.2.2.1 r657.2.1.2.2.2.2.2.2.2.1 r657.2.2.1 r657.2.2.2.1 (fun z674 z675 z676 z677 z678 z679 z680 z681 z682 =>
  let v683 := (IntKind.wrap .i64 (z677 + z675))
  (bif (v683 == ((z676.size) : Int)) then
  (k0 z674 z676 v683 z678 z679 z680 z681 z682)
  else (bif (decide ((0 : Int) ≤ v683)) then
  (bif (decide (v683 < ((z676.size) : Int))) then
  (bif ((strOf z676 (v683.toNat)) == (10 : Int)) then
  (rec z674 z676 (IntKind.wrap .i64 (v683 + (1 : Int))) (IntKind.wrap .i64 (z678 + (1 : Int))) z679 z680 z681 z682)
  else (bif (decide ((0 : Int) ≤ v683)) then
  (bif (decide (v683 < ((z676.size) : Int))) then
  (bif ((strOf z676 (v683.toNat)) == (35 : Int)) then
  (andThen (F22v1 n z676 v683 z678 z679 z680 z681 z682) fun r718 =>
  (rec z674 r718.2.1.1 r718.2.1.2.1 r718.2.1.2.2.1 r718.2.1.2.2.2.2.2.2.1 r718.2.1.2.2.2.2.2.2.2.1 r718.2.2.1 r718.2.2.2.1))
  else (andThen (F23v1 n z675 z676 v683 z678 z679 z680 z681 z682) fun r827 =>
  (rec false r827.2.1.1 r827.2.1.2.1 r827.2.1.2.2.1 r827.2.1.2.2.2.2.2.2.1 r827.2.1.2.2.2.2.2.2.2.1 r827.2.2.2.2.1 r827.2.2.2.2.2.1)))
  else none)
  else none))
  else none)
  else none))))
  else (bif (decide ((0 : Int) ≤ r657.2.1.2.1)) then
  (bif (decide (r657.2.1.2.1 < ((r657.2.1.1.size) : Int))) then
  let v828 := (strOf r657.2.1.1 (r657.2.1.2.1.toNat))
  (bif (v828 == (32 : Int)) then
  (rec x639 r657.2.1.1 (IntKind.wrap .i64 (r657.2.1.2.1 + (1 : Int))) r657.2.1.2.2.1 r657.2.1.2.2.2.2.2.2.1 r657.2.1.2.2.2.2.2.2.2.1 r657.2.2.1 r657.2.2.2.1)
  else (bif (v828 == (35 : Int)) then
  (andThen (F22v1 n r657.2.1.1 r657.2.1.2.1 r657.2.1.2.2.1 r657.2.1.2.2.2.2.2.2.1 r657.2.1.2.2.2.2.2.2.2.1 r657.2.2.1 r657.2.2.2.1) fun r832 =>
  (rec x639 r832.2.1.1 r832.2.1.2.1 r832.2.1.2.2.1 r832.2.1.2.2.2.2.2.2.1 r832.2.1.2.2.2.2.2.2.2.1 r832.2.2.1 r832.2.2.2.1))
  else (bif (v828 == (10 : Int)) then
  (F14_1 n x639 r657.2.1.1 (IntKind.wrap .i64 (r657.2.1.2.1 + (1 : Int))) r657.2.1.2.2.1 r657.2.1.2.2.2.2.2.2.1 r657.2.1.2.2.2.2.2.2.2.1 r657.2.2.1 r657.2.2.2.1 (fun z844 z845 z846 z847 z848 z849 z850 z851 =>
  (rec z844 z845 z846 (IntKind.wrap .i64 (z847 + (1 : Int))) z848 z849 z850 z851)))
  else (andThen (F25 n r657.2.1.1 r657.2.1.2.1 r657.2.1.2.2.1 r657.2.1.2.2.2.2.2.2.1 r657.2.1.2.2.2.2.2.2.2.1 r657.2.2.1 r657.2.2.2.1) fun r991 =>
  (rec x639 r991.2.1.1 r991.2.1.2.1 r991.2.1.2.2.1 r991.2.1.2.2.2.2.2.2.1 r991.2.1.2.2.2.2.2.2.2.1 r991.2.2.1 r991.2.2.2.2.1)))))
  else none)
  else none))
  else (k0 x639 r657.2.1.1 r657.2.1.2.1 r657.2.1.2.2.1 r657.2.1.2.2.2.2.2.2.1 r657.2.1.2.2.2.2.2.2.2.1 r657.2.2.1 r657.2.2.2.1)))
  else (k0 x639 x640 x641 x642 x643 x644 x645 x646))
noncomputable def F14_2_it {R : Type} (n : Nat) (k0 : Bool → ByteArray → Int → Int → Int → Int → List Int → List Tok → Option R) : Nat → Bool → ByteArray → Int → Int → Int → Int → List Int → List Tok → Option R
  | 0, _, _, _, _, _, _, _, _ => none
  | k + 1, x639, x640, x641, x642, x643, x644, x645, x646 => F14_2_step n k0 (F14_2_it n k0 k) x639 x640 x641 x642 x643 x644 x645 x646
noncomputable def F14_2 {R : Type} (n : Nat) (x639 : Bool) (x640 : ByteArray) (x641 : Int) (x642 : Int) (x643 : Int) (x644 : Int) (x645 : List Int) (x646 : List Tok) (k0 : Bool → ByteArray → Int → Int → Int → Int → List Int → List Tok → Option R) : Option R := F14_2_it n k0 n x639 x640 x641 x642 x643 x644 x645 x646
noncomputable def F14_2z (n : Nat) : Sm G := inZ G 2 ⟨[0, 2], [(0, (.cell 3 (.mv 0))), (0, (.cell 5 (.own 3)))]⟩ F14_2s fun R x K => F14_2_it n (fun u0 u1 u2 u3 u4 u5 u6 u7 => K (.exit 0) (SSh.enc G F14_2x0 (((), (u0, ())), ((u1, (u2, (u3, ((), ((), ((), (u4, (u5, ())))))))), ((), (u6, (u7, ()))))))) n x.1.2.1 x.2.1.1 x.2.1.2.1 x.2.1.2.2.1 x.2.1.2.2.2.2.2.2.1 x.2.1.2.2.2.2.2.2.2.1 x.2.2.2.1 x.2.2.2.2.1
theorem F14_2_eq (n : Nat) (R : Type) (rec : SSh.den G F14_2s → Option R) (x : SSh.den G F14_2s) (K : AE → St G → Option R) :
  F14_2_step n (fun u0 u1 u2 u3 u4 u5 u6 u7 => K (.exit 0) (SSh.enc G F14_2x0 (((), (u0, ())), ((u1, (u2, (u3, ((), ((), ((), (u4, (u5, ())))))))), ((), (u6, (u7, ()))))))) (fun x639 x640 x641 x642 x643 x644 x645 x646 => rec (((), (x639, ())), ((x640, (x641, (x642, ((), ((), ((), (x643, (x644, ())))))))), ((), (x645, (x646, ())))))) x.1.2.1 x.2.1.1 x.2.1.2.1 x.2.1.2.2.1 x.2.1.2.2.2.2.2.2.1 x.2.1.2.2.2.2.2.2.2.1 x.2.2.2.1 x.2.2.2.2.1 = exec prog G (ro G (tabOf (E35 n)) (frOf [F14_0z n, F14_1z n]) R) 2 (codeAt F14c [1, 0, 0, 0]) (.nd .no (.nd (.nd (.nd .no (.nd (.nd .no (.nd (.nd (.use 0) .no) .no)) .no)) (.nd .no (.nd .no (.nd (.nd .no (.nd .no (.nd .no (.nd .no (.nd .no (.nd (.nd .no (.nd (.use 1) .no)) .no)))))) .no)))) .no)) (SSh.enc G F14_2s x) (kLoop G (ro G (tabOf (E35 n)) (frOf [F14_0z n, F14_1z n]) R) 2 ⟨[0, 2], [(0, (.cell 3 (.mv 0))), (0, (.cell 5 (.own 3)))]⟩ F14_2s ⟨⟨[0, 2], []⟩, ⟨[], []⟩, [(0, ⟨[0, 2], []⟩)]⟩ rec K) := by kernel_rfl
theorem F14_2_ok (n : Nat) : FragOK prog G 2 (codeAt F14c [1, 0, 0]) (F14_2z n) :=
  frag_loop (Z := fun R k (x : SSh.den G F14_2s) K => F14_2_it n (fun u0 u1 u2 u3 u4 u5 u6 u7 => K (.exit 0) (SSh.enc G F14_2x0 (((), (u0, ())), ((u1, (u2, (u3, ((), ((), ((), (u4, (u5, ())))))))), ((), (u6, (u7, ()))))))) k x.1.2.1 x.2.1.1 x.2.1.2.1 x.2.1.2.2.1 x.2.1.2.2.2.2.2.2.1 x.2.1.2.2.2.2.2.2.2.1 x.2.2.2.1 x.2.2.2.2.1) laws fnok (E35_ok n).tab (AllF.of (l := [(0, codeAt F14c [1, 0, 0, 0, 1, 0, 0, 1, 0, 1, 0, 0]), (1, codeAt F14c [1, 0, 0, 0, 1, 0, 1, 1, 1, 0, 1, 1, 1, 1, 1, 0, 1, 0])]) (by kernel_rfl) (AllF.cons (F14_0_ok n) (AllF.cons (F14_1_ok n) AllF.nil))) (fun _ _ _ => rfl) (fun R k y K => F14_2_eq n R (fun (x : SSh.den G F14_2s) => F14_2_it n (fun u0 u1 u2 u3 u4 u5 u6 u7 => K (.exit 0) (SSh.enc G F14_2x0 (((), (u0, ())), ((u1, (u2, (u3, ((), ((), ((), (u4, (u5, ())))))))), ((), (u6, (u7, ()))))))) k x.1.2.1 x.2.1.1 x.2.1.2.1 x.2.1.2.2.1 x.2.1.2.2.2.2.2.2.1 x.2.1.2.2.2.2.2.2.2.1 x.2.2.2.1 x.2.2.2.2.1) y K) n
noncomputable def F14_3x0 : SSh := ⟨204, [(0, (.ptr 0 0)), (2, .bool)], [(.box 41 (.cons .str (.cons (.int .i64) (.cons (.int .i64) (.cons (.own 2) (.cons .nil0 (.cons (.own 3) (.cons (.int .i64) (.cons (.int .i64) .nil))))))))), .dead, (.arr 0 true), (.arr 3 true)]⟩
noncomputable def F14_3s : SSh := ⟨204, [(0, (.ptr 0 0)), (2, .bool)], [(.box 41 (.cons .str (.cons (.int .i64) (.cons (.int .i64) (.cons (.own 1) (.cons .nil0 (.cons .nil0 (.cons (.int .i64) (.cons (.int .i64) .nil))))))))), (.arr 0 true)]⟩
noncomputable def F14_3 {R : Type} (n : Nat) (x632 : Bool) (x633 : ByteArray) (x634 : Int) (x635 : Int) (x636 : Int) (x637 : Int) (x638 : List Int) (k0 : Bool → ByteArray → Int → Int → Int → Int → List Int → List Tok → Option R) : Option R :=
  (F14_2 n x632 x633 x634 x635 x636 x637 x638 [] (fun z992 z993 z994 z995 z996 z997 z998 z999 =>
  (k0 z992 z993 z994 z995 z996 z997 z998 z999)))
noncomputable def F14_3z (n : Nat) : Sm G := inZ G 2 ⟨[0, 2], []⟩ F14_3s fun R x K => F14_3 n x.1.2.1 x.2.1.1 x.2.1.2.1 x.2.1.2.2.1 x.2.1.2.2.2.2.2.2.1 x.2.1.2.2.2.2.2.2.2.1 x.2.2.1 (fun u0 u1 u2 u3 u4 u5 u6 u7 => K .normal (SSh.enc G F14_3x0 (((), (u0, ())), ((u1, (u2, (u3, ((), ((), ((), (u4, (u5, ())))))))), ((), (u6, (u7, ())))))))
theorem F14_3_eq (n : Nat) (R : Type) (x : SSh.den G F14_3s) (K : AE → St G → Option R) :
  F14_3 n x.1.2.1 x.2.1.1 x.2.1.2.1 x.2.1.2.2.1 x.2.1.2.2.2.2.2.2.1 x.2.1.2.2.2.2.2.2.2.1 x.2.2.1 (fun u0 u1 u2 u3 u4 u5 u6 u7 => K .normal (SSh.enc G F14_3x0 (((), (u0, ())), ((u1, (u2, (u3, ((), ((), ((), (u4, (u5, ())))))))), ((), (u6, (u7, ()))))))) = exec prog G (ro G (tabOf (E35 n)) (frOf [F14_0z n, F14_1z n, F14_2z n]) R) 2 (codeAt F14c [1, 0]) (.nd (.use 2) .no) (SSh.enc G F14_3s x) (kNrm G (ro G (tabOf (E35 n)) (frOf [F14_0z n, F14_1z n, F14_2z n]) R) 2 ⟨⟨[0, 2], []⟩, ⟨[], []⟩, []⟩ K) := by kernel_rfl
theorem F14_3_ok (n : Nat) : FragOK prog G 2 (codeAt F14c [1, 0]) (F14_3z n) :=
  frag_plain laws fnok (E35_ok n).tab (AllF.of (l := [(2, codeAt F14c [1, 0, 0])]) (by kernel_rfl) (AllF.cons (F14_2_ok n) AllF.nil)) (F14_3_eq n)
noncomputable def F14_4x0 : SSh := ⟨204, [(0, (.ptr 0 0))], [(.box 41 (.cons .str (.cons (.int .i64) (.cons (.int .i64) (.cons (.own 2) (.cons .nil0 (.cons (.own 3) (.cons (.int .i64) (.cons (.int .i64) .nil))))))))), .dead, (.arr 0 true), (.arr 3 true)]⟩
noncomputable def F14_4s : SSh := ⟨204, [(0, (.ptr 0 0)), (2, .bool)], [(.box 41 (.cons .str (.cons (.int .i64) (.cons (.int .i64) (.cons (.own 2) (.cons .nil0 (.cons (.own 3) (.cons (.int .i64) (.cons (.int .i64) .nil))))))))), .dead, (.arr 0 true), (.arr 3 true)]⟩
noncomputable def F14_4 {R : Type} (n : Nat) (x1010 : Bool) (x1011 : ByteArray) (x1012 : Int) (x1013 : Int) (x1014 : Int) (x1015 : Int) (x1016 : List Int) (x1017 : List Tok) (k0 : ByteArray → Int → Int → Int → Int → List Int → List Tok → Option R) : Option R :=
  (bif (!x1010) then
  (andThen (F24v3 n (6 : Int) ({ data := #[] } : ByteArray) x1013 x1011 x1012 x1013 x1014 x1015 x1016 x1017) fun r1019 =>
  (k0 r1019.2.1.1 r1019.2.1.2.1 r1019.2.1.2.2.1 r1019.2.1.2.2.2.2.2.2.1 r1019.2.1.2.2.2.2.2.2.2.1 r1019.2.2.1 r1019.2.2.2.2.1))
  else (k0 x1011 x1012 x1013 x1014 x1015 x1016 x1017))
noncomputable def F14_4z (n : Nat) : Sm G := inZ G 2 ⟨[0, 2], []⟩ F14_4s fun R x K => F14_4 n x.1.2.1 x.2.1.1 x.2.1.2.1 x.2.1.2.2.1 x.2.1.2.2.2.2.2.2.1 x.2.1.2.2.2.2.2.2.2.1 x.2.2.2.1 x.2.2.2.2.1 (fun u0 u1 u2 u3 u4 u5 u6 => K .normal (SSh.enc G F14_4x0 (((), ()), ((u0, (u1, (u2, ((), ((), ((), (u3, (u4, ())))))))), ((), (u5, (u6, ())))))))
theorem F14_4_eq (n : Nat) (R : Type) (x : SSh.den G F14_4s) (K : AE → St G → Option R) :
  F14_4 n x.1.2.1 x.2.1.1 x.2.1.2.1 x.2.1.2.2.1 x.2.1.2.2.2.2.2.2.1 x.2.1.2.2.2.2.2.2.2.1 x.2.2.2.1 x.2.2.2.2.1 (fun u0 u1 u2 u3 u4 u5 u6 => K .normal (SSh.enc G F14_4x0 (((), ()), ((u0, (u1, (u2, ((), ((), ((), (u3, (u4, ())))))))), ((), (u5, (u6, ()))))))) = exec prog G (ro G (tabOf (E35 n)) (frOf [F14_0z n, F14_1z n, F14_2z n, F14_3z n]) R) 2 (codeAt F14c [1, 1, 1, 1, 0]) .no (SSh.enc G F14_4s x) (kNrm G (ro G (tabOf (E35 n)) (frOf [F14_0z n, F14_1z n, F14_2z n, F14_3z n]) R) 2 ⟨⟨[0], []⟩, ⟨[], []⟩, []⟩ K) := by kernel_rfl
theorem F14_4_ok (n : Nat) : FragOK prog G 2 (codeAt F14c [1, 1, 1, 1, 0]) (F14_4z n) :=
  frag_plain laws fnok (E35_ok n).tab (AllF.of (l := []) (by kernel_rfl) AllF.nil) (F14_4_eq n)
noncomputable def F14_5x0 : SSh := ⟨204, [], [(.box 41 (.cons .str (.cons (.int .i64) (.cons (.int .i64) (.cons (.own 2) (.cons .nil0 (.cons (.own 3) (.cons (.int .i64) (.cons (.int .i64) .nil))))))))), .dead, (.arr 0 true), (.arr 3 true)]⟩
noncomputable def F14_5s : SSh := ⟨204, [(0, (.ptr 0 0)), (194, (.int .i64)), (195, (.int .i64))], [(.box 41 (.cons .str (.cons (.int .i64) (.cons (.int .i64) (.cons (.own 2) (.cons .nil0 (.cons (.own 3) (.cons (.int .i64) (.cons (.int .i64) .nil))))))))), .dead, (.arr 0 true), (.arr 3 true)]⟩
noncomputable def F14_5_step {R : Type} (n : Nat) (k0 : ByteArray → Int → Int → Int → Int → List Int → List Tok → Option R) (rec : Int → Int → ByteArray → Int → Int → Int → Int → List Int → List Tok → Option R) (x1029 : Int) (x1030 : Int) (x1031 : ByteArray) (x1032 : Int) (x1033 : Int) (x1034 : Int) (x1035 : Int) (x1036 : List Int) (x1037 : List Tok) : Option R :=
  (bif (decide (x1030 < x1029)) then
  (andThen (F24v3 n (8 : Int) ({ data := #[] } : ByteArray) x1033 x1031 x1032 x1033 x1034 x1035 x1036 x1037) fun r1039 =>
  (rec x1029 (IntKind.wrap .i64 (x1030 + (1 : Int))) r1039.2.1.1 r1039.2.1.2.1 r1039.2.1.2.2.1 r1039.2.1.2.2.2.2.2.2.1 r1039.2.1.2.2.2.2.2.2.2.1 r1039.2.2.1 r1039.2.2.2.2.1))
  else (k0 x1031 x1032 x1033 x1034 x1035 x1036 x1037))
noncomputable def F14_5_it {R : Type} (n : Nat) (k0 : ByteArray → Int → Int → Int → Int → List Int → List Tok → Option R) : Nat → Int → Int → ByteArray → Int → Int → Int → Int → List Int → List Tok → Option R
  | 0, _, _, _, _, _, _, _, _, _ => none
  | k + 1, x1029, x1030, x1031, x1032, x1033, x1034, x1035, x1036, x1037 => F14_5_step n k0 (F14_5_it n k0 k) x1029 x1030 x1031 x1032 x1033 x1034 x1035 x1036 x1037
noncomputable def F14_5 {R : Type} (n : Nat) (x1029 : Int) (x1030 : Int) (x1031 : ByteArray) (x1032 : Int) (x1033 : Int) (x1034 : Int) (x1035 : Int) (x1036 : List Int) (x1037 : List Tok) (k0 : ByteArray → Int → Int → Int → Int → List Int → List Tok → Option R) : Option R := F14_5_it n k0 n x1029 x1030 x1031 x1032 x1033 x1034 x1035 x1036 x1037
noncomputable def F14_5z (n : Nat) : Sm G := inZ G 2 ⟨[0, 194, 195], []⟩ F14_5s fun R x K => F14_5_it n (fun u0 u1 u2 u3 u4 u5 u6 => K (.exit 5) (SSh.enc G F14_5x0 ((), ((u0, (u1, (u2, ((), ((), ((), (u3, (u4, ())))))))), ((), (u5, (u6, ()))))))) n x.1.2.1 x.1.2.2.1 x.2.1.1 x.2.1.2.1 x.2.1.2.2.1 x.2.1.2.2.2.2.2.2.1 x.2.1.2.2.2.2.2.2.2.1 x.2.2.2.1 x.2.2.2.2.1
theorem F14_5_eq (n : Nat) (R : Type) (rec : SSh.den G F14_5s → Option R) (x : SSh.den G F14_5s) (K : AE → St G → Option R) :
  F14_5_step n (fun u0 u1 u2 u3 u4 u5 u6 => K (.exit 5) (SSh.enc G F14_5x0 ((), ((u0, (u1, (u2, ((), ((), ((), (u3, (u4, ())))))))), ((), (u5, (u6, ()))))))) (fun x1029 x1030 x1031 x1032 x1033 x1034 x1035 x1036 x1037 => rec (((), (x1029, (x1030, ()))), ((x1031, (x1032, (x1033, ((), ((), ((), (x1034, (x1035, ())))))))), ((), (x1036, (x1037, ())))))) x.1.2.1 x.1.2.2.1 x.2.1.1 x.2.1.2.1 x.2.1.2.2.1 x.2.1.2.2.2.2.2.2.1 x.2.1.2.2.2.2.2.2.2.1 x.2.2.2.1 x.2.2.2.2.1 = exec prog G (ro G (tabOf (E35 n)) (frOf [F14_0z n, F14_1z n, F14_2z n, F14_3z n, F14_4z n]) R) 2 (codeAt F14c [1, 1, 1, 1, 1, 1, 0, 0]) .no (SSh.enc G F14_5s x) (kLoop G (ro G (tabOf (E35 n)) (frOf [F14_0z n, F14_1z n, F14_2z n, F14_3z n, F14_4z n]) R) 2 ⟨[0, 194, 195], []⟩ F14_5s ⟨⟨[], []⟩, ⟨[], []⟩, [(5, ⟨[], []⟩)]⟩ rec K) := by kernel_rfl
theorem F14_5_ok (n : Nat) : FragOK prog G 2 (codeAt F14c [1, 1, 1, 1, 1, 1, 0]) (F14_5z n) :=
  frag_loop (Z := fun R k (x : SSh.den G F14_5s) K => F14_5_it n (fun u0 u1 u2 u3 u4 u5 u6 => K (.exit 5) (SSh.enc G F14_5x0 ((), ((u0, (u1, (u2, ((), ((), ((), (u3, (u4, ())))))))), ((), (u5, (u6, ()))))))) k x.1.2.1 x.1.2.2.1 x.2.1.1 x.2.1.2.1 x.2.1.2.2.1 x.2.1.2.2.2.2.2.2.1 x.2.1.2.2.2.2.2.2.2.1 x.2.2.2.1 x.2.2.2.2.1) laws fnok (E35_ok n).tab (AllF.of (l := []) (by kernel_rfl) AllF.nil) (fun _ _ _ => rfl) (fun R k y K => F14_5_eq n R (fun (x : SSh.den G F14_5s) => F14_5_it n (fun u0 u1 u2 u3 u4 u5 u6 => K (.exit 5) (SSh.enc G F14_5x0 ((), ((u0, (u1, (u2, ((), ((), ((), (u3, (u4, ())))))))), ((), (u5, (u6, ()))))))) k x.1.2.1 x.1.2.2.1 x.2.1.1 x.2.1.2.1 x.2.1.2.2.1 x.2.1.2.2.2.2.2.2.1 x.2.1.2.2.2.2.2.2.2.1 x.2.2.2.1 x.2.2.2.2.1) y K) n
noncomputable def F14 (n : Nat) (a626 : ByteArray) (a627 : Int) (a628 : Int) (a629 : Int) (a630 : Int) (a631 : List Int) : Option (Unit × ((ByteArray × (Int × (Int × (Unit × (Unit × (Unit × (Int × (Int × Unit)))))))) × (Unit × (List Int × (List Int × (List Tok × Unit)))))) :=
  (F14_3 n true a626 a627 a628 a629 a630 a631 (fun z1000 z1001 z1002 z1003 z1004 z1005 z1006 z1007 =>
  (andThen (F15v3 n z1001 z1002 z1003 z1004 z1005 z1006 z1007) fun r1008 =>
  (bif (!r1008.1) then
  some ((), ((r1008.2.1.1, (r1008.2.1.2.1, (r1008.2.1.2.2.1, ((), ((), ((), (r1008.2.1.2.2.2.2.2.2.1, (r1008.2.1.2.2.2.2.2.2.2.1, ())))))))), ((), (r1008.2.2.1, ([], (r1008.2.2.2.1, ()))))))
  else (F14_4 n z1000 r1008.2.1.1 r1008.2.1.2.1 r1008.2.1.2.2.1 r1008.2.1.2.2.2.2.2.2.1 r1008.2.1.2.2.2.2.2.2.2.1 r1008.2.2.1 r1008.2.2.2.1 (fun z1020 z1021 z1022 z1023 z1024 z1025 z1026 =>
  (F14_5 n (IntKind.wrap .i64 (((z1025.length) : Int) - (1 : Int))) (0 : Int) z1020 z1021 z1022 z1023 z1024 z1025 z1026 (fun z1041 z1042 z1043 z1044 z1045 z1046 z1047 =>
  some ((), ((z1041, (z1042, (z1043, ((), ((), ((), (z1044, (z1045, ())))))))), ((), (z1046, ([], (z1047, ()))))))))))))))
noncomputable def F14e (n : Nat) : Ent G := ⟨14, (.cons (.ptr 0 0) .nil), [(.box 41 (.cons .str (.cons (.int .i64) (.cons (.int .i64) (.cons (.own 1) (.cons .nil0 (.cons .nil0 (.cons (.int .i64) (.cons (.int .i64) .nil))))))))), (.arr 0 true)], (.tup .nil), [(.box 41 (.cons .str (.cons (.int .i64) (.cons (.int .i64) (.cons (.own 2) (.cons (.own 3) (.cons (.own 4) (.cons (.int .i64) (.cons (.int .i64) .nil))))))))), .dead, (.arr 0 true), (.arr 1 true), (.arr 3 true)], fun x y => F14 n y.1.1 y.1.2.1 y.1.2.2.1 y.1.2.2.2.2.2.2.1 y.1.2.2.2.2.2.2.2.1 y.2.1⟩
theorem F14_eq (n : Nat) (x : ShL.den G (.cons (.ptr 0 0) .nil)) (y : denO G [(.box 41 (.cons .str (.cons (.int .i64) (.cons (.int .i64) (.cons (.own 1) (.cons .nil0 (.cons .nil0 (.cons (.int .i64) (.cons (.int .i64) .nil))))))))), (.arr 0 true)]) : (F14e n).F x y = runFn prog G (ro G (tabOf (E35 n)) (frOf [F14_0z n, F14_1z n, F14_2z n, F14_3z n, F14_4z n, F14_5z n]) _) Go.Proofs.Try.f14 (.nd .no (.nd (.use 3) (.nd .no (.nd .no (.nd (.use 4) (.nd .no (.nd (.use 5) .no))))))) [(0, (.obj 0 3 (.mv 0))), (0, (.obj 0 4 (.mv 1))), (0, (.obj 0 5 (.mv 3)))] (ShL.enc G (.cons (.ptr 0 0) .nil) x) (encO G [(.box 41 (.cons .str (.cons (.int .i64) (.cons (.int .i64) (.cons (.own 1) (.cons .nil0 (.cons .nil0 (.cons (.int .i64) (.cons (.int .i64) .nil))))))))), (.arr 0 true)] y) (decR (.tup .nil) [(.box 41 (.cons .str (.cons (.int .i64) (.cons (.int .i64) (.cons (.own 2) (.cons (.own 3) (.cons (.own 4) (.cons (.int .i64) (.cons (.int .i64) .nil))))))))), .dead, (.arr 0 true), (.arr 1 true), (.arr 3 true)]) := by kernel_rfl
theorem F14_ok (n : Nat) : EntOK prog G (F14e n) :=
  ent_ok (fr := frOf [F14_0z n, F14_1z n, F14_2z n, F14_3z n, F14_4z n, F14_5z n]) (ann := (.nd .no (.nd (.use 3) (.nd .no (.nd .no (.nd (.use 4) (.nd .no (.nd (.use 5) .no)))))))) (frm := [(0, (.obj 0 3 (.mv 0))), (0, (.obj 0 4 (.mv 1))), (0, (.obj 0 5 (.mv 3)))]) laws fnok (E35_ok n).tab (e := F14e n) (fn := Go.Proofs.Try.f14) (by kernel_rfl) (AllF.ofB (cd := F14c) (l := [(3, codeAt F14c [1, 0]), (4, codeAt F14c [1, 1, 1, 1, 0]), (5, codeAt F14c [1, 1, 1, 1, 1, 1, 0])]) (by kernel_rfl) (by kernel_rfl) (AllF.cons (F14_3_ok n) (AllF.cons (F14_4_ok n) (AllF.cons (F14_5_ok n) AllF.nil)))) (F14_eq n)
noncomputable def E36 (n : Nat) : List (Ent G) := F14e n :: E35 n
theorem E36_ok (n : Nat) : AllE prog G (E36 n) := AllE.cons (F14_ok n) (E35_ok n)
-- 15 (*loop.example/slowworm/impl.lexer).fine
noncomputable def F15v4c : Code := bodyOf Go.Proofs.Try.f15
noncomputable def F15v4 (n : Nat) (a1049 : ByteArray) (a1050 : Int) (a1051 : Int) (a1052 : Int) (a1053 : Int) (a1054 : List Int) (a1055 : List Int) (a1056 : List Tok) : Option (Bool × ((ByteArray × (Int × (Int × (Unit × (Unit × (Unit × (Int × (Int × Unit)))))))) × (List Int × (List Int × (List Tok × Unit))))) :=
  some (((a1052 == (0 : Int)) && (a1053 == (0 : Int))), ((a1049, (a1050, (a1051, ((), ((), ((), (a1052, (a1053, ())))))))), (a1054, (a1055, (a1056, ())))))
noncomputable def F15v4e (n : Nat) : Ent G := ⟨15, (.cons (.ptr 0 0) .nil), [(.box 41 (.cons .str (.cons (.int .i64) (.cons (.int .i64) (.cons (.own 1) (.cons (.own 2) (.cons (.own 3) (.cons (.int .i64) (.cons (.int .i64) .nil))))))))), (.arr 0 true), (.arr 1 true), (.arr 3 true)], .bool, [(.box 41 (.cons .str (.cons (.int .i64) (.cons (.int .i64) (.cons (.own 1) (.cons (.own 2) (.cons (.own 3) (.cons (.int .i64) (.cons (.int .i64) .nil))))))))), (.arr 0 true), (.arr 1 true), (.arr 3 true)], fun x y => F15v4 n y.1.1 y.1.2.1 y.1.2.2.1 y.1.2.2.2.2.2.2.1 y.1.2.2.2.2.2.2.2.1 y.2.1 y.2.2.1 y.2.2.2.1⟩
theorem F15v4_eq (n : Nat) (x : ShL.den G (.cons (.ptr 0 0) .nil)) (y : denO G [(.box 41 (.cons .str (.cons (.int .i64) (.cons (.int .i64) (.cons (.own 1) (.cons (.own 2) (.cons (.own 3) (.cons (.int .i64) (.cons (.int .i64) .nil))))))))), (.arr 0 true), (.arr 1 true), (.arr 3 true)]) : (F15v4e n).F x y = runFn prog G (ro G (tabOf (E36 n)) (frOf []) _) Go.Proofs.Try.f15 .no [(0, .fz)] (ShL.enc G (.cons (.ptr 0 0) .nil) x) (encO G [(.box 41 (.cons .str (.cons (.int .i64) (.cons (.int .i64) (.cons (.own 1) (.cons (.own 2) (.cons (.own 3) (.cons (.int .i64) (.cons (.int .i64) .nil))))))))), (.arr 0 true), (.arr 1 true), (.arr 3 true)] y) (decR .bool [(.box 41 (.cons .str (.cons (.int .i64) (.cons (.int .i64) (.cons (.own 1) (.cons (.own 2) (.cons (.own 3) (.cons (.int .i64) (.cons (.int .i64) .nil))))))))), (.arr 0 true), (.arr 1 true), (.arr 3 true)]) := by kernel_rfl
theorem F15v4_ok (n : Nat) : EntOK prog G (F15v4e n) :=
  ent_ok (fr := frOf []) (ann := .no) (frm := [(0, .fz)]) laws fnok (E36_ok n).tab (e := F15v4e n) (fn := Go.Proofs.Try.f15) (by kernel_rfl) (AllF.ofB (cd := F15v4c) (l := []) (by kernel_rfl) (by kernel_rfl) AllF.nil) (F15v4_eq n)
noncomputable def E37 (n : Nat) : List (Ent G) := F15v4e n :: E36 n
theorem E37_ok (n : Nat) : AllE prog G (E37 n) := AllE.cons (F15v4_ok n) (E36_ok n)
-- 7 loop.example/slowworm/impl.Lex
noncomputable def F7c : Code := bodyOf Go.Proofs.Try.f7
noncomputable def F7 (n : Nat) (a1060 : ByteArray) : Option ((List Tok × ((Int × (Int × Unit)) × Unit)) × Unit) :=
  (bif (decide (((a1060.size) : Int) > (4000 : Int))) then
  some (([], (((0 : Int), ((6 : Int), ())), ())), ())
  else (andThen (F14 n a1060 (0 : Int) (1 : Int) (0 : Int) (0 : Int) ((0 : Int) :: [])) fun r1064 =>
  (andThen (F15v4 n r1064.2.1.1 r1064.2.1.2.1 r1064.2.1.2.2.1 r1064.2.1.2.2.2.2.2.2.1 r1064.2.1.2.2.2.2.2.2.2.1 r1064.2.2.2.1 r1064.2.2.2.2.1 r1064.2.2.2.2.2.1) fun r1065 =>
  (bif (!r1065.1) then
  some (([], ((r1065.2.1.2.2.2.2.2.2.1, (r1065.2.1.2.2.2.2.2.2.2.1, ())), ())), ())
  else some ((r1065.2.2.2.2.1, (((0 : Int), ((0 : Int), ())), ())), ())))))
noncomputable def F7e (n : Nat) : Ent G := ⟨7, (.cons .str .nil), [], (.tup (.cons (.imm 3) (.cons (.agg (.cons (.int .i64) (.cons (.int .i64) .nil))) .nil))), [], fun x y => F7 n x.1⟩
theorem F7_eq (n : Nat) (x : ShL.den G (.cons .str .nil)) (y : denO G []) : (F7e n).F x y = runFn prog G (ro G (tabOf (E37 n)) (frOf []) _) Go.Proofs.Try.f7 .no [(0, .fz), (1, .fz)] (ShL.enc G (.cons .str .nil) x) (encO G [] y) (decR (.tup (.cons (.imm 3) (.cons (.agg (.cons (.int .i64) (.cons (.int .i64) .nil))) .nil))) []) := by kernel_rfl
theorem F7_ok (n : Nat) : EntOK prog G (F7e n) :=
  ent_ok (fr := frOf []) (ann := .no) (frm := [(0, .fz), (1, .fz)]) laws fnok (E37_ok n).tab (e := F7e n) (fn := Go.Proofs.Try.f7) (by kernel_rfl) (AllF.ofB (cd := F7c) (l := []) (by kernel_rfl) (by kernel_rfl) AllF.nil) (F7_eq n)
noncomputable def E38 (n : Nat) : List (Ent G) := F7e n :: E37 n
theorem E38_ok (n : Nat) : AllE prog G (E38 n) := AllE.cons (F7_ok n) (E37_ok n)
noncomputable def F3 (n : Nat) (a0 : List Int) : Option (Bool × Unit) :=
  (bif (decide (((a0.length) : Int) > (1048576 : Int))) then
  some (true, ())
  else (andThen (F4 n a0) fun r112 =>
  (andThen (F5 n r112.1) fun r188 =>
  (andThen (F6 n r112.1) fun r259 =>
  (bif (!((r188.1.toList) == (r259.1.toList))) then
  (andThen (F6 n r112.1) fun r261 =>
  some (((r188.1.toList) == (r261.1.toList)), ()))
  else (bif ((r188.1.toList) == (({ data := #[] } : ByteArray).toList)) then
  (andThen (F6 n r112.1) fun r264 =>
  some (((r188.1.toList) == (r264.1.toList)), ()))
  else (bif (decide (((r188.1.size) + (1 : Nat)) ≤ (68719476736 : Nat))) then
  (andThen (F7 n (r188.1 ++ ({ data := #[10] } : ByteArray))) fun r1067 =>
  (bif (r1067.1.2.1.2.1 == (0 : Int)) then
  (bif (((r1067.1.1.length) : Int) == (2 : Int)) then
  (bif (decide ((0 : Int) < ((r1067.1.1.length) : Int))) then
  let v1071 := (r1067.1.1.getD (0 : Nat) (Tok.mk (0 : Int) ({ data := #[] } : ByteArray) (0 : Int)))
  (bif ((v1071.kind == (4 : Int)) && ((v1071.text == r112.1) && (v1071.line == (1 : Int)))) then
  (bif (decide ((1 : Int) < ((r1067.1.1.length) : Int))) then
  some (((r1067.1.1.getD (1 : Nat) (Tok.mk (0 : Int) ({ data := #[] } : ByteArray) (0 : Int))).kind == (6 : Int)), ())
  else none)
  else some (false, ()))
  else none)
  else some (false, ()))
  else some (false, ())))
  else none)))))))
noncomputable def F3e (n : Nat) : Ent G := ⟨3, (.cons (.imm 1) .nil), [], .bool, [], fun x y => F3 n x.1⟩
theorem F3_eq (n : Nat) (x : ShL.den G (.cons (.imm 1) .nil)) (y : denO G []) : (F3e n).F x y = runFn prog G (ro G (tabOf (E38 n)) (frOf []) _) Go.Proofs.Try.f3 .no [(0, .fz)] (ShL.enc G (.cons (.imm 1) .nil) x) (encO G [] y) (decR .bool []) := by kernel_rfl
theorem F3_ok (n : Nat) : EntOK prog G (F3e n) :=
  ent_ok (fr := frOf []) (ann := .no) (frm := [(0, .fz)]) laws fnok (E38_ok n).tab (e := F3e n) (fn := Go.Proofs.Try.f3) (by kernel_rfl) (AllF.ofB (cd := F3c) (l := []) (by kernel_rfl) (by kernel_rfl) AllF.nil) (F3_eq n)
noncomputable def E39 (n : Nat) : List (Ent G) := F3e n :: E38 n
theorem E39_ok (n : Nat) : AllE prog G (E39 n) := AllE.cons (F3_ok n) (E38_ok n)
end Go.Proofs.Ytmbpcjacbnloaaa.Am
