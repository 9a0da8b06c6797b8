/- The functions of the seat of texts, printed. -/
import Derived.Test.YtmbpcjacbnloaaaDoorAmLib
namespace Go.Proofs.YtmbpcjacbnloaaaDoor.Am
open Go Go.Proofs.Tryd
set_option autoImplicit false
set_option linter.unusedVariables false
set_option maxRecDepth 100000
noncomputable def E0 (n : Nat) : List (Ent G) := [splitE, indexE, joinE]
theorem E0_ok (n : Nat) : AllE prog G (E0 n) := AllE.cons split_ok (AllE.cons index_ok (AllE.cons join_ok AllE.nil))
-- 3 loop.example/slowworm/laws.FnExactTextSwap
noncomputable def F3c : Code := bodyOf Go.Proofs.Tryd.f3
-- 7 loop.example/slowworm/spec.TextSwap
noncomputable def F7c : Code := bodyOf Go.Proofs.Tryd.f7
-- 16 loop.example/slowworm/spec.validText
noncomputable def F16c : Code := bodyOf Go.Proofs.Tryd.f16
noncomputable def F16 (n : Nat) (a12 : ByteArray) : Option (Bool × Unit) :=
  some ((decide (((a12.size) : Int) ≤ (400 : Int))), ())
noncomputable def F16e (n : Nat) : Ent G := ⟨16, (.cons .str .nil), [], .bool, [], fun x y => F16 n x.1⟩
theorem F16_eq (n : Nat) (x : ShL.den G (.cons .str .nil)) (y : denO G []) : (F16e n).F x y = runFn prog G (ro G (tabOf (E0 n)) (frOf []) _) Go.Proofs.Tryd.f16 .no [(0, .fz)] (ShL.enc G (.cons .str .nil) x) (encO G [] y) (decR .bool []) := by kernel_rfl
theorem F16_ok (n : Nat) : EntOK prog G (F16e n) :=
  ent_ok (fr := frOf []) (ann := .no) (frm := [(0, .fz)]) laws fnok (E0_ok n).tab (e := F16e n) (fn := Go.Proofs.Tryd.f16) (by kernel_rfl) (AllF.ofB (cd := F16c) (l := []) (by kernel_rfl) (by kernel_rfl) AllF.nil) (F16_eq n)
noncomputable def E1 (n : Nat) : List (Ent G) := F16e n :: E0 n
theorem E1_ok (n : Nat) : AllE prog G (E1 n) := AllE.cons (F16_ok n) (E0_ok n)
-- 18 loop.example/slowworm/spec.textSplit
noncomputable def F18c : Code := bodyOf Go.Proofs.Tryd.f18
-- 27 loop.example/slowworm/spec.textFind
noncomputable def F27c : Code := bodyOf Go.Proofs.Tryd.f27
noncomputable def F27_0x0 : SSh := ⟨28, [(6, (.int .i64))], []⟩
noncomputable def F27_0x1 : SSh := ⟨28, [], []⟩
noncomputable def F27_0s : SSh := ⟨28, [(0, .str), (1, .str), (7, (.int .i64))], []⟩
noncomputable def F27_0_step {R : Type} (n : Nat) (k0 : Int → Option R) (k1 : Option R) (rec : ByteArray → ByteArray → Int → Option R) (x32 : ByteArray) (x33 : ByteArray) (x34 : Int) : Option R :=
  (bif (decide ((IntKind.wrap .i64 (x34 + ((x33.size) : Int))) ≤ ((x32.size) : Int))) then
  let v40 := (IntKind.wrap .i64 (x34 + ((x33.size) : Int)))
  (bif (decide ((0 : Int) ≤ x34)) then
  (bif (decide (x34 ≤ v40)) then
  (bif (decide (v40 ≤ ((x32.size) : Int))) then
  (bif (((x32.extract (x34.toNat) (v40.toNat)).toList) == (x33.toList)) then
  (k0 x34)
  else (rec x32 x33 (IntKind.wrap .i64 (x34 + (1 : Int)))))
  else none)
  else none)
  else none)
  else k1)
noncomputable def F27_0_it {R : Type} (n : Nat) (k0 : Int → Option R) (k1 : Option R) : Nat → ByteArray → ByteArray → Int → Option R
  | 0, _, _, _ => none
  | k + 1, x32, x33, x34 => F27_0_step n k0 k1 (F27_0_it n k0 k1 k) x32 x33 x34
noncomputable def F27_0 {R : Type} (n : Nat) (x32 : ByteArray) (x33 : ByteArray) (x34 : Int) (k0 : Int → Option R) (k1 : Option R) : Option R := F27_0_it n k0 k1 n x32 x33 x34
noncomputable def F27_0z (n : Nat) : Sm G := inZ G 0 ⟨[0, 1, 7], []⟩ F27_0s fun R x K => F27_0_it n (fun u0 => K .ret (SSh.enc G F27_0x0 ((u0, ()), ()))) (K (.exit 0) (SSh.enc G F27_0x1 ((), ()))) n x.1.1 x.1.2.1 x.1.2.2.1
theorem F27_0_eq (n : Nat) (R : Type) (rec : SSh.den G F27_0s → Option R) (x : SSh.den G F27_0s) (K : AE → St G → Option R) :
  F27_0_step n (fun u0 => K .ret (SSh.enc G F27_0x0 ((u0, ()), ()))) (K (.exit 0) (SSh.enc G F27_0x1 ((), ()))) (fun x32 x33 x34 => rec ((x32, (x33, (x34, ()))), ())) x.1.1 x.1.2.1 x.1.2.2.1 = exec prog G (ro G (tabOf (E1 n)) (frOf []) R) 0 (codeAt F27c [1, 0, 1, 0, 0]) .no (SSh.enc G F27_0s x) (kLoop G (ro G (tabOf (E1 n)) (frOf []) R) 0 ⟨[0, 1, 7], []⟩ F27_0s ⟨⟨[], []⟩, ⟨[6], []⟩, [(0, ⟨[], []⟩)]⟩ rec K) := by kernel_rfl
theorem F27_0_ok (n : Nat) : FragOK prog G 0 (codeAt F27c [1, 0, 1, 0]) (F27_0z n) :=
  frag_loop (Z := fun R k (x : SSh.den G F27_0s) K => F27_0_it n (fun u0 => K .ret (SSh.enc G F27_0x0 ((u0, ()), ()))) (K (.exit 0) (SSh.enc G F27_0x1 ((), ()))) k x.1.1 x.1.2.1 x.1.2.2.1) laws fnok (E1_ok n).tab (AllF.of (l := []) (by kernel_rfl) AllF.nil) (fun _ _ _ => rfl) (fun R k y K => F27_0_eq n R (fun (x : SSh.den G F27_0s) => F27_0_it n (fun u0 => K .ret (SSh.enc G F27_0x0 ((u0, ()), ()))) (K (.exit 0) (SSh.enc G F27_0x1 ((), ()))) k x.1.1 x.1.2.1 x.1.2.2.1) y K) n
noncomputable def F27 (n : Nat) (a29 : ByteArray) (a30 : ByteArray) (a31 : Int) : Option (Int × Unit) :=
  (F27_0 n a29 a30 a31 (fun z44 =>
  some (z44, ())) (
  some ((-1 : Int), ())))
noncomputable def F27e (n : Nat) : Ent G := ⟨27, (.cons .str (.cons .str (.cons (.int .i64) .nil))), [], (.int .i64), [], fun x y => F27 n x.1 x.2.1 x.2.2.1⟩
theorem F27_eq (n : Nat) (x : ShL.den G (.cons .str (.cons .str (.cons (.int .i64) .nil)))) (y : denO G []) : (F27e n).F x y = runFn prog G (ro G (tabOf (E1 n)) (frOf [F27_0z n]) _) Go.Proofs.Tryd.f27 (.nd .no (.nd (.nd .no (.nd (.use 0) .no)) .no)) [(0, .fz)] (ShL.enc G (.cons .str (.cons .str (.cons (.int .i64) .nil))) x) (encO G [] y) (decR (.int .i64) []) := by kernel_rfl
theorem F27_ok (n : Nat) : EntOK prog G (F27e n) :=
  ent_ok (fr := frOf [F27_0z n]) (ann := (.nd .no (.nd (.nd .no (.nd (.use 0) .no)) .no))) (frm := [(0, .fz)]) laws fnok (E1_ok n).tab (e := F27e n) (fn := Go.Proofs.Tryd.f27) (by kernel_rfl) (AllF.ofB (cd := F27c) (l := [(0, codeAt F27c [1, 0, 1, 0])]) (by kernel_rfl) (by kernel_rfl) (AllF.cons (F27_0_ok n) AllF.nil)) (F27_eq n)
noncomputable def E2 (n : Nat) : List (Ent G) := F27e n :: E1 n
theorem E2_ok (n : Nat) : AllE prog G (E2 n) := AllE.cons (F27_ok n) (E1_ok n)
noncomputable def F18_0x0 : SSh := ⟨32, [(4, (.own 0))], [(.arr 2 true)]⟩
noncomputable def F18_0s : SSh := ⟨32, [(0, .str), (1, .str), (5, (.own 0)), (6, (.int .i64))], [(.arr 2 true)]⟩
noncomputable def F18_0_step {R : Type} (n : Nat) (k0 : List ByteArray → Option R) (rec : ByteArray → ByteArray → Int → List ByteArray → Option R) (x25 : ByteArray) (x26 : ByteArray) (x27 : Int) (x28 : List ByteArray) : Option R :=
  (andThen (F27 n x25 x26 x27) fun r45 =>
  (bif (decide (r45.1 < (0 : Int))) then
  (bif (decide ((0 : Int) ≤ x27)) then
  (bif (decide (x27 ≤ ((x25.size) : Int))) then
  (bif (decide (((x25.size) : Int) ≤ ((x25.size) : Int))) then
  let v48 := ((x25.extract (x27.toNat) (((x25.size) : Int).toNat)) :: [])
  (bif (decide (((x28.length) + (v48.length)) ≤ (68719476736 : Nat))) then
  (k0 (x28 ++ v48))
  else none)
  else none)
  else none)
  else none)
  else (bif (decide ((0 : Int) ≤ x27)) then
  (bif (decide (x27 ≤ r45.1)) then
  (bif (decide (r45.1 ≤ ((x25.size) : Int))) then
  let v51 := ((x25.extract (x27.toNat) (r45.1.toNat)) :: [])
  (bif (decide (((x28.length) + (v51.length)) ≤ (68719476736 : Nat))) then
  (rec x25 x26 (IntKind.wrap .i64 (r45.1 + ((x26.size) : Int))) (x28 ++ v51))
  else none)
  else none)
  else none)
  else none)))
noncomputable def F18_0_it {R : Type} (n : Nat) (k0 : List ByteArray → Option R) : Nat → ByteArray → ByteArray → Int → List ByteArray → Option R
  | 0, _, _, _, _ => none
  | k + 1, x25, x26, x27, x28 => F18_0_step n k0 (F18_0_it n k0 k) x25 x26 x27 x28
noncomputable def F18_0 {R : Type} (n : Nat) (x25 : ByteArray) (x26 : ByteArray) (x27 : Int) (x28 : List ByteArray) (k0 : List ByteArray → Option R) : Option R := F18_0_it n k0 n x25 x26 x27 x28
noncomputable def F18_0z (n : Nat) : Sm G := inZ G 0 ⟨[0, 1, 5, 6], []⟩ F18_0s fun R x K => F18_0_it n (fun u0 => K .ret (SSh.enc G F18_0x0 (((), ()), (u0, ())))) n x.1.1 x.1.2.1 x.1.2.2.2.1 x.2.1
theorem F18_0_eq (n : Nat) (R : Type) (rec : SSh.den G F18_0s → Option R) (x : SSh.den G F18_0s) (K : AE → St G → Option R) :
  F18_0_step n (fun u0 => K .ret (SSh.enc G F18_0x0 (((), ()), (u0, ())))) (fun x25 x26 x27 x28 => rec ((x25, (x26, ((), (x27, ())))), (x28, ()))) x.1.1 x.1.2.1 x.1.2.2.2.1 x.2.1 = exec prog G (ro G (tabOf (E2 n)) (frOf []) R) 0 (codeAt F18c [1, 1, 1, 0, 0]) .no (SSh.enc G F18_0s x) (kLoop G (ro G (tabOf (E2 n)) (frOf []) R) 0 ⟨[0, 1, 5, 6], []⟩ F18_0s ⟨⟨[4], []⟩, ⟨[4], []⟩, [(0, ⟨[4], []⟩)]⟩ rec K) := by kernel_rfl
theorem F18_0_ok (n : Nat) : FragOK prog G 0 (codeAt F18c [1, 1, 1, 0]) (F18_0z n) :=
  frag_loop (Z := fun R k (x : SSh.den G F18_0s) K => F18_0_it n (fun u0 => K .ret (SSh.enc G F18_0x0 (((), ()), (u0, ())))) k x.1.1 x.1.2.1 x.1.2.2.2.1 x.2.1) laws fnok (E2_ok n).tab (AllF.of (l := []) (by kernel_rfl) AllF.nil) (fun _ _ _ => rfl) (fun R k y K => F18_0_eq n R (fun (x : SSh.den G F18_0s) => F18_0_it n (fun u0 => K .ret (SSh.enc G F18_0x0 (((), ()), (u0, ())))) k x.1.1 x.1.2.1 x.1.2.2.2.1 x.2.1) y K) n
noncomputable def F18 (n : Nat) (a22 : ByteArray) (a23 : ByteArray) : Option (List ByteArray × Unit) :=
  (F18_0 n a22 a23 (0 : Int) [] (fun z55 =>
  some (z55, ())))
noncomputable def F18e (n : Nat) : Ent G := ⟨18, (.cons .str (.cons .str .nil)), [], (.imm 2), [], fun x y => F18 n x.1 x.2.1⟩
theorem F18_eq (n : Nat) (x : ShL.den G (.cons .str (.cons .str .nil))) (y : denO G []) : (F18e n).F x y = runFn prog G (ro G (tabOf (E2 n)) (frOf [F18_0z n]) _) Go.Proofs.Tryd.f18 (.nd .no (.nd .no (.nd .no (.nd (.use 0) .no)))) [(0, .fz)] (ShL.enc G (.cons .str (.cons .str .nil)) x) (encO G [] y) (decR (.imm 2) []) := by kernel_rfl
theorem F18_ok (n : Nat) : EntOK prog G (F18e n) :=
  ent_ok (fr := frOf [F18_0z n]) (ann := (.nd .no (.nd .no (.nd .no (.nd (.use 0) .no))))) (frm := [(0, .fz)]) laws fnok (E2_ok n).tab (e := F18e n) (fn := Go.Proofs.Tryd.f18) (by kernel_rfl) (AllF.ofB (cd := F18c) (l := [(0, codeAt F18c [1, 1, 1, 0])]) (by kernel_rfl) (by kernel_rfl) (AllF.cons (F18_0_ok n) AllF.nil)) (F18_eq n)
noncomputable def E3 (n : Nat) : List (Ent G) := F18e n :: E2 n
theorem E3_ok (n : Nat) : AllE prog G (E3 n) := AllE.cons (F18_ok n) (E2_ok n)
-- 17 loop.example/slowworm/spec.textJoin
noncomputable def F17c : Code := bodyOf Go.Proofs.Tryd.f17
noncomputable def F17_0x0 : SSh := ⟨25, [(0, (.imm 2)), (1, .str), (5, .str), (6, (.int .i64))], []⟩
noncomputable def F17_0s : SSh := ⟨25, [(0, (.imm 2)), (1, .str), (5, .str), (6, (.int .i64))], []⟩
noncomputable def F17_0 {R : Type} (n : Nat) (x69 : List ByteArray) (x70 : ByteArray) (x71 : ByteArray) (x72 : Int) (k0 : List ByteArray → ByteArray → ByteArray → Int → Option R) : Option R :=
  (bif (decide (x72 > (0 : Int))) then
  (bif (decide (((x71.size) + (x70.size)) ≤ (68719476736 : Nat))) then
  (k0 x69 x70 (x71 ++ x70) x72)
  else none)
  else (k0 x69 x70 x71 x72))
noncomputable def F17_0z (n : Nat) : Sm G := inZ G 0 ⟨[0, 1, 5, 6], []⟩ F17_0s fun R x K => F17_0 n x.1.1 x.1.2.1 x.1.2.2.1 x.1.2.2.2.1 (fun u0 u1 u2 u3 => K .normal (SSh.enc G F17_0x0 ((u0, (u1, (u2, (u3, ())))), ())))
theorem F17_0_eq (n : Nat) (R : Type) (x : SSh.den G F17_0s) (K : AE → St G → Option R) :
  F17_0 n x.1.1 x.1.2.1 x.1.2.2.1 x.1.2.2.2.1 (fun u0 u1 u2 u3 => K .normal (SSh.enc G F17_0x0 ((u0, (u1, (u2, (u3, ())))), ()))) = exec prog G (ro G (tabOf (E3 n)) (frOf []) R) 0 (codeAt F17c [1, 1, 0, 1, 0, 0, 1, 0, 0, 0]) .no (SSh.enc G F17_0s x) (kNrm G (ro G (tabOf (E3 n)) (frOf []) R) 0 ⟨⟨[0, 1, 5, 6], []⟩, ⟨[4], []⟩, [(1, ⟨[0, 1, 5, 6], []⟩), (0, ⟨[5], []⟩)]⟩ K) := by kernel_rfl
theorem F17_0_ok (n : Nat) : FragOK prog G 0 (codeAt F17c [1, 1, 0, 1, 0, 0, 1, 0, 0, 0]) (F17_0z n) :=
  frag_plain laws fnok (E3_ok n).tab (AllF.of (l := []) (by kernel_rfl) AllF.nil) (F17_0_eq n)
noncomputable def F17_1x0 : SSh := ⟨25, [(0, (.imm 2)), (1, .str), (5, .str), (6, (.int .i64))], []⟩
noncomputable def F17_1s : SSh := ⟨25, [(0, (.imm 2)), (1, .str), (5, .str), (6, (.int .i64))], []⟩
noncomputable def F17_1 {R : Type} (n : Nat) (x65 : List ByteArray) (x66 : ByteArray) (x67 : ByteArray) (x68 : Int) (k0 : List ByteArray → ByteArray → ByteArray → Int → Option R) : Option R :=
  (F17_0 n x65 x66 x67 x68 (fun z75 z76 z77 z78 =>
  (bif (decide ((0 : Int) ≤ z78)) then
  (bif (decide (z78 < ((z75.length) : Int))) then
  let v80 := (z75.getD (z78.toNat) ({ data := #[] } : ByteArray))
  (bif (decide (((z77.size) + (v80.size)) ≤ (68719476736 : Nat))) then
  (k0 z75 z76 (z77 ++ v80) z78)
  else none)
  else none)
  else none)))
noncomputable def F17_1z (n : Nat) : Sm G := inZ G 0 ⟨[0, 1, 5, 6], []⟩ F17_1s fun R x K => F17_1 n x.1.1 x.1.2.1 x.1.2.2.1 x.1.2.2.2.1 (fun u0 u1 u2 u3 => K .normal (SSh.enc G F17_1x0 ((u0, (u1, (u2, (u3, ())))), ())))
theorem F17_1_eq (n : Nat) (R : Type) (x : SSh.den G F17_1s) (K : AE → St G → Option R) :
  F17_1 n x.1.1 x.1.2.1 x.1.2.2.1 x.1.2.2.2.1 (fun u0 u1 u2 u3 => K .normal (SSh.enc G F17_1x0 ((u0, (u1, (u2, (u3, ())))), ()))) = exec prog G (ro G (tabOf (E3 n)) (frOf [F17_0z n]) R) 0 (codeAt F17c [1, 1, 0, 1, 0, 0, 1, 0]) (.nd (.nd (.use 0) .no) .no) (SSh.enc G F17_1s x) (kNrm G (ro G (tabOf (E3 n)) (frOf [F17_0z n]) R) 0 ⟨⟨[0, 1, 5, 6], []⟩, ⟨[4], []⟩, [(0, ⟨[5], []⟩)]⟩ K) := by kernel_rfl
theorem F17_1_ok (n : Nat) : FragOK prog G 0 (codeAt F17c [1, 1, 0, 1, 0, 0, 1, 0]) (F17_1z n) :=
  frag_plain laws fnok (E3_ok n).tab (AllF.of (l := [(0, codeAt F17c [1, 1, 0, 1, 0, 0, 1, 0, 0, 0])]) (by kernel_rfl) (AllF.cons (F17_0_ok n) AllF.nil)) (F17_1_eq n)
noncomputable def F17_2x0 : SSh := ⟨25, [(5, .str)], []⟩
noncomputable def F17_2s : SSh := ⟨25, [(0, (.imm 2)), (1, .str), (5, .str), (6, (.int .i64))], []⟩
noncomputable def F17_2_step {R : Type} (n : Nat) (k0 : ByteArray → Option R) (rec : List ByteArray → ByteArray → ByteArray → Int → Option R) (x59 : List ByteArray) (x60 : ByteArray) (x61 : ByteArray) (x62 : Int) : Option R :=
  (bif (decide (x62 < ((x59.length) : Int))) then
  (F17_1 n x59 x60 x61 x62 (fun z82 z83 z84 z85 =>
  (rec z82 z83 z84 (IntKind.wrap .i64 (z85 + (1 : Int))))))
  else (k0 x61))
noncomputable def F17_2_it {R : Type} (n : Nat) (k0 : ByteArray → Option R) : Nat → List ByteArray → ByteArray → ByteArray → Int → Option R
  | 0, _, _, _, _ => none
  | k + 1, x59, x60, x61, x62 => F17_2_step n k0 (F17_2_it n k0 k) x59 x60 x61 x62
noncomputable def F17_2 {R : Type} (n : Nat) (x59 : List ByteArray) (x60 : ByteArray) (x61 : ByteArray) (x62 : Int) (k0 : ByteArray → Option R) : Option R := F17_2_it n k0 n x59 x60 x61 x62
noncomputable def F17_2z (n : Nat) : Sm G := inZ G 0 ⟨[0, 1, 5, 6], []⟩ F17_2s fun R x K => F17_2_it n (fun u0 => K (.exit 0) (SSh.enc G F17_2x0 ((u0, ()), ()))) n x.1.1 x.1.2.1 x.1.2.2.1 x.1.2.2.2.1
theorem F17_2_eq (n : Nat) (R : Type) (rec : SSh.den G F17_2s → Option R) (x : SSh.den G F17_2s) (K : AE → St G → Option R) :
  F17_2_step n (fun u0 => K (.exit 0) (SSh.enc G F17_2x0 ((u0, ()), ()))) (fun x59 x60 x61 x62 => rec ((x59, (x60, (x61, (x62, ())))), ())) x.1.1 x.1.2.1 x.1.2.2.1 x.1.2.2.2.1 = exec prog G (ro G (tabOf (E3 n)) (frOf [F17_0z n, F17_1z n]) R) 0 (codeAt F17c [1, 1, 0, 1, 0, 0]) (.nd .no (.nd (.use 1) .no)) (SSh.enc G F17_2s x) (kLoop G (ro G (tabOf (E3 n)) (frOf [F17_0z n, F17_1z n]) R) 0 ⟨[0, 1, 5, 6], []⟩ F17_2s ⟨⟨[5], []⟩, ⟨[4], []⟩, [(0, ⟨[5], []⟩)]⟩ rec K) := by kernel_rfl
theorem F17_2_ok (n : Nat) : FragOK prog G 0 (codeAt F17c [1, 1, 0, 1, 0]) (F17_2z n) :=
  frag_loop (Z := fun R k (x : SSh.den G F17_2s) K => F17_2_it n (fun u0 => K (.exit 0) (SSh.enc G F17_2x0 ((u0, ()), ()))) k x.1.1 x.1.2.1 x.1.2.2.1 x.1.2.2.2.1) laws fnok (E3_ok n).tab (AllF.of (l := [(1, codeAt F17c [1, 1, 0, 1, 0, 0, 1, 0])]) (by kernel_rfl) (AllF.cons (F17_1_ok n) AllF.nil)) (fun _ _ _ => rfl) (fun R k y K => F17_2_eq n R (fun (x : SSh.den G F17_2s) => F17_2_it n (fun u0 => K (.exit 0) (SSh.enc G F17_2x0 ((u0, ()), ()))) k x.1.1 x.1.2.1 x.1.2.2.1 x.1.2.2.2.1) y K) n
noncomputable def F17 (n : Nat) (a57 : List ByteArray) (a58 : ByteArray) : Option (ByteArray × Unit) :=
  (F17_2 n a57 a58 ({ data := #[] } : ByteArray) (0 : Int) (fun z87 =>
  some (z87, ())))
noncomputable def F17e (n : Nat) : Ent G := ⟨17, (.cons (.imm 2) (.cons .str .nil)), [], .str, [], fun x y => F17 n x.1 x.2.1⟩
theorem F17_eq (n : Nat) (x : ShL.den G (.cons (.imm 2) (.cons .str .nil))) (y : denO G []) : (F17e n).F x y = runFn prog G (ro G (tabOf (E3 n)) (frOf [F17_0z n, F17_1z n, F17_2z n]) _) Go.Proofs.Tryd.f17 (.nd .no (.nd .no (.nd (.nd .no (.nd (.use 2) .no)) .no))) [(0, .fz)] (ShL.enc G (.cons (.imm 2) (.cons .str .nil)) x) (encO G [] y) (decR .str []) := by kernel_rfl
theorem F17_ok (n : Nat) : EntOK prog G (F17e n) :=
  ent_ok (fr := frOf [F17_0z n, F17_1z n, F17_2z n]) (ann := (.nd .no (.nd .no (.nd (.nd .no (.nd (.use 2) .no)) .no)))) (frm := [(0, .fz)]) laws fnok (E3_ok n).tab (e := F17e n) (fn := Go.Proofs.Tryd.f17) (by kernel_rfl) (AllF.ofB (cd := F17c) (l := [(2, codeAt F17c [1, 1, 0, 1, 0])]) (by kernel_rfl) (by kernel_rfl) (AllF.cons (F17_2_ok n) AllF.nil)) (F17_eq n)
noncomputable def E4 (n : Nat) : List (Ent G) := F17e n :: E3 n
theorem E4_ok (n : Nat) : AllE prog G (E4 n) := AllE.cons (F17_ok n) (E3_ok n)
noncomputable def F7 (n : Nat) (a9 : ByteArray) (a10 : ByteArray) (a11 : ByteArray) : Option ((ByteArray × (Bool × Unit)) × Unit) :=
  (andThen (F16 n a9) fun r15 =>
  (bif (!r15.1) then
  some ((({ data := #[] } : ByteArray), (false, ())), ())
  else (andThen (F16 n a10) fun r17 =>
  (bif (!r17.1) then
  some ((({ data := #[] } : ByteArray), (false, ())), ())
  else (andThen (F16 n a11) fun r19 =>
  (bif (!r19.1) then
  some ((({ data := #[] } : ByteArray), (false, ())), ())
  else (bif ((a10.toList) == (({ data := #[] } : ByteArray).toList)) then
  some ((({ data := #[] } : ByteArray), (false, ())), ())
  else (andThen (F18 n a9 a10) fun r56 =>
  (andThen (F17 n r56.1 a11) fun r88 =>
  (andThen (F16 n r88.1) fun r89 =>
  (bif (!r89.1) then
  some ((({ data := #[] } : ByteArray), (false, ())), ())
  else some ((r88.1, (true, ())), ()))))))))))))
noncomputable def F7e (n : Nat) : Ent G := ⟨7, (.cons .str (.cons .str (.cons .str .nil))), [], (.tup (.cons .str (.cons .bool .nil))), [], fun x y => F7 n x.1 x.2.1 x.2.2.1⟩
theorem F7_eq (n : Nat) (x : ShL.den G (.cons .str (.cons .str (.cons .str .nil)))) (y : denO G []) : (F7e n).F x y = runFn prog G (ro G (tabOf (E4 n)) (frOf []) _) Go.Proofs.Tryd.f7 .no [(0, .fz), (1, .fz)] (ShL.enc G (.cons .str (.cons .str (.cons .str .nil))) x) (encO G [] y) (decR (.tup (.cons .str (.cons .bool .nil))) []) := by kernel_rfl
theorem F7_ok (n : Nat) : EntOK prog G (F7e n) :=
  ent_ok (fr := frOf []) (ann := .no) (frm := [(0, .fz), (1, .fz)]) laws fnok (E4_ok n).tab (e := F7e n) (fn := Go.Proofs.Tryd.f7) (by kernel_rfl) (AllF.ofB (cd := F7c) (l := []) (by kernel_rfl) (by kernel_rfl) AllF.nil) (F7_eq n)
noncomputable def E5 (n : Nat) : List (Ent G) := F7e n :: E4 n
theorem E5_ok (n : Nat) : AllE prog G (E5 n) := AllE.cons (F7_ok n) (E4_ok n)
-- 8 loop.example/slowworm/impl.TextSwap
noncomputable def F8c : Code := bodyOf Go.Proofs.Tryd.f8
-- 19 loop.example/slowworm/impl.shortTexts
noncomputable def F19c : Code := bodyOf Go.Proofs.Tryd.f19
noncomputable def F19_0x0 : SSh := ⟨15, [(2, .bool)], []⟩
noncomputable def F19_0x1 : SSh := ⟨15, [], []⟩
noncomputable def F19_0s : SSh := ⟨15, [(5, (.imm 2)), (6, (.int .i64)), (7, (.int .i64))], []⟩
noncomputable def F19_0_step {R : Type} (n : Nat) (k0 : Bool → Option R) (k1 : Option R) (rec : List ByteArray → Int → Int → Option R) (x99 : List ByteArray) (x100 : Int) (x101 : Int) : Option R :=
  (bif (decide (x101 < x100)) then
  (bif (decide ((0 : Int) ≤ x101)) then
  (bif (decide (x101 < ((x99.length) : Int))) then
  (bif (decide ((((x99.getD (x101.toNat) ({ data := #[] } : ByteArray)).size) : Int) > (400 : Int))) then
  (k0 false)
  else (rec x99 x100 (IntKind.wrap .i64 (x101 + (1 : Int)))))
  else none)
  else none)
  else k1)
noncomputable def F19_0_it {R : Type} (n : Nat) (k0 : Bool → Option R) (k1 : Option R) : Nat → List ByteArray → Int → Int → Option R
  | 0, _, _, _ => none
  | k + 1, x99, x100, x101 => F19_0_step n k0 k1 (F19_0_it n k0 k1 k) x99 x100 x101
noncomputable def F19_0 {R : Type} (n : Nat) (x99 : List ByteArray) (x100 : Int) (x101 : Int) (k0 : Bool → Option R) (k1 : Option R) : Option R := F19_0_it n k0 k1 n x99 x100 x101
noncomputable def F19_0z (n : Nat) : Sm G := inZ G 0 ⟨[5, 6, 7], []⟩ F19_0s fun R x K => F19_0_it n (fun u0 => K .ret (SSh.enc G F19_0x0 ((u0, ()), ()))) (K (.exit 0) (SSh.enc G F19_0x1 ((), ()))) n x.1.1 x.1.2.1 x.1.2.2.1
theorem F19_0_eq (n : Nat) (R : Type) (rec : SSh.den G F19_0s → Option R) (x : SSh.den G F19_0s) (K : AE → St G → Option R) :
  F19_0_step n (fun u0 => K .ret (SSh.enc G F19_0x0 ((u0, ()), ()))) (K (.exit 0) (SSh.enc G F19_0x1 ((), ()))) (fun x99 x100 x101 => rec ((x99, (x100, (x101, ()))), ())) x.1.1 x.1.2.1 x.1.2.2.1 = exec prog G (ro G (tabOf (E5 n)) (frOf []) R) 0 (codeAt F19c [1, 0, 1, 0, 0]) .no (SSh.enc G F19_0s x) (kLoop G (ro G (tabOf (E5 n)) (frOf []) R) 0 ⟨[5, 6, 7], []⟩ F19_0s ⟨⟨[], []⟩, ⟨[2], []⟩, [(0, ⟨[], []⟩)]⟩ rec K) := by kernel_rfl
theorem F19_0_ok (n : Nat) : FragOK prog G 0 (codeAt F19c [1, 0, 1, 0]) (F19_0z n) :=
  frag_loop (Z := fun R k (x : SSh.den G F19_0s) K => F19_0_it n (fun u0 => K .ret (SSh.enc G F19_0x0 ((u0, ()), ()))) (K (.exit 0) (SSh.enc G F19_0x1 ((), ()))) k x.1.1 x.1.2.1 x.1.2.2.1) laws fnok (E5_ok n).tab (AllF.of (l := []) (by kernel_rfl) AllF.nil) (fun _ _ _ => rfl) (fun R k y K => F19_0_eq n R (fun (x : SSh.den G F19_0s) => F19_0_it n (fun u0 => K .ret (SSh.enc G F19_0x0 ((u0, ()), ()))) (K (.exit 0) (SSh.enc G F19_0x1 ((), ()))) k x.1.1 x.1.2.1 x.1.2.2.1) y K) n
noncomputable def F19 (n : Nat) (a97 : List ByteArray) : Option (Bool × Unit) :=
  (F19_0 n a97 ((a97.length) : Int) (0 : Int) (fun z108 =>
  some (z108, ())) (
  some (true, ())))
noncomputable def F19e (n : Nat) : Ent G := ⟨19, (.cons (.imm 2) .nil), [], .bool, [], fun x y => F19 n x.1⟩
theorem F19_eq (n : Nat) (x : ShL.den G (.cons (.imm 2) .nil)) (y : denO G []) : (F19e n).F x y = runFn prog G (ro G (tabOf (E5 n)) (frOf [F19_0z n]) _) Go.Proofs.Tryd.f19 (.nd .no (.nd (.nd .no (.nd (.use 0) .no)) .no)) [(0, .fz)] (ShL.enc G (.cons (.imm 2) .nil) x) (encO G [] y) (decR .bool []) := by kernel_rfl
theorem F19_ok (n : Nat) : EntOK prog G (F19e n) :=
  ent_ok (fr := frOf [F19_0z n]) (ann := (.nd .no (.nd (.nd .no (.nd (.use 0) .no)) .no))) (frm := [(0, .fz)]) laws fnok (E5_ok n).tab (e := F19e n) (fn := Go.Proofs.Tryd.f19) (by kernel_rfl) (AllF.ofB (cd := F19c) (l := [(0, codeAt F19c [1, 0, 1, 0])]) (by kernel_rfl) (by kernel_rfl) (AllF.cons (F19_0_ok n) AllF.nil)) (F19_eq n)
noncomputable def E6 (n : Nat) : List (Ent G) := F19e n :: E5 n
theorem E6_ok (n : Nat) : AllE prog G (E6 n) := AllE.cons (F19_ok n) (E5_ok n)
noncomputable def F8 (n : Nat) (a92 : ByteArray) (a93 : ByteArray) (a94 : ByteArray) : Option ((ByteArray × (Bool × Unit)) × Unit) :=
  (bif ((a93.toList) == (({ data := #[] } : ByteArray).toList)) then
  some ((({ data := #[] } : ByteArray), (false, ())), ())
  else (andThen (F19 n (a92 :: (a93 :: (a94 :: [])))) fun r109 =>
  (bif (!r109.1) then
  some ((({ data := #[] } : ByteArray), (false, ())), ())
  else (andThen (splitF a92 a93) fun r111 =>
  (andThen (joinF r111.1 a94) fun r112 =>
  (andThen (F19 n (r112.1 :: [])) fun r114 =>
  (bif (!r114.1) then
  some ((({ data := #[] } : ByteArray), (false, ())), ())
  else some ((r112.1, (true, ())), ()))))))))
noncomputable def F8e (n : Nat) : Ent G := ⟨8, (.cons .str (.cons .str (.cons .str .nil))), [], (.tup (.cons .str (.cons .bool .nil))), [], fun x y => F8 n x.1 x.2.1 x.2.2.1⟩
theorem F8_eq (n : Nat) (x : ShL.den G (.cons .str (.cons .str (.cons .str .nil)))) (y : denO G []) : (F8e n).F x y = runFn prog G (ro G (tabOf (E6 n)) (frOf []) _) Go.Proofs.Tryd.f8 .no [(0, .fz), (1, .fz)] (ShL.enc G (.cons .str (.cons .str (.cons .str .nil))) x) (encO G [] y) (decR (.tup (.cons .str (.cons .bool .nil))) []) := by kernel_rfl
theorem F8_ok (n : Nat) : EntOK prog G (F8e n) :=
  ent_ok (fr := frOf []) (ann := .no) (frm := [(0, .fz), (1, .fz)]) laws fnok (E6_ok n).tab (e := F8e n) (fn := Go.Proofs.Tryd.f8) (by kernel_rfl) (AllF.ofB (cd := F8c) (l := []) (by kernel_rfl) (by kernel_rfl) AllF.nil) (F8_eq n)
noncomputable def E7 (n : Nat) : List (Ent G) := F8e n :: E6 n
theorem E7_ok (n : Nat) : AllE prog G (E7 n) := AllE.cons (F8_ok n) (E6_ok n)
noncomputable def F3 (n : Nat) (a0 : ByteArray) (a1 : ByteArray) (a2 : ByteArray) : Option (Bool × Unit) :=
  (bif (decide (((a0.size) : Int) > (1048576 : Int))) then
  some (true, ())
  else (bif (decide (((a1.size) : Int) > (1048576 : Int))) then
  some (true, ())
  else (bif (decide (((a2.size) : Int) > (1048576 : Int))) then
  some (true, ())
  else (andThen (F7 n a0 a1 a2) fun r91 =>
  (andThen (F8 n a0 a1 a2) fun r116 =>
  (bif (!((r116.1.1.toList) == (r91.1.1.toList))) then
  some (false, ())
  else (bif (!(r116.1.2.1 == r91.1.2.1)) then
  some (false, ())
  else some (true, ()))))))))
noncomputable def F3e (n : Nat) : Ent G := ⟨3, (.cons .str (.cons .str (.cons .str .nil))), [], .bool, [], fun x y => F3 n x.1 x.2.1 x.2.2.1⟩
theorem F3_eq (n : Nat) (x : ShL.den G (.cons .str (.cons .str (.cons .str .nil)))) (y : denO G []) : (F3e n).F x y = runFn prog G (ro G (tabOf (E7 n)) (frOf []) _) Go.Proofs.Tryd.f3 .no [(0, .fz)] (ShL.enc G (.cons .str (.cons .str (.cons .str .nil))) x) (encO G [] y) (decR .bool []) := by kernel_rfl
theorem F3_ok (n : Nat) : EntOK prog G (F3e n) :=
  ent_ok (fr := frOf []) (ann := .no) (frm := [(0, .fz)]) laws fnok (E7_ok n).tab (e := F3e n) (fn := Go.Proofs.Tryd.f3) (by kernel_rfl) (AllF.ofB (cd := F3c) (l := []) (by kernel_rfl) (by kernel_rfl) AllF.nil) (F3_eq n)
noncomputable def E8 (n : Nat) : List (Ent G) := F3e n :: E7 n
theorem E8_ok (n : Nat) : AllE prog G (E8 n) := AllE.cons (F3_ok n) (E7_ok n)
-- 4 loop.example/slowworm/laws.FnTextSplit
noncomputable def F4c : Code := bodyOf Go.Proofs.Tryd.f4
-- 9 loop.example/slowworm/spec.DrawTextSplit
noncomputable def F9c : Code := bodyOf Go.Proofs.Tryd.f9
-- 22 loop.example/slowworm/spec.newRnd
noncomputable def F22c : Code := bodyOf Go.Proofs.Tryd.f22
noncomputable def F22 (n : Nat) (a123 : List Int) : Option (Unit × ((List Int × (Int × Unit)) × Unit)) :=
  let v124 := ((a123.length) : Int)
  let v125 := (if ((4000 : Int) < v124) then (4000 : Int) else v124)
  (bif (decide ((0 : Int) ≤ v125)) then
  (bif (decide (v125 ≤ ((a123.length) : Int))) then
  some ((), ((((a123.take (v125.toNat)).drop (0 : Nat)), ((0 : Int), ())), ()))
  else none)
  else none)
noncomputable def F22e (n : Nat) : Ent G := ⟨22, (.cons (.imm 1) .nil), [], (.ptr 0 0), [(.box 54 (.cons (.imm 1) (.cons (.int .i64) .nil)))], fun x y => F22 n x.1⟩
theorem F22_eq (n : Nat) (x : ShL.den G (.cons (.imm 1) .nil)) (y : denO G []) : (F22e n).F x y = runFn prog G (ro G (tabOf (E8 n)) (frOf []) _) Go.Proofs.Tryd.f22 .no [(0, .fz)] (ShL.enc G (.cons (.imm 1) .nil) x) (encO G [] y) (decR (.ptr 0 0) [(.box 54 (.cons (.imm 1) (.cons (.int .i64) .nil)))]) := by kernel_rfl
theorem F22_ok (n : Nat) : EntOK prog G (F22e n) :=
  ent_ok (fr := frOf []) (ann := .no) (frm := [(0, .fz)]) laws fnok (E8_ok n).tab (e := F22e n) (fn := Go.Proofs.Tryd.f22) (by kernel_rfl) (AllF.ofB (cd := F22c) (l := []) (by kernel_rfl) (by kernel_rfl) AllF.nil) (F22_eq n)
noncomputable def E9 (n : Nat) : List (Ent G) := F22e n :: E8 n
theorem E9_ok (n : Nat) : AllE prog G (E9 n) := AllE.cons (F22_ok n) (E8_ok n)
-- 23 (*loop.example/slowworm/spec.rnd).text
noncomputable def F23c : Code := bodyOf Go.Proofs.Tryd.f23
-- 32 (*loop.example/slowworm/spec.rnd).pick
noncomputable def F32c : Code := bodyOf Go.Proofs.Tryd.f32
noncomputable def F32_0x0 : SSh := ⟨101, [(0, (.ptr 0 0)), (1, (.int .i64)), (5, (.int .i64))], [(.box 54 (.cons (.imm 1) (.cons (.int .i64) .nil)))]⟩
noncomputable def F32_0s : SSh := ⟨101, [(0, (.ptr 0 0)), (1, (.int .i64)), (5, (.int .i64))], [(.box 54 (.cons (.imm 1) (.cons (.int .i64) .nil)))]⟩
noncomputable def F32_0 {R : Type} (n : Nat) (x134 : Int) (x135 : Int) (x136 : List Int) (x137 : Int) (k0 : Int → Int → List Int → Int → Option R) : Option R :=
  (bif (decide (((x136.length) : Int) > (0 : Int))) then
  let v140 := ((x136.length) : Int)
  (bif (!(decide (v140 = (0 : Int)))) then
  let v141 := (x137.tmod v140)
  (bif (decide ((0 : Int) ≤ v141)) then
  (bif (decide (v141 < ((x136.length) : Int))) then
  let v144 := (IntKind.wrap .i64 (x136.getD (v141.toNat) (0 : Int)))
  (bif (decide (x134 > (256 : Int))) then
  let v149 := ((x136.length) : Int)
  (bif (!(decide (v149 = (0 : Int)))) then
  let v150 := ((IntKind.wrap .i64 ((IntKind.wrap .i64 (x137 * (7 : Int))) + (3 : Int))).tmod v149)
  (bif (decide ((0 : Int) ≤ v150)) then
  (bif (decide (v150 < ((x136.length) : Int))) then
  let v158 := ((x136.length) : Int)
  (bif (!(decide (v158 = (0 : Int)))) then
  let v161 := (IntKind.wrap .i64 ((IntKind.wrap .i64 ((IntKind.wrap .i64 ((IntKind.wrap .i64 (v144 * (131 : Int))) + (IntKind.wrap .i64 ((IntKind.wrap .i64 (x136.getD (v150.toNat) (0 : Int))) * (1117 : Int))))) + (IntKind.wrap .i64 (x137 * (29 : Int))))) + (IntKind.wrap .i64 ((IntKind.wrap .i64 (x137.tdiv v158)) * (53 : Int)))))
  (k0 x134 (IntKind.wrap .i64 ((((BitVec.ofInt (64 : Nat) v161) ^^^ (BitVec.ofInt (64 : Nat) (IntKind.wrap .i64 (v161.tdiv (64 : Int))))).toNat) : Int)) x136 x137)
  else none)
  else none)
  else none)
  else none)
  else (bif (decide (x137 ≥ ((x136.length) : Int))) then
  let v169 := ((x136.length) : Int)
  (bif (!(decide (v169 = (0 : Int)))) then
  let v170 := ((IntKind.wrap .i64 ((IntKind.wrap .i64 (x137 * (7 : Int))) + (3 : Int))).tmod v169)
  (bif (decide ((0 : Int) ≤ v170)) then
  (bif (decide (v170 < ((x136.length) : Int))) then
  let v178 := ((x136.length) : Int)
  (bif (!(decide (v178 = (0 : Int)))) then
  let v181 := (IntKind.wrap .i64 ((IntKind.wrap .i64 ((IntKind.wrap .i64 ((IntKind.wrap .i64 (v144 * (131 : Int))) + (IntKind.wrap .i64 ((IntKind.wrap .i64 (x136.getD (v170.toNat) (0 : Int))) * (1117 : Int))))) + (IntKind.wrap .i64 (x137 * (29 : Int))))) + (IntKind.wrap .i64 ((IntKind.wrap .i64 (x137.tdiv v178)) * (53 : Int)))))
  (k0 x134 (IntKind.wrap .i64 ((((BitVec.ofInt (64 : Nat) v181) ^^^ (BitVec.ofInt (64 : Nat) (IntKind.wrap .i64 (v181.tdiv (64 : Int))))).toNat) : Int)) x136 x137)
  else none)
  else none)
  else none)
  else none)
  else (k0 x134 v144 x136 x137)))
  else none)
  else none)
  else none)
  else (k0 x134 x135 x136 x137))
noncomputable def F32_0z (n : Nat) : Sm G := inZ G 1 ⟨[0, 1, 5], []⟩ F32_0s fun R x K => F32_0 n x.1.2.1 x.1.2.2.1 x.2.1.1 x.2.1.2.1 (fun u0 u1 u2 u3 => K .normal (SSh.enc G F32_0x0 (((), (u0, (u1, ()))), ((u2, (u3, ())), ()))))
theorem F32_0_eq (n : Nat) (R : Type) (x : SSh.den G F32_0s) (K : AE → St G → Option R) :
  F32_0 n x.1.2.1 x.1.2.2.1 x.2.1.1 x.2.1.2.1 (fun u0 u1 u2 u3 => K .normal (SSh.enc G F32_0x0 (((), (u0, (u1, ()))), ((u2, (u3, ())), ())))) = exec prog G (ro G (tabOf (E9 n)) (frOf []) R) 1 (codeAt F32c [1, 1, 1, 0]) .no (SSh.enc G F32_0s x) (kNrm G (ro G (tabOf (E9 n)) (frOf []) R) 1 ⟨⟨[0, 1, 5], []⟩, ⟨[4], []⟩, []⟩ K) := by kernel_rfl
theorem F32_0_ok (n : Nat) : FragOK prog G 1 (codeAt F32c [1, 1, 1, 0]) (F32_0z n) :=
  frag_plain laws fnok (E9_ok n).tab (AllF.of (l := []) (by kernel_rfl) AllF.nil) (F32_0_eq n)
noncomputable def F32 (n : Nat) (a130 : Int) (a131 : List Int) (a132 : Int) : Option (Int × ((List Int × (Int × Unit)) × Unit)) :=
  (bif (decide (a130 < (2 : Int))) then
  some ((0 : Int), ((a131, (a132, ())), ()))
  else (F32_0 n a130 (0 : Int) a131 a132 (fun z184 z185 z186 z187 =>
  (bif (!(decide (z184 = (0 : Int)))) then
  some ((z185.tmod z184), ((z186, ((IntKind.wrap .i64 (z187 + (1 : Int))), ())), ()))
  else none))))
noncomputable def F32e (n : Nat) : Ent G := ⟨32, (.cons (.ptr 0 0) (.cons (.int .i64) .nil)), [(.box 54 (.cons (.imm 1) (.cons (.int .i64) .nil)))], (.int .i64), [(.box 54 (.cons (.imm 1) (.cons (.int .i64) .nil)))], fun x y => F32 n x.2.1 y.1.1 y.1.2.1⟩
theorem F32_eq (n : Nat) (x : ShL.den G (.cons (.ptr 0 0) (.cons (.int .i64) .nil))) (y : denO G [(.box 54 (.cons (.imm 1) (.cons (.int .i64) .nil)))]) : (F32e n).F x y = runFn prog G (ro G (tabOf (E9 n)) (frOf [F32_0z n]) _) Go.Proofs.Tryd.f32 (.nd .no (.nd .no (.nd .no (.nd (.use 0) .no)))) [(0, .fz)] (ShL.enc G (.cons (.ptr 0 0) (.cons (.int .i64) .nil)) x) (encO G [(.box 54 (.cons (.imm 1) (.cons (.int .i64) .nil)))] y) (decR (.int .i64) [(.box 54 (.cons (.imm 1) (.cons (.int .i64) .nil)))]) := by kernel_rfl
theorem F32_ok (n : Nat) : EntOK prog G (F32e n) :=
  ent_ok (fr := frOf [F32_0z n]) (ann := (.nd .no (.nd .no (.nd .no (.nd (.use 0) .no))))) (frm := [(0, .fz)]) laws fnok (E9_ok n).tab (e := F32e n) (fn := Go.Proofs.Tryd.f32) (by kernel_rfl) (AllF.ofB (cd := F32c) (l := [(0, codeAt F32c [1, 1, 1, 0])]) (by kernel_rfl) (by kernel_rfl) (AllF.cons (F32_0_ok n) AllF.nil)) (F32_eq n)
noncomputable def E10 (n : Nat) : List (Ent G) := F32e n :: E9 n
theorem E10_ok (n : Nat) : AllE prog G (E10 n) := AllE.cons (F32_ok n) (E9_ok n)
-- 24 (*loop.example/slowworm/spec.rnd).of
noncomputable def F24c : Code := bodyOf Go.Proofs.Tryd.f24
noncomputable def F24 (n : Nat) (a200 : List ByteArray) (a201 : List Int) (a202 : Int) : Option (ByteArray × ((List Int × (Int × Unit)) × Unit)) :=
  (andThen (F32 n ((a200.length) : Int) a201 a202) fun r204 =>
  (bif (decide ((0 : Int) ≤ r204.1)) then
  (bif (decide (r204.1 < ((a200.length) : Int))) then
  some ((a200.getD (r204.1.toNat) ({ data := #[] } : ByteArray)), ((r204.2.1.1, (r204.2.1.2.1, ())), ()))
  else none)
  else none))
noncomputable def F24e (n : Nat) : Ent G := ⟨24, (.cons (.ptr 0 0) (.cons (.imm 2) .nil)), [(.box 54 (.cons (.imm 1) (.cons (.int .i64) .nil)))], .str, [(.box 54 (.cons (.imm 1) (.cons (.int .i64) .nil)))], fun x y => F24 n x.2.1 y.1.1 y.1.2.1⟩
theorem F24_eq (n : Nat) (x : ShL.den G (.cons (.ptr 0 0) (.cons (.imm 2) .nil))) (y : denO G [(.box 54 (.cons (.imm 1) (.cons (.int .i64) .nil)))]) : (F24e n).F x y = runFn prog G (ro G (tabOf (E10 n)) (frOf []) _) Go.Proofs.Tryd.f24 .no [(0, .fz)] (ShL.enc G (.cons (.ptr 0 0) (.cons (.imm 2) .nil)) x) (encO G [(.box 54 (.cons (.imm 1) (.cons (.int .i64) .nil)))] y) (decR .str [(.box 54 (.cons (.imm 1) (.cons (.int .i64) .nil)))]) := by kernel_rfl
theorem F24_ok (n : Nat) : EntOK prog G (F24e n) :=
  ent_ok (fr := frOf []) (ann := .no) (frm := [(0, .fz)]) laws fnok (E10_ok n).tab (e := F24e n) (fn := Go.Proofs.Tryd.f24) (by kernel_rfl) (AllF.ofB (cd := F24c) (l := []) (by kernel_rfl) (by kernel_rfl) AllF.nil) (F24_eq n)
noncomputable def E11 (n : Nat) : List (Ent G) := F24e n :: E10 n
theorem E11_ok (n : Nat) : AllE prog G (E11 n) := AllE.cons (F24_ok n) (E10_ok n)
noncomputable def F23_0x0 : SSh := ⟨27, [(0, (.ptr 0 0)), (3, .str)], [(.box 54 (.cons (.imm 1) (.cons (.int .i64) .nil)))]⟩
noncomputable def F23_0s : SSh := ⟨27, [(0, (.ptr 0 0)), (3, .str), (4, (.int .i64))], [(.box 54 (.cons (.imm 1) (.cons (.int .i64) .nil)))]⟩
noncomputable def F23_0_step {R : Type} (n : Nat) (k0 : ByteArray → List Int → Int → Option R) (rec : ByteArray → Int → List Int → Int → Option R) (x191 : ByteArray) (x192 : Int) (x193 : List Int) (x194 : Int) : Option R :=
  (bif (decide (x192 > (0 : Int))) then
  (andThen (F24 n (({ data := #[97] } : ByteArray) :: (({ data := #[98] } : ByteArray) :: (({ data := #[97, 98] } : ByteArray) :: (({ data := #[32] } : ByteArray) :: (({ data := #[97, 98, 97] } : ByteArray) :: (({ data := #[10] } : ByteArray) :: (({ data := #[39] } : ByteArray) :: ((bytesOfInts (List.map (fun y198 => y198) ((92 : Int) :: []))) :: (({ data := #[0] } : ByteArray) :: (({ data := #[255] } : ByteArray) :: (({ data := #[195, 169] } : ByteArray) :: (({ data := #[44] } : ByteArray) :: [])))))))))))) x193 x194) fun r207 =>
  (bif (decide (((x191.size) + (r207.1.size)) ≤ (68719476736 : Nat))) then
  (rec (x191 ++ r207.1) (IntKind.wrap .i64 (x192 - (1 : Int))) r207.2.1.1 r207.2.1.2.1)
  else none))
  else (k0 x191 x193 x194))
noncomputable def F23_0_it {R : Type} (n : Nat) (k0 : ByteArray → List Int → Int → Option R) : Nat → ByteArray → Int → List Int → Int → Option R
  | 0, _, _, _, _ => none
  | k + 1, x191, x192, x193, x194 => F23_0_step n k0 (F23_0_it n k0 k) x191 x192 x193 x194
noncomputable def F23_0 {R : Type} (n : Nat) (x191 : ByteArray) (x192 : Int) (x193 : List Int) (x194 : Int) (k0 : ByteArray → List Int → Int → Option R) : Option R := F23_0_it n k0 n x191 x192 x193 x194
noncomputable def F23_0z (n : Nat) : Sm G := inZ G 1 ⟨[0, 3, 4], []⟩ F23_0s fun R x K => F23_0_it n (fun u0 u1 u2 => K (.exit 0) (SSh.enc G F23_0x0 (((), (u0, ())), ((u1, (u2, ())), ())))) n x.1.2.1 x.1.2.2.1 x.2.1.1 x.2.1.2.1
theorem F23_0_eq (n : Nat) (R : Type) (rec : SSh.den G F23_0s → Option R) (x : SSh.den G F23_0s) (K : AE → St G → Option R) :
  F23_0_step n (fun u0 u1 u2 => K (.exit 0) (SSh.enc G F23_0x0 (((), (u0, ())), ((u1, (u2, ())), ())))) (fun x191 x192 x193 x194 => rec (((), (x191, (x192, ()))), ((x193, (x194, ())), ()))) x.1.2.1 x.1.2.2.1 x.2.1.1 x.2.1.2.1 = exec prog G (ro G (tabOf (E11 n)) (frOf []) R) 1 (codeAt F23c [1, 1, 0, 1, 0, 0]) .no (SSh.enc G F23_0s x) (kLoop G (ro G (tabOf (E11 n)) (frOf []) R) 1 ⟨[0, 3, 4], []⟩ F23_0s ⟨⟨[0, 3], []⟩, ⟨[2], []⟩, [(0, ⟨[0, 3], []⟩)]⟩ rec K) := by kernel_rfl
theorem F23_0_ok (n : Nat) : FragOK prog G 1 (codeAt F23c [1, 1, 0, 1, 0]) (F23_0z n) :=
  frag_loop (Z := fun R k (x : SSh.den G F23_0s) K => F23_0_it n (fun u0 u1 u2 => K (.exit 0) (SSh.enc G F23_0x0 (((), (u0, ())), ((u1, (u2, ())), ())))) k x.1.2.1 x.1.2.2.1 x.2.1.1 x.2.1.2.1) laws fnok (E11_ok n).tab (AllF.of (l := []) (by kernel_rfl) AllF.nil) (fun _ _ _ => rfl) (fun R k y K => F23_0_eq n R (fun (x : SSh.den G F23_0s) => F23_0_it n (fun u0 u1 u2 => K (.exit 0) (SSh.enc G F23_0x0 (((), (u0, ())), ((u1, (u2, ())), ())))) k x.1.2.1 x.1.2.2.1 x.2.1.1 x.2.1.2.1) y K) n
noncomputable def F23_1x0 : SSh := ⟨27, [(3, .str)], [(.box 54 (.cons (.imm 1) (.cons (.int .i64) .nil)))]⟩
noncomputable def F23_1s : SSh := ⟨27, [(3, .str)], [(.box 54 (.cons (.imm 1) (.cons (.int .i64) .nil)))]⟩
noncomputable def F23_1_step {R : Type} (n : Nat) (k0 : ByteArray → List Int → Int → Option R) (rec : ByteArray → List Int → Int → Option R) (x218 : ByteArray) (x219 : List Int) (x220 : Int) : Option R :=
  (bif (decide (((x218.size) : Int) < (399 : Int))) then
  (bif (decide (((x218.size) + (2 : Nat)) ≤ (68719476736 : Nat))) then
  (rec (x218 ++ ({ data := #[97, 98] } : ByteArray)) x219 x220)
  else none)
  else (k0 x218 x219 x220))
noncomputable def F23_1_it {R : Type} (n : Nat) (k0 : ByteArray → List Int → Int → Option R) : Nat → ByteArray → List Int → Int → Option R
  | 0, _, _, _ => none
  | k + 1, x218, x219, x220 => F23_1_step n k0 (F23_1_it n k0 k) x218 x219 x220
noncomputable def F23_1 {R : Type} (n : Nat) (x218 : ByteArray) (x219 : List Int) (x220 : Int) (k0 : ByteArray → List Int → Int → Option R) : Option R := F23_1_it n k0 n x218 x219 x220
noncomputable def F23_1z (n : Nat) : Sm G := inZ G 1 ⟨[3], []⟩ F23_1s fun R x K => F23_1_it n (fun u0 u1 u2 => K (.exit 2) (SSh.enc G F23_1x0 ((u0, ()), ((u1, (u2, ())), ())))) n x.1.1 x.2.1.1 x.2.1.2.1
theorem F23_1_eq (n : Nat) (R : Type) (rec : SSh.den G F23_1s → Option R) (x : SSh.den G F23_1s) (K : AE → St G → Option R) :
  F23_1_step n (fun u0 u1 u2 => K (.exit 2) (SSh.enc G F23_1x0 ((u0, ()), ((u1, (u2, ())), ())))) (fun x218 x219 x220 => rec ((x218, ()), ((x219, (x220, ())), ()))) x.1.1 x.2.1.1 x.2.1.2.1 = exec prog G (ro G (tabOf (E11 n)) (frOf [F23_0z n]) R) 1 (codeAt F23c [1, 1, 1, 0, 1, 0, 0, 0]) .no (SSh.enc G F23_1s x) (kLoop G (ro G (tabOf (E11 n)) (frOf [F23_0z n]) R) 1 ⟨[3], []⟩ F23_1s ⟨⟨[3], []⟩, ⟨[2], []⟩, [(2, ⟨[3], []⟩)]⟩ rec K) := by kernel_rfl
theorem F23_1_ok (n : Nat) : FragOK prog G 1 (codeAt F23c [1, 1, 1, 0, 1, 0, 0]) (F23_1z n) :=
  frag_loop (Z := fun R k (x : SSh.den G F23_1s) K => F23_1_it n (fun u0 u1 u2 => K (.exit 2) (SSh.enc G F23_1x0 ((u0, ()), ((u1, (u2, ())), ())))) k x.1.1 x.2.1.1 x.2.1.2.1) laws fnok (E11_ok n).tab (AllF.of (l := []) (by kernel_rfl) AllF.nil) (fun _ _ _ => rfl) (fun R k y K => F23_1_eq n R (fun (x : SSh.den G F23_1s) => F23_1_it n (fun u0 u1 u2 => K (.exit 2) (SSh.enc G F23_1x0 ((u0, ()), ((u1, (u2, ())), ())))) k x.1.1 x.2.1.1 x.2.1.2.1) y K) n
noncomputable def F23_2x0 : SSh := ⟨27, [(3, .str)], [(.box 54 (.cons (.imm 1) (.cons (.int .i64) .nil)))]⟩
noncomputable def F23_2s : SSh := ⟨27, [(0, (.ptr 0 0)), (3, .str)], [(.box 54 (.cons (.imm 1) (.cons (.int .i64) .nil)))]⟩
noncomputable def F23_2 {R : Type} (n : Nat) (x213 : ByteArray) (x214 : List Int) (x215 : Int) (k0 : ByteArray → List Int → Int → Option R) : Option R :=
  (andThen (F32 n (40 : Int) x214 x215) fun r216 =>
  (bif (r216.1 == (0 : Int)) then
  (F23_1 n x213 r216.2.1.1 r216.2.1.2.1 (fun z224 z225 z226 =>
  (k0 z224 z225 z226)))
  else (k0 x213 r216.2.1.1 r216.2.1.2.1)))
noncomputable def F23_2z (n : Nat) : Sm G := inZ G 1 ⟨[0, 3], []⟩ F23_2s fun R x K => F23_2 n x.1.2.1 x.2.1.1 x.2.1.2.1 (fun u0 u1 u2 => K .normal (SSh.enc G F23_2x0 ((u0, ()), ((u1, (u2, ())), ()))))
theorem F23_2_eq (n : Nat) (R : Type) (x : SSh.den G F23_2s) (K : AE → St G → Option R) :
  F23_2 n x.1.2.1 x.2.1.1 x.2.1.2.1 (fun u0 u1 u2 => K .normal (SSh.enc G F23_2x0 ((u0, ()), ((u1, (u2, ())), ())))) = exec prog G (ro G (tabOf (E11 n)) (frOf [F23_0z n, F23_1z n]) R) 1 (codeAt F23c [1, 1, 1, 0]) (.nd .no (.nd (.nd (.use 1) .no) .no)) (SSh.enc G F23_2s x) (kNrm G (ro G (tabOf (E11 n)) (frOf [F23_0z n, F23_1z n]) R) 1 ⟨⟨[3], []⟩, ⟨[2], []⟩, []⟩ K) := by kernel_rfl
theorem F23_2_ok (n : Nat) : FragOK prog G 1 (codeAt F23c [1, 1, 1, 0]) (F23_2z n) :=
  frag_plain laws fnok (E11_ok n).tab (AllF.of (l := [(1, codeAt F23c [1, 1, 1, 0, 1, 0, 0])]) (by kernel_rfl) (AllF.cons (F23_1_ok n) AllF.nil)) (F23_2_eq n)
noncomputable def F23 (n : Nat) (a128 : List Int) (a129 : Int) : Option (ByteArray × ((List Int × (Int × Unit)) × Unit)) :=
  (andThen (F32 n (9 : Int) a128 a129) fun r190 =>
  (F23_0 n ({ data := #[] } : ByteArray) r190.1 r190.2.1.1 r190.2.1.2.1 (fun z210 z211 z212 =>
  (F23_2 n z210 z211 z212 (fun z227 z228 z229 =>
  some (z227, ((z228, (z229, ())), ())))))))
noncomputable def F23e (n : Nat) : Ent G := ⟨23, (.cons (.ptr 0 0) .nil), [(.box 54 (.cons (.imm 1) (.cons (.int .i64) .nil)))], .str, [(.box 54 (.cons (.imm 1) (.cons (.int .i64) .nil)))], fun x y => F23 n y.1.1 y.1.2.1⟩
theorem F23_eq (n : Nat) (x : ShL.den G (.cons (.ptr 0 0) .nil)) (y : denO G [(.box 54 (.cons (.imm 1) (.cons (.int .i64) .nil)))]) : (F23e n).F x y = runFn prog G (ro G (tabOf (E11 n)) (frOf [F23_0z n, F23_1z n, F23_2z n]) _) Go.Proofs.Tryd.f23 (.nd .no (.nd .no (.nd (.nd .no (.nd (.use 0) .no)) (.nd (.use 2) .no)))) [(0, .fz)] (ShL.enc G (.cons (.ptr 0 0) .nil) x) (encO G [(.box 54 (.cons (.imm 1) (.cons (.int .i64) .nil)))] y) (decR .str [(.box 54 (.cons (.imm 1) (.cons (.int .i64) .nil)))]) := by kernel_rfl
theorem F23_ok (n : Nat) : EntOK prog G (F23e n) :=
  ent_ok (fr := frOf [F23_0z n, F23_1z n, F23_2z n]) (ann := (.nd .no (.nd .no (.nd (.nd .no (.nd (.use 0) .no)) (.nd (.use 2) .no))))) (frm := [(0, .fz)]) laws fnok (E11_ok n).tab (e := F23e n) (fn := Go.Proofs.Tryd.f23) (by kernel_rfl) (AllF.ofB (cd := F23c) (l := [(0, codeAt F23c [1, 1, 0, 1, 0]), (2, codeAt F23c [1, 1, 1, 0])]) (by kernel_rfl) (by kernel_rfl) (AllF.cons (F23_0_ok n) (AllF.cons (F23_2_ok n) AllF.nil))) (F23_eq n)
noncomputable def E12 (n : Nat) : List (Ent G) := F23e n :: E11 n
theorem E12_ok (n : Nat) : AllE prog G (E12 n) := AllE.cons (F23_ok n) (E11_ok n)
noncomputable def F9 (n : Nat) (a122 : List Int) : Option ((ByteArray × (ByteArray × Unit)) × Unit) :=
  (andThen (F22 n a122) fun r127 =>
  (andThen (F23 n r127.2.1.1 r127.2.1.2.1) fun r230 =>
  (andThen (F23 n r230.2.1.1 r230.2.1.2.1) fun r231 =>
  (andThen (F24 n (({ data := #[97] } : ByteArray) :: (({ data := #[98] } : ByteArray) :: (({ data := #[97, 98] } : ByteArray) :: (({ data := #[98, 97] } : ByteArray) :: (({ data := #[] } : ByteArray) :: (({ data := #[32] } : ByteArray) :: (r231.1 :: []))))))) r231.2.1.1 r231.2.1.2.1) fun r233 =>
  some ((r230.1, (r233.1, ())), ())))))
noncomputable def F9e (n : Nat) : Ent G := ⟨9, (.cons (.imm 1) .nil), [], (.tup (.cons .str (.cons .str .nil))), [], fun x y => F9 n x.1⟩
theorem F9_eq (n : Nat) (x : ShL.den G (.cons (.imm 1) .nil)) (y : denO G []) : (F9e n).F x y = runFn prog G (ro G (tabOf (E12 n)) (frOf []) _) Go.Proofs.Tryd.f9 .no [(0, .fz), (1, .fz)] (ShL.enc G (.cons (.imm 1) .nil) x) (encO G [] y) (decR (.tup (.cons .str (.cons .str .nil))) []) := by kernel_rfl
theorem F9_ok (n : Nat) : EntOK prog G (F9e n) :=
  ent_ok (fr := frOf []) (ann := .no) (frm := [(0, .fz), (1, .fz)]) laws fnok (E12_ok n).tab (e := F9e n) (fn := Go.Proofs.Tryd.f9) (by kernel_rfl) (AllF.ofB (cd := F9c) (l := []) (by kernel_rfl) (by kernel_rfl) AllF.nil) (F9_eq n)
noncomputable def E13 (n : Nat) : List (Ent G) := F9e n :: E12 n
theorem E13_ok (n : Nat) : AllE prog G (E13 n) := AllE.cons (F9_ok n) (E12_ok n)
-- 10 loop.example/slowworm/impl.TextSplit
noncomputable def F10c : Code := bodyOf Go.Proofs.Tryd.f10
noncomputable def F10 (n : Nat) (a242 : ByteArray) (a243 : ByteArray) : Option (List ByteArray × Unit) :=
  (bif ((a243.toList) == (({ data := #[] } : ByteArray).toList)) then
  some ([], ())
  else (andThen (F19 n (a242 :: (a243 :: []))) fun r246 =>
  (bif (!r246.1) then
  some ([], ())
  else (andThen (splitF a242 a243) fun r248 =>
  some (r248.1, ())))))
noncomputable def F10e (n : Nat) : Ent G := ⟨10, (.cons .str (.cons .str .nil)), [], (.imm 2), [], fun x y => F10 n x.1 x.2.1⟩
theorem F10_eq (n : Nat) (x : ShL.den G (.cons .str (.cons .str .nil))) (y : denO G []) : (F10e n).F x y = runFn prog G (ro G (tabOf (E13 n)) (frOf []) _) Go.Proofs.Tryd.f10 .no [(0, .fz)] (ShL.enc G (.cons .str (.cons .str .nil)) x) (encO G [] y) (decR (.imm 2) []) := by kernel_rfl
theorem F10_ok (n : Nat) : EntOK prog G (F10e n) :=
  ent_ok (fr := frOf []) (ann := .no) (frm := [(0, .fz)]) laws fnok (E13_ok n).tab (e := F10e n) (fn := Go.Proofs.Tryd.f10) (by kernel_rfl) (AllF.ofB (cd := F10c) (l := []) (by kernel_rfl) (by kernel_rfl) AllF.nil) (F10_eq n)
noncomputable def E14 (n : Nat) : List (Ent G) := F10e n :: E13 n
theorem E14_ok (n : Nat) : AllE prog G (E14 n) := AllE.cons (F10_ok n) (E13_ok n)
-- 11 loop.example/slowworm/spec.TextSplit
noncomputable def F11c : Code := bodyOf Go.Proofs.Tryd.f11
noncomputable def F11 (n : Nat) (a258 : ByteArray) (a259 : ByteArray) : Option (List ByteArray × Unit) :=
  (andThen (F16 n a258) fun r260 =>
  (bif (!r260.1) then
  some ([], ())
  else (andThen (F16 n a259) fun r262 =>
  (bif (!r262.1) then
  some ([], ())
  else (bif ((a259.toList) == (({ data := #[] } : ByteArray).toList)) then
  some ([], ())
  else (andThen (F18 n a258 a259) fun r265 =>
  some (r265.1, ())))))))
noncomputable def F11e (n : Nat) : Ent G := ⟨11, (.cons .str (.cons .str .nil)), [], (.imm 2), [], fun x y => F11 n x.1 x.2.1⟩
theorem F11_eq (n : Nat) (x : ShL.den G (.cons .str (.cons .str .nil))) (y : denO G []) : (F11e n).F x y = runFn prog G (ro G (tabOf (E14 n)) (frOf []) _) Go.Proofs.Tryd.f11 .no [(0, .fz)] (ShL.enc G (.cons .str (.cons .str .nil)) x) (encO G [] y) (decR (.imm 2) []) := by kernel_rfl
theorem F11_ok (n : Nat) : EntOK prog G (F11e n) :=
  ent_ok (fr := frOf []) (ann := .no) (frm := [(0, .fz)]) laws fnok (E14_ok n).tab (e := F11e n) (fn := Go.Proofs.Tryd.f11) (by kernel_rfl) (AllF.ofB (cd := F11c) (l := []) (by kernel_rfl) (by kernel_rfl) AllF.nil) (F11_eq n)
noncomputable def E15 (n : Nat) : List (Ent G) := F11e n :: E14 n
theorem E15_ok (n : Nat) : AllE prog G (E15 n) := AllE.cons (F11_ok n) (E14_ok n)
-- 12 loop.example/slowworm/spec.SameTexts
noncomputable def F12c : Code := bodyOf Go.Proofs.Tryd.f12
-- 25 loop.example/slowworm/spec.sameTexts
noncomputable def F25c : Code := bodyOf Go.Proofs.Tryd.f25
noncomputable def F25_0x0 : SSh := ⟨26, [(4, .bool)], []⟩
noncomputable def F25_0x1 : SSh := ⟨26, [], []⟩
noncomputable def F25_0s : SSh := ⟨26, [(0, (.imm 2)), (1, (.imm 2)), (5, (.int .i64))], []⟩
noncomputable def F25_0_step {R : Type} (n : Nat) (k0 : Bool → Option R) (k1 : Option R) (rec : List ByteArray → List ByteArray → Int → Option R) (x274 : List ByteArray) (x275 : List ByteArray) (x276 : Int) : Option R :=
  (bif (decide (x276 < ((x274.length) : Int))) then
  (bif (decide ((0 : Int) ≤ x276)) then
  (bif (decide (x276 < ((x274.length) : Int))) then
  (bif (decide ((0 : Int) ≤ x276)) then
  (bif (decide (x276 < ((x275.length) : Int))) then
  (bif (!(((x274.getD (x276.toNat) ({ data := #[] } : ByteArray)).toList) == ((x275.getD (x276.toNat) ({ data := #[] } : ByteArray)).toList))) then
  (k0 false)
  else (rec x274 x275 (IntKind.wrap .i64 (x276 + (1 : Int)))))
  else none)
  else none)
  else none)
  else none)
  else k1)
noncomputable def F25_0_it {R : Type} (n : Nat) (k0 : Bool → Option R) (k1 : Option R) : Nat → List ByteArray → List ByteArray → Int → Option R
  | 0, _, _, _ => none
  | k + 1, x274, x275, x276 => F25_0_step n k0 k1 (F25_0_it n k0 k1 k) x274 x275 x276
noncomputable def F25_0 {R : Type} (n : Nat) (x274 : List ByteArray) (x275 : List ByteArray) (x276 : Int) (k0 : Bool → Option R) (k1 : Option R) : Option R := F25_0_it n k0 k1 n x274 x275 x276
noncomputable def F25_0z (n : Nat) : Sm G := inZ G 0 ⟨[0, 1, 5], []⟩ F25_0s fun R x K => F25_0_it n (fun u0 => K .ret (SSh.enc G F25_0x0 ((u0, ()), ()))) (K (.exit 0) (SSh.enc G F25_0x1 ((), ()))) n x.1.1 x.1.2.1 x.1.2.2.1
theorem F25_0_eq (n : Nat) (R : Type) (rec : SSh.den G F25_0s → Option R) (x : SSh.den G F25_0s) (K : AE → St G → Option R) :
  F25_0_step n (fun u0 => K .ret (SSh.enc G F25_0x0 ((u0, ()), ()))) (K (.exit 0) (SSh.enc G F25_0x1 ((), ()))) (fun x274 x275 x276 => rec ((x274, (x275, (x276, ()))), ())) x.1.1 x.1.2.1 x.1.2.2.1 = exec prog G (ro G (tabOf (E15 n)) (frOf []) R) 0 (codeAt F25c [1, 1, 0, 1, 0, 0]) .no (SSh.enc G F25_0s x) (kLoop G (ro G (tabOf (E15 n)) (frOf []) R) 0 ⟨[0, 1, 5], []⟩ F25_0s ⟨⟨[], []⟩, ⟨[4], []⟩, [(0, ⟨[], []⟩)]⟩ rec K) := by kernel_rfl
theorem F25_0_ok (n : Nat) : FragOK prog G 0 (codeAt F25c [1, 1, 0, 1, 0]) (F25_0z n) :=
  frag_loop (Z := fun R k (x : SSh.den G F25_0s) K => F25_0_it n (fun u0 => K .ret (SSh.enc G F25_0x0 ((u0, ()), ()))) (K (.exit 0) (SSh.enc G F25_0x1 ((), ()))) k x.1.1 x.1.2.1 x.1.2.2.1) laws fnok (E15_ok n).tab (AllF.of (l := []) (by kernel_rfl) AllF.nil) (fun _ _ _ => rfl) (fun R k y K => F25_0_eq n R (fun (x : SSh.den G F25_0s) => F25_0_it n (fun u0 => K .ret (SSh.enc G F25_0x0 ((u0, ()), ()))) (K (.exit 0) (SSh.enc G F25_0x1 ((), ()))) k x.1.1 x.1.2.1 x.1.2.2.1) y K) n
noncomputable def F25 (n : Nat) (a269 : List ByteArray) (a270 : List ByteArray) : Option (Bool × Unit) :=
  (bif (((a269.length) : Int) != ((a270.length) : Int)) then
  some (false, ())
  else (F25_0 n a269 a270 (0 : Int) (fun z285 =>
  some (z285, ())) (
  some (true, ()))))
noncomputable def F25e (n : Nat) : Ent G := ⟨25, (.cons (.imm 2) (.cons (.imm 2) .nil)), [], .bool, [], fun x y => F25 n x.1 x.2.1⟩
theorem F25_eq (n : Nat) (x : ShL.den G (.cons (.imm 2) (.cons (.imm 2) .nil))) (y : denO G []) : (F25e n).F x y = runFn prog G (ro G (tabOf (E15 n)) (frOf [F25_0z n]) _) Go.Proofs.Tryd.f25 (.nd .no (.nd .no (.nd (.nd .no (.nd (.use 0) .no)) .no))) [(0, .fz)] (ShL.enc G (.cons (.imm 2) (.cons (.imm 2) .nil)) x) (encO G [] y) (decR .bool []) := by kernel_rfl
theorem F25_ok (n : Nat) : EntOK prog G (F25e n) :=
  ent_ok (fr := frOf [F25_0z n]) (ann := (.nd .no (.nd .no (.nd (.nd .no (.nd (.use 0) .no)) .no)))) (frm := [(0, .fz)]) laws fnok (E15_ok n).tab (e := F25e n) (fn := Go.Proofs.Tryd.f25) (by kernel_rfl) (AllF.ofB (cd := F25c) (l := [(0, codeAt F25c [1, 1, 0, 1, 0])]) (by kernel_rfl) (by kernel_rfl) (AllF.cons (F25_0_ok n) AllF.nil)) (F25_eq n)
noncomputable def E16 (n : Nat) : List (Ent G) := F25e n :: E15 n
theorem E16_ok (n : Nat) : AllE prog G (E16 n) := AllE.cons (F25_ok n) (E15_ok n)
noncomputable def F12 (n : Nat) (a267 : List ByteArray) (a268 : List ByteArray) : Option (Bool × Unit) :=
  (andThen (F25 n a267 a268) fun r286 =>
  some (r286.1, ()))
noncomputable def F12e (n : Nat) : Ent G := ⟨12, (.cons (.imm 2) (.cons (.imm 2) .nil)), [], .bool, [], fun x y => F12 n x.1 x.2.1⟩
theorem F12_eq (n : Nat) (x : ShL.den G (.cons (.imm 2) (.cons (.imm 2) .nil))) (y : denO G []) : (F12e n).F x y = runFn prog G (ro G (tabOf (E16 n)) (frOf []) _) Go.Proofs.Tryd.f12 .no [(0, .fz)] (ShL.enc G (.cons (.imm 2) (.cons (.imm 2) .nil)) x) (encO G [] y) (decR .bool []) := by kernel_rfl
theorem F12_ok (n : Nat) : EntOK prog G (F12e n) :=
  ent_ok (fr := frOf []) (ann := .no) (frm := [(0, .fz)]) laws fnok (E16_ok n).tab (e := F12e n) (fn := Go.Proofs.Tryd.f12) (by kernel_rfl) (AllF.ofB (cd := F12c) (l := []) (by kernel_rfl) (by kernel_rfl) AllF.nil) (F12_eq n)
noncomputable def E17 (n : Nat) : List (Ent G) := F12e n :: E16 n
theorem E17_ok (n : Nat) : AllE prog G (E17 n) := AllE.cons (F12_ok n) (E16_ok n)
-- 13 loop.example/slowworm/impl.TextJoin
noncomputable def F13c : Code := bodyOf Go.Proofs.Tryd.f13
noncomputable def F13 (n : Nat) (a291 : List ByteArray) (a292 : ByteArray) : Option ((ByteArray × (Bool × Unit)) × Unit) :=
  (andThen (F19 n a291) fun r293 =>
  (bif (!r293.1) then
  some ((({ data := #[] } : ByteArray), (false, ())), ())
  else (andThen (F19 n (a292 :: [])) fun r296 =>
  (bif (!r296.1) then
  some ((({ data := #[] } : ByteArray), (false, ())), ())
  else (bif (decide (((a291.length) : Int) > (401 : Int))) then
  some ((({ data := #[] } : ByteArray), (false, ())), ())
  else (andThen (joinF a291 a292) fun r300 =>
  (andThen (F19 n (r300.1 :: [])) fun r302 =>
  (bif (!r302.1) then
  some ((({ data := #[] } : ByteArray), (false, ())), ())
  else some ((r300.1, (true, ())), ())))))))))
noncomputable def F13e (n : Nat) : Ent G := ⟨13, (.cons (.imm 2) (.cons .str .nil)), [], (.tup (.cons .str (.cons .bool .nil))), [], fun x y => F13 n x.1 x.2.1⟩
theorem F13_eq (n : Nat) (x : ShL.den G (.cons (.imm 2) (.cons .str .nil))) (y : denO G []) : (F13e n).F x y = runFn prog G (ro G (tabOf (E17 n)) (frOf []) _) Go.Proofs.Tryd.f13 .no [(0, .fz), (1, .fz)] (ShL.enc G (.cons (.imm 2) (.cons .str .nil)) x) (encO G [] y) (decR (.tup (.cons .str (.cons .bool .nil))) []) := by kernel_rfl
theorem F13_ok (n : Nat) : EntOK prog G (F13e n) :=
  ent_ok (fr := frOf []) (ann := .no) (frm := [(0, .fz), (1, .fz)]) laws fnok (E17_ok n).tab (e := F13e n) (fn := Go.Proofs.Tryd.f13) (by kernel_rfl) (AllF.ofB (cd := F13c) (l := []) (by kernel_rfl) (by kernel_rfl) AllF.nil) (F13_eq n)
noncomputable def E18 (n : Nat) : List (Ent G) := F13e n :: E17 n
theorem E18_ok (n : Nat) : AllE prog G (E18 n) := AllE.cons (F13_ok n) (E17_ok n)
-- 14 loop.example/slowworm/impl.TextFind
noncomputable def F14c : Code := bodyOf Go.Proofs.Tryd.f14
noncomputable def F14 (n : Nat) (a315 : ByteArray) (a316 : ByteArray) : Option (Int × Unit) :=
  (andThen (F19 n (a315 :: (a316 :: []))) fun r318 =>
  (bif (!r318.1) then
  some ((-1 : Int), ())
  else (andThen (indexF a315 a316) fun r320 =>
  some (r320.1, ()))))
noncomputable def F14e (n : Nat) : Ent G := ⟨14, (.cons .str (.cons .str .nil)), [], (.int .i64), [], fun x y => F14 n x.1 x.2.1⟩
theorem F14_eq (n : Nat) (x : ShL.den G (.cons .str (.cons .str .nil))) (y : denO G []) : (F14e n).F x y = runFn prog G (ro G (tabOf (E18 n)) (frOf []) _) Go.Proofs.Tryd.f14 .no [(0, .fz)] (ShL.enc G (.cons .str (.cons .str .nil)) x) (encO G [] y) (decR (.int .i64) []) := by kernel_rfl
theorem F14_ok (n : Nat) : EntOK prog G (F14e n) :=
  ent_ok (fr := frOf []) (ann := .no) (frm := [(0, .fz)]) laws fnok (E18_ok n).tab (e := F14e n) (fn := Go.Proofs.Tryd.f14) (by kernel_rfl) (AllF.ofB (cd := F14c) (l := []) (by kernel_rfl) (by kernel_rfl) AllF.nil) (F14_eq n)
noncomputable def E19 (n : Nat) : List (Ent G) := F14e n :: E18 n
theorem E19_ok (n : Nat) : AllE prog G (E19 n) := AllE.cons (F14_ok n) (E18_ok n)
noncomputable def F4_0x0 : SSh := ⟨61, [(2, .bool)], []⟩
noncomputable def F4_0x1 : SSh := ⟨61, [(3, .str), (8, .str), (9, .bool)], []⟩
noncomputable def F4_0s : SSh := ⟨61, [(3, .str), (4, .str), (5, (.imm 2)), (8, .str), (9, .bool), (10, (.int .i64))], []⟩
noncomputable def F4_0_step {R : Type} (n : Nat) (k0 : Bool → Option R) (k1 : ByteArray → ByteArray → Bool → Option R) (rec : ByteArray → ByteArray → List ByteArray → ByteArray → Bool → Int → Option R) (x305 : ByteArray) (x306 : ByteArray) (x307 : List ByteArray) (x308 : ByteArray) (x309 : Bool) (x310 : Int) : Option R :=
  (bif (decide (x310 < ((x307.length) : Int))) then
  (bif (decide ((0 : Int) ≤ x310)) then
  (bif (decide (x310 < ((x307.length) : Int))) then
  (andThen (F14 n (x307.getD (x310.toNat) ({ data := #[] } : ByteArray)) x306) fun r321 =>
  (bif (decide (r321.1 ≥ (0 : Int))) then
  (k0 false)
  else (rec x305 x306 x307 x308 x309 (IntKind.wrap .i64 (x310 + (1 : Int))))))
  else none)
  else none)
  else (k1 x305 x308 x309))
noncomputable def F4_0_it {R : Type} (n : Nat) (k0 : Bool → Option R) (k1 : ByteArray → ByteArray → Bool → Option R) : Nat → ByteArray → ByteArray → List ByteArray → ByteArray → Bool → Int → Option R
  | 0, _, _, _, _, _, _ => none
  | k + 1, x305, x306, x307, x308, x309, x310 => F4_0_step n k0 k1 (F4_0_it n k0 k1 k) x305 x306 x307 x308 x309 x310
noncomputable def F4_0 {R : Type} (n : Nat) (x305 : ByteArray) (x306 : ByteArray) (x307 : List ByteArray) (x308 : ByteArray) (x309 : Bool) (x310 : Int) (k0 : Bool → Option R) (k1 : ByteArray → ByteArray → Bool → Option R) : Option R := F4_0_it n k0 k1 n x305 x306 x307 x308 x309 x310
noncomputable def F4_0z (n : Nat) : Sm G := inZ G 0 ⟨[3, 4, 5, 8, 9, 10], []⟩ F4_0s fun R x K => F4_0_it n (fun u0 => K .ret (SSh.enc G F4_0x0 ((u0, ()), ()))) (fun u0 u1 u2 => K (.exit 0) (SSh.enc G F4_0x1 ((u0, (u1, (u2, ()))), ()))) n x.1.1 x.1.2.1 x.1.2.2.1 x.1.2.2.2.1 x.1.2.2.2.2.1 x.1.2.2.2.2.2.1
theorem F4_0_eq (n : Nat) (R : Type) (rec : SSh.den G F4_0s → Option R) (x : SSh.den G F4_0s) (K : AE → St G → Option R) :
  F4_0_step n (fun u0 => K .ret (SSh.enc G F4_0x0 ((u0, ()), ()))) (fun u0 u1 u2 => K (.exit 0) (SSh.enc G F4_0x1 ((u0, (u1, (u2, ()))), ()))) (fun x305 x306 x307 x308 x309 x310 => rec ((x305, (x306, (x307, (x308, (x309, (x310, ())))))), ())) x.1.1 x.1.2.1 x.1.2.2.1 x.1.2.2.2.1 x.1.2.2.2.2.1 x.1.2.2.2.2.2.1 = exec prog G (ro G (tabOf (E19 n)) (frOf []) R) 0 (codeAt F4c [1, 1, 1, 1, 1, 1, 1, 1, 0, 1, 0, 0]) .no (SSh.enc G F4_0s x) (kLoop G (ro G (tabOf (E19 n)) (frOf []) R) 0 ⟨[3, 4, 5, 8, 9, 10], []⟩ F4_0s ⟨⟨[3, 8, 9], []⟩, ⟨[2], []⟩, [(0, ⟨[3, 8, 9], []⟩)]⟩ rec K) := by kernel_rfl
theorem F4_0_ok (n : Nat) : FragOK prog G 0 (codeAt F4c [1, 1, 1, 1, 1, 1, 1, 1, 0, 1, 0]) (F4_0z n) :=
  frag_loop (Z := fun R k (x : SSh.den G F4_0s) K => F4_0_it n (fun u0 => K .ret (SSh.enc G F4_0x0 ((u0, ()), ()))) (fun u0 u1 u2 => K (.exit 0) (SSh.enc G F4_0x1 ((u0, (u1, (u2, ()))), ()))) k x.1.1 x.1.2.1 x.1.2.2.1 x.1.2.2.2.1 x.1.2.2.2.2.1 x.1.2.2.2.2.2.1) laws fnok (E19_ok n).tab (AllF.of (l := []) (by kernel_rfl) AllF.nil) (fun _ _ _ => rfl) (fun R k y K => F4_0_eq n R (fun (x : SSh.den G F4_0s) => F4_0_it n (fun u0 => K .ret (SSh.enc G F4_0x0 ((u0, ()), ()))) (fun u0 u1 u2 => K (.exit 0) (SSh.enc G F4_0x1 ((u0, (u1, (u2, ()))), ()))) k x.1.1 x.1.2.1 x.1.2.2.1 x.1.2.2.2.1 x.1.2.2.2.2.1 x.1.2.2.2.2.2.1) y K) n
noncomputable def F4 (n : Nat) (a119 : List Int) : Option (Bool × Unit) :=
  (bif (decide (((a119.length) : Int) > (1048576 : Int))) then
  some (true, ())
  else (andThen (F9 n a119) fun r234 =>
  (andThen (F10 n r234.1.1 r234.1.2.1) fun r249 =>
  (andThen (F11 n r234.1.1 r234.1.2.1) fun r266 =>
  (andThen (F12 n r249.1 r266.1) fun r287 =>
  (bif (!r287.1) then
  some (r287.1, ())
  else (bif (((r249.1.length) : Int) == (0 : Int)) then
  some (r287.1, ())
  else (andThen (F13 n r249.1 r234.1.2.1) fun r304 =>
  (F4_0 n r234.1.1 r234.1.2.1 r249.1 r304.1.1 r304.1.2.1 (0 : Int) (fun z324 =>
  some (z324, ())) (fun z325 z326 z327 =>
  (bif z327 then
  some (((z326.toList) == (z325.toList)), ())
  else some (false, ()))))))))))))
noncomputable def F4e (n : Nat) : Ent G := ⟨4, (.cons (.imm 1) .nil), [], .bool, [], fun x y => F4 n x.1⟩
theorem F4_eq (n : Nat) (x : ShL.den G (.cons (.imm 1) .nil)) (y : denO G []) : (F4e n).F x y = runFn prog G (ro G (tabOf (E19 n)) (frOf [F4_0z n]) _) Go.Proofs.Tryd.f4 (.nd .no (.nd .no (.nd .no (.nd .no (.nd .no (.nd .no (.nd .no (.nd .no (.nd (.nd .no (.nd (.use 0) .no)) .no))))))))) [(0, .fz)] (ShL.enc G (.cons (.imm 1) .nil) x) (encO G [] y) (decR .bool []) := by kernel_rfl
theorem F4_ok (n : Nat) : EntOK prog G (F4e n) :=
  ent_ok (fr := frOf [F4_0z n]) (ann := (.nd .no (.nd .no (.nd .no (.nd .no (.nd .no (.nd .no (.nd .no (.nd .no (.nd (.nd .no (.nd (.use 0) .no)) .no)))))))))) (frm := [(0, .fz)]) laws fnok (E19_ok n).tab (e := F4e n) (fn := Go.Proofs.Tryd.f4) (by kernel_rfl) (AllF.ofB (cd := F4c) (l := [(0, codeAt F4c [1, 1, 1, 1, 1, 1, 1, 1, 0, 1, 0])]) (by kernel_rfl) (by kernel_rfl) (AllF.cons (F4_0_ok n) AllF.nil)) (F4_eq n)
noncomputable def E20 (n : Nat) : List (Ent G) := F4e n :: E19 n
theorem E20_ok (n : Nat) : AllE prog G (E20 n) := AllE.cons (F4_ok n) (E19_ok n)
-- 5 loop.example/slowworm/laws.FnSplitSwap
noncomputable def F5c : Code := bodyOf Go.Proofs.Tryd.f5
-- 15 loop.example/slowworm/spec.DrawTextSwap
noncomputable def F15c : Code := bodyOf Go.Proofs.Tryd.f15
noncomputable def F15 (n : Nat) (a332 : List Int) : Option ((ByteArray × (ByteArray × (ByteArray × Unit))) × Unit) :=
  (andThen (F22 n a332) fun r333 =>
  (andThen (F23 n r333.2.1.1 r333.2.1.2.1) fun r334 =>
  (andThen (F24 n (({ data := #[97] } : ByteArray) :: (({ data := #[97, 98] } : ByteArray) :: (({ data := #[98] } : ByteArray) :: (({ data := #[] } : ByteArray) :: [])))) r334.2.1.1 r334.2.1.2.1) fun r336 =>
  (andThen (F23 n r336.2.1.1 r336.2.1.2.1) fun r337 =>
  (andThen (F24 n (({ data := #[] } : ByteArray) :: (({ data := #[98] } : ByteArray) :: (({ data := #[97, 97] } : ByteArray) :: (r337.1 :: [])))) r337.2.1.1 r337.2.1.2.1) fun r339 =>
  some ((r334.1, (r336.1, (r339.1, ()))), ()))))))
noncomputable def F15e (n : Nat) : Ent G := ⟨15, (.cons (.imm 1) .nil), [], (.tup (.cons .str (.cons .str (.cons .str .nil)))), [], fun x y => F15 n x.1⟩
theorem F15_eq (n : Nat) (x : ShL.den G (.cons (.imm 1) .nil)) (y : denO G []) : (F15e n).F x y = runFn prog G (ro G (tabOf (E20 n)) (frOf []) _) Go.Proofs.Tryd.f15 .no [(0, .fz), (1, .fz), (2, .fz)] (ShL.enc G (.cons (.imm 1) .nil) x) (encO G [] y) (decR (.tup (.cons .str (.cons .str (.cons .str .nil)))) []) := by kernel_rfl
theorem F15_ok (n : Nat) : EntOK prog G (F15e n) :=
  ent_ok (fr := frOf []) (ann := .no) (frm := [(0, .fz), (1, .fz), (2, .fz)]) laws fnok (E20_ok n).tab (e := F15e n) (fn := Go.Proofs.Tryd.f15) (by kernel_rfl) (AllF.ofB (cd := F15c) (l := []) (by kernel_rfl) (by kernel_rfl) AllF.nil) (F15_eq n)
noncomputable def E21 (n : Nat) : List (Ent G) := F15e n :: E20 n
theorem E21_ok (n : Nat) : AllE prog G (E21 n) := AllE.cons (F15_ok n) (E20_ok n)
noncomputable def F5 (n : Nat) (a329 : List Int) : Option (Bool × Unit) :=
  (bif (decide (((a329.length) : Int) > (1048576 : Int))) then
  some (true, ())
  else (andThen (F15 n a329) fun r340 =>
  (andThen (F8 n r340.1.1 r340.1.2.1 r340.1.2.2.1) fun r341 =>
  (andThen (F7 n r340.1.1 r340.1.2.1 r340.1.2.2.1) fun r342 =>
  (bif (!((r341.1.1.toList) == (r342.1.1.toList))) then
  (bif ((r341.1.1.toList) == (r342.1.1.toList)) then
  some ((r341.1.2.1 == r342.1.2.1), ())
  else some (false, ()))
  else (bif (!(r341.1.2.1 == r342.1.2.1)) then
  (bif ((r341.1.1.toList) == (r342.1.1.toList)) then
  some ((r341.1.2.1 == r342.1.2.1), ())
  else some (false, ()))
  else (bif (!r341.1.2.1) then
  (bif ((r341.1.1.toList) == (r342.1.1.toList)) then
  some ((r341.1.2.1 == r342.1.2.1), ())
  else some (false, ()))
  else (andThen (F10 n r340.1.1 r340.1.2.1) fun r352 =>
  (andThen (F13 n r352.1 r340.1.2.2.1) fun r353 =>
  (bif r353.1.2.1 then
  some (((r353.1.1.toList) == (r341.1.1.toList)), ())
  else some (false, ())))))))))))
noncomputable def F5e (n : Nat) : Ent G := ⟨5, (.cons (.imm 1) .nil), [], .bool, [], fun x y => F5 n x.1⟩
theorem F5_eq (n : Nat) (x : ShL.den G (.cons (.imm 1) .nil)) (y : denO G []) : (F5e n).F x y = runFn prog G (ro G (tabOf (E21 n)) (frOf []) _) Go.Proofs.Tryd.f5 .no [(0, .fz)] (ShL.enc G (.cons (.imm 1) .nil) x) (encO G [] y) (decR .bool []) := by kernel_rfl
theorem F5_ok (n : Nat) : EntOK prog G (F5e n) :=
  ent_ok (fr := frOf []) (ann := .no) (frm := [(0, .fz)]) laws fnok (E21_ok n).tab (e := F5e n) (fn := Go.Proofs.Tryd.f5) (by kernel_rfl) (AllF.ofB (cd := F5c) (l := []) (by kernel_rfl) (by kernel_rfl) AllF.nil) (F5_eq n)
noncomputable def E22 (n : Nat) : List (Ent G) := F5e n :: E21 n
theorem E22_ok (n : Nat) : AllE prog G (E22 n) := AllE.cons (F5_ok n) (E21_ok n)
-- 6 loop.example/slowworm/laws.FnTextSwap
noncomputable def F6c : Code := bodyOf Go.Proofs.Tryd.f6
noncomputable def F6 (n : Nat) (a355 : List Int) : Option (Bool × Unit) :=
  (bif (decide (((a355.length) : Int) > (1048576 : Int))) then
  some (true, ())
  else (andThen (F15 n a355) fun r358 =>
  (andThen (F8 n r358.1.1 r358.1.2.1 r358.1.2.2.1) fun r359 =>
  (andThen (F7 n r358.1.1 r358.1.2.1 r358.1.2.2.1) fun r360 =>
  (bif ((r359.1.1.toList) == (r360.1.1.toList)) then
  let v362 := (r359.1.2.1 == r360.1.2.1)
  (bif (!v362) then
  some (v362, ())
  else (bif (!r359.1.2.1) then
  some (v362, ())
  else (andThen (F8 n r358.1.1 r358.1.2.1 r358.1.2.1) fun r365 =>
  (andThen (F10 n r358.1.1 r358.1.2.1) fun r366 =>
  (andThen (F13 n r366.1 r358.1.2.2.1) fun r367 =>
  (bif r365.1.2.1 then
  (bif ((r365.1.1.toList) == (r358.1.1.toList)) then
  (bif r367.1.2.1 then
  some (((r367.1.1.toList) == (r359.1.1.toList)), ())
  else some (false, ()))
  else some (false, ()))
  else some (false, ())))))))
  else some (false, ()))))))
noncomputable def F6e (n : Nat) : Ent G := ⟨6, (.cons (.imm 1) .nil), [], .bool, [], fun x y => F6 n x.1⟩
theorem F6_eq (n : Nat) (x : ShL.den G (.cons (.imm 1) .nil)) (y : denO G []) : (F6e n).F x y = runFn prog G (ro G (tabOf (E22 n)) (frOf []) _) Go.Proofs.Tryd.f6 .no [(0, .fz)] (ShL.enc G (.cons (.imm 1) .nil) x) (encO G [] y) (decR .bool []) := by kernel_rfl
theorem F6_ok (n : Nat) : EntOK prog G (F6e n) :=
  ent_ok (fr := frOf []) (ann := .no) (frm := [(0, .fz)]) laws fnok (E22_ok n).tab (e := F6e n) (fn := Go.Proofs.Tryd.f6) (by kernel_rfl) (AllF.ofB (cd := F6c) (l := []) (by kernel_rfl) (by kernel_rfl) AllF.nil) (F6_eq n)
noncomputable def E23 (n : Nat) : List (Ent G) := F6e n :: E22 n
theorem E23_ok (n : Nat) : AllE prog G (E23 n) := AllE.cons (F6_ok n) (E22_ok n)
end Go.Proofs.YtmbpcjacbnloaaaDoor.Am
