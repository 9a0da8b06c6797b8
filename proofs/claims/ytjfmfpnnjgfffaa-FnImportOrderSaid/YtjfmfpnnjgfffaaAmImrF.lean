/- The functions of the seat of imports, printed. -/
import Derived.Test.YtjfmfpnnjgfffaaAmImrSig
namespace Go.Proofs.Ytjfmfpnnjgfffaa.Am
open Go Go.Proofs.Try
set_option autoImplicit false
set_option linter.unusedVariables false
set_option maxRecDepth 100000
noncomputable def E0 (n : Nat) : List (Ent G) := []
theorem E0_ok (n : Nat) : AllE prog G (E0 n) := AllE.nil
-- 30 loop.example/slowworm/impl.ModsOk
noncomputable def F30c : Code := bodyOf Go.Proofs.Try.f30
-- 49 loop.example/slowworm/impl.NameOk
noncomputable def F49c : Code := bodyOf Go.Proofs.Try.f49
-- 66 loop.example/slowworm/impl.isDigit
noncomputable def F66c : Code := bodyOf Go.Proofs.Try.f66
noncomputable def F66 (n : Nat) (a40 : Int) : Option (Bool × Unit) :=
  (bif (decide (a40 ≥ (48 : Int))) then
  some ((decide (a40 ≤ (57 : Int))), ())
  else some (false, ()))
noncomputable def F66e (n : Nat) : Ent G := ⟨66, (.cons (.int .u8) .nil), [], .bool, [], fun x y => F66 n x.1⟩
theorem F66_eq (n : Nat) (x : ShL.den G (.cons (.int .u8) .nil)) (y : denO G []) : (F66e n).F x y = runFn prog G (ro G (tabOf (E0 n)) (frOf []) _) Go.Proofs.Try.f66 .no [(0, .fz)] (ShL.enc G (.cons (.int .u8) .nil) x) (encO G [] y) (decR .bool []) := by kernel_rfl
theorem F66_ok (n : Nat) : EntOK prog G (F66e n) :=
  ent_ok (fr := frOf []) (ann := .no) (frm := [(0, .fz)]) laws fnok (E0_ok n).tab (e := F66e n) (fn := Go.Proofs.Try.f66) (by kernel_rfl) (AllF.ofB (cd := F66c) (l := []) (by kernel_rfl) (by kernel_rfl) AllF.nil) (F66_eq n)
noncomputable def E1 (n : Nat) : List (Ent G) := F66e n :: E0 n
theorem E1_ok (n : Nat) : AllE prog G (E1 n) := AllE.cons (F66_ok n) (E0_ok n)
-- 67 loop.example/slowworm/impl.IsKeyword
noncomputable def F67c : Code := bodyOf Go.Proofs.Try.f67
-- 76 loop.example/slowworm/impl.keywords
noncomputable def F76c : Code := bodyOf Go.Proofs.Try.f76
noncomputable def F76 (n : Nat)  : Option (List ByteArray × Unit) :=
  some ((({ data := #[78, 111, 110, 101] } : ByteArray) :: (({ data := #[84, 114, 117, 101] } : ByteArray) :: (({ data := #[70, 97, 108, 115, 101] } : ByteArray) :: (({ data := #[97, 110, 100] } : ByteArray) :: (({ data := #[111, 114] } : ByteArray) :: (({ data := #[110, 111, 116] } : ByteArray) :: (({ data := #[105, 110] } : ByteArray) :: (({ data := #[105, 115] } : ByteArray) :: (({ data := #[105, 102] } : ByteArray) :: (({ data := #[101, 108, 105, 102] } : ByteArray) :: (({ data := #[101, 108, 115, 101] } : ByteArray) :: (({ data := #[119, 104, 105, 108, 101] } : ByteArray) :: (({ data := #[102, 111, 114] } : ByteArray) :: (({ data := #[98, 114, 101, 97, 107] } : ByteArray) :: (({ data := #[99, 111, 110, 116, 105, 110, 117, 101] } : ByteArray) :: (({ data := #[112, 97, 115, 115] } : ByteArray) :: (({ data := #[100, 101, 102] } : ByteArray) :: (({ data := #[114, 101, 116, 117, 114, 110] } : ByteArray) :: (({ data := #[108, 97, 109, 98, 100, 97] } : ByteArray) :: (({ data := #[99, 108, 97, 115, 115] } : ByteArray) :: (({ data := #[116, 114, 121] } : ByteArray) :: (({ data := #[101, 120, 99, 101, 112, 116] } : ByteArray) :: (({ data := #[102, 105, 110, 97, 108, 108, 121] } : ByteArray) :: (({ data := #[114, 97, 105, 115, 101] } : ByteArray) :: (({ data := #[97, 115] } : ByteArray) :: (({ data := #[103, 108, 111, 98, 97, 108] } : ByteArray) :: (({ data := #[110, 111, 110, 108, 111, 99, 97, 108] } : ByteArray) :: (({ data := #[121, 105, 101, 108, 100] } : ByteArray) :: (({ data := #[105, 109, 112, 111, 114, 116] } : ByteArray) :: (({ data := #[100, 101, 108] } : ByteArray) :: (({ data := #[97, 115, 115, 101, 114, 116] } : ByteArray) :: []))))))))))))))))))))))))))))))), ())
noncomputable def F76e (n : Nat) : Ent G := ⟨76, .nil, [], (.imm 6), [], fun x y => F76 n⟩
theorem F76_eq (n : Nat) (x : ShL.den G .nil) (y : denO G []) : (F76e n).F x y = runFn prog G (ro G (tabOf (E1 n)) (frOf []) _) Go.Proofs.Try.f76 .no [(0, .fz)] (ShL.enc G .nil x) (encO G [] y) (decR (.imm 6) []) := by kernel_rfl
theorem F76_ok (n : Nat) : EntOK prog G (F76e n) :=
  ent_ok (fr := frOf []) (ann := .no) (frm := [(0, .fz)]) laws fnok (E1_ok n).tab (e := F76e n) (fn := Go.Proofs.Try.f76) (by kernel_rfl) (AllF.ofB (cd := F76c) (l := []) (by kernel_rfl) (by kernel_rfl) AllF.nil) (F76_eq n)
noncomputable def E2 (n : Nat) : List (Ent G) := F76e n :: E1 n
theorem E2_ok (n : Nat) : AllE prog G (E2 n) := AllE.cons (F76_ok n) (E1_ok n)
-- 75 slices.Contains[[]string,string]
noncomputable def F75c : Code := bodyOf Go.Proofs.Try.f75
-- 81 slices.Index[[]string,string]
noncomputable def F81c : Code := bodyOf Go.Proofs.Try.f81
noncomputable def F81_0x0 : SSh := ⟨19, [(4, (.int .i64))], []⟩
noncomputable def F81_0x1 : SSh := ⟨19, [], []⟩
noncomputable def F81_0s : SSh := ⟨19, [(0, (.imm 6)), (1, .str), (7, (.int .i64)), (8, (.int .i64))], []⟩
noncomputable def F81_0_step {R : Type} (n : Nat) (k0 : Int → Option R) (k1 : Option R) (rec : List ByteArray → ByteArray → Int → Int → Option R) (x52 : List ByteArray) (x53 : ByteArray) (x54 : Int) (x55 : Int) : Option R :=
  (bif (decide (x55 < x54)) then
  (bif (decide ((0 : Int) ≤ x55)) then
  (bif (decide (x55 < ((x52.length) : Int))) then
  (bif ((x53.toList) == ((x52.getD (x55.toNat) ({ data := #[] } : ByteArray)).toList)) then
  (k0 x55)
  else (rec x52 x53 x54 (IntKind.wrap .i64 (x55 + (1 : Int)))))
  else none)
  else none)
  else k1)
noncomputable def F81_0_it {R : Type} (n : Nat) (k0 : Int → Option R) (k1 : Option R) : Nat → List ByteArray → ByteArray → Int → Int → Option R
  | 0, _, _, _, _ => none
  | k + 1, x52, x53, x54, x55 => F81_0_step n k0 k1 (F81_0_it n k0 k1 k) x52 x53 x54 x55
noncomputable def F81_0 {R : Type} (n : Nat) (x52 : List ByteArray) (x53 : ByteArray) (x54 : Int) (x55 : Int) (k0 : Int → Option R) (k1 : Option R) : Option R := F81_0_it n k0 k1 n x52 x53 x54 x55
noncomputable def F81_0z (n : Nat) : Sm G := inZ G 0 ⟨[0, 1, 7, 8], []⟩ F81_0s fun R x K => F81_0_it n (fun u0 => K .ret (SSh.enc G F81_0x0 ((u0, ()), ()))) (K (.exit 0) (SSh.enc G F81_0x1 ((), ()))) n x.1.1 x.1.2.1 x.1.2.2.1 x.1.2.2.2.1
theorem F81_0_eq (n : Nat) (R : Type) (rec : SSh.den G F81_0s → Option R) (x : SSh.den G F81_0s) (K : AE → St G → Option R) :
  F81_0_step n (fun u0 => K .ret (SSh.enc G F81_0x0 ((u0, ()), ()))) (K (.exit 0) (SSh.enc G F81_0x1 ((), ()))) (fun x52 x53 x54 x55 => rec ((x52, (x53, (x54, (x55, ())))), ())) x.1.1 x.1.2.1 x.1.2.2.1 x.1.2.2.2.1 = exec prog G (ro G (tabOf (E2 n)) (frOf []) R) 0 (codeAt F81c [1, 0, 1, 0, 0]) .no (SSh.enc G F81_0s x) (kLoop G (ro G (tabOf (E2 n)) (frOf []) R) 0 ⟨[0, 1, 7, 8], []⟩ F81_0s ⟨⟨[], []⟩, ⟨[4], []⟩, [(0, ⟨[], []⟩)]⟩ rec K) := by kernel_rfl
theorem F81_0_ok (n : Nat) : FragOK prog G 0 (codeAt F81c [1, 0, 1, 0]) (F81_0z n) :=
  frag_loop (Z := fun R k (x : SSh.den G F81_0s) K => F81_0_it n (fun u0 => K .ret (SSh.enc G F81_0x0 ((u0, ()), ()))) (K (.exit 0) (SSh.enc G F81_0x1 ((), ()))) k x.1.1 x.1.2.1 x.1.2.2.1 x.1.2.2.2.1) laws fnok (E2_ok n).tab (AllF.of (l := []) (by kernel_rfl) AllF.nil) (fun _ _ _ => rfl) (fun R k y K => F81_0_eq n R (fun (x : SSh.den G F81_0s) => F81_0_it n (fun u0 => K .ret (SSh.enc G F81_0x0 ((u0, ()), ()))) (K (.exit 0) (SSh.enc G F81_0x1 ((), ()))) k x.1.1 x.1.2.1 x.1.2.2.1 x.1.2.2.2.1) y K) n
noncomputable def F81 (n : Nat) (a49 : List ByteArray) (a50 : ByteArray) : Option (Int × Unit) :=
  (F81_0 n a49 a50 ((a49.length) : Int) (0 : Int) (fun z61 =>
  some (z61, ())) (
  some ((-1 : Int), ())))
noncomputable def F81e (n : Nat) : Ent G := ⟨81, (.cons (.imm 6) (.cons .str .nil)), [], (.int .i64), [], fun x y => F81 n x.1 x.2.1⟩
theorem F81_eq (n : Nat) (x : ShL.den G (.cons (.imm 6) (.cons .str .nil))) (y : denO G []) : (F81e n).F x y = runFn prog G (ro G (tabOf (E2 n)) (frOf [F81_0z n]) _) Go.Proofs.Try.f81 (.nd .no (.nd (.nd .no (.nd (.use 0) .no)) .no)) [(0, .fz)] (ShL.enc G (.cons (.imm 6) (.cons .str .nil)) x) (encO G [] y) (decR (.int .i64) []) := by kernel_rfl
theorem F81_ok (n : Nat) : EntOK prog G (F81e n) :=
  ent_ok (fr := frOf [F81_0z n]) (ann := (.nd .no (.nd (.nd .no (.nd (.use 0) .no)) .no))) (frm := [(0, .fz)]) laws fnok (E2_ok n).tab (e := F81e n) (fn := Go.Proofs.Try.f81) (by kernel_rfl) (AllF.ofB (cd := F81c) (l := [(0, codeAt F81c [1, 0, 1, 0])]) (by kernel_rfl) (by kernel_rfl) (AllF.cons (F81_0_ok n) AllF.nil)) (F81_eq n)
noncomputable def E3 (n : Nat) : List (Ent G) := F81e n :: E2 n
theorem E3_ok (n : Nat) : AllE prog G (E3 n) := AllE.cons (F81_ok n) (E2_ok n)
noncomputable def F75 (n : Nat) (a47 : List ByteArray) (a48 : ByteArray) : Option (Bool × Unit) :=
  (andThen (F81 n a47 a48) fun r62 =>
  some ((decide (r62.1 ≥ (0 : Int))), ()))
noncomputable def F75e (n : Nat) : Ent G := ⟨75, (.cons (.imm 6) (.cons .str .nil)), [], .bool, [], fun x y => F75 n x.1 x.2.1⟩
theorem F75_eq (n : Nat) (x : ShL.den G (.cons (.imm 6) (.cons .str .nil))) (y : denO G []) : (F75e n).F x y = runFn prog G (ro G (tabOf (E3 n)) (frOf []) _) Go.Proofs.Try.f75 .no [(0, .fz)] (ShL.enc G (.cons (.imm 6) (.cons .str .nil)) x) (encO G [] y) (decR .bool []) := by kernel_rfl
theorem F75_ok (n : Nat) : EntOK prog G (F75e n) :=
  ent_ok (fr := frOf []) (ann := .no) (frm := [(0, .fz)]) laws fnok (E3_ok n).tab (e := F75e n) (fn := Go.Proofs.Try.f75) (by kernel_rfl) (AllF.ofB (cd := F75c) (l := []) (by kernel_rfl) (by kernel_rfl) AllF.nil) (F75_eq n)
noncomputable def E4 (n : Nat) : List (Ent G) := F75e n :: E3 n
theorem E4_ok (n : Nat) : AllE prog G (E4 n) := AllE.cons (F75_ok n) (E3_ok n)
noncomputable def F67 (n : Nat) (a44 : ByteArray) : Option (Bool × Unit) :=
  (andThen (F76 n) fun r46 =>
  (andThen (F75 n r46.1 a44) fun r64 =>
  some (r64.1, ())))
noncomputable def F67e (n : Nat) : Ent G := ⟨67, (.cons .str .nil), [], .bool, [], fun x y => F67 n x.1⟩
theorem F67_eq (n : Nat) (x : ShL.den G (.cons .str .nil)) (y : denO G []) : (F67e n).F x y = runFn prog G (ro G (tabOf (E4 n)) (frOf []) _) Go.Proofs.Try.f67 .no [(0, .fz)] (ShL.enc G (.cons .str .nil) x) (encO G [] y) (decR .bool []) := by kernel_rfl
theorem F67_ok (n : Nat) : EntOK prog G (F67e n) :=
  ent_ok (fr := frOf []) (ann := .no) (frm := [(0, .fz)]) laws fnok (E4_ok n).tab (e := F67e n) (fn := Go.Proofs.Try.f67) (by kernel_rfl) (AllF.ofB (cd := F67c) (l := []) (by kernel_rfl) (by kernel_rfl) AllF.nil) (F67_eq n)
noncomputable def E5 (n : Nat) : List (Ent G) := F67e n :: E4 n
theorem E5_ok (n : Nat) : AllE prog G (E5 n) := AllE.cons (F67_ok n) (E4_ok n)
-- 68 loop.example/slowworm/impl.isLetter
noncomputable def F68c : Code := bodyOf Go.Proofs.Try.f68
noncomputable def F68 (n : Nat) (a72 : Int) : Option (Bool × Unit) :=
  (bif (a72 == (95 : Int)) then
  some (true, ())
  else (bif (decide (a72 ≥ (97 : Int))) then
  (bif (decide (a72 ≤ (122 : Int))) then
  some (true, ())
  else (bif (decide (a72 ≥ (65 : Int))) then
  some ((decide (a72 ≤ (90 : Int))), ())
  else some (false, ())))
  else (bif (decide (a72 ≥ (65 : Int))) then
  some ((decide (a72 ≤ (90 : Int))), ())
  else some (false, ()))))
noncomputable def F68e (n : Nat) : Ent G := ⟨68, (.cons (.int .u8) .nil), [], .bool, [], fun x y => F68 n x.1⟩
theorem F68_eq (n : Nat) (x : ShL.den G (.cons (.int .u8) .nil)) (y : denO G []) : (F68e n).F x y = runFn prog G (ro G (tabOf (E5 n)) (frOf []) _) Go.Proofs.Try.f68 .no [(0, .fz)] (ShL.enc G (.cons (.int .u8) .nil) x) (encO G [] y) (decR .bool []) := by kernel_rfl
theorem F68_ok (n : Nat) : EntOK prog G (F68e n) :=
  ent_ok (fr := frOf []) (ann := .no) (frm := [(0, .fz)]) laws fnok (E5_ok n).tab (e := F68e n) (fn := Go.Proofs.Try.f68) (by kernel_rfl) (AllF.ofB (cd := F68c) (l := []) (by kernel_rfl) (by kernel_rfl) AllF.nil) (F68_eq n)
noncomputable def E6 (n : Nat) : List (Ent G) := F68e n :: E5 n
theorem E6_ok (n : Nat) : AllE prog G (E6 n) := AllE.cons (F68_ok n) (E5_ok n)
noncomputable def F49_0x0 : SSh := ⟨39, [(2, .bool)], []⟩
noncomputable def F49_0x1 : SSh := ⟨39, [], []⟩
noncomputable def F49_0s : SSh := ⟨39, [(0, .str), (22, (.int .i64)), (23, (.int .i64))], []⟩
noncomputable def F49_0_step {R : Type} (n : Nat) (k0 : Bool → Option R) (k1 : Option R) (rec : ByteArray → Int → Int → Option R) (x67 : ByteArray) (x68 : Int) (x69 : Int) : Option R :=
  (bif (decide (x69 < x68)) then
  (bif (decide ((0 : Int) ≤ x69)) then
  (bif (decide (x69 < ((x67.size) : Int))) then
  (andThen (F68 n (strOf x67 (x69.toNat))) fun r80 =>
  (bif (!r80.1) then
  (bif (decide ((0 : Int) ≤ x69)) then
  (bif (decide (x69 < ((x67.size) : Int))) then
  (andThen (F66 n (strOf x67 (x69.toNat))) fun r83 =>
  (bif (!r83.1) then
  (k0 false)
  else (rec x67 x68 (IntKind.wrap .i64 (x69 + (1 : Int))))))
  else none)
  else none)
  else (rec x67 x68 (IntKind.wrap .i64 (x69 + (1 : Int))))))
  else none)
  else none)
  else k1)
noncomputable def F49_0_it {R : Type} (n : Nat) (k0 : Bool → Option R) (k1 : Option R) : Nat → ByteArray → Int → Int → Option R
  | 0, _, _, _ => none
  | k + 1, x67, x68, x69 => F49_0_step n k0 k1 (F49_0_it n k0 k1 k) x67 x68 x69
noncomputable def F49_0 {R : Type} (n : Nat) (x67 : ByteArray) (x68 : Int) (x69 : Int) (k0 : Bool → Option R) (k1 : Option R) : Option R := F49_0_it n k0 k1 n x67 x68 x69
noncomputable def F49_0z (n : Nat) : Sm G := inZ G 0 ⟨[0, 22, 23], []⟩ F49_0s fun R x K => F49_0_it n (fun u0 => K .ret (SSh.enc G F49_0x0 ((u0, ()), ()))) (K (.exit 0) (SSh.enc G F49_0x1 ((), ()))) n x.1.1 x.1.2.1 x.1.2.2.1
theorem F49_0_eq (n : Nat) (R : Type) (rec : SSh.den G F49_0s → Option R) (x : SSh.den G F49_0s) (K : AE → St G → Option R) :
  F49_0_step n (fun u0 => K .ret (SSh.enc G F49_0x0 ((u0, ()), ()))) (K (.exit 0) (SSh.enc G F49_0x1 ((), ()))) (fun x67 x68 x69 => rec ((x67, (x68, (x69, ()))), ())) x.1.1 x.1.2.1 x.1.2.2.1 = exec prog G (ro G (tabOf (E6 n)) (frOf []) R) 0 (codeAt F49c [1, 1, 0, 1, 0, 0]) .no (SSh.enc G F49_0s x) (kLoop G (ro G (tabOf (E6 n)) (frOf []) R) 0 ⟨[0, 22, 23], []⟩ F49_0s ⟨⟨[], []⟩, ⟨[2], []⟩, [(0, ⟨[], []⟩)]⟩ rec K) := by kernel_rfl
theorem F49_0_ok (n : Nat) : FragOK prog G 0 (codeAt F49c [1, 1, 0, 1, 0]) (F49_0z n) :=
  frag_loop (Z := fun R k (x : SSh.den G F49_0s) K => F49_0_it n (fun u0 => K .ret (SSh.enc G F49_0x0 ((u0, ()), ()))) (K (.exit 0) (SSh.enc G F49_0x1 ((), ()))) k x.1.1 x.1.2.1 x.1.2.2.1) laws fnok (E6_ok n).tab (AllF.of (l := []) (by kernel_rfl) AllF.nil) (fun _ _ _ => rfl) (fun R k y K => F49_0_eq n R (fun (x : SSh.den G F49_0s) => F49_0_it n (fun u0 => K .ret (SSh.enc G F49_0x0 ((u0, ()), ()))) (K (.exit 0) (SSh.enc G F49_0x1 ((), ()))) k x.1.1 x.1.2.1 x.1.2.2.1) y K) n
noncomputable def F49 (n : Nat) (a34 : ByteArray) : Option (Bool × Unit) :=
  (bif (decide (((a34.size) : Int) < (1 : Int))) then
  some (false, ())
  else (bif (decide (((a34.size) : Int) > (12 : Int))) then
  some (false, ())
  else (bif (decide ((0 : Int) < ((a34.size) : Int))) then
  (andThen (F66 n (strOf a34 (0 : Nat))) fun r43 =>
  (bif r43.1 then
  some (false, ())
  else (andThen (F67 n a34) fun r65 =>
  (bif r65.1 then
  some (false, ())
  else (F49_0 n a34 ((a34.size) : Int) (0 : Int) (fun z87 =>
  some (z87, ())) (
  some (true, ())))))))
  else none)))
noncomputable def F49e (n : Nat) : Ent G := ⟨49, (.cons .str .nil), [], .bool, [], fun x y => F49 n x.1⟩
theorem F49_eq (n : Nat) (x : ShL.den G (.cons .str .nil)) (y : denO G []) : (F49e n).F x y = runFn prog G (ro G (tabOf (E6 n)) (frOf [F49_0z n]) _) Go.Proofs.Try.f49 (.nd .no (.nd .no (.nd (.nd .no (.nd (.use 0) .no)) .no))) [(0, .fz)] (ShL.enc G (.cons .str .nil) x) (encO G [] y) (decR .bool []) := by kernel_rfl
theorem F49_ok (n : Nat) : EntOK prog G (F49e n) :=
  ent_ok (fr := frOf [F49_0z n]) (ann := (.nd .no (.nd .no (.nd (.nd .no (.nd (.use 0) .no)) .no)))) (frm := [(0, .fz)]) laws fnok (E6_ok n).tab (e := F49e n) (fn := Go.Proofs.Try.f49) (by kernel_rfl) (AllF.ofB (cd := F49c) (l := [(0, codeAt F49c [1, 1, 0, 1, 0])]) (by kernel_rfl) (by kernel_rfl) (AllF.cons (F49_0_ok n) AllF.nil)) (F49_eq n)
noncomputable def E7 (n : Nat) : List (Ent G) := F49e n :: E6 n
theorem E7_ok (n : Nat) : AllE prog G (E7 n) := AllE.cons (F49_ok n) (E6_ok n)
noncomputable def F30_0x0 : SSh := ⟨72, [(0, (.imm 5)), (6, (.ptr 0 0)), (8, (.int .i64)), (9, (.imm 5)), (10, (.int .i64)), (11, (.int .i64)), (20, (.imm 3)), (21, (.int .i64)), (22, (.int .i64)), (51, (.int .i64)), (52, .bool)], [(.box 48 (.cons (.int .i64) (.cons (.int .i64) (.cons .str .nil))))]⟩
noncomputable def F30_0s : SSh := ⟨72, [(0, (.imm 5)), (6, (.ptr 0 0)), (8, (.int .i64)), (9, (.imm 5)), (10, (.int .i64)), (11, (.int .i64)), (20, (.imm 3)), (21, (.int .i64)), (22, (.int .i64)), (51, (.int .i64))], [(.box 48 (.cons (.int .i64) (.cons (.int .i64) (.cons .str .nil))))]⟩
noncomputable def F30_0 {R : Type} (n : Nat) (x101 : List (List Stp)) (x102 : Int) (x103 : List (List Stp)) (x104 : Int) (x105 : Int) (x106 : List Stp) (x107 : Int) (x108 : Int) (x109 : Int) (x110 : Int) (x111 : Int) (x112 : ByteArray) (k0 : List (List Stp) → Int → List (List Stp) → Int → Int → List Stp → Int → Int → Int → Bool → Int → Int → ByteArray → Option R) : Option R :=
  (bif (x109 == (1 : Int)) then
  (k0 x101 x102 x103 x104 x105 x106 x107 x108 x109 true x110 x111 x112)
  else (bif (x109 == (2 : Int)) then
  (k0 x101 x102 x103 x104 x105 x106 x107 x108 x109 true x110 x111 x112)
  else (k0 x101 x102 x103 x104 x105 x106 x107 x108 x109 (x109 == (4 : Int)) x110 x111 x112)))
noncomputable def F30_0z (n : Nat) : Sm G := inZ G 0 ⟨[0, 6, 8, 9, 10, 11, 20, 21, 22, 51], []⟩ F30_0s fun R x K => F30_0 n x.1.1 x.1.2.2.1 x.1.2.2.2.1 x.1.2.2.2.2.1 x.1.2.2.2.2.2.1 x.1.2.2.2.2.2.2.1 x.1.2.2.2.2.2.2.2.1 x.1.2.2.2.2.2.2.2.2.1 x.1.2.2.2.2.2.2.2.2.2.1 x.2.1.1 x.2.1.2.1 x.2.1.2.2.1 (fun u0 u1 u2 u3 u4 u5 u6 u7 u8 u9 u10 u11 u12 => K .normal (SSh.enc G F30_0x0 ((u0, ((), (u1, (u2, (u3, (u4, (u5, (u6, (u7, (u8, (u9, ()))))))))))), ((u10, (u11, (u12, ()))), ()))))
theorem F30_0_eq (n : Nat) (R : Type) (x : SSh.den G F30_0s) (K : AE → St G → Option R) :
  F30_0 n x.1.1 x.1.2.2.1 x.1.2.2.2.1 x.1.2.2.2.2.1 x.1.2.2.2.2.2.1 x.1.2.2.2.2.2.2.1 x.1.2.2.2.2.2.2.2.1 x.1.2.2.2.2.2.2.2.2.1 x.1.2.2.2.2.2.2.2.2.2.1 x.2.1.1 x.2.1.2.1 x.2.1.2.2.1 (fun u0 u1 u2 u3 u4 u5 u6 u7 u8 u9 u10 u11 u12 => K .normal (SSh.enc G F30_0x0 ((u0, ((), (u1, (u2, (u3, (u4, (u5, (u6, (u7, (u8, (u9, ()))))))))))), ((u10, (u11, (u12, ()))), ())))) = exec prog G (ro G (tabOf (E7 n)) (frOf []) R) 0 (codeAt F30c [1, 0, 1, 0, 0, 1, 1, 0, 0, 1, 1, 1, 0, 0, 1, 1, 0, 0, 1, 1, 1, 1, 0, 1, 0, 0]) .no (SSh.enc G F30_0s x) (kNrm G (ro G (tabOf (E7 n)) (frOf []) R) 0 ⟨⟨[0, 6, 8, 9, 10, 11, 20, 21, 22, 51, 52], []⟩, ⟨[2], []⟩, [(4, ⟨[0, 6, 8, 9, 10, 11, 20, 21, 22], []⟩), (3, ⟨[0, 9, 10, 11, 20, 21, 22], []⟩), (2, ⟨[0, 9, 10, 11], []⟩), (1, ⟨[0, 9, 10, 11], []⟩), (0, ⟨[0], []⟩)]⟩ K) := by kernel_rfl
theorem F30_0_ok (n : Nat) : FragOK prog G 0 (codeAt F30c [1, 0, 1, 0, 0, 1, 1, 0, 0, 1, 1, 1, 0, 0, 1, 1, 0, 0, 1, 1, 1, 1, 0, 1, 0, 0]) (F30_0z n) :=
  frag_plain laws fnok (E7_ok n).tab (AllF.of (l := []) (by kernel_rfl) AllF.nil) (F30_0_eq n)
noncomputable def F30_1x0 : SSh := ⟨72, [(0, (.imm 5)), (6, (.ptr 0 0)), (8, (.int .i64)), (9, (.imm 5)), (10, (.int .i64)), (11, (.int .i64)), (20, (.imm 3)), (21, (.int .i64)), (22, (.int .i64)), (59, .bool)], [(.box 48 (.cons (.int .i64) (.cons (.int .i64) (.cons .str .nil))))]⟩
noncomputable def F30_1s : SSh := ⟨72, [(0, (.imm 5)), (6, (.ptr 0 0)), (8, (.int .i64)), (9, (.imm 5)), (10, (.int .i64)), (11, (.int .i64)), (20, (.imm 3)), (21, (.int .i64)), (22, (.int .i64)), (51, (.int .i64))], [(.box 48 (.cons (.int .i64) (.cons (.int .i64) (.cons .str .nil))))]⟩
noncomputable def F30_1 {R : Type} (n : Nat) (x131 : List (List Stp)) (x132 : Int) (x133 : List (List Stp)) (x134 : Int) (x135 : Int) (x136 : List Stp) (x137 : Int) (x138 : Int) (x139 : Int) (x140 : Int) (x141 : Int) (x142 : ByteArray) (k0 : List (List Stp) → Int → List (List Stp) → Int → Int → List Stp → Int → Int → Bool → Int → Int → ByteArray → Option R) : Option R :=
  (bif (x139 == (3 : Int)) then
  (k0 x131 x132 x133 x134 x135 x136 x137 x138 true x140 x141 x142)
  else (k0 x131 x132 x133 x134 x135 x136 x137 x138 (x139 == (5 : Int)) x140 x141 x142))
noncomputable def F30_1z (n : Nat) : Sm G := inZ G 0 ⟨[0, 6, 8, 9, 10, 11, 20, 21, 22, 51], []⟩ F30_1s fun R x K => F30_1 n x.1.1 x.1.2.2.1 x.1.2.2.2.1 x.1.2.2.2.2.1 x.1.2.2.2.2.2.1 x.1.2.2.2.2.2.2.1 x.1.2.2.2.2.2.2.2.1 x.1.2.2.2.2.2.2.2.2.1 x.1.2.2.2.2.2.2.2.2.2.1 x.2.1.1 x.2.1.2.1 x.2.1.2.2.1 (fun u0 u1 u2 u3 u4 u5 u6 u7 u8 u9 u10 u11 => K .normal (SSh.enc G F30_1x0 ((u0, ((), (u1, (u2, (u3, (u4, (u5, (u6, (u7, (u8, ())))))))))), ((u9, (u10, (u11, ()))), ()))))
theorem F30_1_eq (n : Nat) (R : Type) (x : SSh.den G F30_1s) (K : AE → St G → Option R) :
  F30_1 n x.1.1 x.1.2.2.1 x.1.2.2.2.1 x.1.2.2.2.2.1 x.1.2.2.2.2.2.1 x.1.2.2.2.2.2.2.1 x.1.2.2.2.2.2.2.2.1 x.1.2.2.2.2.2.2.2.2.1 x.1.2.2.2.2.2.2.2.2.2.1 x.2.1.1 x.2.1.2.1 x.2.1.2.2.1 (fun u0 u1 u2 u3 u4 u5 u6 u7 u8 u9 u10 u11 => K .normal (SSh.enc G F30_1x0 ((u0, ((), (u1, (u2, (u3, (u4, (u5, (u6, (u7, (u8, ())))))))))), ((u9, (u10, (u11, ()))), ())))) = exec prog G (ro G (tabOf (E7 n)) (frOf [F30_0z n]) R) 0 (codeAt F30c [1, 0, 1, 0, 0, 1, 1, 0, 0, 1, 1, 1, 0, 0, 1, 1, 0, 0, 1, 1, 1, 1, 0, 1, 0, 1, 1, 0]) .no (SSh.enc G F30_1s x) (kNrm G (ro G (tabOf (E7 n)) (frOf [F30_0z n]) R) 0 ⟨⟨[0, 6, 8, 9, 10, 11, 20, 21, 22, 59], []⟩, ⟨[2], []⟩, [(4, ⟨[0, 6, 8, 9, 10, 11, 20, 21, 22], []⟩), (3, ⟨[0, 9, 10, 11, 20, 21, 22], []⟩), (2, ⟨[0, 9, 10, 11], []⟩), (1, ⟨[0, 9, 10, 11], []⟩), (0, ⟨[0], []⟩)]⟩ K) := by kernel_rfl
theorem F30_1_ok (n : Nat) : FragOK prog G 0 (codeAt F30c [1, 0, 1, 0, 0, 1, 1, 0, 0, 1, 1, 1, 0, 0, 1, 1, 0, 0, 1, 1, 1, 1, 0, 1, 0, 1, 1, 0]) (F30_1z n) :=
  frag_plain laws fnok (E7_ok n).tab (AllF.of (l := []) (by kernel_rfl) AllF.nil) (F30_1_eq n)
noncomputable def F30_2x0 : SSh := ⟨72, [(0, (.imm 5)), (6, (.ptr 0 0)), (8, (.int .i64)), (9, (.imm 5)), (10, (.int .i64)), (11, (.int .i64)), (20, (.imm 3)), (21, (.int .i64)), (22, (.int .i64))], [(.box 48 (.cons (.int .i64) (.cons (.int .i64) (.cons .str .nil))))]⟩
noncomputable def F30_2s : SSh := ⟨72, [(0, (.imm 5)), (6, (.ptr 0 0)), (8, (.int .i64)), (9, (.imm 5)), (10, (.int .i64)), (11, (.int .i64)), (20, (.imm 3)), (21, (.int .i64)), (22, (.int .i64))], [(.box 48 (.cons (.int .i64) (.cons (.int .i64) (.cons .str .nil))))]⟩
noncomputable def F30_2 {R : Type} (n : Nat) (x90 : List (List Stp)) (x91 : Int) (x92 : List (List Stp)) (x93 : Int) (x94 : Int) (x95 : List Stp) (x96 : Int) (x97 : Int) (x98 : Int) (x99 : Int) (x100 : ByteArray) (k0 : List (List Stp) → Int → List (List Stp) → Int → Int → List Stp → Int → Int → Int → Int → ByteArray → Option R) : Option R :=
  (F30_0 n x90 x91 x92 x93 x94 x95 x96 x97 x98 x98 x99 x100 (fun z116 z117 z118 z119 z120 z121 z122 z123 z124 z125 z126 z127 z128 =>
  (bif z125 then
  (k0 z116 (IntKind.wrap .i64 (((z116.length) : Int) - (1 : Int))) z118 z119 z120 z121 z122 z123 z126 z127 z128)
  else (F30_1 n z116 z117 z118 z119 z120 z121 z122 z123 z124 z126 z127 z128 (fun z145 z146 z147 z148 z149 z150 z151 z152 z153 z154 z155 z156 =>
  (bif z153 then
  (k0 z145 (1000000 : Int) z147 z148 z149 z150 z151 z152 z154 z155 z156)
  else (k0 z145 z146 z147 z148 z149 z150 z151 z152 z154 z155 z156)))))))
noncomputable def F30_2z (n : Nat) : Sm G := inZ G 0 ⟨[0, 6, 8, 9, 10, 11, 20, 21, 22], []⟩ F30_2s fun R x K => F30_2 n x.1.1 x.1.2.2.1 x.1.2.2.2.1 x.1.2.2.2.2.1 x.1.2.2.2.2.2.1 x.1.2.2.2.2.2.2.1 x.1.2.2.2.2.2.2.2.1 x.1.2.2.2.2.2.2.2.2.1 x.2.1.1 x.2.1.2.1 x.2.1.2.2.1 (fun u0 u1 u2 u3 u4 u5 u6 u7 u8 u9 u10 => K .normal (SSh.enc G F30_2x0 ((u0, ((), (u1, (u2, (u3, (u4, (u5, (u6, (u7, ()))))))))), ((u8, (u9, (u10, ()))), ()))))
theorem F30_2_eq (n : Nat) (R : Type) (x : SSh.den G F30_2s) (K : AE → St G → Option R) :
  F30_2 n x.1.1 x.1.2.2.1 x.1.2.2.2.1 x.1.2.2.2.2.1 x.1.2.2.2.2.2.1 x.1.2.2.2.2.2.2.1 x.1.2.2.2.2.2.2.2.1 x.1.2.2.2.2.2.2.2.2.1 x.2.1.1 x.2.1.2.1 x.2.1.2.2.1 (fun u0 u1 u2 u3 u4 u5 u6 u7 u8 u9 u10 => K .normal (SSh.enc G F30_2x0 ((u0, ((), (u1, (u2, (u3, (u4, (u5, (u6, (u7, ()))))))))), ((u8, (u9, (u10, ()))), ())))) = exec prog G (ro G (tabOf (E7 n)) (frOf [F30_0z n, F30_1z n]) R) 0 (codeAt F30c [1, 0, 1, 0, 0, 1, 1, 0, 0, 1, 1, 1, 0, 0, 1, 1, 0, 0, 1, 1, 1, 1, 0]) (.nd .no (.nd (.nd (.use 0) (.nd .no (.nd (.use 1) .no))) .no)) (SSh.enc G F30_2s x) (kNrm G (ro G (tabOf (E7 n)) (frOf [F30_0z n, F30_1z n]) R) 0 ⟨⟨[0, 6, 8, 9, 10, 11, 20, 21, 22], []⟩, ⟨[2], []⟩, [(3, ⟨[0, 9, 10, 11, 20, 21, 22], []⟩), (2, ⟨[0, 9, 10, 11], []⟩), (1, ⟨[0, 9, 10, 11], []⟩), (0, ⟨[0], []⟩)]⟩ K) := by kernel_rfl
theorem F30_2_ok (n : Nat) : FragOK prog G 0 (codeAt F30c [1, 0, 1, 0, 0, 1, 1, 0, 0, 1, 1, 1, 0, 0, 1, 1, 0, 0, 1, 1, 1, 1, 0]) (F30_2z n) :=
  frag_plain laws fnok (E7_ok n).tab (AllF.of (l := [(0, codeAt F30c [1, 0, 1, 0, 0, 1, 1, 0, 0, 1, 1, 1, 0, 0, 1, 1, 0, 0, 1, 1, 1, 1, 0, 1, 0, 0]), (1, codeAt F30c [1, 0, 1, 0, 0, 1, 1, 0, 0, 1, 1, 1, 0, 0, 1, 1, 0, 0, 1, 1, 1, 1, 0, 1, 0, 1, 1, 0])]) (by kernel_rfl) (AllF.cons (F30_0_ok n) (AllF.cons (F30_1_ok n) AllF.nil))) (F30_2_eq n)
-- 50 loop.example/slowworm/impl.within
noncomputable def F50c : Code := bodyOf Go.Proofs.Try.f50
noncomputable def F50 (n : Nat) (a168 : Int) (a169 : Int) (a170 : Int) : Option (Bool × Unit) :=
  (bif (decide (a168 ≥ a169)) then
  some ((decide (a168 ≤ a170)), ())
  else some (false, ()))
noncomputable def F50e (n : Nat) : Ent G := ⟨50, (.cons (.int .i64) (.cons (.int .i64) (.cons (.int .i64) .nil))), [], .bool, [], fun x y => F50 n x.1 x.2.1 x.2.2.1⟩
theorem F50_eq (n : Nat) (x : ShL.den G (.cons (.int .i64) (.cons (.int .i64) (.cons (.int .i64) .nil)))) (y : denO G []) : (F50e n).F x y = runFn prog G (ro G (tabOf (E7 n)) (frOf []) _) Go.Proofs.Try.f50 .no [(0, .fz)] (ShL.enc G (.cons (.int .i64) (.cons (.int .i64) (.cons (.int .i64) .nil))) x) (encO G [] y) (decR .bool []) := by kernel_rfl
theorem F50_ok (n : Nat) : EntOK prog G (F50e n) :=
  ent_ok (fr := frOf []) (ann := .no) (frm := [(0, .fz)]) laws fnok (E7_ok n).tab (e := F50e n) (fn := Go.Proofs.Try.f50) (by kernel_rfl) (AllF.ofB (cd := F50c) (l := []) (by kernel_rfl) (by kernel_rfl) AllF.nil) (F50_eq n)
noncomputable def E8 (n : Nat) : List (Ent G) := F50e n :: E7 n
theorem E8_ok (n : Nat) : AllE prog G (E8 n) := AllE.cons (F50_ok n) (E7_ok n)
noncomputable def F30_3x0 : SSh := ⟨72, [(2, .bool)], []⟩
noncomputable def F30_3x1 : SSh := ⟨72, [(0, (.imm 5)), (9, (.imm 5)), (10, (.int .i64)), (11, (.int .i64)), (20, (.imm 3)), (21, (.int .i64)), (22, (.int .i64))], []⟩
noncomputable def F30_3s : SSh := ⟨72, [(0, (.imm 5)), (9, (.imm 5)), (10, (.int .i64)), (11, (.int .i64)), (20, (.imm 3)), (21, (.int .i64)), (22, (.int .i64))], []⟩
noncomputable def F30_3 {R : Type} (n : Nat) (x22 : List (List Stp)) (x23 : List (List Stp)) (x24 : Int) (x25 : Int) (x26 : List Stp) (x27 : Int) (x28 : Int) (k0 : Bool → Option R) (k1 : List (List Stp) → List (List Stp) → Int → Int → List Stp → Int → Int → Option R) : Option R :=
  (bif (decide ((0 : Int) ≤ x28)) then
  (bif (decide (x28 < ((x26.length) : Int))) then
  let v29 := (x26.getD (x28.toNat) (Stp.mk (0 : Int) (0 : Int) ({ data := #[] } : ByteArray)))
  let v30 := v29.kind
  let v31 := v29.num
  let v32 := v29.name
  (bif (v30 == (3 : Int)) then
  (andThen (F49 n v32) fun r88 =>
  (bif (!r88.1) then
  (k0 false)
  else (F30_2 n x22 (-1 : Int) x23 x24 x25 x26 x27 x28 v30 v31 v32 (fun z157 z158 z159 z160 z161 z162 z163 z164 z165 z166 z167 =>
  (andThen (F50 n z166 (0 : Int) z158) fun r173 =>
  (bif (!r173.1) then
  (k0 false)
  else (k1 z157 z159 z160 z161 z162 z163 z164)))))))
  else let v175 := (v30 == (4 : Int))
  (bif v175 then
  (andThen (F49 n v32) fun r176 =>
  (bif (!r176.1) then
  (k0 false)
  else (bif (!v175) then
  (bif (!((v32.toList) == (({ data := #[] } : ByteArray).toList))) then
  (k0 false)
  else (F30_2 n x22 (-1 : Int) x23 x24 x25 x26 x27 x28 v30 v31 v32 (fun z180 z181 z182 z183 z184 z185 z186 z187 z188 z189 z190 =>
  (andThen (F50 n z189 (0 : Int) z181) fun r191 =>
  (bif (!r191.1) then
  (k0 false)
  else (k1 z180 z182 z183 z184 z185 z186 z187))))))
  else (F30_2 n x22 (-1 : Int) x23 x24 x25 x26 x27 x28 v30 v31 v32 (fun z193 z194 z195 z196 z197 z198 z199 z200 z201 z202 z203 =>
  (andThen (F50 n z202 (0 : Int) z194) fun r204 =>
  (bif (!r204.1) then
  (k0 false)
  else (k1 z193 z195 z196 z197 z198 z199 z200))))))))
  else (bif (!v175) then
  (bif (!((v32.toList) == (({ data := #[] } : ByteArray).toList))) then
  (k0 false)
  else (F30_2 n x22 (-1 : Int) x23 x24 x25 x26 x27 x28 v30 v31 v32 (fun z208 z209 z210 z211 z212 z213 z214 z215 z216 z217 z218 =>
  (andThen (F50 n z217 (0 : Int) z209) fun r219 =>
  (bif (!r219.1) then
  (k0 false)
  else (k1 z208 z210 z211 z212 z213 z214 z215))))))
  else (F30_2 n x22 (-1 : Int) x23 x24 x25 x26 x27 x28 v30 v31 v32 (fun z221 z222 z223 z224 z225 z226 z227 z228 z229 z230 z231 =>
  (andThen (F50 n z230 (0 : Int) z222) fun r232 =>
  (bif (!r232.1) then
  (k0 false)
  else (k1 z221 z223 z224 z225 z226 z227 z228))))))))
  else none)
  else none)
noncomputable def F30_3z (n : Nat) : Sm G := inZ G 0 ⟨[0, 9, 10, 11, 20, 21, 22], []⟩ F30_3s fun R x K => F30_3 n x.1.1 x.1.2.1 x.1.2.2.1 x.1.2.2.2.1 x.1.2.2.2.2.1 x.1.2.2.2.2.2.1 x.1.2.2.2.2.2.2.1 (fun u0 => K .ret (SSh.enc G F30_3x0 ((u0, ()), ()))) (fun u0 u1 u2 u3 u4 u5 u6 => K .normal (SSh.enc G F30_3x1 ((u0, (u1, (u2, (u3, (u4, (u5, (u6, ()))))))), ())))
theorem F30_3_eq (n : Nat) (R : Type) (x : SSh.den G F30_3s) (K : AE → St G → Option R) :
  F30_3 n x.1.1 x.1.2.1 x.1.2.2.1 x.1.2.2.2.1 x.1.2.2.2.2.1 x.1.2.2.2.2.2.1 x.1.2.2.2.2.2.2.1 (fun u0 => K .ret (SSh.enc G F30_3x0 ((u0, ()), ()))) (fun u0 u1 u2 u3 u4 u5 u6 => K .normal (SSh.enc G F30_3x1 ((u0, (u1, (u2, (u3, (u4, (u5, (u6, ()))))))), ()))) = exec prog G (ro G (tabOf (E8 n)) (frOf [F30_0z n, F30_1z n, F30_2z n]) R) 0 (codeAt F30c [1, 0, 1, 0, 0, 1, 1, 0, 0, 1, 1, 1, 0, 0, 1, 1, 0]) (.nd (.nd .no (.nd .no (.nd .no (.nd .no (.nd (.use 2) .no))))) .no) (SSh.enc G F30_3s x) (kNrm G (ro G (tabOf (E8 n)) (frOf [F30_0z n, F30_1z n, F30_2z n]) R) 0 ⟨⟨[0, 9, 10, 11, 20, 21, 22], []⟩, ⟨[2], []⟩, [(2, ⟨[0, 9, 10, 11], []⟩), (1, ⟨[0, 9, 10, 11], []⟩), (0, ⟨[0], []⟩)]⟩ K) := by kernel_rfl
theorem F30_3_ok (n : Nat) : FragOK prog G 0 (codeAt F30c [1, 0, 1, 0, 0, 1, 1, 0, 0, 1, 1, 1, 0, 0, 1, 1, 0]) (F30_3z n) :=
  frag_plain laws fnok (E8_ok n).tab (AllF.of (l := [(2, codeAt F30c [1, 0, 1, 0, 0, 1, 1, 0, 0, 1, 1, 1, 0, 0, 1, 1, 0, 0, 1, 1, 1, 1, 0])]) (by kernel_rfl) (AllF.cons (F30_2_ok n) AllF.nil)) (F30_3_eq n)
noncomputable def F30_4x0 : SSh := ⟨72, [(2, .bool)], []⟩
noncomputable def F30_4x1 : SSh := ⟨72, [(0, (.imm 5)), (9, (.imm 5)), (10, (.int .i64)), (11, (.int .i64))], []⟩
noncomputable def F30_4s : SSh := ⟨72, [(0, (.imm 5)), (9, (.imm 5)), (10, (.int .i64)), (11, (.int .i64)), (20, (.imm 3)), (21, (.int .i64)), (22, (.int .i64))], []⟩
noncomputable def F30_4_step {R : Type} (n : Nat) (k0 : Bool → Option R) (k1 : List (List Stp) → List (List Stp) → Int → Int → Option R) (rec : List (List Stp) → List (List Stp) → Int → Int → List Stp → Int → Int → Option R) (x14 : List (List Stp)) (x15 : List (List Stp)) (x16 : Int) (x17 : Int) (x18 : List Stp) (x19 : Int) (x20 : Int) : Option R :=
  (bif (decide (x20 < x19)) then
  (F30_3 n x14 x15 x16 x17 x18 x19 x20 (fun z234 =>
  (k0 z234)) (fun z235 z236 z237 z238 z239 z240 z241 =>
  (rec z235 z236 z237 z238 z239 z240 (IntKind.wrap .i64 (z241 + (1 : Int))))))
  else (k1 x14 x15 x16 x17))
noncomputable def F30_4_it {R : Type} (n : Nat) (k0 : Bool → Option R) (k1 : List (List Stp) → List (List Stp) → Int → Int → Option R) : Nat → List (List Stp) → List (List Stp) → Int → Int → List Stp → Int → Int → Option R
  | 0, _, _, _, _, _, _, _ => none
  | k + 1, x14, x15, x16, x17, x18, x19, x20 => F30_4_step n k0 k1 (F30_4_it n k0 k1 k) x14 x15 x16 x17 x18 x19 x20
noncomputable def F30_4 {R : Type} (n : Nat) (x14 : List (List Stp)) (x15 : List (List Stp)) (x16 : Int) (x17 : Int) (x18 : List Stp) (x19 : Int) (x20 : Int) (k0 : Bool → Option R) (k1 : List (List Stp) → List (List Stp) → Int → Int → Option R) : Option R := F30_4_it n k0 k1 n x14 x15 x16 x17 x18 x19 x20
noncomputable def F30_4z (n : Nat) : Sm G := inZ G 0 ⟨[0, 9, 10, 11, 20, 21, 22], []⟩ F30_4s fun R x K => F30_4_it n (fun u0 => K .ret (SSh.enc G F30_4x0 ((u0, ()), ()))) (fun u0 u1 u2 u3 => K (.exit 2) (SSh.enc G F30_4x1 ((u0, (u1, (u2, (u3, ())))), ()))) n x.1.1 x.1.2.1 x.1.2.2.1 x.1.2.2.2.1 x.1.2.2.2.2.1 x.1.2.2.2.2.2.1 x.1.2.2.2.2.2.2.1
theorem F30_4_eq (n : Nat) (R : Type) (rec : SSh.den G F30_4s → Option R) (x : SSh.den G F30_4s) (K : AE → St G → Option R) :
  F30_4_step n (fun u0 => K .ret (SSh.enc G F30_4x0 ((u0, ()), ()))) (fun u0 u1 u2 u3 => K (.exit 2) (SSh.enc G F30_4x1 ((u0, (u1, (u2, (u3, ())))), ()))) (fun x14 x15 x16 x17 x18 x19 x20 => rec ((x14, (x15, (x16, (x17, (x18, (x19, (x20, ()))))))), ())) x.1.1 x.1.2.1 x.1.2.2.1 x.1.2.2.2.1 x.1.2.2.2.2.1 x.1.2.2.2.2.2.1 x.1.2.2.2.2.2.2.1 = exec prog G (ro G (tabOf (E8 n)) (frOf [F30_0z n, F30_1z n, F30_2z n, F30_3z n]) R) 0 (codeAt F30c [1, 0, 1, 0, 0, 1, 1, 0, 0, 1, 1, 1, 0, 0]) (.nd .no (.nd .no (.nd (.use 3) .no))) (SSh.enc G F30_4s x) (kLoop G (ro G (tabOf (E8 n)) (frOf [F30_0z n, F30_1z n, F30_2z n, F30_3z n]) R) 0 ⟨[0, 9, 10, 11, 20, 21, 22], []⟩ F30_4s ⟨⟨[0, 9, 10, 11], []⟩, ⟨[2], []⟩, [(2, ⟨[0, 9, 10, 11], []⟩), (1, ⟨[0, 9, 10, 11], []⟩), (0, ⟨[0], []⟩)]⟩ rec K) := by kernel_rfl
theorem F30_4_ok (n : Nat) : FragOK prog G 0 (codeAt F30c [1, 0, 1, 0, 0, 1, 1, 0, 0, 1, 1, 1, 0]) (F30_4z n) :=
  frag_loop (Z := fun R k (x : SSh.den G F30_4s) K => F30_4_it n (fun u0 => K .ret (SSh.enc G F30_4x0 ((u0, ()), ()))) (fun u0 u1 u2 u3 => K (.exit 2) (SSh.enc G F30_4x1 ((u0, (u1, (u2, (u3, ())))), ()))) k x.1.1 x.1.2.1 x.1.2.2.1 x.1.2.2.2.1 x.1.2.2.2.2.1 x.1.2.2.2.2.2.1 x.1.2.2.2.2.2.2.1) laws fnok (E8_ok n).tab (AllF.of (l := [(3, codeAt F30c [1, 0, 1, 0, 0, 1, 1, 0, 0, 1, 1, 1, 0, 0, 1, 1, 0])]) (by kernel_rfl) (AllF.cons (F30_3_ok n) AllF.nil)) (fun _ _ _ => rfl) (fun R k y K => F30_4_eq n R (fun (x : SSh.den G F30_4s) => F30_4_it n (fun u0 => K .ret (SSh.enc G F30_4x0 ((u0, ()), ()))) (fun u0 u1 u2 u3 => K (.exit 2) (SSh.enc G F30_4x1 ((u0, (u1, (u2, (u3, ())))), ()))) k x.1.1 x.1.2.1 x.1.2.2.1 x.1.2.2.2.1 x.1.2.2.2.2.1 x.1.2.2.2.2.2.1 x.1.2.2.2.2.2.2.1) y K) n
noncomputable def F30_5x0 : SSh := ⟨72, [(2, .bool)], []⟩
noncomputable def F30_5x1 : SSh := ⟨72, [(0, (.imm 5))], []⟩
noncomputable def F30_5s : SSh := ⟨72, [(0, (.imm 5)), (9, (.imm 5)), (10, (.int .i64)), (11, (.int .i64))], []⟩
noncomputable def F30_5_step {R : Type} (n : Nat) (k0 : Bool → Option R) (k1 : List (List Stp) → Option R) (rec : List (List Stp) → List (List Stp) → Int → Int → Option R) (x4 : List (List Stp)) (x5 : List (List Stp)) (x6 : Int) (x7 : Int) : Option R :=
  (bif (decide (x7 < x6)) then
  (bif (decide ((0 : Int) ≤ x7)) then
  (bif (decide (x7 < ((x5.length) : Int))) then
  let v10 := (x5.getD (x7.toNat) [])
  (bif (decide (((v10.length) : Int) > (8 : Int))) then
  (k0 false)
  else (F30_4 n x4 x5 x6 x7 v10 ((v10.length) : Int) (0 : Int) (fun z243 =>
  (k0 z243)) (fun z244 z245 z246 z247 =>
  (rec z244 z245 z246 (IntKind.wrap .i64 (z247 + (1 : Int)))))))
  else none)
  else none)
  else (k1 x4))
noncomputable def F30_5_it {R : Type} (n : Nat) (k0 : Bool → Option R) (k1 : List (List Stp) → Option R) : Nat → List (List Stp) → List (List Stp) → Int → Int → Option R
  | 0, _, _, _, _ => none
  | k + 1, x4, x5, x6, x7 => F30_5_step n k0 k1 (F30_5_it n k0 k1 k) x4 x5 x6 x7
noncomputable def F30_5 {R : Type} (n : Nat) (x4 : List (List Stp)) (x5 : List (List Stp)) (x6 : Int) (x7 : Int) (k0 : Bool → Option R) (k1 : List (List Stp) → Option R) : Option R := F30_5_it n k0 k1 n x4 x5 x6 x7
noncomputable def F30_5z (n : Nat) : Sm G := inZ G 0 ⟨[0, 9, 10, 11], []⟩ F30_5s fun R x K => F30_5_it n (fun u0 => K .ret (SSh.enc G F30_5x0 ((u0, ()), ()))) (fun u0 => K (.exit 0) (SSh.enc G F30_5x1 ((u0, ()), ()))) n x.1.1 x.1.2.1 x.1.2.2.1 x.1.2.2.2.1
theorem F30_5_eq (n : Nat) (R : Type) (rec : SSh.den G F30_5s → Option R) (x : SSh.den G F30_5s) (K : AE → St G → Option R) :
  F30_5_step n (fun u0 => K .ret (SSh.enc G F30_5x0 ((u0, ()), ()))) (fun u0 => K (.exit 0) (SSh.enc G F30_5x1 ((u0, ()), ()))) (fun x4 x5 x6 x7 => rec ((x4, (x5, (x6, (x7, ())))), ())) x.1.1 x.1.2.1 x.1.2.2.1 x.1.2.2.2.1 = exec prog G (ro G (tabOf (E8 n)) (frOf [F30_0z n, F30_1z n, F30_2z n, F30_3z n, F30_4z n]) R) 0 (codeAt F30c [1, 0, 1, 0, 0]) (.nd .no (.nd .no (.nd (.nd (.nd .no (.nd .no (.nd .no (.nd (.use 4) .no)))) .no) .no))) (SSh.enc G F30_5s x) (kLoop G (ro G (tabOf (E8 n)) (frOf [F30_0z n, F30_1z n, F30_2z n, F30_3z n, F30_4z n]) R) 0 ⟨[0, 9, 10, 11], []⟩ F30_5s ⟨⟨[0], []⟩, ⟨[2], []⟩, [(0, ⟨[0], []⟩)]⟩ rec K) := by kernel_rfl
theorem F30_5_ok (n : Nat) : FragOK prog G 0 (codeAt F30c [1, 0, 1, 0]) (F30_5z n) :=
  frag_loop (Z := fun R k (x : SSh.den G F30_5s) K => F30_5_it n (fun u0 => K .ret (SSh.enc G F30_5x0 ((u0, ()), ()))) (fun u0 => K (.exit 0) (SSh.enc G F30_5x1 ((u0, ()), ()))) k x.1.1 x.1.2.1 x.1.2.2.1 x.1.2.2.2.1) laws fnok (E8_ok n).tab (AllF.of (l := [(4, codeAt F30c [1, 0, 1, 0, 0, 1, 1, 0, 0, 1, 1, 1, 0])]) (by kernel_rfl) (AllF.cons (F30_4_ok n) AllF.nil)) (fun _ _ _ => rfl) (fun R k y K => F30_5_eq n R (fun (x : SSh.den G F30_5s) => F30_5_it n (fun u0 => K .ret (SSh.enc G F30_5x0 ((u0, ()), ()))) (fun u0 => K (.exit 0) (SSh.enc G F30_5x1 ((u0, ()), ()))) k x.1.1 x.1.2.1 x.1.2.2.1 x.1.2.2.2.1) y K) n
noncomputable def F30 (n : Nat) (a2 : List (List Stp)) : Option (Bool × Unit) :=
  (F30_5 n a2 a2 ((a2.length) : Int) (0 : Int) (fun z249 =>
  some (z249, ())) (fun z250 =>
  (andThen (F50 n ((z250.length) : Int) (1 : Int) (6 : Int)) fun r252 =>
  some (r252.1, ()))))
noncomputable def F30e (n : Nat) : Ent G := ⟨30, (.cons (.imm 5) .nil), [], .bool, [], fun x y => F30 n x.1⟩
theorem F30_eq (n : Nat) (x : ShL.den G (.cons (.imm 5) .nil)) (y : denO G []) : (F30e n).F x y = runFn prog G (ro G (tabOf (E8 n)) (frOf [F30_0z n, F30_1z n, F30_2z n, F30_3z n, F30_4z n, F30_5z n]) _) Go.Proofs.Try.f30 (.nd .no (.nd (.nd .no (.nd (.use 5) .no)) .no)) [(0, .fz)] (ShL.enc G (.cons (.imm 5) .nil) x) (encO G [] y) (decR .bool []) := by kernel_rfl
theorem F30_ok (n : Nat) : EntOK prog G (F30e n) :=
  ent_ok (fr := frOf [F30_0z n, F30_1z n, F30_2z n, F30_3z n, F30_4z n, F30_5z n]) (ann := (.nd .no (.nd (.nd .no (.nd (.use 5) .no)) .no))) (frm := [(0, .fz)]) laws fnok (E8_ok n).tab (e := F30e n) (fn := Go.Proofs.Try.f30) (by kernel_rfl) (AllF.ofB (cd := F30c) (l := [(5, codeAt F30c [1, 0, 1, 0])]) (by kernel_rfl) (by kernel_rfl) (AllF.cons (F30_5_ok n) AllF.nil)) (F30_eq n)
noncomputable def E9 (n : Nat) : List (Ent G) := F30e n :: E8 n
theorem E9_ok (n : Nat) : AllE prog G (E9 n) := AllE.cons (F30_ok n) (E8_ok n)
-- 39 loop.example/slowworm/impl.indicesOk
noncomputable def F39c : Code := bodyOf Go.Proofs.Try.f39
noncomputable def F39_0x0 : SSh := ⟨21, [(4, .bool)], []⟩
noncomputable def F39_0x1 : SSh := ⟨21, [], []⟩
noncomputable def F39_0s : SSh := ⟨21, [(1, (.int .i64)), (7, (.imm 0)), (8, (.int .i64)), (9, (.int .i64))], []⟩
noncomputable def F39_0_step {R : Type} (n : Nat) (k0 : Bool → Option R) (k1 : Option R) (rec : Int → List Int → Int → Int → Option R) (x261 : Int) (x262 : List Int) (x263 : Int) (x264 : Int) : Option R :=
  (bif (decide (x264 < x263)) then
  (bif (decide ((0 : Int) ≤ x264)) then
  (bif (decide (x264 < ((x262.length) : Int))) then
  let v267 := (x262.getD (x264.toNat) (0 : Int))
  (bif (decide (v267 < (0 : Int))) then
  (k0 false)
  else (bif (decide (v267 ≥ x261)) then
  (k0 false)
  else (rec x261 x262 x263 (IntKind.wrap .i64 (x264 + (1 : Int))))))
  else none)
  else none)
  else k1)
noncomputable def F39_0_it {R : Type} (n : Nat) (k0 : Bool → Option R) (k1 : Option R) : Nat → Int → List Int → Int → Int → Option R
  | 0, _, _, _, _ => none
  | k + 1, x261, x262, x263, x264 => F39_0_step n k0 k1 (F39_0_it n k0 k1 k) x261 x262 x263 x264
noncomputable def F39_0 {R : Type} (n : Nat) (x261 : Int) (x262 : List Int) (x263 : Int) (x264 : Int) (k0 : Bool → Option R) (k1 : Option R) : Option R := F39_0_it n k0 k1 n x261 x262 x263 x264
noncomputable def F39_0z (n : Nat) : Sm G := inZ G 0 ⟨[1, 7, 8, 9], []⟩ F39_0s fun R x K => F39_0_it n (fun u0 => K .ret (SSh.enc G F39_0x0 ((u0, ()), ()))) (K (.exit 0) (SSh.enc G F39_0x1 ((), ()))) n x.1.1 x.1.2.1 x.1.2.2.1 x.1.2.2.2.1
theorem F39_0_eq (n : Nat) (R : Type) (rec : SSh.den G F39_0s → Option R) (x : SSh.den G F39_0s) (K : AE → St G → Option R) :
  F39_0_step n (fun u0 => K .ret (SSh.enc G F39_0x0 ((u0, ()), ()))) (K (.exit 0) (SSh.enc G F39_0x1 ((), ()))) (fun x261 x262 x263 x264 => rec ((x261, (x262, (x263, (x264, ())))), ())) x.1.1 x.1.2.1 x.1.2.2.1 x.1.2.2.2.1 = exec prog G (ro G (tabOf (E9 n)) (frOf []) R) 0 (codeAt F39c [1, 0, 1, 0, 0]) .no (SSh.enc G F39_0s x) (kLoop G (ro G (tabOf (E9 n)) (frOf []) R) 0 ⟨[1, 7, 8, 9], []⟩ F39_0s ⟨⟨[], []⟩, ⟨[4], []⟩, [(0, ⟨[], []⟩)]⟩ rec K) := by kernel_rfl
theorem F39_0_ok (n : Nat) : FragOK prog G 0 (codeAt F39c [1, 0, 1, 0]) (F39_0z n) :=
  frag_loop (Z := fun R k (x : SSh.den G F39_0s) K => F39_0_it n (fun u0 => K .ret (SSh.enc G F39_0x0 ((u0, ()), ()))) (K (.exit 0) (SSh.enc G F39_0x1 ((), ()))) k x.1.1 x.1.2.1 x.1.2.2.1 x.1.2.2.2.1) laws fnok (E9_ok n).tab (AllF.of (l := []) (by kernel_rfl) AllF.nil) (fun _ _ _ => rfl) (fun R k y K => F39_0_eq n R (fun (x : SSh.den G F39_0s) => F39_0_it n (fun u0 => K .ret (SSh.enc G F39_0x0 ((u0, ()), ()))) (K (.exit 0) (SSh.enc G F39_0x1 ((), ()))) k x.1.1 x.1.2.1 x.1.2.2.1 x.1.2.2.2.1) y K) n
noncomputable def F39 (n : Nat) (a258 : List Int) (a259 : Int) : Option (Bool × Unit) :=
  (F39_0 n a259 a258 ((a258.length) : Int) (0 : Int) (fun z271 =>
  some (z271, ())) (
  some (true, ())))
noncomputable def F39e (n : Nat) : Ent G := ⟨39, (.cons (.imm 0) (.cons (.int .i64) .nil)), [], .bool, [], fun x y => F39 n x.1 x.2.1⟩
theorem F39_eq (n : Nat) (x : ShL.den G (.cons (.imm 0) (.cons (.int .i64) .nil))) (y : denO G []) : (F39e n).F x y = runFn prog G (ro G (tabOf (E9 n)) (frOf [F39_0z n]) _) Go.Proofs.Try.f39 (.nd .no (.nd (.nd .no (.nd (.use 0) .no)) .no)) [(0, .fz)] (ShL.enc G (.cons (.imm 0) (.cons (.int .i64) .nil)) x) (encO G [] y) (decR .bool []) := by kernel_rfl
theorem F39_ok (n : Nat) : EntOK prog G (F39e n) :=
  ent_ok (fr := frOf [F39_0z n]) (ann := (.nd .no (.nd (.nd .no (.nd (.use 0) .no)) .no))) (frm := [(0, .fz)]) laws fnok (E9_ok n).tab (e := F39e n) (fn := Go.Proofs.Try.f39) (by kernel_rfl) (AllF.ofB (cd := F39c) (l := [(0, codeAt F39c [1, 0, 1, 0])]) (by kernel_rfl) (by kernel_rfl) (AllF.cons (F39_0_ok n) AllF.nil)) (F39_eq n)
noncomputable def E10 (n : Nat) : List (Ent G) := F39e n :: E9 n
theorem E10_ok (n : Nat) : AllE prog G (E10 n) := AllE.cons (F39_ok n) (E9_ok n)
abbrev Q71RC : Type := (Int → Option (ByteArray × Unit)) × Unit
noncomputable def Q71L (n : Nat) (rc : Q71RC) : List (Ent G) := ⟨71, (.cons (.int .i64) .nil), [], .str, [], fun x y => rc.1 x.1⟩ :: E10 n
-- 71 loop.example/slowworm/impl.decimal
noncomputable def F71bc : Code := bodyOf Go.Proofs.Try.f71
noncomputable def F71b (n : Nat) (rc : Q71RC) (a573 : Int) : Option (ByteArray × Unit) :=
  (bif (decide (a573 < (0 : Int))) then
  (andThen (rc.1 (IntKind.wrap .i64 ((0 : Int) - a573))) fun r576 =>
  (bif (decide (((1 : Nat) + (r576.1.size)) ≤ (68719476736 : Nat))) then
  some ((({ data := #[45] } : ByteArray) ++ r576.1), ())
  else none))
  else (bif (decide (a573 < (10 : Int))) then
  some ((bytesOfInts (List.map (fun y583 => y583) ((IntKind.wrap .u8 (IntKind.wrap .i64 ((48 : Int) + a573))) :: []))), ())
  else (andThen (rc.1 (IntKind.wrap .i64 (a573.tdiv (10 : Int)))) fun r585 =>
  (andThen (rc.1 (a573.tmod (10 : Int))) fun r587 =>
  (bif (decide (((r585.1.size) + (r587.1.size)) ≤ (68719476736 : Nat))) then
  some ((r585.1 ++ r587.1), ())
  else none)))))
noncomputable def F71be (n : Nat) (rc : Q71RC) : Ent G := ⟨71, (.cons (.int .i64) .nil), [], .str, [], fun x y => F71b n rc x.1⟩
theorem F71b_eq (n : Nat) (rc : Q71RC) (x : ShL.den G (.cons (.int .i64) .nil)) (y : denO G []) : (F71be n rc).F x y = runFn prog G (ro G (tabOf (Q71L n rc)) (frOf []) _) Go.Proofs.Try.f71 .no [(0, .fz)] (ShL.enc G (.cons (.int .i64) .nil) x) (encO G [] y) (decR .str []) := by kernel_rfl
theorem F71b_ok (n : Nat) (rc : Q71RC) (h : AllE prog G (Q71L n rc)) : EntOK prog G (F71be n rc) :=
  ent_ok (fr := frOf []) (ann := .no) (frm := [(0, .fz)]) laws fnok h.tab (e := F71be n rc) (fn := Go.Proofs.Try.f71) (by kernel_rfl) (AllF.ofB (cd := F71bc) (l := []) (by kernel_rfl) (by kernel_rfl) AllF.nil) (F71b_eq n rc)
noncomputable def Q71it (n : Nat) : Nat → Q71RC
  | 0 => (fun _ => none, ())
  | k + 1 => (F71b n (Q71it n k), ())
theorem Q71it_ok (n : Nat) : ∀ k, AllE prog G (Q71L n (Q71it n k))
  | 0 => (AllE.cons (EntOK.none fun _ _ => rfl) (E10_ok n))
  | k + 1 => (AllE.cons (F71b_ok n _ (Q71it_ok n k)) (E10_ok n))
noncomputable def F71 (n : Nat) (a0 : Int) : Option (ByteArray × Unit) := (Q71it n n).1 a0
noncomputable def F71e (n : Nat) : Ent G := ⟨71, (.cons (.int .i64) .nil), [], .str, [], fun x y => F71 n x.1⟩
noncomputable def E11 (n : Nat) : List (Ent G) := F71e n :: E10 n
theorem E11_ok (n : Nat) : AllE prog G (E11 n) := Q71it_ok n n
abbrev Q40RC : Type := (Int → List (List Stp) → (Nat × (List (Option (List (ByteArray × Int))))) → List Int → List Int → List Int → List ByteArray → List Int → Option (Bool × ((List (List Stp) × (Unit × (Unit × (Unit × (Unit × (Unit × (Unit × Unit))))))) × ((Nat × (List (Option (List (ByteArray × Int))))) × (Unit × (Unit × (List Int × (Unit × (List Int × (List Int × (List Int × (List ByteArray × Unit)))))))))))) × (Int → Int → Int → ByteArray → List (List Stp) → (Nat × (List (Option (List (ByteArray × Int))))) → List Int → List Int → List Int → List ByteArray → List Int → Option (Bool × ((List (List Stp) × (Unit × (Unit × (Unit × (Unit × (Unit × (Unit × Unit))))))) × ((Nat × (List (Option (List (ByteArray × Int))))) × (Unit × (Unit × (List Int × (Unit × (List Int × (List Int × (List Int × (List ByteArray × Unit)))))))))))) × Unit
noncomputable def Q40L (n : Nat) (rc : Q40RC) : List (Ent G) := ⟨40, (.cons (.ptr 0 0) (.cons (.int .i64) .nil)), [(.box 70 (.cons (.imm 5) (.cons (.ref 1 0) (.cons (.own 2) (.cons (.own 3) (.cons (.own 4) (.cons (.own 5) (.cons (.own 6) .nil)))))))), (.usr 0), (.arr 0 true), (.arr 0 true), (.arr 0 true), (.arr 6 true), (.arr 0 true)], .bool, [(.box 70 (.cons (.imm 5) (.cons (.ref 1 0) (.cons (.own 7) (.cons (.own 8) (.cons (.own 4) (.cons (.own 9) (.cons (.own 6) .nil)))))))), (.usr 0), .dead, .dead, (.arr 0 true), .dead, (.arr 0 true), (.arr 0 true), (.arr 0 true), (.arr 6 true)], fun x y => rc.1 x.2.1 y.1.1 y.2.1 y.2.2.1 y.2.2.2.1 y.2.2.2.2.1 y.2.2.2.2.2.1 y.2.2.2.2.2.2.1⟩ :: ⟨59, (.cons (.ptr 0 0) (.cons (.int .i64) (.cons (.agg (.cons (.int .i64) (.cons (.int .i64) (.cons .str .nil)))) .nil))), [(.box 70 (.cons (.imm 5) (.cons (.ref 1 0) (.cons (.own 2) (.cons (.own 3) (.cons (.own 4) (.cons (.own 5) (.cons (.own 6) .nil)))))))), (.usr 0), (.arr 0 true), (.arr 0 true), (.arr 0 true), (.arr 6 true), (.arr 0 true)], .bool, [(.box 70 (.cons (.imm 5) (.cons (.ref 1 0) (.cons (.own 7) (.cons (.own 8) (.cons (.own 4) (.cons (.own 9) (.cons (.own 6) .nil)))))))), (.usr 0), .dead, .dead, (.arr 0 true), .dead, (.arr 0 true), (.arr 0 true), (.arr 0 true), (.arr 6 true)], fun x y => rc.2.1 x.2.1 x.2.2.1.1 x.2.2.1.2.1 x.2.2.1.2.2.1 y.1.1 y.2.1 y.2.2.1 y.2.2.2.1 y.2.2.2.2.1 y.2.2.2.2.2.1 y.2.2.2.2.2.2.1⟩ :: E11 n
-- 40 (*loop.example/slowworm/impl.importer).load
noncomputable def F40bc : Code := bodyOf Go.Proofs.Try.f40
noncomputable def F40b_0x0 : SSh := ⟨93, [(4, .bool)], [(.box 70 (.cons (.imm 5) (.cons (.ref 1 0) (.cons (.own 7) (.cons (.own 8) (.cons (.own 4) (.cons (.own 9) (.cons (.own 6) .nil)))))))), (.usr 0), .dead, .dead, (.arr 0 true), .dead, (.arr 0 true), (.arr 0 true), (.arr 0 true), (.arr 6 true)]⟩
noncomputable def F40b_0x1 : SSh := ⟨93, [(0, (.ptr 0 0)), (1, (.int .i64))], [(.box 70 (.cons (.imm 5) (.cons (.ref 1 0) (.cons (.own 7) (.cons (.own 8) (.cons (.own 4) (.cons (.own 9) (.cons (.own 6) .nil)))))))), (.usr 0), .dead, .dead, (.arr 0 true), .dead, (.arr 0 true), (.arr 0 true), (.arr 0 true), (.arr 6 true)]⟩
noncomputable def F40b_0s : SSh := ⟨93, [(0, (.ptr 0 0)), (1, (.int .i64)), (49, (.imm 3)), (50, (.int .i64)), (51, (.int .i64))], [(.box 70 (.cons (.imm 5) (.cons (.ref 1 0) (.cons (.own 7) (.cons (.own 8) (.cons (.own 4) (.cons (.own 9) (.cons (.own 6) .nil)))))))), (.usr 0), .dead, .dead, (.arr 0 true), .dead, (.arr 0 true), (.arr 0 true), (.arr 0 true), (.arr 6 true)]⟩
noncomputable def F40b_0_step {R : Type} (n : Nat) (rc : Q40RC) (k0 : Bool → List (List Stp) → (Nat × (List (Option (List (ByteArray × Int))))) → List Int → List Int → List Int → List Int → List ByteArray → Option R) (k1 : Int → List (List Stp) → (Nat × (List (Option (List (ByteArray × Int))))) → List Int → List Int → List Int → List Int → List ByteArray → Option R) (rec : Int → List Stp → Int → Int → List (List Stp) → (Nat × (List (Option (List (ByteArray × Int))))) → List Int → List Int → List Int → List Int → List ByteArray → Option R) (x667 : Int) (x668 : List Stp) (x669 : Int) (x670 : Int) (x671 : List (List Stp)) (x672 : (Nat × (List (Option (List (ByteArray × Int)))))) (x673 : List Int) (x674 : List Int) (x675 : List Int) (x676 : List Int) (x677 : List ByteArray) : Option R :=
  (bif (decide (x670 < x669)) then
  (bif (decide ((0 : Int) ≤ x670)) then
  (bif (decide (x670 < ((x668.length) : Int))) then
  let v679 := (x668.getD (x670.toNat) (Stp.mk (0 : Int) (0 : Int) ({ data := #[] } : ByteArray)))
  (andThen (rc.2.1 x667 v679.kind v679.num v679.name x671 x672 x675 x676 x673 x677 x674) fun r683 =>
  (bif (!r683.1) then
  (bif (decide ((0 : Int) ≤ x667)) then
  (bif (decide (x667 < ((r683.2.2.2.2.2.2.2.1.length) : Int))) then
  (bif (decide ((0 : Int) ≤ x667)) then
  (bif (decide (x667 < ((r683.2.2.1.2.length) : Int))) then
  (k0 false r683.2.1.1 ((r683.2.2.1.1 + (1 : Nat)), (r683.2.2.1.2.set (x667.toNat) none)) r683.2.2.2.2.2.1 (r683.2.2.2.2.2.2.2.1.set (x667.toNat) (0 : Int)) r683.2.2.2.2.2.2.2.2.1 r683.2.2.2.2.2.2.2.2.2.1 r683.2.2.2.2.2.2.2.2.2.2.1)
  else none)
  else none)
  else none)
  else none)
  else (rec x667 x668 x669 (IntKind.wrap .i64 (x670 + (1 : Int))) r683.2.1.1 r683.2.2.1 r683.2.2.2.2.2.1 r683.2.2.2.2.2.2.2.1 r683.2.2.2.2.2.2.2.2.1 r683.2.2.2.2.2.2.2.2.2.1 r683.2.2.2.2.2.2.2.2.2.2.1)))
  else none)
  else none)
  else (k1 x667 x671 x672 x673 x674 x675 x676 x677))
noncomputable def F40b_0_it {R : Type} (n : Nat) (rc : Q40RC) (k0 : Bool → List (List Stp) → (Nat × (List (Option (List (ByteArray × Int))))) → List Int → List Int → List Int → List Int → List ByteArray → Option R) (k1 : Int → List (List Stp) → (Nat × (List (Option (List (ByteArray × Int))))) → List Int → List Int → List Int → List Int → List ByteArray → Option R) : Nat → Int → List Stp → Int → Int → List (List Stp) → (Nat × (List (Option (List (ByteArray × Int))))) → List Int → List Int → List Int → List Int → List ByteArray → Option R
  | 0, _, _, _, _, _, _, _, _, _, _, _ => none
  | k + 1, x667, x668, x669, x670, x671, x672, x673, x674, x675, x676, x677 => F40b_0_step n rc k0 k1 (F40b_0_it n rc k0 k1 k) x667 x668 x669 x670 x671 x672 x673 x674 x675 x676 x677
noncomputable def F40b_0 {R : Type} (n : Nat) (rc : Q40RC) (x667 : Int) (x668 : List Stp) (x669 : Int) (x670 : Int) (x671 : List (List Stp)) (x672 : (Nat × (List (Option (List (ByteArray × Int)))))) (x673 : List Int) (x674 : List Int) (x675 : List Int) (x676 : List Int) (x677 : List ByteArray) (k0 : Bool → List (List Stp) → (Nat × (List (Option (List (ByteArray × Int))))) → List Int → List Int → List Int → List Int → List ByteArray → Option R) (k1 : Int → List (List Stp) → (Nat × (List (Option (List (ByteArray × Int))))) → List Int → List Int → List Int → List Int → List ByteArray → Option R) : Option R := F40b_0_it n rc k0 k1 n x667 x668 x669 x670 x671 x672 x673 x674 x675 x676 x677
noncomputable def F40b_0z (n : Nat) (rc : Q40RC) : Sm G := inZ G 7 ⟨[0, 1, 49, 50, 51], [(0, (.cell 3 (.mv 0))), (0, (.cell 5 (.mv 6)))]⟩ F40b_0s fun R x K => F40b_0_it n rc (fun u0 u1 u2 u3 u4 u5 u6 u7 => K .ret (SSh.enc G F40b_0x0 ((u0, ()), ((u1, ((), ((), ((), ((), ((), ((), ()))))))), (u2, ((), ((), (u3, ((), (u4, (u5, (u6, (u7, ()))))))))))))) (fun u0 u1 u2 u3 u4 u5 u6 u7 => K (.exit 0) (SSh.enc G F40b_0x1 (((), (u0, ())), ((u1, ((), ((), ((), ((), ((), ((), ()))))))), (u2, ((), ((), (u3, ((), (u4, (u5, (u6, (u7, ()))))))))))))) n x.1.2.1 x.1.2.2.1 x.1.2.2.2.1 x.1.2.2.2.2.1 x.2.1.1 x.2.2.1 x.2.2.2.2.2.1 x.2.2.2.2.2.2.2.1 x.2.2.2.2.2.2.2.2.1 x.2.2.2.2.2.2.2.2.2.1 x.2.2.2.2.2.2.2.2.2.2.1
theorem F40b_0_eq (n : Nat) (rc : Q40RC) (R : Type) (rec : SSh.den G F40b_0s → Option R) (x : SSh.den G F40b_0s) (K : AE → St G → Option R) :
  F40b_0_step n rc (fun u0 u1 u2 u3 u4 u5 u6 u7 => K .ret (SSh.enc G F40b_0x0 ((u0, ()), ((u1, ((), ((), ((), ((), ((), ((), ()))))))), (u2, ((), ((), (u3, ((), (u4, (u5, (u6, (u7, ()))))))))))))) (fun u0 u1 u2 u3 u4 u5 u6 u7 => K (.exit 0) (SSh.enc G F40b_0x1 (((), (u0, ())), ((u1, ((), ((), ((), ((), ((), ((), ()))))))), (u2, ((), ((), (u3, ((), (u4, (u5, (u6, (u7, ()))))))))))))) (fun x667 x668 x669 x670 x671 x672 x673 x674 x675 x676 x677 => rec (((), (x667, (x668, (x669, (x670, ()))))), ((x671, ((), ((), ((), ((), ((), ((), ()))))))), (x672, ((), ((), (x673, ((), (x674, (x675, (x676, (x677, ())))))))))))) x.1.2.1 x.1.2.2.1 x.1.2.2.2.1 x.1.2.2.2.2.1 x.2.1.1 x.2.2.1 x.2.2.2.2.2.1 x.2.2.2.2.2.2.2.1 x.2.2.2.2.2.2.2.2.1 x.2.2.2.2.2.2.2.2.2.1 x.2.2.2.2.2.2.2.2.2.2.1 = exec prog G (ro G (tabOf (Q40L n rc)) (frOf []) R) 7 (codeAt F40bc [1, 1, 1, 1, 1, 0, 1, 0, 0]) .no (SSh.enc G F40b_0s x) (kLoop G (ro G (tabOf (Q40L n rc)) (frOf []) R) 7 ⟨[0, 1, 49, 50, 51], [(0, (.cell 3 (.mv 0))), (0, (.cell 5 (.mv 6)))]⟩ F40b_0s ⟨⟨[0, 1], []⟩, ⟨[4], []⟩, [(0, ⟨[0, 1], []⟩)]⟩ rec K) := by kernel_rfl
theorem F40b_0_ok (n : Nat) (rc : Q40RC) (h : AllE prog G (Q40L n rc)) : FragOK prog G 7 (codeAt F40bc [1, 1, 1, 1, 1, 0, 1, 0]) (F40b_0z n rc) :=
  frag_loop (Z := fun R k (x : SSh.den G F40b_0s) K => F40b_0_it n rc (fun u0 u1 u2 u3 u4 u5 u6 u7 => K .ret (SSh.enc G F40b_0x0 ((u0, ()), ((u1, ((), ((), ((), ((), ((), ((), ()))))))), (u2, ((), ((), (u3, ((), (u4, (u5, (u6, (u7, ()))))))))))))) (fun u0 u1 u2 u3 u4 u5 u6 u7 => K (.exit 0) (SSh.enc G F40b_0x1 (((), (u0, ())), ((u1, ((), ((), ((), ((), ((), ((), ()))))))), (u2, ((), ((), (u3, ((), (u4, (u5, (u6, (u7, ()))))))))))))) k x.1.2.1 x.1.2.2.1 x.1.2.2.2.1 x.1.2.2.2.2.1 x.2.1.1 x.2.2.1 x.2.2.2.2.2.1 x.2.2.2.2.2.2.2.1 x.2.2.2.2.2.2.2.2.1 x.2.2.2.2.2.2.2.2.2.1 x.2.2.2.2.2.2.2.2.2.2.1) laws fnok h.tab (AllF.of (l := []) (by kernel_rfl) AllF.nil) (fun _ _ _ => rfl) (fun R k y K => F40b_0_eq n rc R (fun (x : SSh.den G F40b_0s) => F40b_0_it n rc (fun u0 u1 u2 u3 u4 u5 u6 u7 => K .ret (SSh.enc G F40b_0x0 ((u0, ()), ((u1, ((), ((), ((), ((), ((), ((), ()))))))), (u2, ((), ((), (u3, ((), (u4, (u5, (u6, (u7, ()))))))))))))) (fun u0 u1 u2 u3 u4 u5 u6 u7 => K (.exit 0) (SSh.enc G F40b_0x1 (((), (u0, ())), ((u1, ((), ((), ((), ((), ((), ((), ()))))))), (u2, ((), ((), (u3, ((), (u4, (u5, (u6, (u7, ()))))))))))))) k x.1.2.1 x.1.2.2.1 x.1.2.2.2.1 x.1.2.2.2.2.1 x.2.1.1 x.2.2.1 x.2.2.2.2.2.1 x.2.2.2.2.2.2.2.1 x.2.2.2.2.2.2.2.2.1 x.2.2.2.2.2.2.2.2.2.1 x.2.2.2.2.2.2.2.2.2.2.1) y K) n
noncomputable def F40b (n : Nat) (rc : Q40RC) (a647 : Int) (a648 : List (List Stp)) (a649 : (Nat × (List (Option (List (ByteArray × Int)))))) (a650 : List Int) (a651 : List Int) (a652 : List Int) (a653 : List ByteArray) (a654 : List Int) : Option (Bool × ((List (List Stp) × (Unit × (Unit × (Unit × (Unit × (Unit × (Unit × Unit))))))) × ((Nat × (List (Option (List (ByteArray × Int))))) × (Unit × (Unit × (List Int × (Unit × (List Int × (List Int × (List Int × (List ByteArray × Unit))))))))))) :=
  (bif (decide ((0 : Int) ≤ a647)) then
  (bif (decide (a647 < ((a654.length) : Int))) then
  (bif ((a654.getD (a647.toNat) (0 : Int)) != (0 : Int)) then
  some (true, ((a648, ((), ((), ((), ((), ((), ((), ()))))))), (a649, ((), ((), (a652, ((), (a654, (a650, (a651, (a653, ())))))))))))
  else (bif (decide ((0 : Int) ≤ a647)) then
  (bif (decide (a647 < ((a654.length) : Int))) then
  let v660 := (a647 :: [])
  (bif (decide (((a650.length) + (v660.length)) ≤ (68719476736 : Nat))) then
  (bif (decide ((0 : Int) ≤ a647)) then
  (bif (decide (a647 < ((a649.2.length) : Int))) then
  (bif (decide ((0 : Int) ≤ a647)) then
  (bif (decide (a647 < ((a648.length) : Int))) then
  let v665 := (a648.getD (a647.toNat) [])
  (F40b_0 n rc a647 v665 ((v665.length) : Int) (0 : Int) a648 ((a649.1 + (1 : Nat)), (a649.2.set (a647.toNat) (some []))) a652 (a654.set (a647.toNat) (1 : Int)) (a650 ++ v660) a651 a653 (fun z690 z691 z692 z693 z694 z695 z696 z697 =>
  some (z690, ((z691, ((), ((), ((), ((), ((), ((), ()))))))), (z692, ((), ((), (z693, ((), (z694, (z695, (z696, (z697, ())))))))))))) (fun z698 z699 z700 z701 z702 z703 z704 z705 =>
  (bif (decide ((0 : Int) ≤ z698)) then
  (bif (decide (z698 < ((z702.length) : Int))) then
  let v708 := (z698 :: [])
  (bif (decide (((z704.length) + (v708.length)) ≤ (68719476736 : Nat))) then
  some (true, ((z699, ((), ((), ((), ((), ((), ((), ()))))))), (z700, ((), ((), (z701, ((), ((z702.set (z698.toNat) (2 : Int)), (z703, ((z704 ++ v708), (z705, ())))))))))))
  else none)
  else none)
  else none)))
  else none)
  else none)
  else none)
  else none)
  else none)
  else none)
  else none))
  else none)
  else none)
noncomputable def F40be (n : Nat) (rc : Q40RC) : Ent G := ⟨40, (.cons (.ptr 0 0) (.cons (.int .i64) .nil)), [(.box 70 (.cons (.imm 5) (.cons (.ref 1 0) (.cons (.own 2) (.cons (.own 3) (.cons (.own 4) (.cons (.own 5) (.cons (.own 6) .nil)))))))), (.usr 0), (.arr 0 true), (.arr 0 true), (.arr 0 true), (.arr 6 true), (.arr 0 true)], .bool, [(.box 70 (.cons (.imm 5) (.cons (.ref 1 0) (.cons (.own 7) (.cons (.own 8) (.cons (.own 4) (.cons (.own 9) (.cons (.own 6) .nil)))))))), (.usr 0), .dead, .dead, (.arr 0 true), .dead, (.arr 0 true), (.arr 0 true), (.arr 0 true), (.arr 6 true)], fun x y => F40b n rc x.2.1 y.1.1 y.2.1 y.2.2.1 y.2.2.2.1 y.2.2.2.2.1 y.2.2.2.2.2.1 y.2.2.2.2.2.2.1⟩
theorem F40b_eq (n : Nat) (rc : Q40RC) (x : ShL.den G (.cons (.ptr 0 0) (.cons (.int .i64) .nil))) (y : denO G [(.box 70 (.cons (.imm 5) (.cons (.ref 1 0) (.cons (.own 2) (.cons (.own 3) (.cons (.own 4) (.cons (.own 5) (.cons (.own 6) .nil)))))))), (.usr 0), (.arr 0 true), (.arr 0 true), (.arr 0 true), (.arr 6 true), (.arr 0 true)]) : (F40be n rc).F x y = runFn prog G (ro G (tabOf (Q40L n rc)) (frOf [F40b_0z n rc]) _) Go.Proofs.Try.f40 (.nd .no (.nd .no (.nd .no (.nd .no (.nd .no (.nd (.nd .no (.nd (.use 0) .no)) .no)))))) [(0, (.obj 0 2 (.mv 0))), (0, (.obj 0 3 (.mv 0))), (0, (.obj 0 5 (.mv 6)))] (ShL.enc G (.cons (.ptr 0 0) (.cons (.int .i64) .nil)) x) (encO G [(.box 70 (.cons (.imm 5) (.cons (.ref 1 0) (.cons (.own 2) (.cons (.own 3) (.cons (.own 4) (.cons (.own 5) (.cons (.own 6) .nil)))))))), (.usr 0), (.arr 0 true), (.arr 0 true), (.arr 0 true), (.arr 6 true), (.arr 0 true)] y) (decR .bool [(.box 70 (.cons (.imm 5) (.cons (.ref 1 0) (.cons (.own 7) (.cons (.own 8) (.cons (.own 4) (.cons (.own 9) (.cons (.own 6) .nil)))))))), (.usr 0), .dead, .dead, (.arr 0 true), .dead, (.arr 0 true), (.arr 0 true), (.arr 0 true), (.arr 6 true)]) := by kernel_rfl
theorem F40b_ok (n : Nat) (rc : Q40RC) (h : AllE prog G (Q40L n rc)) : EntOK prog G (F40be n rc) :=
  ent_ok (fr := frOf [F40b_0z n rc]) (ann := (.nd .no (.nd .no (.nd .no (.nd .no (.nd .no (.nd (.nd .no (.nd (.use 0) .no)) .no))))))) (frm := [(0, (.obj 0 2 (.mv 0))), (0, (.obj 0 3 (.mv 0))), (0, (.obj 0 5 (.mv 6)))]) laws fnok h.tab (e := F40be n rc) (fn := Go.Proofs.Try.f40) (by kernel_rfl) (AllF.ofB (cd := F40bc) (l := [(0, codeAt F40bc [1, 1, 1, 1, 1, 0, 1, 0])]) (by kernel_rfl) (by kernel_rfl) (AllF.cons (F40b_0_ok n rc h) AllF.nil)) (F40b_eq n rc)
-- 59 (*loop.example/slowworm/impl.importer).step
noncomputable def F59bc : Code := bodyOf Go.Proofs.Try.f59
noncomputable def F59b_0x0 : SSh := ⟨69, [(8, .bool)], [(.box 70 (.cons (.imm 5) (.cons (.ref 1 0) (.cons (.own 2) (.cons (.own 3) (.cons (.own 4) (.cons (.own 7) (.cons (.own 6) .nil)))))))), (.usr 0), (.arr 0 true), (.arr 0 true), (.arr 0 true), .dead, (.arr 0 true), (.arr 6 true)]⟩
noncomputable def F59b_0x1 : SSh := ⟨69, [(8, .bool)], [(.box 70 (.cons (.imm 5) (.cons (.ref 1 0) (.cons (.own 2) (.cons (.own 3) (.cons (.own 4) (.cons (.own 5) (.cons (.own 6) .nil)))))))), (.usr 0), (.arr 0 true), (.arr 0 true), (.arr 0 true), (.arr 6 true), (.arr 0 true)]⟩
noncomputable def F59b_0s : SSh := ⟨69, [(0, (.ptr 0 0)), (7, (.int .i64)), (8, .bool)], [(.box 70 (.cons (.imm 5) (.cons (.ref 1 0) (.cons (.own 2) (.cons (.own 3) (.cons (.own 4) (.cons (.own 5) (.cons (.own 6) .nil)))))))), (.usr 0), (.arr 0 true), (.arr 0 true), (.arr 0 true), (.arr 6 true), (.arr 0 true)]⟩
noncomputable def F59b_0 {R : Type} (n : Nat) (rc : Q40RC) (x745 : Int) (x746 : Bool) (x747 : List (List Stp)) (x748 : (Nat × (List (Option (List (ByteArray × Int)))))) (x749 : List Int) (x750 : List Int) (x751 : List Int) (x752 : List ByteArray) (x753 : List Int) (k0 : Bool → List (List Stp) → (Nat × (List (Option (List (ByteArray × Int))))) → List Int → List Int → List Int → List Int → List ByteArray → Option R) (k1 : Bool → List (List Stp) → (Nat × (List (Option (List (ByteArray × Int))))) → List Int → List Int → List Int → List ByteArray → List Int → Option R) : Option R :=
  (bif x746 then
  (andThen (F71 n x745) fun r754 =>
  let v755 := (r754.1 :: [])
  (bif (decide (((x752.length) + (v755.length)) ≤ (68719476736 : Nat))) then
  (k0 x746 x747 x748 x749 x750 x751 x753 (x752 ++ v755))
  else none))
  else (k1 x746 x747 x748 x749 x750 x751 x752 x753))
noncomputable def F59b_0z (n : Nat) (rc : Q40RC) : Sm G := inZ G 7 ⟨[0, 7, 8], []⟩ F59b_0s fun R x K => F59b_0 n rc x.1.2.1 x.1.2.2.1 x.2.1.1 x.2.2.1 x.2.2.2.1 x.2.2.2.2.1 x.2.2.2.2.2.1 x.2.2.2.2.2.2.1 x.2.2.2.2.2.2.2.1 (fun u0 u1 u2 u3 u4 u5 u6 u7 => K .normal (SSh.enc G F59b_0x0 ((u0, ()), ((u1, ((), ((), ((), ((), ((), ((), ()))))))), (u2, (u3, (u4, (u5, ((), (u6, (u7, ()))))))))))) (fun u0 u1 u2 u3 u4 u5 u6 u7 => K .normal (SSh.enc G F59b_0x1 ((u0, ()), ((u1, ((), ((), ((), ((), ((), ((), ()))))))), (u2, (u3, (u4, (u5, (u6, (u7, ()))))))))))
theorem F59b_0_eq (n : Nat) (rc : Q40RC) (R : Type) (x : SSh.den G F59b_0s) (K : AE → St G → Option R) :
  F59b_0 n rc x.1.2.1 x.1.2.2.1 x.2.1.1 x.2.2.1 x.2.2.2.1 x.2.2.2.2.1 x.2.2.2.2.2.1 x.2.2.2.2.2.2.1 x.2.2.2.2.2.2.2.1 (fun u0 u1 u2 u3 u4 u5 u6 u7 => K .normal (SSh.enc G F59b_0x0 ((u0, ()), ((u1, ((), ((), ((), ((), ((), ((), ()))))))), (u2, (u3, (u4, (u5, ((), (u6, (u7, ()))))))))))) (fun u0 u1 u2 u3 u4 u5 u6 u7 => K .normal (SSh.enc G F59b_0x1 ((u0, ()), ((u1, ((), ((), ((), ((), ((), ((), ()))))))), (u2, (u3, (u4, (u5, (u6, (u7, ())))))))))) = exec prog G (ro G (tabOf (Q40L n rc)) (frOf []) R) 7 (codeAt F59bc [1, 0, 1, 0, 1, 1, 1, 1, 1, 1, 1, 0, 1, 0]) .no (SSh.enc G F59b_0s x) (kNrm G (ro G (tabOf (Q40L n rc)) (frOf []) R) 7 ⟨⟨[8], []⟩, ⟨[6], []⟩, [(0, ⟨[], []⟩)]⟩ K) := by kernel_rfl
theorem F59b_0_ok (n : Nat) (rc : Q40RC) (h : AllE prog G (Q40L n rc)) : FragOK prog G 7 (codeAt F59bc [1, 0, 1, 0, 1, 1, 1, 1, 1, 1, 1, 0, 1, 0]) (F59b_0z n rc) :=
  frag_plain laws fnok h.tab (AllF.of (l := []) (by kernel_rfl) AllF.nil) (F59b_0_eq n rc)
noncomputable def F59b_1x0 : SSh := ⟨69, [(6, .bool)], [(.box 70 (.cons (.imm 5) (.cons (.ref 1 0) (.cons (.own 7) (.cons (.own 8) (.cons (.own 4) (.cons (.own 9) (.cons (.own 6) .nil)))))))), (.usr 0), .dead, .dead, (.arr 0 true), .dead, (.arr 0 true), (.arr 0 true), (.arr 0 true), (.arr 6 true)]⟩
noncomputable def F59b_1x1 : SSh := ⟨69, [], [(.box 70 (.cons (.imm 5) (.cons (.ref 1 0) (.cons (.own 7) (.cons (.own 8) (.cons (.own 4) (.cons (.own 9) (.cons (.own 6) .nil)))))))), (.usr 0), .dead, .dead, (.arr 0 true), .dead, (.arr 0 true), (.arr 0 true), (.arr 0 true), (.arr 6 true)]⟩
noncomputable def F59b_1x2 : SSh := ⟨69, [], [(.box 70 (.cons (.imm 5) (.cons (.ref 1 0) (.cons (.own 2) (.cons (.own 3) (.cons (.own 4) (.cons (.own 5) (.cons (.own 6) .nil)))))))), (.usr 0), (.arr 0 true), (.arr 0 true), (.arr 0 true), (.arr 6 true), (.arr 0 true)]⟩
noncomputable def F59b_1x3 : SSh := ⟨69, [(6, .bool)], [(.box 70 (.cons (.imm 5) (.cons (.ref 1 0) (.cons (.own 2) (.cons (.own 3) (.cons (.own 4) (.cons (.own 7) (.cons (.own 6) .nil)))))))), (.usr 0), (.arr 0 true), (.arr 0 true), (.arr 0 true), .dead, (.arr 0 true), (.arr 6 true)]⟩
noncomputable def F59b_1x4 : SSh := ⟨69, [(6, .bool)], [(.box 70 (.cons (.imm 5) (.cons (.ref 1 0) (.cons (.own 2) (.cons (.own 3) (.cons (.own 4) (.cons (.own 5) (.cons (.own 6) .nil)))))))), (.usr 0), (.arr 0 true), (.arr 0 true), (.arr 0 true), (.arr 6 true), (.arr 0 true)]⟩
noncomputable def F59b_1s : SSh := ⟨69, [(0, (.ptr 0 0)), (1, (.int .i64)), (5, (.ptr 7 0))], [(.box 70 (.cons (.imm 5) (.cons (.ref 1 0) (.cons (.own 2) (.cons (.own 3) (.cons (.own 4) (.cons (.own 5) (.cons (.own 6) .nil)))))))), (.usr 0), (.arr 0 true), (.arr 0 true), (.arr 0 true), (.arr 6 true), (.arr 0 true), (.box 48 (.cons (.int .i64) (.cons (.int .i64) (.cons .str .nil))))]⟩
noncomputable def F59b_1 {R : Type} (n : Nat) (rc : Q40RC) (x721 : Int) (x722 : List (List Stp)) (x723 : (Nat × (List (Option (List (ByteArray × Int)))))) (x724 : List Int) (x725 : List Int) (x726 : List Int) (x727 : List ByteArray) (x728 : List Int) (x729 : Int) (x730 : Int) (x731 : ByteArray) (k0 : Bool → List (List Stp) → (Nat × (List (Option (List (ByteArray × Int))))) → List Int → List Int → List Int → List Int → List ByteArray → Option R) (k1 : List (List Stp) → (Nat × (List (Option (List (ByteArray × Int))))) → List Int → List Int → List Int → List Int → List ByteArray → Option R) (k2 : List (List Stp) → (Nat × (List (Option (List (ByteArray × Int))))) → List Int → List Int → List Int → List ByteArray → List Int → Option R) (k3 : Bool → List (List Stp) → (Nat × (List (Option (List (ByteArray × Int))))) → List Int → List Int → List Int → List Int → List ByteArray → Option R) (k4 : Bool → List (List Stp) → (Nat × (List (Option (List (ByteArray × Int))))) → List Int → List Int → List Int → List ByteArray → List Int → Option R) : Option R :=
  (bif (x729 == (1 : Int)) then
  (andThen (rc.1 x730 x722 x723 x724 x725 x726 x727 x728) fun r733 =>
  (k0 r733.1 r733.2.1.1 r733.2.2.1 r733.2.2.2.2.2.1 r733.2.2.2.2.2.2.2.1 r733.2.2.2.2.2.2.2.2.1 r733.2.2.2.2.2.2.2.2.2.1 r733.2.2.2.2.2.2.2.2.2.2.1))
  else (bif (x729 == (2 : Int)) then
  (andThen (rc.1 x730 x722 x723 x724 x725 x726 x727 x728) fun r735 =>
  (k1 r735.2.1.1 r735.2.2.1 r735.2.2.2.2.2.1 r735.2.2.2.2.2.2.2.1 r735.2.2.2.2.2.2.2.2.1 r735.2.2.2.2.2.2.2.2.2.1 r735.2.2.2.2.2.2.2.2.2.2.1))
  else (bif (x729 == (3 : Int)) then
  (bif (decide ((0 : Int) ≤ x721)) then
  (bif (decide (x721 < ((x723.2.length) : Int))) then
  let v737 := (x721.toNat)
  (bif (decide (x723.1 = x723.1)) then
  (bif ((x723.2.getD v737 none).isSome) then
  (k2 x722 (x723.1, (x723.2.set v737 (some (mset x731 x730 ((x723.2.getD v737 none).getD []))))) x724 x725 x726 x727 x728)
  else none)
  else none)
  else none)
  else none)
  else (bif (x729 == (4 : Int)) then
  (bif (decide ((0 : Int) ≤ x730)) then
  (bif (decide (x730 < ((x723.2.length) : Int))) then
  let v741 := (x730.toNat)
  (bif (decide (x723.1 = x723.1)) then
  (F59b_0 n rc ((mget x731 ((x723.2.getD v741 none).getD [])).getD (0 : Int)) ((mget x731 ((x723.2.getD v741 none).getD [])).isSome) x722 x723 x724 x725 x726 x727 x728 (fun z757 z758 z759 z760 z761 z762 z763 z764 =>
  (k3 z757 z758 z759 z760 z761 z762 z763 z764)) (fun z765 z766 z767 z768 z769 z770 z771 z772 =>
  (k4 z765 z766 z767 z768 z769 z770 z771 z772)))
  else none)
  else none)
  else none)
  else (bif (x729 == (5 : Int)) then
  (k4 false x722 x723 x724 x725 x726 x727 x728)
  else (k2 x722 x723 x724 x725 x726 x727 x728))))))
noncomputable def F59b_1z (n : Nat) (rc : Q40RC) : Sm G := inZ G 7 ⟨[0, 1, 5], []⟩ F59b_1s fun R x K => F59b_1 n rc x.1.2.1 x.2.1.1 x.2.2.1 x.2.2.2.1 x.2.2.2.2.1 x.2.2.2.2.2.1 x.2.2.2.2.2.2.1 x.2.2.2.2.2.2.2.1 x.2.2.2.2.2.2.2.2.1.1 x.2.2.2.2.2.2.2.2.1.2.1 x.2.2.2.2.2.2.2.2.1.2.2.1 (fun u0 u1 u2 u3 u4 u5 u6 u7 => K .ret (SSh.enc G F59b_1x0 ((u0, ()), ((u1, ((), ((), ((), ((), ((), ((), ()))))))), (u2, ((), ((), (u3, ((), (u4, (u5, (u6, (u7, ()))))))))))))) (fun u0 u1 u2 u3 u4 u5 u6 => K .normal (SSh.enc G F59b_1x1 ((), ((u0, ((), ((), ((), ((), ((), ((), ()))))))), (u1, ((), ((), (u2, ((), (u3, (u4, (u5, (u6, ()))))))))))))) (fun u0 u1 u2 u3 u4 u5 u6 => K .normal (SSh.enc G F59b_1x2 ((), ((u0, ((), ((), ((), ((), ((), ((), ()))))))), (u1, (u2, (u3, (u4, (u5, (u6, ())))))))))) (fun u0 u1 u2 u3 u4 u5 u6 u7 => K .ret (SSh.enc G F59b_1x3 ((u0, ()), ((u1, ((), ((), ((), ((), ((), ((), ()))))))), (u2, (u3, (u4, (u5, ((), (u6, (u7, ()))))))))))) (fun u0 u1 u2 u3 u4 u5 u6 u7 => K .ret (SSh.enc G F59b_1x4 ((u0, ()), ((u1, ((), ((), ((), ((), ((), ((), ()))))))), (u2, (u3, (u4, (u5, (u6, (u7, ()))))))))))
theorem F59b_1_eq (n : Nat) (rc : Q40RC) (R : Type) (x : SSh.den G F59b_1s) (K : AE → St G → Option R) :
  F59b_1 n rc x.1.2.1 x.2.1.1 x.2.2.1 x.2.2.2.1 x.2.2.2.2.1 x.2.2.2.2.2.1 x.2.2.2.2.2.2.1 x.2.2.2.2.2.2.2.1 x.2.2.2.2.2.2.2.2.1.1 x.2.2.2.2.2.2.2.2.1.2.1 x.2.2.2.2.2.2.2.2.1.2.2.1 (fun u0 u1 u2 u3 u4 u5 u6 u7 => K .ret (SSh.enc G F59b_1x0 ((u0, ()), ((u1, ((), ((), ((), ((), ((), ((), ()))))))), (u2, ((), ((), (u3, ((), (u4, (u5, (u6, (u7, ()))))))))))))) (fun u0 u1 u2 u3 u4 u5 u6 => K .normal (SSh.enc G F59b_1x1 ((), ((u0, ((), ((), ((), ((), ((), ((), ()))))))), (u1, ((), ((), (u2, ((), (u3, (u4, (u5, (u6, ()))))))))))))) (fun u0 u1 u2 u3 u4 u5 u6 => K .normal (SSh.enc G F59b_1x2 ((), ((u0, ((), ((), ((), ((), ((), ((), ()))))))), (u1, (u2, (u3, (u4, (u5, (u6, ())))))))))) (fun u0 u1 u2 u3 u4 u5 u6 u7 => K .ret (SSh.enc G F59b_1x3 ((u0, ()), ((u1, ((), ((), ((), ((), ((), ((), ()))))))), (u2, (u3, (u4, (u5, ((), (u6, (u7, ()))))))))))) (fun u0 u1 u2 u3 u4 u5 u6 u7 => K .ret (SSh.enc G F59b_1x4 ((u0, ()), ((u1, ((), ((), ((), ((), ((), ((), ()))))))), (u2, (u3, (u4, (u5, (u6, (u7, ())))))))))) = exec prog G (ro G (tabOf (Q40L n rc)) (frOf [F59b_0z n rc]) R) 7 (codeAt F59bc [1, 0]) (.nd .no (.nd (.nd .no (.nd .no (.nd .no (.nd .no (.nd .no (.nd .no (.nd .no (.nd (.nd .no (.nd (.use 0) .no)) .no)))))))) .no)) (SSh.enc G F59b_1s x) (kNrm G (ro G (tabOf (Q40L n rc)) (frOf [F59b_0z n rc]) R) 7 ⟨⟨[], []⟩, ⟨[6], []⟩, []⟩ K) := by kernel_rfl
theorem F59b_1_ok (n : Nat) (rc : Q40RC) (h : AllE prog G (Q40L n rc)) : FragOK prog G 7 (codeAt F59bc [1, 0]) (F59b_1z n rc) :=
  frag_plain laws fnok h.tab (AllF.of (l := [(0, codeAt F59bc [1, 0, 1, 0, 1, 1, 1, 1, 1, 1, 1, 0, 1, 0])]) (by kernel_rfl) (AllF.cons (F59b_0_ok n rc h) AllF.nil)) (F59b_1_eq n rc)
noncomputable def F59b (n : Nat) (rc : Q40RC) (a710 : Int) (a711 : Int) (a712 : Int) (a713 : ByteArray) (a714 : List (List Stp)) (a715 : (Nat × (List (Option (List (ByteArray × Int)))))) (a716 : List Int) (a717 : List Int) (a718 : List Int) (a719 : List ByteArray) (a720 : List Int) : Option (Bool × ((List (List Stp) × (Unit × (Unit × (Unit × (Unit × (Unit × (Unit × Unit))))))) × ((Nat × (List (Option (List (ByteArray × Int))))) × (Unit × (Unit × (List Int × (Unit × (List Int × (List Int × (List Int × (List ByteArray × Unit))))))))))) :=
  (F59b_1 n rc a710 a714 a715 a716 a717 a718 a719 a720 a711 a712 a713 (fun z774 z775 z776 z777 z778 z779 z780 z781 =>
  some (z774, ((z775, ((), ((), ((), ((), ((), ((), ()))))))), (z776, ((), ((), (z777, ((), (z778, (z779, (z780, (z781, ())))))))))))) (fun z782 z783 z784 z785 z786 z787 z788 =>
  some (true, ((z782, ((), ((), ((), ((), ((), ((), ()))))))), (z783, ((), ((), (z784, ((), (z785, (z786, (z787, (z788, ())))))))))))) (fun z789 z790 z791 z792 z793 z794 z795 =>
  some (true, ((z789, ((), ((), ((), ((), ((), ((), ()))))))), (z790, ((), ((), (z793, ((), (z795, (z791, (z792, (z794, ())))))))))))) (fun z796 z797 z798 z799 z800 z801 z802 z803 =>
  some (z796, ((z797, ((), ((), ((), ((), ((), ((), ()))))))), (z798, ((), ((), (z801, ((), (z802, (z799, (z800, (z803, ())))))))))))) (fun z804 z805 z806 z807 z808 z809 z810 z811 =>
  some (z804, ((z805, ((), ((), ((), ((), ((), ((), ()))))))), (z806, ((), ((), (z809, ((), (z811, (z807, (z808, (z810, ())))))))))))))
noncomputable def F59be (n : Nat) (rc : Q40RC) : Ent G := ⟨59, (.cons (.ptr 0 0) (.cons (.int .i64) (.cons (.agg (.cons (.int .i64) (.cons (.int .i64) (.cons .str .nil)))) .nil))), [(.box 70 (.cons (.imm 5) (.cons (.ref 1 0) (.cons (.own 2) (.cons (.own 3) (.cons (.own 4) (.cons (.own 5) (.cons (.own 6) .nil)))))))), (.usr 0), (.arr 0 true), (.arr 0 true), (.arr 0 true), (.arr 6 true), (.arr 0 true)], .bool, [(.box 70 (.cons (.imm 5) (.cons (.ref 1 0) (.cons (.own 7) (.cons (.own 8) (.cons (.own 4) (.cons (.own 9) (.cons (.own 6) .nil)))))))), (.usr 0), .dead, .dead, (.arr 0 true), .dead, (.arr 0 true), (.arr 0 true), (.arr 0 true), (.arr 6 true)], fun x y => F59b n rc x.2.1 x.2.2.1.1 x.2.2.1.2.1 x.2.2.1.2.2.1 y.1.1 y.2.1 y.2.2.1 y.2.2.2.1 y.2.2.2.2.1 y.2.2.2.2.2.1 y.2.2.2.2.2.2.1⟩
theorem F59b_eq (n : Nat) (rc : Q40RC) (x : ShL.den G (.cons (.ptr 0 0) (.cons (.int .i64) (.cons (.agg (.cons (.int .i64) (.cons (.int .i64) (.cons .str .nil)))) .nil)))) (y : denO G [(.box 70 (.cons (.imm 5) (.cons (.ref 1 0) (.cons (.own 2) (.cons (.own 3) (.cons (.own 4) (.cons (.own 5) (.cons (.own 6) .nil)))))))), (.usr 0), (.arr 0 true), (.arr 0 true), (.arr 0 true), (.arr 6 true), (.arr 0 true)]) : (F59be n rc).F x y = runFn prog G (ro G (tabOf (Q40L n rc)) (frOf [F59b_0z n rc, F59b_1z n rc]) _) Go.Proofs.Try.f59 (.nd .no (.nd (.use 1) .no)) [(0, (.obj 0 2 (.mv 0))), (0, (.obj 0 3 (.mv 0))), (0, (.obj 0 5 (.mv 6)))] (ShL.enc G (.cons (.ptr 0 0) (.cons (.int .i64) (.cons (.agg (.cons (.int .i64) (.cons (.int .i64) (.cons .str .nil)))) .nil))) x) (encO G [(.box 70 (.cons (.imm 5) (.cons (.ref 1 0) (.cons (.own 2) (.cons (.own 3) (.cons (.own 4) (.cons (.own 5) (.cons (.own 6) .nil)))))))), (.usr 0), (.arr 0 true), (.arr 0 true), (.arr 0 true), (.arr 6 true), (.arr 0 true)] y) (decR .bool [(.box 70 (.cons (.imm 5) (.cons (.ref 1 0) (.cons (.own 7) (.cons (.own 8) (.cons (.own 4) (.cons (.own 9) (.cons (.own 6) .nil)))))))), (.usr 0), .dead, .dead, (.arr 0 true), .dead, (.arr 0 true), (.arr 0 true), (.arr 0 true), (.arr 6 true)]) := by kernel_rfl
theorem F59b_ok (n : Nat) (rc : Q40RC) (h : AllE prog G (Q40L n rc)) : EntOK prog G (F59be n rc) :=
  ent_ok (fr := frOf [F59b_0z n rc, F59b_1z n rc]) (ann := (.nd .no (.nd (.use 1) .no))) (frm := [(0, (.obj 0 2 (.mv 0))), (0, (.obj 0 3 (.mv 0))), (0, (.obj 0 5 (.mv 6)))]) laws fnok h.tab (e := F59be n rc) (fn := Go.Proofs.Try.f59) (by kernel_rfl) (AllF.ofB (cd := F59bc) (l := [(1, codeAt F59bc [1, 0])]) (by kernel_rfl) (by kernel_rfl) (AllF.cons (F59b_1_ok n rc h) AllF.nil)) (F59b_eq n rc)
noncomputable def Q40it (n : Nat) : Nat → Q40RC
  | 0 => (fun _ _ _ _ _ _ _ _ => none, fun _ _ _ _ _ _ _ _ _ _ _ => none, ())
  | k + 1 => (F40b n (Q40it n k), F59b n (Q40it n k), ())
theorem Q40it_ok (n : Nat) : ∀ k, AllE prog G (Q40L n (Q40it n k))
  | 0 => (AllE.cons (EntOK.none fun _ _ => rfl) (AllE.cons (EntOK.none fun _ _ => rfl) (E11_ok n)))
  | k + 1 => (AllE.cons (F40b_ok n _ (Q40it_ok n k)) (AllE.cons (F59b_ok n _ (Q40it_ok n k)) (E11_ok n)))
noncomputable def F40 (n : Nat) (a0 : Int) (a1 : List (List Stp)) (a2 : (Nat × (List (Option (List (ByteArray × Int)))))) (a3 : List Int) (a4 : List Int) (a5 : List Int) (a6 : List ByteArray) (a7 : List Int) : Option (Bool × ((List (List Stp) × (Unit × (Unit × (Unit × (Unit × (Unit × (Unit × Unit))))))) × ((Nat × (List (Option (List (ByteArray × Int))))) × (Unit × (Unit × (List Int × (Unit × (List Int × (List Int × (List Int × (List ByteArray × Unit))))))))))) := (Q40it n n).1 a0 a1 a2 a3 a4 a5 a6 a7
noncomputable def F40e (n : Nat) : Ent G := ⟨40, (.cons (.ptr 0 0) (.cons (.int .i64) .nil)), [(.box 70 (.cons (.imm 5) (.cons (.ref 1 0) (.cons (.own 2) (.cons (.own 3) (.cons (.own 4) (.cons (.own 5) (.cons (.own 6) .nil)))))))), (.usr 0), (.arr 0 true), (.arr 0 true), (.arr 0 true), (.arr 6 true), (.arr 0 true)], .bool, [(.box 70 (.cons (.imm 5) (.cons (.ref 1 0) (.cons (.own 7) (.cons (.own 8) (.cons (.own 4) (.cons (.own 9) (.cons (.own 6) .nil)))))))), (.usr 0), .dead, .dead, (.arr 0 true), .dead, (.arr 0 true), (.arr 0 true), (.arr 0 true), (.arr 6 true)], fun x y => F40 n x.2.1 y.1.1 y.2.1 y.2.2.1 y.2.2.2.1 y.2.2.2.2.1 y.2.2.2.2.2.1 y.2.2.2.2.2.2.1⟩
noncomputable def F59 (n : Nat) (a0 : Int) (a1 : Int) (a2 : Int) (a3 : ByteArray) (a4 : List (List Stp)) (a5 : (Nat × (List (Option (List (ByteArray × Int)))))) (a6 : List Int) (a7 : List Int) (a8 : List Int) (a9 : List ByteArray) (a10 : List Int) : Option (Bool × ((List (List Stp) × (Unit × (Unit × (Unit × (Unit × (Unit × (Unit × Unit))))))) × ((Nat × (List (Option (List (ByteArray × Int))))) × (Unit × (Unit × (List Int × (Unit × (List Int × (List Int × (List Int × (List ByteArray × Unit))))))))))) := (Q40it n n).2.1 a0 a1 a2 a3 a4 a5 a6 a7 a8 a9 a10
noncomputable def F59e (n : Nat) : Ent G := ⟨59, (.cons (.ptr 0 0) (.cons (.int .i64) (.cons (.agg (.cons (.int .i64) (.cons (.int .i64) (.cons .str .nil)))) .nil))), [(.box 70 (.cons (.imm 5) (.cons (.ref 1 0) (.cons (.own 2) (.cons (.own 3) (.cons (.own 4) (.cons (.own 5) (.cons (.own 6) .nil)))))))), (.usr 0), (.arr 0 true), (.arr 0 true), (.arr 0 true), (.arr 6 true), (.arr 0 true)], .bool, [(.box 70 (.cons (.imm 5) (.cons (.ref 1 0) (.cons (.own 7) (.cons (.own 8) (.cons (.own 4) (.cons (.own 9) (.cons (.own 6) .nil)))))))), (.usr 0), .dead, .dead, (.arr 0 true), .dead, (.arr 0 true), (.arr 0 true), (.arr 0 true), (.arr 6 true)], fun x y => F59 n x.2.1 x.2.2.1.1 x.2.2.1.2.1 x.2.2.1.2.2.1 y.1.1 y.2.1 y.2.2.1 y.2.2.2.1 y.2.2.2.2.1 y.2.2.2.2.2.1 y.2.2.2.2.2.2.1⟩
noncomputable def E12 (n : Nat) : List (Ent G) := F40e n :: F59e n :: E11 n
theorem E12_ok (n : Nat) : AllE prog G (E12 n) := Q40it_ok n n
-- 17 loop.example/slowworm/impl.ImportRun
noncomputable def F17c : Code := bodyOf Go.Proofs.Try.f17
noncomputable def F17_0x0 : SSh := ⟨61, [(4, (.ptr 0 0)), (5, (.ptr 1 0)), (34, (.imm 0)), (35, (.int .i64)), (36, (.int .i64))], [(.box 38 (.cons .nil0 (.cons .nil0 (.cons .nil0 (.cons .nil0 (.cons .nil0 .nil)))))), (.box 70 (.cons (.imm 5) (.cons (.ref 2 0) (.cons (.own 3) (.cons (.own 4) (.cons (.own 5) (.cons (.own 6) (.cons (.own 7) .nil)))))))), (.usr 0), (.arr 0 true), (.arr 0 true), (.arr 0 true), (.arr 6 true), (.arr 0 true)]⟩
noncomputable def F17_0s : SSh := ⟨61, [(4, (.ptr 0 0)), (5, (.ptr 1 0)), (34, (.imm 0)), (35, (.int .i64)), (36, (.int .i64))], [(.box 38 (.cons .nil0 (.cons .nil0 (.cons .nil0 (.cons .nil0 (.cons .nil0 .nil)))))), (.box 70 (.cons (.imm 5) (.cons (.ref 2 0) (.cons (.own 3) (.cons (.own 4) (.cons (.own 5) (.cons (.own 6) (.cons (.own 7) .nil)))))))), (.usr 0), (.arr 0 true), (.arr 0 true), (.arr 0 true), (.arr 6 true), (.arr 0 true)]⟩
noncomputable def F17_0 {R : Type} (n : Nat) (x859 : List Int) (x860 : Int) (x861 : Int) (x862 : List (List Stp)) (x863 : (Nat × (List (Option (List (ByteArray × Int)))))) (x864 : List Int) (x865 : List Int) (x866 : List Int) (x867 : List ByteArray) (x868 : List Int) (k0 : List Int → Int → Int → List (List Stp) → (Nat × (List (Option (List (ByteArray × Int))))) → List Int → List Int → List Int → List ByteArray → List Int → Option R) : Option R :=
  (bif (decide ((0 : Int) ≤ x861)) then
  (bif (decide (x861 < ((x859.length) : Int))) then
  let v870 := (x859.getD (x861.toNat) (0 : Int))
  (andThen (F40 n v870 x862 x863 x864 x865 x866 x867 x868) fun r871 =>
  (bif (!r871.1) then
  let v873 := (v870 :: [])
  (bif (decide (((r871.2.2.2.2.2.1.length) + (v873.length)) ≤ (68719476736 : Nat))) then
  (k0 x859 x860 x861 r871.2.1.1 r871.2.2.1 r871.2.2.2.2.2.2.2.2.1 r871.2.2.2.2.2.2.2.2.2.1 (r871.2.2.2.2.2.1 ++ v873) r871.2.2.2.2.2.2.2.2.2.2.1 r871.2.2.2.2.2.2.2.1)
  else none)
  else (k0 x859 x860 x861 r871.2.1.1 r871.2.2.1 r871.2.2.2.2.2.2.2.2.1 r871.2.2.2.2.2.2.2.2.2.1 r871.2.2.2.2.2.1 r871.2.2.2.2.2.2.2.2.2.2.1 r871.2.2.2.2.2.2.2.1)))
  else none)
  else none)
noncomputable def F17_0z (n : Nat) : Sm G := inZ G 0 ⟨[4, 5, 34, 35, 36], []⟩ F17_0s fun R x K => F17_0 n x.1.2.2.1 x.1.2.2.2.1 x.1.2.2.2.2.1 x.2.2.1.1 x.2.2.2.1 x.2.2.2.2.1 x.2.2.2.2.2.1 x.2.2.2.2.2.2.1 x.2.2.2.2.2.2.2.1 x.2.2.2.2.2.2.2.2.1 (fun u0 u1 u2 u3 u4 u5 u6 u7 u8 u9 => K .normal (SSh.enc G F17_0x0 (((), ((), (u0, (u1, (u2, ()))))), (((), ((), ((), ((), ((), ()))))), ((u3, ((), ((), ((), ((), ((), ((), ()))))))), (u4, (u5, (u6, (u7, (u8, (u9, ())))))))))))
theorem F17_0_eq (n : Nat) (R : Type) (x : SSh.den G F17_0s) (K : AE → St G → Option R) :
  F17_0 n x.1.2.2.1 x.1.2.2.2.1 x.1.2.2.2.2.1 x.2.2.1.1 x.2.2.2.1 x.2.2.2.2.1 x.2.2.2.2.2.1 x.2.2.2.2.2.2.1 x.2.2.2.2.2.2.2.1 x.2.2.2.2.2.2.2.2.1 (fun u0 u1 u2 u3 u4 u5 u6 u7 u8 u9 => K .normal (SSh.enc G F17_0x0 (((), ((), (u0, (u1, (u2, ()))))), (((), ((), ((), ((), ((), ()))))), ((u3, ((), ((), ((), ((), ((), ((), ()))))))), (u4, (u5, (u6, (u7, (u8, (u9, ()))))))))))) = exec prog G (ro G (tabOf (E12 n)) (frOf []) R) 0 (codeAt F17c [1, 1, 1, 0, 1, 0, 0, 1, 1, 0]) .no (SSh.enc G F17_0s x) (kNrm G (ro G (tabOf (E12 n)) (frOf []) R) 0 ⟨⟨[4, 5, 34, 35, 36], []⟩, ⟨[4], []⟩, [(0, ⟨[4, 5], []⟩)]⟩ K) := by kernel_rfl
theorem F17_0_ok (n : Nat) : FragOK prog G 0 (codeAt F17c [1, 1, 1, 0, 1, 0, 0, 1, 1, 0]) (F17_0z n) :=
  frag_plain laws fnok (E12_ok n).tab (AllF.of (l := []) (by kernel_rfl) AllF.nil) (F17_0_eq n)
noncomputable def F17_1x0 : SSh := ⟨61, [(4, (.ptr 0 0)), (5, (.ptr 1 0))], [(.box 38 (.cons .nil0 (.cons .nil0 (.cons .nil0 (.cons .nil0 (.cons .nil0 .nil)))))), (.box 70 (.cons (.imm 5) (.cons (.ref 2 0) (.cons (.own 3) (.cons (.own 4) (.cons (.own 5) (.cons (.own 6) (.cons (.own 7) .nil)))))))), (.usr 0), (.arr 0 true), (.arr 0 true), (.arr 0 true), (.arr 6 true), (.arr 0 true)]⟩
noncomputable def F17_1s : SSh := ⟨61, [(4, (.ptr 0 0)), (5, (.ptr 1 0)), (34, (.imm 0)), (35, (.int .i64)), (36, (.int .i64))], [(.box 38 (.cons .nil0 (.cons .nil0 (.cons .nil0 (.cons .nil0 (.cons .nil0 .nil)))))), (.box 70 (.cons (.imm 5) (.cons (.ref 2 0) (.cons (.own 3) (.cons (.own 4) (.cons (.own 5) (.cons (.own 6) (.cons (.own 7) .nil)))))))), (.usr 0), (.arr 0 true), (.arr 0 true), (.arr 0 true), (.arr 6 true), (.arr 0 true)]⟩
noncomputable def F17_1_step {R : Type} (n : Nat) (k0 : List (List Stp) → (Nat × (List (Option (List (ByteArray × Int))))) → List Int → List Int → List Int → List ByteArray → List Int → Option R) (rec : List Int → Int → Int → List (List Stp) → (Nat × (List (Option (List (ByteArray × Int))))) → List Int → List Int → List Int → List ByteArray → List Int → Option R) (x848 : List Int) (x849 : Int) (x850 : Int) (x851 : List (List Stp)) (x852 : (Nat × (List (Option (List (ByteArray × Int)))))) (x853 : List Int) (x854 : List Int) (x855 : List Int) (x856 : List ByteArray) (x857 : List Int) : Option R :=
  (bif (decide (x850 < x849)) then
  (F17_0 n x848 x849 x850 x851 x852 x853 x854 x855 x856 x857 (fun z875 z876 z877 z878 z879 z880 z881 z882 z883 z884 =>
  (rec z875 z876 (IntKind.wrap .i64 (z877 + (1 : Int))) z878 z879 z880 z881 z882 z883 z884)))
  else (k0 x851 x852 x853 x854 x855 x856 x857))
noncomputable def F17_1_it {R : Type} (n : Nat) (k0 : List (List Stp) → (Nat × (List (Option (List (ByteArray × Int))))) → List Int → List Int → List Int → List ByteArray → List Int → Option R) : Nat → List Int → Int → Int → List (List Stp) → (Nat × (List (Option (List (ByteArray × Int))))) → List Int → List Int → List Int → List ByteArray → List Int → Option R
  | 0, _, _, _, _, _, _, _, _, _, _ => none
  | k + 1, x848, x849, x850, x851, x852, x853, x854, x855, x856, x857 => F17_1_step n k0 (F17_1_it n k0 k) x848 x849 x850 x851 x852 x853 x854 x855 x856 x857
noncomputable def F17_1 {R : Type} (n : Nat) (x848 : List Int) (x849 : Int) (x850 : Int) (x851 : List (List Stp)) (x852 : (Nat × (List (Option (List (ByteArray × Int)))))) (x853 : List Int) (x854 : List Int) (x855 : List Int) (x856 : List ByteArray) (x857 : List Int) (k0 : List (List Stp) → (Nat × (List (Option (List (ByteArray × Int))))) → List Int → List Int → List Int → List ByteArray → List Int → Option R) : Option R := F17_1_it n k0 n x848 x849 x850 x851 x852 x853 x854 x855 x856 x857
noncomputable def F17_1z (n : Nat) : Sm G := inZ G 0 ⟨[4, 5, 34, 35, 36], []⟩ F17_1s fun R x K => F17_1_it n (fun u0 u1 u2 u3 u4 u5 u6 => K (.exit 0) (SSh.enc G F17_1x0 (((), ((), ())), (((), ((), ((), ((), ((), ()))))), ((u0, ((), ((), ((), ((), ((), ((), ()))))))), (u1, (u2, (u3, (u4, (u5, (u6, ()))))))))))) n x.1.2.2.1 x.1.2.2.2.1 x.1.2.2.2.2.1 x.2.2.1.1 x.2.2.2.1 x.2.2.2.2.1 x.2.2.2.2.2.1 x.2.2.2.2.2.2.1 x.2.2.2.2.2.2.2.1 x.2.2.2.2.2.2.2.2.1
theorem F17_1_eq (n : Nat) (R : Type) (rec : SSh.den G F17_1s → Option R) (x : SSh.den G F17_1s) (K : AE → St G → Option R) :
  F17_1_step n (fun u0 u1 u2 u3 u4 u5 u6 => K (.exit 0) (SSh.enc G F17_1x0 (((), ((), ())), (((), ((), ((), ((), ((), ()))))), ((u0, ((), ((), ((), ((), ((), ((), ()))))))), (u1, (u2, (u3, (u4, (u5, (u6, ()))))))))))) (fun x848 x849 x850 x851 x852 x853 x854 x855 x856 x857 => rec (((), ((), (x848, (x849, (x850, ()))))), (((), ((), ((), ((), ((), ()))))), ((x851, ((), ((), ((), ((), ((), ((), ()))))))), (x852, (x853, (x854, (x855, (x856, (x857, ())))))))))) x.1.2.2.1 x.1.2.2.2.1 x.1.2.2.2.2.1 x.2.2.1.1 x.2.2.2.1 x.2.2.2.2.1 x.2.2.2.2.2.1 x.2.2.2.2.2.2.1 x.2.2.2.2.2.2.2.1 x.2.2.2.2.2.2.2.2.1 = exec prog G (ro G (tabOf (E12 n)) (frOf [F17_0z n]) R) 0 (codeAt F17c [1, 1, 1, 0, 1, 0, 0]) (.nd .no (.nd .no (.nd (.use 0) .no))) (SSh.enc G F17_1s x) (kLoop G (ro G (tabOf (E12 n)) (frOf [F17_0z n]) R) 0 ⟨[4, 5, 34, 35, 36], []⟩ F17_1s ⟨⟨[4, 5], []⟩, ⟨[4], []⟩, [(0, ⟨[4, 5], []⟩)]⟩ rec K) := by kernel_rfl
theorem F17_1_ok (n : Nat) : FragOK prog G 0 (codeAt F17c [1, 1, 1, 0, 1, 0]) (F17_1z n) :=
  frag_loop (Z := fun R k (x : SSh.den G F17_1s) K => F17_1_it n (fun u0 u1 u2 u3 u4 u5 u6 => K (.exit 0) (SSh.enc G F17_1x0 (((), ((), ())), (((), ((), ((), ((), ((), ()))))), ((u0, ((), ((), ((), ((), ((), ((), ()))))))), (u1, (u2, (u3, (u4, (u5, (u6, ()))))))))))) k x.1.2.2.1 x.1.2.2.2.1 x.1.2.2.2.2.1 x.2.2.1.1 x.2.2.2.1 x.2.2.2.2.1 x.2.2.2.2.2.1 x.2.2.2.2.2.2.1 x.2.2.2.2.2.2.2.1 x.2.2.2.2.2.2.2.2.1) laws fnok (E12_ok n).tab (AllF.of (l := [(0, codeAt F17c [1, 1, 1, 0, 1, 0, 0, 1, 1, 0])]) (by kernel_rfl) (AllF.cons (F17_0_ok n) AllF.nil)) (fun _ _ _ => rfl) (fun R k y K => F17_1_eq n R (fun (x : SSh.den G F17_1s) => F17_1_it n (fun u0 u1 u2 u3 u4 u5 u6 => K (.exit 0) (SSh.enc G F17_1x0 (((), ((), ())), (((), ((), ((), ((), ((), ()))))), ((u0, ((), ((), ((), ((), ((), ((), ()))))))), (u1, (u2, (u3, (u4, (u5, (u6, ()))))))))))) k x.1.2.2.1 x.1.2.2.2.1 x.1.2.2.2.2.1 x.2.2.1.1 x.2.2.2.1 x.2.2.2.2.1 x.2.2.2.2.2.1 x.2.2.2.2.2.2.1 x.2.2.2.2.2.2.2.1 x.2.2.2.2.2.2.2.2.1) y K) n
noncomputable def F17 (n : Nat) (a834 : List (List Stp)) (a835 : List Int) : Option ((List Int × (List Int × (List Int × (List ByteArray × (List Int × Unit))))) × Unit) :=
  (andThen (F30 n a834) fun r836 =>
  (bif (!r836.1) then
  some (([], ([], ([], ([], ([], ()))))), ())
  else (bif (decide (((a835.length) : Int) > (60 : Int))) then
  some (([], ([], ([], ([], ([], ()))))), ())
  else (andThen (F39 n a835 ((a834.length) : Int)) fun r841 =>
  (bif (!r841.1) then
  some (([], ([], ([], ([], ([], ()))))), ())
  else let v843 := ((a834.length) : Int)
  (bif (decide ((0 : Int) ≤ v843)) then
  (bif (decide (v843 ≤ v843)) then
  (bif (decide (v843 ≤ ((68719476736 : Nat) : Int))) then
  let v845 := ((a834.length) : Int)
  (bif (decide ((0 : Int) ≤ v845)) then
  (bif (decide (v845 ≤ v845)) then
  (bif (decide (v845 ≤ ((68719476736 : Nat) : Int))) then
  (F17_1 n a835 ((a835.length) : Int) (0 : Int) a834 ((0 : Nat), (List.replicate (v843.toNat) none)) [] [] [] [] (List.replicate (v845.toNat) (0 : Int)) (fun z886 z887 z888 z889 z890 z891 z892 =>
  some ((z888, (z889, (z890, (z891, (z892, ()))))), ())))
  else none)
  else none)
  else none)
  else none)
  else none)
  else none))))))
noncomputable def F17e (n : Nat) : Ent G := ⟨17, (.cons (.imm 5) (.cons (.imm 0) .nil)), [], (.agg (.cons (.imm 0) (.cons (.imm 0) (.cons (.imm 0) (.cons (.imm 6) (.cons (.imm 0) .nil)))))), [], fun x y => F17 n x.1 x.2.1⟩
theorem F17_eq (n : Nat) (x : ShL.den G (.cons (.imm 5) (.cons (.imm 0) .nil))) (y : denO G []) : (F17e n).F x y = runFn prog G (ro G (tabOf (E12 n)) (frOf [F17_0z n, F17_1z n]) _) Go.Proofs.Try.f17 (.nd .no (.nd .no (.nd .no (.nd (.nd .no (.nd (.use 1) .no)) .no)))) [(0, .fz)] (ShL.enc G (.cons (.imm 5) (.cons (.imm 0) .nil)) x) (encO G [] y) (decR (.agg (.cons (.imm 0) (.cons (.imm 0) (.cons (.imm 0) (.cons (.imm 6) (.cons (.imm 0) .nil)))))) []) := by kernel_rfl
theorem F17_ok (n : Nat) : EntOK prog G (F17e n) :=
  ent_ok (fr := frOf [F17_0z n, F17_1z n]) (ann := (.nd .no (.nd .no (.nd .no (.nd (.nd .no (.nd (.use 1) .no)) .no))))) (frm := [(0, .fz)]) laws fnok (E12_ok n).tab (e := F17e n) (fn := Go.Proofs.Try.f17) (by kernel_rfl) (AllF.ofB (cd := F17c) (l := [(1, codeAt F17c [1, 1, 1, 0, 1, 0])]) (by kernel_rfl) (by kernel_rfl) (AllF.cons (F17_1_ok n) AllF.nil)) (F17_eq n)
noncomputable def E13 (n : Nat) : List (Ent G) := F17e n :: E12 n
theorem E13_ok (n : Nat) : AllE prog G (E13 n) := AllE.cons (F17_ok n) (E12_ok n)
-- 24 loop.example/slowworm/spec.validMods
noncomputable def F24c : Code := bodyOf Go.Proofs.Try.f24
noncomputable def F24_0x0 : SSh := ⟨90, [(0, (.imm 5)), (3, (.int .i64)), (4, (.int .i64)), (5, (.ptr 0 0)), (6, (.int .i64)), (7, (.int .i64))], [(.box 48 (.cons (.int .i64) (.cons (.int .i64) (.cons .str .nil))))]⟩
noncomputable def F24_0s : SSh := ⟨90, [(0, (.imm 5)), (3, (.int .i64)), (4, (.int .i64)), (5, (.ptr 0 0)), (6, (.int .i64)), (7, (.int .i64))], [(.box 48 (.cons (.int .i64) (.cons (.int .i64) (.cons .str .nil))))]⟩
noncomputable def F24_0 {R : Type} (n : Nat) (x918 : List (List Stp)) (x919 : Int) (x920 : Int) (x921 : Int) (x922 : Int) (x923 : Int) (x924 : Int) (x925 : ByteArray) (k0 : List (List Stp) → Int → Int → Int → Int → Int → Int → ByteArray → Option R) : Option R :=
  (bif (x923 == (3 : Int)) then
  (k0 x918 x919 x920 x921 (1000000 : Int) x923 x924 x925)
  else (bif (x923 == (5 : Int)) then
  (k0 x918 x919 x920 x921 (1000000 : Int) x923 x924 x925)
  else (k0 x918 x919 x920 x921 x922 x923 x924 x925)))
noncomputable def F24_0z (n : Nat) : Sm G := inZ G 0 ⟨[0, 3, 4, 5, 6, 7], []⟩ F24_0s fun R x K => F24_0 n x.1.1 x.1.2.1 x.1.2.2.1 x.1.2.2.2.2.1 x.1.2.2.2.2.2.1 x.2.1.1 x.2.1.2.1 x.2.1.2.2.1 (fun u0 u1 u2 u3 u4 u5 u6 u7 => K .normal (SSh.enc G F24_0x0 ((u0, (u1, (u2, ((), (u3, (u4, ())))))), ((u5, (u6, (u7, ()))), ()))))
theorem F24_0_eq (n : Nat) (R : Type) (x : SSh.den G F24_0s) (K : AE → St G → Option R) :
  F24_0 n x.1.1 x.1.2.1 x.1.2.2.1 x.1.2.2.2.2.1 x.1.2.2.2.2.2.1 x.2.1.1 x.2.1.2.1 x.2.1.2.2.1 (fun u0 u1 u2 u3 u4 u5 u6 u7 => K .normal (SSh.enc G F24_0x0 ((u0, (u1, (u2, ((), (u3, (u4, ())))))), ((u5, (u6, (u7, ()))), ())))) = exec prog G (ro G (tabOf (E13 n)) (frOf []) R) 0 (codeAt F24c [1, 0, 1, 0, 0, 1, 0, 0, 0, 1, 0, 0, 1, 0, 0, 1, 1, 1, 0]) .no (SSh.enc G F24_0s x) (kNrm G (ro G (tabOf (E13 n)) (frOf []) R) 0 ⟨⟨[0, 3, 4, 5, 6, 7], []⟩, ⟨[2], []⟩, [(3, ⟨[0, 3, 4], []⟩), (2, ⟨[0, 3], []⟩), (1, ⟨[0, 3], []⟩), (0, ⟨[0], []⟩)]⟩ K) := by kernel_rfl
theorem F24_0_ok (n : Nat) : FragOK prog G 0 (codeAt F24c [1, 0, 1, 0, 0, 1, 0, 0, 0, 1, 0, 0, 1, 0, 0, 1, 1, 1, 0]) (F24_0z n) :=
  frag_plain laws fnok (E13_ok n).tab (AllF.of (l := []) (by kernel_rfl) AllF.nil) (F24_0_eq n)
-- 25 loop.example/slowworm/spec.inRange
noncomputable def F25c : Code := bodyOf Go.Proofs.Try.f25
noncomputable def F25 (n : Nat) (a937 : Int) (a938 : Int) (a939 : Int) : Option (Bool × Unit) :=
  (bif (decide (a937 ≥ a938)) then
  some ((decide (a937 ≤ a939)), ())
  else some (false, ()))
noncomputable def F25e (n : Nat) : Ent G := ⟨25, (.cons (.int .i64) (.cons (.int .i64) (.cons (.int .i64) .nil))), [], .bool, [], fun x y => F25 n x.1 x.2.1 x.2.2.1⟩
theorem F25_eq (n : Nat) (x : ShL.den G (.cons (.int .i64) (.cons (.int .i64) (.cons (.int .i64) .nil)))) (y : denO G []) : (F25e n).F x y = runFn prog G (ro G (tabOf (E13 n)) (frOf []) _) Go.Proofs.Try.f25 .no [(0, .fz)] (ShL.enc G (.cons (.int .i64) (.cons (.int .i64) (.cons (.int .i64) .nil))) x) (encO G [] y) (decR .bool []) := by kernel_rfl
theorem F25_ok (n : Nat) : EntOK prog G (F25e n) :=
  ent_ok (fr := frOf []) (ann := .no) (frm := [(0, .fz)]) laws fnok (E13_ok n).tab (e := F25e n) (fn := Go.Proofs.Try.f25) (by kernel_rfl) (AllF.ofB (cd := F25c) (l := []) (by kernel_rfl) (by kernel_rfl) AllF.nil) (F25_eq n)
noncomputable def E14 (n : Nat) : List (Ent G) := F25e n :: E13 n
theorem E14_ok (n : Nat) : AllE prog G (E14 n) := AllE.cons (F25_ok n) (E13_ok n)
-- 47 loop.example/slowworm/spec.validName
noncomputable def F47c : Code := bodyOf Go.Proofs.Try.f47
-- 62 loop.example/slowworm/spec.letter
noncomputable def F62c : Code := bodyOf Go.Proofs.Try.f62
noncomputable def F62 (n : Nat) (a954 : Int) : Option (Bool × Unit) :=
  (bif (decide (a954 ≥ (97 : Int))) then
  (bif (decide (a954 ≤ (122 : Int))) then
  some (true, ())
  else (bif (decide (a954 ≥ (65 : Int))) then
  (bif (decide (a954 ≤ (90 : Int))) then
  some (true, ())
  else some ((a954 == (95 : Int)), ()))
  else some ((a954 == (95 : Int)), ())))
  else (bif (decide (a954 ≥ (65 : Int))) then
  (bif (decide (a954 ≤ (90 : Int))) then
  some (true, ())
  else some ((a954 == (95 : Int)), ()))
  else some ((a954 == (95 : Int)), ())))
noncomputable def F62e (n : Nat) : Ent G := ⟨62, (.cons (.int .u8) .nil), [], .bool, [], fun x y => F62 n x.1⟩
theorem F62_eq (n : Nat) (x : ShL.den G (.cons (.int .u8) .nil)) (y : denO G []) : (F62e n).F x y = runFn prog G (ro G (tabOf (E14 n)) (frOf []) _) Go.Proofs.Try.f62 .no [(0, .fz)] (ShL.enc G (.cons (.int .u8) .nil) x) (encO G [] y) (decR .bool []) := by kernel_rfl
theorem F62_ok (n : Nat) : EntOK prog G (F62e n) :=
  ent_ok (fr := frOf []) (ann := .no) (frm := [(0, .fz)]) laws fnok (E14_ok n).tab (e := F62e n) (fn := Go.Proofs.Try.f62) (by kernel_rfl) (AllF.ofB (cd := F62c) (l := []) (by kernel_rfl) (by kernel_rfl) AllF.nil) (F62_eq n)
noncomputable def E15 (n : Nat) : List (Ent G) := F62e n :: E14 n
theorem E15_ok (n : Nat) : AllE prog G (E15 n) := AllE.cons (F62_ok n) (E14_ok n)
-- 63 loop.example/slowworm/spec.digit
noncomputable def F63c : Code := bodyOf Go.Proofs.Try.f63
noncomputable def F63 (n : Nat) (a969 : Int) : Option (Bool × Unit) :=
  (bif (decide (a969 ≥ (48 : Int))) then
  some ((decide (a969 ≤ (57 : Int))), ())
  else some (false, ()))
noncomputable def F63e (n : Nat) : Ent G := ⟨63, (.cons (.int .u8) .nil), [], .bool, [], fun x y => F63 n x.1⟩
theorem F63_eq (n : Nat) (x : ShL.den G (.cons (.int .u8) .nil)) (y : denO G []) : (F63e n).F x y = runFn prog G (ro G (tabOf (E15 n)) (frOf []) _) Go.Proofs.Try.f63 .no [(0, .fz)] (ShL.enc G (.cons (.int .u8) .nil) x) (encO G [] y) (decR .bool []) := by kernel_rfl
theorem F63_ok (n : Nat) : EntOK prog G (F63e n) :=
  ent_ok (fr := frOf []) (ann := .no) (frm := [(0, .fz)]) laws fnok (E15_ok n).tab (e := F63e n) (fn := Go.Proofs.Try.f63) (by kernel_rfl) (AllF.ofB (cd := F63c) (l := []) (by kernel_rfl) (by kernel_rfl) AllF.nil) (F63_eq n)
noncomputable def E16 (n : Nat) : List (Ent G) := F63e n :: E15 n
theorem E16_ok (n : Nat) : AllE prog G (E16 n) := AllE.cons (F63_ok n) (E15_ok n)
noncomputable def F47_0x0 : SSh := ⟨34, [(2, .bool)], []⟩
noncomputable def F47_0x1 : SSh := ⟨34, [(0, .str)], []⟩
noncomputable def F47_0s : SSh := ⟨34, [(0, .str), (3, (.int .i64))], []⟩
noncomputable def F47_0_step {R : Type} (n : Nat) (k0 : Bool → Option R) (k1 : ByteArray → Option R) (rec : ByteArray → Int → Option R) (x949 : ByteArray) (x950 : Int) : Option R :=
  (bif (decide (x950 < ((x949.size) : Int))) then
  (bif (decide ((0 : Int) ≤ x950)) then
  (bif (decide (x950 < ((x949.size) : Int))) then
  (andThen (F62 n (strOf x949 (x950.toNat))) fun r965 =>
  (bif (!r965.1) then
  (bif (x950 == (0 : Int)) then
  (k0 false)
  else (bif (decide ((0 : Int) ≤ x950)) then
  (bif (decide (x950 < ((x949.size) : Int))) then
  (andThen (F63 n (strOf x949 (x950.toNat))) fun r972 =>
  (bif (!r972.1) then
  (k0 false)
  else (rec x949 (IntKind.wrap .i64 (x950 + (1 : Int))))))
  else none)
  else none))
  else (rec x949 (IntKind.wrap .i64 (x950 + (1 : Int))))))
  else none)
  else none)
  else (k1 x949))
noncomputable def F47_0_it {R : Type} (n : Nat) (k0 : Bool → Option R) (k1 : ByteArray → Option R) : Nat → ByteArray → Int → Option R
  | 0, _, _ => none
  | k + 1, x949, x950 => F47_0_step n k0 k1 (F47_0_it n k0 k1 k) x949 x950
noncomputable def F47_0 {R : Type} (n : Nat) (x949 : ByteArray) (x950 : Int) (k0 : Bool → Option R) (k1 : ByteArray → Option R) : Option R := F47_0_it n k0 k1 n x949 x950
noncomputable def F47_0z (n : Nat) : Sm G := inZ G 0 ⟨[0, 3], []⟩ F47_0s fun R x K => F47_0_it n (fun u0 => K .ret (SSh.enc G F47_0x0 ((u0, ()), ()))) (fun u0 => K (.exit 0) (SSh.enc G F47_0x1 ((u0, ()), ()))) n x.1.1 x.1.2.1
theorem F47_0_eq (n : Nat) (R : Type) (rec : SSh.den G F47_0s → Option R) (x : SSh.den G F47_0s) (K : AE → St G → Option R) :
  F47_0_step n (fun u0 => K .ret (SSh.enc G F47_0x0 ((u0, ()), ()))) (fun u0 => K (.exit 0) (SSh.enc G F47_0x1 ((u0, ()), ()))) (fun x949 x950 => rec ((x949, (x950, ())), ())) x.1.1 x.1.2.1 = exec prog G (ro G (tabOf (E16 n)) (frOf []) R) 0 (codeAt F47c [1, 0, 1, 0, 0]) .no (SSh.enc G F47_0s x) (kLoop G (ro G (tabOf (E16 n)) (frOf []) R) 0 ⟨[0, 3], []⟩ F47_0s ⟨⟨[0], []⟩, ⟨[2], []⟩, [(0, ⟨[0], []⟩)]⟩ rec K) := by kernel_rfl
theorem F47_0_ok (n : Nat) : FragOK prog G 0 (codeAt F47c [1, 0, 1, 0]) (F47_0z n) :=
  frag_loop (Z := fun R k (x : SSh.den G F47_0s) K => F47_0_it n (fun u0 => K .ret (SSh.enc G F47_0x0 ((u0, ()), ()))) (fun u0 => K (.exit 0) (SSh.enc G F47_0x1 ((u0, ()), ()))) k x.1.1 x.1.2.1) laws fnok (E16_ok n).tab (AllF.of (l := []) (by kernel_rfl) AllF.nil) (fun _ _ _ => rfl) (fun R k y K => F47_0_eq n R (fun (x : SSh.den G F47_0s) => F47_0_it n (fun u0 => K .ret (SSh.enc G F47_0x0 ((u0, ()), ()))) (fun u0 => K (.exit 0) (SSh.enc G F47_0x1 ((u0, ()), ()))) k x.1.1 x.1.2.1) y K) n
-- 64 loop.example/slowworm/spec.isKeyword
noncomputable def F64c : Code := bodyOf Go.Proofs.Try.f64
-- 74 loop.example/slowworm/spec.keywords
noncomputable def F74c : Code := bodyOf Go.Proofs.Try.f74
noncomputable def F74 (n : Nat)  : Option (List ByteArray × Unit) :=
  some ((({ data := #[78, 111, 110, 101] } : ByteArray) :: (({ data := #[84, 114, 117, 101] } : ByteArray) :: (({ data := #[70, 97, 108, 115, 101] } : ByteArray) :: (({ data := #[97, 110, 100] } : ByteArray) :: (({ data := #[111, 114] } : ByteArray) :: (({ data := #[110, 111, 116] } : ByteArray) :: (({ data := #[105, 110] } : ByteArray) :: (({ data := #[105, 115] } : ByteArray) :: (({ data := #[105, 102] } : ByteArray) :: (({ data := #[101, 108, 105, 102] } : ByteArray) :: (({ data := #[101, 108, 115, 101] } : ByteArray) :: (({ data := #[119, 104, 105, 108, 101] } : ByteArray) :: (({ data := #[102, 111, 114] } : ByteArray) :: (({ data := #[98, 114, 101, 97, 107] } : ByteArray) :: (({ data := #[99, 111, 110, 116, 105, 110, 117, 101] } : ByteArray) :: (({ data := #[112, 97, 115, 115] } : ByteArray) :: (({ data := #[100, 101, 102] } : ByteArray) :: (({ data := #[114, 101, 116, 117, 114, 110] } : ByteArray) :: (({ data := #[108, 97, 109, 98, 100, 97] } : ByteArray) :: (({ data := #[99, 108, 97, 115, 115] } : ByteArray) :: (({ data := #[116, 114, 121] } : ByteArray) :: (({ data := #[101, 120, 99, 101, 112, 116] } : ByteArray) :: (({ data := #[102, 105, 110, 97, 108, 108, 121] } : ByteArray) :: (({ data := #[114, 97, 105, 115, 101] } : ByteArray) :: (({ data := #[97, 115] } : ByteArray) :: (({ data := #[103, 108, 111, 98, 97, 108] } : ByteArray) :: (({ data := #[110, 111, 110, 108, 111, 99, 97, 108] } : ByteArray) :: (({ data := #[121, 105, 101, 108, 100] } : ByteArray) :: (({ data := #[105, 109, 112, 111, 114, 116] } : ByteArray) :: (({ data := #[100, 101, 108] } : ByteArray) :: (({ data := #[97, 115, 115, 101, 114, 116] } : ByteArray) :: []))))))))))))))))))))))))))))))), ())
noncomputable def F74e (n : Nat) : Ent G := ⟨74, .nil, [], (.imm 6), [], fun x y => F74 n⟩
theorem F74_eq (n : Nat) (x : ShL.den G .nil) (y : denO G []) : (F74e n).F x y = runFn prog G (ro G (tabOf (E16 n)) (frOf []) _) Go.Proofs.Try.f74 .no [(0, .fz)] (ShL.enc G .nil x) (encO G [] y) (decR (.imm 6) []) := by kernel_rfl
theorem F74_ok (n : Nat) : EntOK prog G (F74e n) :=
  ent_ok (fr := frOf []) (ann := .no) (frm := [(0, .fz)]) laws fnok (E16_ok n).tab (e := F74e n) (fn := Go.Proofs.Try.f74) (by kernel_rfl) (AllF.ofB (cd := F74c) (l := []) (by kernel_rfl) (by kernel_rfl) AllF.nil) (F74_eq n)
noncomputable def E17 (n : Nat) : List (Ent G) := F74e n :: E16 n
theorem E17_ok (n : Nat) : AllE prog G (E17 n) := AllE.cons (F74_ok n) (E16_ok n)
-- 73 loop.example/slowworm/spec.isOne
noncomputable def F73c : Code := bodyOf Go.Proofs.Try.f73
noncomputable def F73_0x0 : SSh := ⟨18, [(4, .bool)], []⟩
noncomputable def F73_0x1 : SSh := ⟨18, [], []⟩
noncomputable def F73_0s : SSh := ⟨18, [(0, (.imm 6)), (1, .str), (5, (.int .i64))], []⟩
noncomputable def F73_0_step {R : Type} (n : Nat) (k0 : Bool → Option R) (k1 : Option R) (rec : List ByteArray → ByteArray → Int → Option R) (x985 : List ByteArray) (x986 : ByteArray) (x987 : Int) : Option R :=
  (bif (decide (x987 < ((x985.length) : Int))) then
  (bif (decide ((0 : Int) ≤ x987)) then
  (bif (decide (x987 < ((x985.length) : Int))) then
  (bif (((x985.getD (x987.toNat) ({ data := #[] } : ByteArray)).toList) == (x986.toList)) then
  (k0 true)
  else (rec x985 x986 (IntKind.wrap .i64 (x987 + (1 : Int)))))
  else none)
  else none)
  else k1)
noncomputable def F73_0_it {R : Type} (n : Nat) (k0 : Bool → Option R) (k1 : Option R) : Nat → List ByteArray → ByteArray → Int → Option R
  | 0, _, _, _ => none
  | k + 1, x985, x986, x987 => F73_0_step n k0 k1 (F73_0_it n k0 k1 k) x985 x986 x987
noncomputable def F73_0 {R : Type} (n : Nat) (x985 : List ByteArray) (x986 : ByteArray) (x987 : Int) (k0 : Bool → Option R) (k1 : Option R) : Option R := F73_0_it n k0 k1 n x985 x986 x987
noncomputable def F73_0z (n : Nat) : Sm G := inZ G 0 ⟨[0, 1, 5], []⟩ F73_0s fun R x K => F73_0_it n (fun u0 => K .ret (SSh.enc G F73_0x0 ((u0, ()), ()))) (K (.exit 0) (SSh.enc G F73_0x1 ((), ()))) n x.1.1 x.1.2.1 x.1.2.2.1
theorem F73_0_eq (n : Nat) (R : Type) (rec : SSh.den G F73_0s → Option R) (x : SSh.den G F73_0s) (K : AE → St G → Option R) :
  F73_0_step n (fun u0 => K .ret (SSh.enc G F73_0x0 ((u0, ()), ()))) (K (.exit 0) (SSh.enc G F73_0x1 ((), ()))) (fun x985 x986 x987 => rec ((x985, (x986, (x987, ()))), ())) x.1.1 x.1.2.1 x.1.2.2.1 = exec prog G (ro G (tabOf (E17 n)) (frOf []) R) 0 (codeAt F73c [1, 0, 1, 0, 0]) .no (SSh.enc G F73_0s x) (kLoop G (ro G (tabOf (E17 n)) (frOf []) R) 0 ⟨[0, 1, 5], []⟩ F73_0s ⟨⟨[], []⟩, ⟨[4], []⟩, [(0, ⟨[], []⟩)]⟩ rec K) := by kernel_rfl
theorem F73_0_ok (n : Nat) : FragOK prog G 0 (codeAt F73c [1, 0, 1, 0]) (F73_0z n) :=
  frag_loop (Z := fun R k (x : SSh.den G F73_0s) K => F73_0_it n (fun u0 => K .ret (SSh.enc G F73_0x0 ((u0, ()), ()))) (K (.exit 0) (SSh.enc G F73_0x1 ((), ()))) k x.1.1 x.1.2.1 x.1.2.2.1) laws fnok (E17_ok n).tab (AllF.of (l := []) (by kernel_rfl) AllF.nil) (fun _ _ _ => rfl) (fun R k y K => F73_0_eq n R (fun (x : SSh.den G F73_0s) => F73_0_it n (fun u0 => K .ret (SSh.enc G F73_0x0 ((u0, ()), ()))) (K (.exit 0) (SSh.enc G F73_0x1 ((), ()))) k x.1.1 x.1.2.1 x.1.2.2.1) y K) n
noncomputable def F73 (n : Nat) (a983 : List ByteArray) (a984 : ByteArray) : Option (Bool × Unit) :=
  (F73_0 n a983 a984 (0 : Int) (fun z994 =>
  some (z994, ())) (
  some (false, ())))
noncomputable def F73e (n : Nat) : Ent G := ⟨73, (.cons (.imm 6) (.cons .str .nil)), [], .bool, [], fun x y => F73 n x.1 x.2.1⟩
theorem F73_eq (n : Nat) (x : ShL.den G (.cons (.imm 6) (.cons .str .nil))) (y : denO G []) : (F73e n).F x y = runFn prog G (ro G (tabOf (E17 n)) (frOf [F73_0z n]) _) Go.Proofs.Try.f73 (.nd .no (.nd (.nd .no (.nd (.use 0) .no)) .no)) [(0, .fz)] (ShL.enc G (.cons (.imm 6) (.cons .str .nil)) x) (encO G [] y) (decR .bool []) := by kernel_rfl
theorem F73_ok (n : Nat) : EntOK prog G (F73e n) :=
  ent_ok (fr := frOf [F73_0z n]) (ann := (.nd .no (.nd (.nd .no (.nd (.use 0) .no)) .no))) (frm := [(0, .fz)]) laws fnok (E17_ok n).tab (e := F73e n) (fn := Go.Proofs.Try.f73) (by kernel_rfl) (AllF.ofB (cd := F73c) (l := [(0, codeAt F73c [1, 0, 1, 0])]) (by kernel_rfl) (by kernel_rfl) (AllF.cons (F73_0_ok n) AllF.nil)) (F73_eq n)
noncomputable def E18 (n : Nat) : List (Ent G) := F73e n :: E17 n
theorem E18_ok (n : Nat) : AllE prog G (E18 n) := AllE.cons (F73_ok n) (E17_ok n)
noncomputable def F64 (n : Nat) (a980 : ByteArray) : Option (Bool × Unit) :=
  (andThen (F74 n) fun r982 =>
  (andThen (F73 n r982.1 a980) fun r995 =>
  some (r995.1, ())))
noncomputable def F64e (n : Nat) : Ent G := ⟨64, (.cons .str .nil), [], .bool, [], fun x y => F64 n x.1⟩
theorem F64_eq (n : Nat) (x : ShL.den G (.cons .str .nil)) (y : denO G []) : (F64e n).F x y = runFn prog G (ro G (tabOf (E18 n)) (frOf []) _) Go.Proofs.Try.f64 .no [(0, .fz)] (ShL.enc G (.cons .str .nil) x) (encO G [] y) (decR .bool []) := by kernel_rfl
theorem F64_ok (n : Nat) : EntOK prog G (F64e n) :=
  ent_ok (fr := frOf []) (ann := .no) (frm := [(0, .fz)]) laws fnok (E18_ok n).tab (e := F64e n) (fn := Go.Proofs.Try.f64) (by kernel_rfl) (AllF.ofB (cd := F64c) (l := []) (by kernel_rfl) (by kernel_rfl) AllF.nil) (F64_eq n)
noncomputable def E19 (n : Nat) : List (Ent G) := F64e n :: E18 n
theorem E19_ok (n : Nat) : AllE prog G (E19 n) := AllE.cons (F64_ok n) (E18_ok n)
noncomputable def F47 (n : Nat) (a948 : ByteArray) : Option (Bool × Unit) :=
  (F47_0 n a948 (0 : Int) (fun z976 =>
  some (z976, ())) (fun z977 =>
  (andThen (F25 n ((z977.size) : Int) (1 : Int) (12 : Int)) fun r979 =>
  (bif r979.1 then
  (andThen (F64 n z977) fun r996 =>
  some ((!r996.1), ()))
  else some (false, ())))))
noncomputable def F47e (n : Nat) : Ent G := ⟨47, (.cons .str .nil), [], .bool, [], fun x y => F47 n x.1⟩
theorem F47_eq (n : Nat) (x : ShL.den G (.cons .str .nil)) (y : denO G []) : (F47e n).F x y = runFn prog G (ro G (tabOf (E19 n)) (frOf [F47_0z n]) _) Go.Proofs.Try.f47 (.nd .no (.nd (.nd .no (.nd (.use 0) .no)) .no)) [(0, .fz)] (ShL.enc G (.cons .str .nil) x) (encO G [] y) (decR .bool []) := by kernel_rfl
theorem F47_ok (n : Nat) : EntOK prog G (F47e n) :=
  ent_ok (fr := frOf [F47_0z n]) (ann := (.nd .no (.nd (.nd .no (.nd (.use 0) .no)) .no))) (frm := [(0, .fz)]) laws fnok (E19_ok n).tab (e := F47e n) (fn := Go.Proofs.Try.f47) (by kernel_rfl) (AllF.ofB (cd := F47c) (l := [(0, codeAt F47c [1, 0, 1, 0])]) (by kernel_rfl) (by kernel_rfl) (AllF.cons (F47_0_ok n) AllF.nil)) (F47_eq n)
noncomputable def E20 (n : Nat) : List (Ent G) := F47e n :: E19 n
theorem E20_ok (n : Nat) : AllE prog G (E20 n) := AllE.cons (F47_ok n) (E19_ok n)
noncomputable def F24_1x0 : SSh := ⟨90, [(2, .bool)], []⟩
noncomputable def F24_1x1 : SSh := ⟨90, [(0, (.imm 5)), (3, (.int .i64)), (4, (.int .i64))], []⟩
noncomputable def F24_1s : SSh := ⟨90, [(0, (.imm 5)), (3, (.int .i64)), (4, (.int .i64))], []⟩
noncomputable def F24_1 {R : Type} (n : Nat) (x907 : List (List Stp)) (x908 : Int) (x909 : Int) (k0 : Bool → Option R) (k1 : List (List Stp) → Int → Int → Option R) : Option R :=
  (bif (decide ((0 : Int) ≤ x908)) then
  (bif (decide (x908 < ((x907.length) : Int))) then
  let v911 := (x907.getD (x908.toNat) [])
  (bif (decide ((0 : Int) ≤ x909)) then
  (bif (decide (x909 < ((v911.length) : Int))) then
  let v912 := (v911.getD (x909.toNat) (Stp.mk (0 : Int) (0 : Int) ({ data := #[] } : ByteArray)))
  (F24_0 n x907 x908 x909 (0 : Int) (IntKind.wrap .i64 (((x907.length) : Int) - (1 : Int))) v912.kind v912.num v912.name (fun z928 z929 z930 z931 z932 z933 z934 z935 =>
  (bif (z933 == (3 : Int)) then
  (andThen (F25 n z933 (1 : Int) (5 : Int)) fun r942 =>
  (bif (!r942.1) then
  (k0 false)
  else (andThen (F25 n z934 z931 z932) fun r944 =>
  (bif (!r944.1) then
  (k0 false)
  else (bif (!(true == (!((z935.toList) == (({ data := #[] } : ByteArray).toList))))) then
  (k0 false)
  else (andThen (F47 n z935) fun r998 =>
  (bif (!r998.1) then
  (k0 false)
  else (k1 z928 z929 z930))))))))
  else let v1000 := (z933 == (4 : Int))
  (andThen (F25 n z933 (1 : Int) (5 : Int)) fun r1001 =>
  (bif (!r1001.1) then
  (k0 false)
  else (andThen (F25 n z934 z931 z932) fun r1003 =>
  (bif (!r1003.1) then
  (k0 false)
  else (bif (!(v1000 == (!((z935.toList) == (({ data := #[] } : ByteArray).toList))))) then
  (k0 false)
  else (bif v1000 then
  (andThen (F47 n z935) fun r1007 =>
  (bif (!r1007.1) then
  (k0 false)
  else (k1 z928 z929 z930)))
  else (k1 z928 z929 z930))))))))))
  else none)
  else none)
  else none)
  else none)
noncomputable def F24_1z (n : Nat) : Sm G := inZ G 0 ⟨[0, 3, 4], []⟩ F24_1s fun R x K => F24_1 n x.1.1 x.1.2.1 x.1.2.2.1 (fun u0 => K .ret (SSh.enc G F24_1x0 ((u0, ()), ()))) (fun u0 u1 u2 => K .normal (SSh.enc G F24_1x1 ((u0, (u1, (u2, ()))), ())))
theorem F24_1_eq (n : Nat) (R : Type) (x : SSh.den G F24_1s) (K : AE → St G → Option R) :
  F24_1 n x.1.1 x.1.2.1 x.1.2.2.1 (fun u0 => K .ret (SSh.enc G F24_1x0 ((u0, ()), ()))) (fun u0 u1 u2 => K .normal (SSh.enc G F24_1x1 ((u0, (u1, (u2, ()))), ()))) = exec prog G (ro G (tabOf (E20 n)) (frOf [F24_0z n]) R) 0 (codeAt F24c [1, 0, 1, 0, 0, 1, 0, 0, 0, 1, 0, 0, 1, 0]) (.nd (.nd .no (.nd .no (.nd .no (.nd (.use 0) .no)))) .no) (SSh.enc G F24_1s x) (kNrm G (ro G (tabOf (E20 n)) (frOf [F24_0z n]) R) 0 ⟨⟨[0, 3, 4], []⟩, ⟨[2], []⟩, [(2, ⟨[0, 3], []⟩), (1, ⟨[0, 3], []⟩), (0, ⟨[0], []⟩)]⟩ K) := by kernel_rfl
theorem F24_1_ok (n : Nat) : FragOK prog G 0 (codeAt F24c [1, 0, 1, 0, 0, 1, 0, 0, 0, 1, 0, 0, 1, 0]) (F24_1z n) :=
  frag_plain laws fnok (E20_ok n).tab (AllF.of (l := [(0, codeAt F24c [1, 0, 1, 0, 0, 1, 0, 0, 0, 1, 0, 0, 1, 0, 0, 1, 1, 1, 0])]) (by kernel_rfl) (AllF.cons (F24_0_ok n) AllF.nil)) (F24_1_eq n)
noncomputable def F24_2x0 : SSh := ⟨90, [(2, .bool)], []⟩
noncomputable def F24_2x1 : SSh := ⟨90, [(0, (.imm 5)), (3, (.int .i64))], []⟩
noncomputable def F24_2s : SSh := ⟨90, [(0, (.imm 5)), (3, (.int .i64)), (4, (.int .i64))], []⟩
noncomputable def F24_2_step {R : Type} (n : Nat) (k0 : Bool → Option R) (k1 : List (List Stp) → Int → Option R) (rec : List (List Stp) → Int → Int → Option R) (x900 : List (List Stp)) (x901 : Int) (x902 : Int) : Option R :=
  (bif (decide ((0 : Int) ≤ x901)) then
  (bif (decide (x901 < ((x900.length) : Int))) then
  (bif (decide (x902 < (((x900.getD (x901.toNat) []).length) : Int))) then
  (F24_1 n x900 x901 x902 (fun z1009 =>
  (k0 z1009)) (fun z1010 z1011 z1012 =>
  (rec z1010 z1011 (IntKind.wrap .i64 (z1012 + (1 : Int))))))
  else (k1 x900 x901))
  else none)
  else none)
noncomputable def F24_2_it {R : Type} (n : Nat) (k0 : Bool → Option R) (k1 : List (List Stp) → Int → Option R) : Nat → List (List Stp) → Int → Int → Option R
  | 0, _, _, _ => none
  | k + 1, x900, x901, x902 => F24_2_step n k0 k1 (F24_2_it n k0 k1 k) x900 x901 x902
noncomputable def F24_2 {R : Type} (n : Nat) (x900 : List (List Stp)) (x901 : Int) (x902 : Int) (k0 : Bool → Option R) (k1 : List (List Stp) → Int → Option R) : Option R := F24_2_it n k0 k1 n x900 x901 x902
noncomputable def F24_2z (n : Nat) : Sm G := inZ G 0 ⟨[0, 3, 4], []⟩ F24_2s fun R x K => F24_2_it n (fun u0 => K .ret (SSh.enc G F24_2x0 ((u0, ()), ()))) (fun u0 u1 => K (.exit 2) (SSh.enc G F24_2x1 ((u0, (u1, ())), ()))) n x.1.1 x.1.2.1 x.1.2.2.1
theorem F24_2_eq (n : Nat) (R : Type) (rec : SSh.den G F24_2s → Option R) (x : SSh.den G F24_2s) (K : AE → St G → Option R) :
  F24_2_step n (fun u0 => K .ret (SSh.enc G F24_2x0 ((u0, ()), ()))) (fun u0 u1 => K (.exit 2) (SSh.enc G F24_2x1 ((u0, (u1, ())), ()))) (fun x900 x901 x902 => rec ((x900, (x901, (x902, ()))), ())) x.1.1 x.1.2.1 x.1.2.2.1 = exec prog G (ro G (tabOf (E20 n)) (frOf [F24_0z n, F24_1z n]) R) 0 (codeAt F24c [1, 0, 1, 0, 0, 1, 0, 0, 0, 1, 0, 0]) (.nd .no (.nd (.use 1) .no)) (SSh.enc G F24_2s x) (kLoop G (ro G (tabOf (E20 n)) (frOf [F24_0z n, F24_1z n]) R) 0 ⟨[0, 3, 4], []⟩ F24_2s ⟨⟨[0, 3], []⟩, ⟨[2], []⟩, [(2, ⟨[0, 3], []⟩), (1, ⟨[0, 3], []⟩), (0, ⟨[0], []⟩)]⟩ rec K) := by kernel_rfl
theorem F24_2_ok (n : Nat) : FragOK prog G 0 (codeAt F24c [1, 0, 1, 0, 0, 1, 0, 0, 0, 1, 0]) (F24_2z n) :=
  frag_loop (Z := fun R k (x : SSh.den G F24_2s) K => F24_2_it n (fun u0 => K .ret (SSh.enc G F24_2x0 ((u0, ()), ()))) (fun u0 u1 => K (.exit 2) (SSh.enc G F24_2x1 ((u0, (u1, ())), ()))) k x.1.1 x.1.2.1 x.1.2.2.1) laws fnok (E20_ok n).tab (AllF.of (l := [(1, codeAt F24c [1, 0, 1, 0, 0, 1, 0, 0, 0, 1, 0, 0, 1, 0])]) (by kernel_rfl) (AllF.cons (F24_1_ok n) AllF.nil)) (fun _ _ _ => rfl) (fun R k y K => F24_2_eq n R (fun (x : SSh.den G F24_2s) => F24_2_it n (fun u0 => K .ret (SSh.enc G F24_2x0 ((u0, ()), ()))) (fun u0 u1 => K (.exit 2) (SSh.enc G F24_2x1 ((u0, (u1, ())), ()))) k x.1.1 x.1.2.1 x.1.2.2.1) y K) n
noncomputable def F24_3x0 : SSh := ⟨90, [(2, .bool)], []⟩
noncomputable def F24_3x1 : SSh := ⟨90, [(0, (.imm 5))], []⟩
noncomputable def F24_3s : SSh := ⟨90, [(0, (.imm 5)), (3, (.int .i64))], []⟩
noncomputable def F24_3_step {R : Type} (n : Nat) (k0 : Bool → Option R) (k1 : List (List Stp) → Option R) (rec : List (List Stp) → Int → Option R) (x896 : List (List Stp)) (x897 : Int) : Option R :=
  (bif (decide (x897 < ((x896.length) : Int))) then
  (F24_2 n x896 x897 (0 : Int) (fun z1014 =>
  (k0 z1014)) (fun z1015 z1016 =>
  (bif (decide ((0 : Int) ≤ z1016)) then
  (bif (decide (z1016 < ((z1015.length) : Int))) then
  (bif (decide ((((z1015.getD (z1016.toNat) []).length) : Int) > (8 : Int))) then
  (k0 false)
  else (rec z1015 (IntKind.wrap .i64 (z1016 + (1 : Int)))))
  else none)
  else none)))
  else (k1 x896))
noncomputable def F24_3_it {R : Type} (n : Nat) (k0 : Bool → Option R) (k1 : List (List Stp) → Option R) : Nat → List (List Stp) → Int → Option R
  | 0, _, _ => none
  | k + 1, x896, x897 => F24_3_step n k0 k1 (F24_3_it n k0 k1 k) x896 x897
noncomputable def F24_3 {R : Type} (n : Nat) (x896 : List (List Stp)) (x897 : Int) (k0 : Bool → Option R) (k1 : List (List Stp) → Option R) : Option R := F24_3_it n k0 k1 n x896 x897
noncomputable def F24_3z (n : Nat) : Sm G := inZ G 0 ⟨[0, 3], []⟩ F24_3s fun R x K => F24_3_it n (fun u0 => K .ret (SSh.enc G F24_3x0 ((u0, ()), ()))) (fun u0 => K (.exit 0) (SSh.enc G F24_3x1 ((u0, ()), ()))) n x.1.1 x.1.2.1
theorem F24_3_eq (n : Nat) (R : Type) (rec : SSh.den G F24_3s → Option R) (x : SSh.den G F24_3s) (K : AE → St G → Option R) :
  F24_3_step n (fun u0 => K .ret (SSh.enc G F24_3x0 ((u0, ()), ()))) (fun u0 => K (.exit 0) (SSh.enc G F24_3x1 ((u0, ()), ()))) (fun x896 x897 => rec ((x896, (x897, ())), ())) x.1.1 x.1.2.1 = exec prog G (ro G (tabOf (E20 n)) (frOf [F24_0z n, F24_1z n, F24_2z n]) R) 0 (codeAt F24c [1, 0, 1, 0, 0]) (.nd .no (.nd (.nd (.nd (.nd .no (.nd (.use 2) .no)) .no) .no) .no)) (SSh.enc G F24_3s x) (kLoop G (ro G (tabOf (E20 n)) (frOf [F24_0z n, F24_1z n, F24_2z n]) R) 0 ⟨[0, 3], []⟩ F24_3s ⟨⟨[0], []⟩, ⟨[2], []⟩, [(0, ⟨[0], []⟩)]⟩ rec K) := by kernel_rfl
theorem F24_3_ok (n : Nat) : FragOK prog G 0 (codeAt F24c [1, 0, 1, 0]) (F24_3z n) :=
  frag_loop (Z := fun R k (x : SSh.den G F24_3s) K => F24_3_it n (fun u0 => K .ret (SSh.enc G F24_3x0 ((u0, ()), ()))) (fun u0 => K (.exit 0) (SSh.enc G F24_3x1 ((u0, ()), ()))) k x.1.1 x.1.2.1) laws fnok (E20_ok n).tab (AllF.of (l := [(2, codeAt F24c [1, 0, 1, 0, 0, 1, 0, 0, 0, 1, 0])]) (by kernel_rfl) (AllF.cons (F24_2_ok n) AllF.nil)) (fun _ _ _ => rfl) (fun R k y K => F24_3_eq n R (fun (x : SSh.den G F24_3s) => F24_3_it n (fun u0 => K .ret (SSh.enc G F24_3x0 ((u0, ()), ()))) (fun u0 => K (.exit 0) (SSh.enc G F24_3x1 ((u0, ()), ()))) k x.1.1 x.1.2.1) y K) n
noncomputable def F24 (n : Nat) (a895 : List (List Stp)) : Option (Bool × Unit) :=
  (F24_3 n a895 (0 : Int) (fun z1022 =>
  some (z1022, ())) (fun z1023 =>
  (andThen (F25 n ((z1023.length) : Int) (1 : Int) (6 : Int)) fun r1025 =>
  some (r1025.1, ()))))
noncomputable def F24e (n : Nat) : Ent G := ⟨24, (.cons (.imm 5) .nil), [], .bool, [], fun x y => F24 n x.1⟩
theorem F24_eq (n : Nat) (x : ShL.den G (.cons (.imm 5) .nil)) (y : denO G []) : (F24e n).F x y = runFn prog G (ro G (tabOf (E20 n)) (frOf [F24_0z n, F24_1z n, F24_2z n, F24_3z n]) _) Go.Proofs.Try.f24 (.nd .no (.nd (.nd .no (.nd (.use 3) .no)) .no)) [(0, .fz)] (ShL.enc G (.cons (.imm 5) .nil) x) (encO G [] y) (decR .bool []) := by kernel_rfl
theorem F24_ok (n : Nat) : EntOK prog G (F24e n) :=
  ent_ok (fr := frOf [F24_0z n, F24_1z n, F24_2z n, F24_3z n]) (ann := (.nd .no (.nd (.nd .no (.nd (.use 3) .no)) .no))) (frm := [(0, .fz)]) laws fnok (E20_ok n).tab (e := F24e n) (fn := Go.Proofs.Try.f24) (by kernel_rfl) (AllF.ofB (cd := F24c) (l := [(3, codeAt F24c [1, 0, 1, 0])]) (by kernel_rfl) (by kernel_rfl) (AllF.cons (F24_3_ok n) AllF.nil)) (F24_eq n)
noncomputable def E21 (n : Nat) : List (Ent G) := F24e n :: E20 n
theorem E21_ok (n : Nat) : AllE prog G (E21 n) := AllE.cons (F24_ok n) (E20_ok n)
-- 43 loop.example/slowworm/spec.validIndices
noncomputable def F43c : Code := bodyOf Go.Proofs.Try.f43
noncomputable def F43_0x0 : SSh := ⟨23, [(4, .bool)], []⟩
noncomputable def F43_0x1 : SSh := ⟨23, [(0, (.imm 0))], []⟩
noncomputable def F43_0s : SSh := ⟨23, [(0, (.imm 0)), (1, (.int .i64)), (5, (.int .i64))], []⟩
noncomputable def F43_0_step {R : Type} (n : Nat) (k0 : Bool → Option R) (k1 : List Int → Option R) (rec : List Int → Int → Int → Option R) (x1031 : List Int) (x1032 : Int) (x1033 : Int) : Option R :=
  (bif (decide (x1033 < ((x1031.length) : Int))) then
  (bif (decide ((0 : Int) ≤ x1033)) then
  (bif (decide (x1033 < ((x1031.length) : Int))) then
  (andThen (F25 n (x1031.getD (x1033.toNat) (0 : Int)) (0 : Int) (IntKind.wrap .i64 (x1032 - (1 : Int)))) fun r1039 =>
  (bif (!r1039.1) then
  (k0 false)
  else (rec x1031 x1032 (IntKind.wrap .i64 (x1033 + (1 : Int))))))
  else none)
  else none)
  else (k1 x1031))
noncomputable def F43_0_it {R : Type} (n : Nat) (k0 : Bool → Option R) (k1 : List Int → Option R) : Nat → List Int → Int → Int → Option R
  | 0, _, _, _ => none
  | k + 1, x1031, x1032, x1033 => F43_0_step n k0 k1 (F43_0_it n k0 k1 k) x1031 x1032 x1033
noncomputable def F43_0 {R : Type} (n : Nat) (x1031 : List Int) (x1032 : Int) (x1033 : Int) (k0 : Bool → Option R) (k1 : List Int → Option R) : Option R := F43_0_it n k0 k1 n x1031 x1032 x1033
noncomputable def F43_0z (n : Nat) : Sm G := inZ G 0 ⟨[0, 1, 5], []⟩ F43_0s fun R x K => F43_0_it n (fun u0 => K .ret (SSh.enc G F43_0x0 ((u0, ()), ()))) (fun u0 => K (.exit 0) (SSh.enc G F43_0x1 ((u0, ()), ()))) n x.1.1 x.1.2.1 x.1.2.2.1
theorem F43_0_eq (n : Nat) (R : Type) (rec : SSh.den G F43_0s → Option R) (x : SSh.den G F43_0s) (K : AE → St G → Option R) :
  F43_0_step n (fun u0 => K .ret (SSh.enc G F43_0x0 ((u0, ()), ()))) (fun u0 => K (.exit 0) (SSh.enc G F43_0x1 ((u0, ()), ()))) (fun x1031 x1032 x1033 => rec ((x1031, (x1032, (x1033, ()))), ())) x.1.1 x.1.2.1 x.1.2.2.1 = exec prog G (ro G (tabOf (E21 n)) (frOf []) R) 0 (codeAt F43c [1, 0, 1, 0, 0]) .no (SSh.enc G F43_0s x) (kLoop G (ro G (tabOf (E21 n)) (frOf []) R) 0 ⟨[0, 1, 5], []⟩ F43_0s ⟨⟨[0], []⟩, ⟨[4], []⟩, [(0, ⟨[0], []⟩)]⟩ rec K) := by kernel_rfl
theorem F43_0_ok (n : Nat) : FragOK prog G 0 (codeAt F43c [1, 0, 1, 0]) (F43_0z n) :=
  frag_loop (Z := fun R k (x : SSh.den G F43_0s) K => F43_0_it n (fun u0 => K .ret (SSh.enc G F43_0x0 ((u0, ()), ()))) (fun u0 => K (.exit 0) (SSh.enc G F43_0x1 ((u0, ()), ()))) k x.1.1 x.1.2.1 x.1.2.2.1) laws fnok (E21_ok n).tab (AllF.of (l := []) (by kernel_rfl) AllF.nil) (fun _ _ _ => rfl) (fun R k y K => F43_0_eq n R (fun (x : SSh.den G F43_0s) => F43_0_it n (fun u0 => K .ret (SSh.enc G F43_0x0 ((u0, ()), ()))) (fun u0 => K (.exit 0) (SSh.enc G F43_0x1 ((u0, ()), ()))) k x.1.1 x.1.2.1 x.1.2.2.1) y K) n
noncomputable def F43 (n : Nat) (a1029 : List Int) (a1030 : Int) : Option (Bool × Unit) :=
  (F43_0 n a1029 a1030 (0 : Int) (fun z1042 =>
  some (z1042, ())) (fun z1043 =>
  some ((decide (((z1043.length) : Int) ≤ (60 : Int))), ())))
noncomputable def F43e (n : Nat) : Ent G := ⟨43, (.cons (.imm 0) (.cons (.int .i64) .nil)), [], .bool, [], fun x y => F43 n x.1 x.2.1⟩
theorem F43_eq (n : Nat) (x : ShL.den G (.cons (.imm 0) (.cons (.int .i64) .nil))) (y : denO G []) : (F43e n).F x y = runFn prog G (ro G (tabOf (E21 n)) (frOf [F43_0z n]) _) Go.Proofs.Try.f43 (.nd .no (.nd (.nd .no (.nd (.use 0) .no)) .no)) [(0, .fz)] (ShL.enc G (.cons (.imm 0) (.cons (.int .i64) .nil)) x) (encO G [] y) (decR .bool []) := by kernel_rfl
theorem F43_ok (n : Nat) : EntOK prog G (F43e n) :=
  ent_ok (fr := frOf [F43_0z n]) (ann := (.nd .no (.nd (.nd .no (.nd (.use 0) .no)) .no))) (frm := [(0, .fz)]) laws fnok (E21_ok n).tab (e := F43e n) (fn := Go.Proofs.Try.f43) (by kernel_rfl) (AllF.ofB (cd := F43c) (l := [(0, codeAt F43c [1, 0, 1, 0])]) (by kernel_rfl) (by kernel_rfl) (AllF.cons (F43_0_ok n) AllF.nil)) (F43_eq n)
noncomputable def E22 (n : Nat) : List (Ent G) := F43e n :: E21 n
theorem E22_ok (n : Nat) : AllE prog G (E22 n) := AllE.cons (F43_ok n) (E21_ok n)
-- 44 loop.example/slowworm/spec.imported
noncomputable def F44c : Code := bodyOf Go.Proofs.Try.f44
-- 79 loop.example/slowworm/spec.decimal
noncomputable def F79c : Code := bodyOf Go.Proofs.Try.f79
-- 82 loop.example/slowworm/spec.positive
noncomputable def F82c : Code := bodyOf Go.Proofs.Try.f82
noncomputable def F82_0x0 : SSh := ⟨23, [(0, (.int .i64)), (3, .str), (4, (.int .i64))], []⟩
noncomputable def F82_0s : SSh := ⟨23, [(0, (.int .i64)), (3, .str), (4, (.int .i64))], []⟩
noncomputable def F82_0 {R : Type} (n : Nat) (x1289 : Int) (x1290 : ByteArray) (x1291 : Int) (k0 : Int → ByteArray → Int → Option R) : Option R :=
  (bif (decide (x1291 < (0 : Int))) then
  (k0 x1289 x1290 (IntKind.wrap .i64 ((0 : Int) - x1291)))
  else (k0 x1289 x1290 x1291))
noncomputable def F82_0z (n : Nat) : Sm G := inZ G 0 ⟨[0, 3, 4], []⟩ F82_0s fun R x K => F82_0 n x.1.1 x.1.2.1 x.1.2.2.1 (fun u0 u1 u2 => K .normal (SSh.enc G F82_0x0 ((u0, (u1, (u2, ()))), ())))
theorem F82_0_eq (n : Nat) (R : Type) (x : SSh.den G F82_0s) (K : AE → St G → Option R) :
  F82_0 n x.1.1 x.1.2.1 x.1.2.2.1 (fun u0 u1 u2 => K .normal (SSh.enc G F82_0x0 ((u0, (u1, (u2, ()))), ()))) = exec prog G (ro G (tabOf (E22 n)) (frOf []) R) 0 (codeAt F82c [1, 1, 0, 0, 0, 1, 0]) .no (SSh.enc G F82_0s x) (kNrm G (ro G (tabOf (E22 n)) (frOf []) R) 0 ⟨⟨[0, 3, 4], []⟩, ⟨[2], []⟩, [(1, ⟨[0, 3], []⟩), (0, ⟨[2], []⟩)]⟩ K) := by kernel_rfl
theorem F82_0_ok (n : Nat) : FragOK prog G 0 (codeAt F82c [1, 1, 0, 0, 0, 1, 0]) (F82_0z n) :=
  frag_plain laws fnok (E22_ok n).tab (AllF.of (l := []) (by kernel_rfl) AllF.nil) (F82_0_eq n)
noncomputable def F82_1x0 : SSh := ⟨23, [(2, .str)], []⟩
noncomputable def F82_1s : SSh := ⟨23, [(0, (.int .i64)), (3, .str)], []⟩
noncomputable def F82_1_step {R : Type} (n : Nat) (k0 : ByteArray → Option R) (rec : Int → ByteArray → Option R) (x1286 : Int) (x1287 : ByteArray) : Option R :=
  (F82_0 n x1286 x1287 (x1286.tmod (10 : Int)) (fun z1294 z1295 z1296 =>
  let v1300 := (bytesOfInts (List.map (fun y1301 => y1301) ((IntKind.wrap .u8 (IntKind.wrap .i64 ((48 : Int) + z1296))) :: [])))
  (bif (decide (((v1300.size) + (z1295.size)) ≤ (68719476736 : Nat))) then
  let v1302 := (v1300 ++ z1295)
  let v1303 := (IntKind.wrap .i64 (z1294.tdiv (10 : Int)))
  (bif (v1303 == (0 : Int)) then
  (k0 v1302)
  else (rec v1303 v1302))
  else none)))
noncomputable def F82_1_it {R : Type} (n : Nat) (k0 : ByteArray → Option R) : Nat → Int → ByteArray → Option R
  | 0, _, _ => none
  | k + 1, x1286, x1287 => F82_1_step n k0 (F82_1_it n k0 k) x1286 x1287
noncomputable def F82_1 {R : Type} (n : Nat) (x1286 : Int) (x1287 : ByteArray) (k0 : ByteArray → Option R) : Option R := F82_1_it n k0 n x1286 x1287
noncomputable def F82_1z (n : Nat) : Sm G := inZ G 0 ⟨[0, 3], []⟩ F82_1s fun R x K => F82_1_it n (fun u0 => K .ret (SSh.enc G F82_1x0 ((u0, ()), ()))) n x.1.1 x.1.2.1
theorem F82_1_eq (n : Nat) (R : Type) (rec : SSh.den G F82_1s → Option R) (x : SSh.den G F82_1s) (K : AE → St G → Option R) :
  F82_1_step n (fun u0 => K .ret (SSh.enc G F82_1x0 ((u0, ()), ()))) (fun x1286 x1287 => rec ((x1286, (x1287, ())), ())) x.1.1 x.1.2.1 = exec prog G (ro G (tabOf (E22 n)) (frOf [F82_0z n]) R) 0 (codeAt F82c [1, 1, 0, 0]) (.nd (.nd .no (.nd (.use 0) .no)) .no) (SSh.enc G F82_1s x) (kLoop G (ro G (tabOf (E22 n)) (frOf [F82_0z n]) R) 0 ⟨[0, 3], []⟩ F82_1s ⟨⟨[2], []⟩, ⟨[2], []⟩, [(0, ⟨[2], []⟩)]⟩ rec K) := by kernel_rfl
theorem F82_1_ok (n : Nat) : FragOK prog G 0 (codeAt F82c [1, 1, 0]) (F82_1z n) :=
  frag_loop (Z := fun R k (x : SSh.den G F82_1s) K => F82_1_it n (fun u0 => K .ret (SSh.enc G F82_1x0 ((u0, ()), ()))) k x.1.1 x.1.2.1) laws fnok (E22_ok n).tab (AllF.of (l := [(0, codeAt F82c [1, 1, 0, 0, 0, 1, 0])]) (by kernel_rfl) (AllF.cons (F82_0_ok n) AllF.nil)) (fun _ _ _ => rfl) (fun R k y K => F82_1_eq n R (fun (x : SSh.den G F82_1s) => F82_1_it n (fun u0 => K .ret (SSh.enc G F82_1x0 ((u0, ()), ()))) k x.1.1 x.1.2.1) y K) n
noncomputable def F82 (n : Nat) (a1285 : Int) : Option (ByteArray × Unit) :=
  (F82_1 n a1285 ({ data := #[] } : ByteArray) (fun z1305 =>
  some (z1305, ())))
noncomputable def F82e (n : Nat) : Ent G := ⟨82, (.cons (.int .i64) .nil), [], .str, [], fun x y => F82 n x.1⟩
theorem F82_eq (n : Nat) (x : ShL.den G (.cons (.int .i64) .nil)) (y : denO G []) : (F82e n).F x y = runFn prog G (ro G (tabOf (E22 n)) (frOf [F82_0z n, F82_1z n]) _) Go.Proofs.Try.f82 (.nd .no (.nd .no (.nd (.use 1) .no))) [(0, .fz)] (ShL.enc G (.cons (.int .i64) .nil) x) (encO G [] y) (decR .str []) := by kernel_rfl
theorem F82_ok (n : Nat) : EntOK prog G (F82e n) :=
  ent_ok (fr := frOf [F82_0z n, F82_1z n]) (ann := (.nd .no (.nd .no (.nd (.use 1) .no)))) (frm := [(0, .fz)]) laws fnok (E22_ok n).tab (e := F82e n) (fn := Go.Proofs.Try.f82) (by kernel_rfl) (AllF.ofB (cd := F82c) (l := [(1, codeAt F82c [1, 1, 0])]) (by kernel_rfl) (by kernel_rfl) (AllF.cons (F82_1_ok n) AllF.nil)) (F82_eq n)
noncomputable def E23 (n : Nat) : List (Ent G) := F82e n :: E22 n
theorem E23_ok (n : Nat) : AllE prog G (E23 n) := AllE.cons (F82_ok n) (E22_ok n)
noncomputable def F79 (n : Nat) (a1283 : Int) : Option (ByteArray × Unit) :=
  (bif (decide (a1283 < (0 : Int))) then
  (andThen (F82 n a1283) fun r1306 =>
  (bif (decide (((1 : Nat) + (r1306.1.size)) ≤ (68719476736 : Nat))) then
  some ((({ data := #[45] } : ByteArray) ++ r1306.1), ())
  else none))
  else (andThen (F82 n a1283) fun r1308 =>
  some (r1308.1, ())))
noncomputable def F79e (n : Nat) : Ent G := ⟨79, (.cons (.int .i64) .nil), [], .str, [], fun x y => F79 n x.1⟩
theorem F79_eq (n : Nat) (x : ShL.den G (.cons (.int .i64) .nil)) (y : denO G []) : (F79e n).F x y = runFn prog G (ro G (tabOf (E23 n)) (frOf []) _) Go.Proofs.Try.f79 .no [(0, .fz)] (ShL.enc G (.cons (.int .i64) .nil) x) (encO G [] y) (decR .str []) := by kernel_rfl
theorem F79_ok (n : Nat) : EntOK prog G (F79e n) :=
  ent_ok (fr := frOf []) (ann := .no) (frm := [(0, .fz)]) laws fnok (E23_ok n).tab (e := F79e n) (fn := Go.Proofs.Try.f79) (by kernel_rfl) (AllF.ofB (cd := F79c) (l := []) (by kernel_rfl) (by kernel_rfl) AllF.nil) (F79_eq n)
noncomputable def E24 (n : Nat) : List (Ent G) := F79e n :: E23 n
theorem E24_ok (n : Nat) : AllE prog G (E24 n) := AllE.cons (F79_ok n) (E23_ok n)
-- 78 loop.example/slowworm/spec.intVal
noncomputable def F78c : Code := bodyOf Go.Proofs.Try.f78
noncomputable def F78 (n : Nat) (a1310 : ByteArray) : Option ((Int × (ByteArray × (Int × Unit))) × Unit) :=
  some (((2 : Int), (a1310, ((0 : Int), ()))), ())
noncomputable def F78e (n : Nat) : Ent G := ⟨78, (.cons .str .nil), [], (.agg (.cons (.int .i64) (.cons .str (.cons (.int .i64) .nil)))), [], fun x y => F78 n x.1⟩
theorem F78_eq (n : Nat) (x : ShL.den G (.cons .str .nil)) (y : denO G []) : (F78e n).F x y = runFn prog G (ro G (tabOf (E24 n)) (frOf []) _) Go.Proofs.Try.f78 .no [(0, .fz)] (ShL.enc G (.cons .str .nil) x) (encO G [] y) (decR (.agg (.cons (.int .i64) (.cons .str (.cons (.int .i64) .nil)))) []) := by kernel_rfl
theorem F78_ok (n : Nat) : EntOK prog G (F78e n) :=
  ent_ok (fr := frOf []) (ann := .no) (frm := [(0, .fz)]) laws fnok (E24_ok n).tab (e := F78e n) (fn := Go.Proofs.Try.f78) (by kernel_rfl) (AllF.ofB (cd := F78c) (l := []) (by kernel_rfl) (by kernel_rfl) AllF.nil) (F78_eq n)
noncomputable def E25 (n : Nat) : List (Ent G) := F78e n :: E24 n
theorem E25_ok (n : Nat) : AllE prog G (E25 n) := AllE.cons (F78_ok n) (E24_ok n)
-- 77 loop.example/slowworm/spec.put
noncomputable def F77c : Code := bodyOf Go.Proofs.Try.f77
-- 80 loop.example/slowworm/spec.find
noncomputable def F80c : Code := bodyOf Go.Proofs.Try.f80
noncomputable def F80_0x0 : SSh := ⟨20, [(4, (.int .i64))], [(.arr 7 true)]⟩
noncomputable def F80_0x1 : SSh := ⟨20, [], [(.arr 7 true)]⟩
noncomputable def F80_0s : SSh := ⟨20, [(0, (.own 0)), (1, .str), (5, (.int .i64))], [(.arr 7 true)]⟩
noncomputable def F80_0_step {R : Type} (n : Nat) (k0 : Int → List Vrb → Option R) (k1 : List Vrb → Option R) (rec : ByteArray → Int → List Vrb → Option R) (x1319 : ByteArray) (x1320 : Int) (x1321 : List Vrb) : Option R :=
  (bif (decide (x1320 < ((x1321.length) : Int))) then
  (bif (decide ((0 : Int) ≤ x1320)) then
  (bif (decide (x1320 < ((x1321.length) : Int))) then
  (bif (((x1321.getD (x1320.toNat) (Vrb.mk ({ data := #[] } : ByteArray) (0 : Int) ({ data := #[] } : ByteArray) (0 : Int) false)).name.toList) == (x1319.toList)) then
  (k0 x1320 x1321)
  else (rec x1319 (IntKind.wrap .i64 (x1320 + (1 : Int))) x1321))
  else none)
  else none)
  else (k1 x1321))
noncomputable def F80_0_it {R : Type} (n : Nat) (k0 : Int → List Vrb → Option R) (k1 : List Vrb → Option R) : Nat → ByteArray → Int → List Vrb → Option R
  | 0, _, _, _ => none
  | k + 1, x1319, x1320, x1321 => F80_0_step n k0 k1 (F80_0_it n k0 k1 k) x1319 x1320 x1321
noncomputable def F80_0 {R : Type} (n : Nat) (x1319 : ByteArray) (x1320 : Int) (x1321 : List Vrb) (k0 : Int → List Vrb → Option R) (k1 : List Vrb → Option R) : Option R := F80_0_it n k0 k1 n x1319 x1320 x1321
noncomputable def F80_0z (n : Nat) : Sm G := inZ G 1 ⟨[0, 1, 5], []⟩ F80_0s fun R x K => F80_0_it n (fun u0 u1 => K .ret (SSh.enc G F80_0x0 ((u0, ()), (u1, ())))) (fun u0 => K (.exit 0) (SSh.enc G F80_0x1 ((), (u0, ())))) n x.1.2.1 x.1.2.2.1 x.2.1
theorem F80_0_eq (n : Nat) (R : Type) (rec : SSh.den G F80_0s → Option R) (x : SSh.den G F80_0s) (K : AE → St G → Option R) :
  F80_0_step n (fun u0 u1 => K .ret (SSh.enc G F80_0x0 ((u0, ()), (u1, ())))) (fun u0 => K (.exit 0) (SSh.enc G F80_0x1 ((), (u0, ())))) (fun x1319 x1320 x1321 => rec (((), (x1319, (x1320, ()))), (x1321, ()))) x.1.2.1 x.1.2.2.1 x.2.1 = exec prog G (ro G (tabOf (E25 n)) (frOf []) R) 1 (codeAt F80c [1, 0, 1, 0, 0]) .no (SSh.enc G F80_0s x) (kLoop G (ro G (tabOf (E25 n)) (frOf []) R) 1 ⟨[0, 1, 5], []⟩ F80_0s ⟨⟨[], []⟩, ⟨[4], []⟩, [(0, ⟨[], []⟩)]⟩ rec K) := by kernel_rfl
theorem F80_0_ok (n : Nat) : FragOK prog G 1 (codeAt F80c [1, 0, 1, 0]) (F80_0z n) :=
  frag_loop (Z := fun R k (x : SSh.den G F80_0s) K => F80_0_it n (fun u0 u1 => K .ret (SSh.enc G F80_0x0 ((u0, ()), (u1, ())))) (fun u0 => K (.exit 0) (SSh.enc G F80_0x1 ((), (u0, ())))) k x.1.2.1 x.1.2.2.1 x.2.1) laws fnok (E25_ok n).tab (AllF.of (l := []) (by kernel_rfl) AllF.nil) (fun _ _ _ => rfl) (fun R k y K => F80_0_eq n R (fun (x : SSh.den G F80_0s) => F80_0_it n (fun u0 u1 => K .ret (SSh.enc G F80_0x0 ((u0, ()), (u1, ())))) (fun u0 => K (.exit 0) (SSh.enc G F80_0x1 ((), (u0, ())))) k x.1.2.1 x.1.2.2.1 x.2.1) y K) n
noncomputable def F80 (n : Nat) (a1317 : ByteArray) (a1318 : List Vrb) : Option (Int × (List Vrb × Unit)) :=
  (F80_0 n a1317 (0 : Int) a1318 (fun z1328 z1329 =>
  some (z1328, (z1329, ()))) (fun z1330 =>
  some ((-1 : Int), (z1330, ()))))
noncomputable def F80e (n : Nat) : Ent G := ⟨80, (.cons (.own 0) (.cons .str .nil)), [(.arr 7 true)], (.int .i64), [(.arr 7 true)], fun x y => F80 n x.2.1 y.1⟩
theorem F80_eq (n : Nat) (x : ShL.den G (.cons (.own 0) (.cons .str .nil))) (y : denO G [(.arr 7 true)]) : (F80e n).F x y = runFn prog G (ro G (tabOf (E25 n)) (frOf [F80_0z n]) _) Go.Proofs.Try.f80 (.nd .no (.nd (.nd .no (.nd (.use 0) .no)) .no)) [(0, .fz)] (ShL.enc G (.cons (.own 0) (.cons .str .nil)) x) (encO G [(.arr 7 true)] y) (decR (.int .i64) [(.arr 7 true)]) := by kernel_rfl
theorem F80_ok (n : Nat) : EntOK prog G (F80e n) :=
  ent_ok (fr := frOf [F80_0z n]) (ann := (.nd .no (.nd (.nd .no (.nd (.use 0) .no)) .no))) (frm := [(0, .fz)]) laws fnok (E25_ok n).tab (e := F80e n) (fn := Go.Proofs.Try.f80) (by kernel_rfl) (AllF.ofB (cd := F80c) (l := [(0, codeAt F80c [1, 0, 1, 0])]) (by kernel_rfl) (by kernel_rfl) (AllF.cons (F80_0_ok n) AllF.nil)) (F80_eq n)
noncomputable def E26 (n : Nat) : List (Ent G) := F80e n :: E25 n
theorem E26_ok (n : Nat) : AllE prog G (E26 n) := AllE.cons (F80_ok n) (E25_ok n)
noncomputable def F77 (n : Nat) (a1312 : ByteArray) (a1313 : Int) (a1314 : ByteArray) (a1315 : Int) (a1316 : List Vrb) : Option (Unit × (Unit × (List Vrb × Unit))) :=
  (andThen (F80 n a1312 a1316) fun r1331 =>
  (bif (decide (r1331.1 < (0 : Int))) then
  let v1333 := ((Vrb.mk a1312 a1313 a1314 a1315 true) :: [])
  (bif (decide (((r1331.2.1.length) + (v1333.length)) ≤ (68719476736 : Nat))) then
  some ((), ((), ((r1331.2.1 ++ v1333), ())))
  else none)
  else (bif (decide ((0 : Int) ≤ r1331.1)) then
  (bif (decide (r1331.1 < ((r1331.2.1.length) : Int))) then
  let v1335 := (r1331.1.toNat)
  let v1336 := (r1331.2.1.set v1335 (Vrb.mk (r1331.2.1.getD v1335 (Vrb.mk ({ data := #[] } : ByteArray) (0 : Int) ({ data := #[] } : ByteArray) (0 : Int) false)).name a1313 a1314 a1315 (r1331.2.1.getD v1335 (Vrb.mk ({ data := #[] } : ByteArray) (0 : Int) ({ data := #[] } : ByteArray) (0 : Int) false)).set))
  (bif (decide ((0 : Int) ≤ r1331.1)) then
  (bif (decide (r1331.1 < ((v1336.length) : Int))) then
  let v1337 := (r1331.1.toNat)
  some ((), ((), ((v1336.set v1337 (Vrb.mk (v1336.getD v1337 (Vrb.mk ({ data := #[] } : ByteArray) (0 : Int) ({ data := #[] } : ByteArray) (0 : Int) false)).name (v1336.getD v1337 (Vrb.mk ({ data := #[] } : ByteArray) (0 : Int) ({ data := #[] } : ByteArray) (0 : Int) false)).kind (v1336.getD v1337 (Vrb.mk ({ data := #[] } : ByteArray) (0 : Int) ({ data := #[] } : ByteArray) (0 : Int) false)).text (v1336.getD v1337 (Vrb.mk ({ data := #[] } : ByteArray) (0 : Int) ({ data := #[] } : ByteArray) (0 : Int) false)).ref true)), ())))
  else none)
  else none)
  else none)
  else none)))
noncomputable def F77e (n : Nat) : Ent G := ⟨77, (.cons (.own 0) (.cons .str (.cons (.agg (.cons (.int .i64) (.cons .str (.cons (.int .i64) .nil)))) .nil))), [(.arr 7 true)], (.own 1), [.dead, (.arr 7 true)], fun x y => F77 n x.2.1 x.2.2.1.1 x.2.2.1.2.1 x.2.2.1.2.2.1 y.1⟩
theorem F77_eq (n : Nat) (x : ShL.den G (.cons (.own 0) (.cons .str (.cons (.agg (.cons (.int .i64) (.cons .str (.cons (.int .i64) .nil)))) .nil)))) (y : denO G [(.arr 7 true)]) : (F77e n).F x y = runFn prog G (ro G (tabOf (E26 n)) (frOf []) _) Go.Proofs.Try.f77 .no [(0, (.mv 7))] (ShL.enc G (.cons (.own 0) (.cons .str (.cons (.agg (.cons (.int .i64) (.cons .str (.cons (.int .i64) .nil)))) .nil))) x) (encO G [(.arr 7 true)] y) (decR (.own 1) [.dead, (.arr 7 true)]) := by kernel_rfl
theorem F77_ok (n : Nat) : EntOK prog G (F77e n) :=
  ent_ok (fr := frOf []) (ann := .no) (frm := [(0, (.mv 7))]) laws fnok (E26_ok n).tab (e := F77e n) (fn := Go.Proofs.Try.f77) (by kernel_rfl) (AllF.ofB (cd := F77c) (l := []) (by kernel_rfl) (by kernel_rfl) AllF.nil) (F77_eq n)
noncomputable def E27 (n : Nat) : List (Ent G) := F77e n :: E26 n
theorem E27_ok (n : Nat) : AllE prog G (E27 n) := AllE.cons (F77_ok n) (E26_ok n)
abbrev Q60RC : Type := (Int → List (List Stp) → List Int → List Int → List Int → List ByteArray → List Int → (Nat × (List (List Vrb))) → Option (Bool × ((List (List Stp) × (Unit × (Unit × (Unit × (Unit × (Unit × (Unit × Unit))))))) × (Unit × (Unit × (List Int × (Unit × (List Int × ((Nat × (List (List Vrb))) × (List Int × (List Int × (List ByteArray × Unit)))))))))))) × (Int → Int → Int → ByteArray → List (List Stp) → List Int → List Int → List Int → List ByteArray → List Int → (Nat × (List (List Vrb))) → Option (Bool × ((List (List Stp) × (Unit × (Unit × (Unit × (Unit × (Unit × (Unit × Unit))))))) × (Unit × (Unit × (List Int × (Unit × (List Int × ((Nat × (List (List Vrb))) × (List Int × (List Int × (List ByteArray × Unit)))))))))))) × Unit
noncomputable def Q60L (n : Nat) (rc : Q60RC) : List (Ent G) := ⟨60, (.cons (.ptr 0 0) (.cons (.int .i64) .nil)), [(.box 90 (.cons (.imm 5) (.cons (.own 1) (.cons (.own 2) (.cons (.own 3) (.cons (.own 4) (.cons (.own 5) (.cons (.ref 6 0) .nil)))))))), (.arr 0 true), (.arr 0 true), (.arr 0 true), (.arr 6 true), (.arr 0 true), (.usr 4)], .bool, [(.box 90 (.cons (.imm 5) (.cons (.own 7) (.cons (.own 8) (.cons (.own 3) (.cons (.own 9) (.cons (.own 5) (.cons (.ref 6 0) .nil)))))))), .dead, .dead, (.arr 0 true), .dead, (.arr 0 true), (.usr 4), (.arr 0 true), (.arr 0 true), (.arr 6 true)], fun x y => rc.1 x.2.1 y.1.1 y.2.1 y.2.2.1 y.2.2.2.1 y.2.2.2.2.1 y.2.2.2.2.2.1 y.2.2.2.2.2.2.1⟩ :: ⟨72, (.cons (.ptr 0 0) (.cons (.int .i64) (.cons (.agg (.cons (.int .i64) (.cons (.int .i64) (.cons .str .nil)))) .nil))), [(.box 90 (.cons (.imm 5) (.cons (.own 1) (.cons (.own 2) (.cons (.own 3) (.cons (.own 4) (.cons (.own 5) (.cons (.ref 6 0) .nil)))))))), (.arr 0 true), (.arr 0 true), (.arr 0 true), (.arr 6 true), (.arr 0 true), (.usr 4)], .bool, [(.box 90 (.cons (.imm 5) (.cons (.own 7) (.cons (.own 8) (.cons (.own 3) (.cons (.own 9) (.cons (.own 5) (.cons (.ref 6 0) .nil)))))))), .dead, .dead, (.arr 0 true), .dead, (.arr 0 true), (.usr 4), (.arr 0 true), (.arr 0 true), (.arr 6 true)], fun x y => rc.2.1 x.2.1 x.2.2.1.1 x.2.2.1.2.1 x.2.2.1.2.2.1 y.1.1 y.2.1 y.2.2.1 y.2.2.2.1 y.2.2.2.2.1 y.2.2.2.2.2.1 y.2.2.2.2.2.2.1⟩ :: E27 n
-- 60 (*loop.example/slowworm/spec.importer).load
noncomputable def F60bc : Code := bodyOf Go.Proofs.Try.f60
noncomputable def F60b_0x0 : SSh := ⟨94, [(4, .bool)], [(.box 90 (.cons (.imm 5) (.cons (.own 7) (.cons (.own 8) (.cons (.own 3) (.cons (.own 9) (.cons (.own 5) (.cons (.ref 6 0) .nil)))))))), .dead, .dead, (.arr 0 true), .dead, (.arr 0 true), (.usr 4), (.arr 0 true), (.arr 0 true), (.arr 6 true)]⟩
noncomputable def F60b_0x1 : SSh := ⟨94, [(0, (.ptr 0 0)), (1, (.int .i64))], [(.box 90 (.cons (.imm 5) (.cons (.own 7) (.cons (.own 8) (.cons (.own 3) (.cons (.own 9) (.cons (.own 5) (.cons (.ref 6 0) .nil)))))))), .dead, .dead, (.arr 0 true), .dead, (.arr 0 true), (.usr 4), (.arr 0 true), (.arr 0 true), (.arr 6 true)]⟩
noncomputable def F60b_0s : SSh := ⟨94, [(0, (.ptr 0 0)), (1, (.int .i64)), (5, (.int .i64))], [(.box 90 (.cons (.imm 5) (.cons (.own 7) (.cons (.own 8) (.cons (.own 3) (.cons (.own 9) (.cons (.own 5) (.cons (.ref 6 0) .nil)))))))), .dead, .dead, (.arr 0 true), .dead, (.arr 0 true), (.usr 4), (.arr 0 true), (.arr 0 true), (.arr 6 true)]⟩
noncomputable def F60b_0_step {R : Type} (n : Nat) (rc : Q60RC) (k0 : Bool → List (List Stp) → List Int → List Int → (Nat × (List (List Vrb))) → List Int → List Int → List ByteArray → Option R) (k1 : Int → List (List Stp) → List Int → List Int → (Nat × (List (List Vrb))) → List Int → List Int → List ByteArray → Option R) (rec : Int → Int → List (List Stp) → List Int → List Int → (Nat × (List (List Vrb))) → List Int → List Int → List ByteArray → Option R) (x1370 : Int) (x1371 : Int) (x1372 : List (List Stp)) (x1373 : List Int) (x1374 : List Int) (x1375 : (Nat × (List (List Vrb)))) (x1376 : List Int) (x1377 : List Int) (x1378 : List ByteArray) : Option R :=
  (bif (decide ((0 : Int) ≤ x1370)) then
  (bif (decide (x1370 < ((x1372.length) : Int))) then
  (bif (decide (x1371 < (((x1372.getD (x1370.toNat) []).length) : Int))) then
  (bif (decide ((0 : Int) ≤ x1370)) then
  (bif (decide (x1370 < ((x1372.length) : Int))) then
  let v1384 := (x1372.getD (x1370.toNat) [])
  (bif (decide ((0 : Int) ≤ x1371)) then
  (bif (decide (x1371 < ((v1384.length) : Int))) then
  let v1385 := (v1384.getD (x1371.toNat) (Stp.mk (0 : Int) (0 : Int) ({ data := #[] } : ByteArray)))
  (andThen (rc.2.1 x1370 v1385.kind v1385.num v1385.name x1372 x1376 x1377 x1373 x1378 x1374 x1375) fun r1389 =>
  (bif (!r1389.1) then
  (bif (decide ((0 : Int) ≤ x1370)) then
  (bif (decide (x1370 < ((r1389.2.2.2.2.2.2.1.length) : Int))) then
  (bif (decide ((0 : Int) ≤ x1370)) then
  (bif (decide (x1370 < ((r1389.2.2.2.2.2.2.2.1.2.length) : Int))) then
  (k0 false r1389.2.1.1 r1389.2.2.2.2.1 (r1389.2.2.2.2.2.2.1.set (x1370.toNat) (0 : Int)) ((r1389.2.2.2.2.2.2.2.1.1 + (1 : Nat)), (r1389.2.2.2.2.2.2.2.1.2.set (x1370.toNat) [])) r1389.2.2.2.2.2.2.2.2.1 r1389.2.2.2.2.2.2.2.2.2.1 r1389.2.2.2.2.2.2.2.2.2.2.1)
  else none)
  else none)
  else none)
  else none)
  else (rec x1370 (IntKind.wrap .i64 (x1371 + (1 : Int))) r1389.2.1.1 r1389.2.2.2.2.1 r1389.2.2.2.2.2.2.1 r1389.2.2.2.2.2.2.2.1 r1389.2.2.2.2.2.2.2.2.1 r1389.2.2.2.2.2.2.2.2.2.1 r1389.2.2.2.2.2.2.2.2.2.2.1)))
  else none)
  else none)
  else none)
  else none)
  else (k1 x1370 x1372 x1373 x1374 x1375 x1376 x1377 x1378))
  else none)
  else none)
noncomputable def F60b_0_it {R : Type} (n : Nat) (rc : Q60RC) (k0 : Bool → List (List Stp) → List Int → List Int → (Nat × (List (List Vrb))) → List Int → List Int → List ByteArray → Option R) (k1 : Int → List (List Stp) → List Int → List Int → (Nat × (List (List Vrb))) → List Int → List Int → List ByteArray → Option R) : Nat → Int → Int → List (List Stp) → List Int → List Int → (Nat × (List (List Vrb))) → List Int → List Int → List ByteArray → Option R
  | 0, _, _, _, _, _, _, _, _, _ => none
  | k + 1, x1370, x1371, x1372, x1373, x1374, x1375, x1376, x1377, x1378 => F60b_0_step n rc k0 k1 (F60b_0_it n rc k0 k1 k) x1370 x1371 x1372 x1373 x1374 x1375 x1376 x1377 x1378
noncomputable def F60b_0 {R : Type} (n : Nat) (rc : Q60RC) (x1370 : Int) (x1371 : Int) (x1372 : List (List Stp)) (x1373 : List Int) (x1374 : List Int) (x1375 : (Nat × (List (List Vrb)))) (x1376 : List Int) (x1377 : List Int) (x1378 : List ByteArray) (k0 : Bool → List (List Stp) → List Int → List Int → (Nat × (List (List Vrb))) → List Int → List Int → List ByteArray → Option R) (k1 : Int → List (List Stp) → List Int → List Int → (Nat × (List (List Vrb))) → List Int → List Int → List ByteArray → Option R) : Option R := F60b_0_it n rc k0 k1 n x1370 x1371 x1372 x1373 x1374 x1375 x1376 x1377 x1378
noncomputable def F60b_0z (n : Nat) (rc : Q60RC) : Sm G := inZ G 7 ⟨[0, 1, 5], [(0, (.cell 2 (.mv 0))), (0, (.cell 4 (.mv 6)))]⟩ F60b_0s fun R x K => F60b_0_it n rc (fun u0 u1 u2 u3 u4 u5 u6 u7 => K .ret (SSh.enc G F60b_0x0 ((u0, ()), ((u1, ((), ((), ((), ((), ((), ((), ()))))))), ((), ((), (u2, ((), (u3, (u4, (u5, (u6, (u7, ()))))))))))))) (fun u0 u1 u2 u3 u4 u5 u6 u7 => K (.exit 0) (SSh.enc G F60b_0x1 (((), (u0, ())), ((u1, ((), ((), ((), ((), ((), ((), ()))))))), ((), ((), (u2, ((), (u3, (u4, (u5, (u6, (u7, ()))))))))))))) n x.1.2.1 x.1.2.2.1 x.2.1.1 x.2.2.2.2.1 x.2.2.2.2.2.2.1 x.2.2.2.2.2.2.2.1 x.2.2.2.2.2.2.2.2.1 x.2.2.2.2.2.2.2.2.2.1 x.2.2.2.2.2.2.2.2.2.2.1
theorem F60b_0_eq (n : Nat) (rc : Q60RC) (R : Type) (rec : SSh.den G F60b_0s → Option R) (x : SSh.den G F60b_0s) (K : AE → St G → Option R) :
  F60b_0_step n rc (fun u0 u1 u2 u3 u4 u5 u6 u7 => K .ret (SSh.enc G F60b_0x0 ((u0, ()), ((u1, ((), ((), ((), ((), ((), ((), ()))))))), ((), ((), (u2, ((), (u3, (u4, (u5, (u6, (u7, ()))))))))))))) (fun u0 u1 u2 u3 u4 u5 u6 u7 => K (.exit 0) (SSh.enc G F60b_0x1 (((), (u0, ())), ((u1, ((), ((), ((), ((), ((), ((), ()))))))), ((), ((), (u2, ((), (u3, (u4, (u5, (u6, (u7, ()))))))))))))) (fun x1370 x1371 x1372 x1373 x1374 x1375 x1376 x1377 x1378 => rec (((), (x1370, (x1371, ()))), ((x1372, ((), ((), ((), ((), ((), ((), ()))))))), ((), ((), (x1373, ((), (x1374, (x1375, (x1376, (x1377, (x1378, ())))))))))))) x.1.2.1 x.1.2.2.1 x.2.1.1 x.2.2.2.2.1 x.2.2.2.2.2.2.1 x.2.2.2.2.2.2.2.1 x.2.2.2.2.2.2.2.2.1 x.2.2.2.2.2.2.2.2.2.1 x.2.2.2.2.2.2.2.2.2.2.1 = exec prog G (ro G (tabOf (Q60L n rc)) (frOf []) R) 7 (codeAt F60bc [1, 1, 1, 1, 0, 1, 0, 0]) .no (SSh.enc G F60b_0s x) (kLoop G (ro G (tabOf (Q60L n rc)) (frOf []) R) 7 ⟨[0, 1, 5], [(0, (.cell 2 (.mv 0))), (0, (.cell 4 (.mv 6)))]⟩ F60b_0s ⟨⟨[0, 1], []⟩, ⟨[4], []⟩, [(0, ⟨[0, 1], []⟩)]⟩ rec K) := by kernel_rfl
theorem F60b_0_ok (n : Nat) (rc : Q60RC) (h : AllE prog G (Q60L n rc)) : FragOK prog G 7 (codeAt F60bc [1, 1, 1, 1, 0, 1, 0]) (F60b_0z n rc) :=
  frag_loop (Z := fun R k (x : SSh.den G F60b_0s) K => F60b_0_it n rc (fun u0 u1 u2 u3 u4 u5 u6 u7 => K .ret (SSh.enc G F60b_0x0 ((u0, ()), ((u1, ((), ((), ((), ((), ((), ((), ()))))))), ((), ((), (u2, ((), (u3, (u4, (u5, (u6, (u7, ()))))))))))))) (fun u0 u1 u2 u3 u4 u5 u6 u7 => K (.exit 0) (SSh.enc G F60b_0x1 (((), (u0, ())), ((u1, ((), ((), ((), ((), ((), ((), ()))))))), ((), ((), (u2, ((), (u3, (u4, (u5, (u6, (u7, ()))))))))))))) k x.1.2.1 x.1.2.2.1 x.2.1.1 x.2.2.2.2.1 x.2.2.2.2.2.2.1 x.2.2.2.2.2.2.2.1 x.2.2.2.2.2.2.2.2.1 x.2.2.2.2.2.2.2.2.2.1 x.2.2.2.2.2.2.2.2.2.2.1) laws fnok h.tab (AllF.of (l := []) (by kernel_rfl) AllF.nil) (fun _ _ _ => rfl) (fun R k y K => F60b_0_eq n rc R (fun (x : SSh.den G F60b_0s) => F60b_0_it n rc (fun u0 u1 u2 u3 u4 u5 u6 u7 => K .ret (SSh.enc G F60b_0x0 ((u0, ()), ((u1, ((), ((), ((), ((), ((), ((), ()))))))), ((), ((), (u2, ((), (u3, (u4, (u5, (u6, (u7, ()))))))))))))) (fun u0 u1 u2 u3 u4 u5 u6 u7 => K (.exit 0) (SSh.enc G F60b_0x1 (((), (u0, ())), ((u1, ((), ((), ((), ((), ((), ((), ()))))))), ((), ((), (u2, ((), (u3, (u4, (u5, (u6, (u7, ()))))))))))))) k x.1.2.1 x.1.2.2.1 x.2.1.1 x.2.2.2.2.1 x.2.2.2.2.2.2.1 x.2.2.2.2.2.2.2.1 x.2.2.2.2.2.2.2.2.1 x.2.2.2.2.2.2.2.2.2.1 x.2.2.2.2.2.2.2.2.2.2.1) y K) n
noncomputable def F60b (n : Nat) (rc : Q60RC) (a1355 : Int) (a1356 : List (List Stp)) (a1357 : List Int) (a1358 : List Int) (a1359 : List Int) (a1360 : List ByteArray) (a1361 : List Int) (a1362 : (Nat × (List (List Vrb)))) : Option (Bool × ((List (List Stp) × (Unit × (Unit × (Unit × (Unit × (Unit × (Unit × Unit))))))) × (Unit × (Unit × (List Int × (Unit × (List Int × ((Nat × (List (List Vrb))) × (List Int × (List Int × (List ByteArray × Unit))))))))))) :=
  (bif (decide ((0 : Int) ≤ a1355)) then
  (bif (decide (a1355 < ((a1361.length) : Int))) then
  (bif ((a1361.getD (a1355.toNat) (0 : Int)) != (0 : Int)) then
  some (true, ((a1356, ((), ((), ((), ((), ((), ((), ()))))))), ((), ((), (a1359, ((), (a1361, (a1362, (a1357, (a1358, (a1360, ())))))))))))
  else (bif (decide ((0 : Int) ≤ a1355)) then
  (bif (decide (a1355 < ((a1361.length) : Int))) then
  let v1368 := (a1355 :: [])
  (bif (decide (((a1357.length) + (v1368.length)) ≤ (68719476736 : Nat))) then
  (F60b_0 n rc a1355 (0 : Int) a1356 a1359 (a1361.set (a1355.toNat) (1 : Int)) a1362 (a1357 ++ v1368) a1358 a1360 (fun z1396 z1397 z1398 z1399 z1400 z1401 z1402 z1403 =>
  some (z1396, ((z1397, ((), ((), ((), ((), ((), ((), ()))))))), ((), ((), (z1398, ((), (z1399, (z1400, (z1401, (z1402, (z1403, ())))))))))))) (fun z1404 z1405 z1406 z1407 z1408 z1409 z1410 z1411 =>
  (bif (decide ((0 : Int) ≤ z1404)) then
  (bif (decide (z1404 < ((z1407.length) : Int))) then
  let v1414 := (z1404 :: [])
  (bif (decide (((z1410.length) + (v1414.length)) ≤ (68719476736 : Nat))) then
  some (true, ((z1405, ((), ((), ((), ((), ((), ((), ()))))))), ((), ((), (z1406, ((), ((z1407.set (z1404.toNat) (2 : Int)), (z1408, (z1409, ((z1410 ++ v1414), (z1411, ())))))))))))
  else none)
  else none)
  else none)))
  else none)
  else none)
  else none))
  else none)
  else none)
noncomputable def F60be (n : Nat) (rc : Q60RC) : Ent G := ⟨60, (.cons (.ptr 0 0) (.cons (.int .i64) .nil)), [(.box 90 (.cons (.imm 5) (.cons (.own 1) (.cons (.own 2) (.cons (.own 3) (.cons (.own 4) (.cons (.own 5) (.cons (.ref 6 0) .nil)))))))), (.arr 0 true), (.arr 0 true), (.arr 0 true), (.arr 6 true), (.arr 0 true), (.usr 4)], .bool, [(.box 90 (.cons (.imm 5) (.cons (.own 7) (.cons (.own 8) (.cons (.own 3) (.cons (.own 9) (.cons (.own 5) (.cons (.ref 6 0) .nil)))))))), .dead, .dead, (.arr 0 true), .dead, (.arr 0 true), (.usr 4), (.arr 0 true), (.arr 0 true), (.arr 6 true)], fun x y => F60b n rc x.2.1 y.1.1 y.2.1 y.2.2.1 y.2.2.2.1 y.2.2.2.2.1 y.2.2.2.2.2.1 y.2.2.2.2.2.2.1⟩
theorem F60b_eq (n : Nat) (rc : Q60RC) (x : ShL.den G (.cons (.ptr 0 0) (.cons (.int .i64) .nil))) (y : denO G [(.box 90 (.cons (.imm 5) (.cons (.own 1) (.cons (.own 2) (.cons (.own 3) (.cons (.own 4) (.cons (.own 5) (.cons (.ref 6 0) .nil)))))))), (.arr 0 true), (.arr 0 true), (.arr 0 true), (.arr 6 true), (.arr 0 true), (.usr 4)]) : (F60be n rc).F x y = runFn prog G (ro G (tabOf (Q60L n rc)) (frOf [F60b_0z n rc]) _) Go.Proofs.Try.f60 (.nd .no (.nd .no (.nd .no (.nd .no (.nd (.nd .no (.nd (.use 0) .no)) .no))))) [(0, (.obj 0 1 (.mv 0))), (0, (.obj 0 2 (.mv 0))), (0, (.obj 0 4 (.mv 6)))] (ShL.enc G (.cons (.ptr 0 0) (.cons (.int .i64) .nil)) x) (encO G [(.box 90 (.cons (.imm 5) (.cons (.own 1) (.cons (.own 2) (.cons (.own 3) (.cons (.own 4) (.cons (.own 5) (.cons (.ref 6 0) .nil)))))))), (.arr 0 true), (.arr 0 true), (.arr 0 true), (.arr 6 true), (.arr 0 true), (.usr 4)] y) (decR .bool [(.box 90 (.cons (.imm 5) (.cons (.own 7) (.cons (.own 8) (.cons (.own 3) (.cons (.own 9) (.cons (.own 5) (.cons (.ref 6 0) .nil)))))))), .dead, .dead, (.arr 0 true), .dead, (.arr 0 true), (.usr 4), (.arr 0 true), (.arr 0 true), (.arr 6 true)]) := by kernel_rfl
theorem F60b_ok (n : Nat) (rc : Q60RC) (h : AllE prog G (Q60L n rc)) : EntOK prog G (F60be n rc) :=
  ent_ok (fr := frOf [F60b_0z n rc]) (ann := (.nd .no (.nd .no (.nd .no (.nd .no (.nd (.nd .no (.nd (.use 0) .no)) .no)))))) (frm := [(0, (.obj 0 1 (.mv 0))), (0, (.obj 0 2 (.mv 0))), (0, (.obj 0 4 (.mv 6)))]) laws fnok h.tab (e := F60be n rc) (fn := Go.Proofs.Try.f60) (by kernel_rfl) (AllF.ofB (cd := F60bc) (l := [(0, codeAt F60bc [1, 1, 1, 1, 0, 1, 0])]) (by kernel_rfl) (by kernel_rfl) (AllF.cons (F60b_0_ok n rc h) AllF.nil)) (F60b_eq n rc)
-- 72 (*loop.example/slowworm/spec.importer).step
noncomputable def F72bc : Code := bodyOf Go.Proofs.Try.f72
noncomputable def F72b (n : Nat) (rc : Q60RC) (a1416 : Int) (a1417 : Int) (a1418 : Int) (a1419 : ByteArray) (a1420 : List (List Stp)) (a1421 : List Int) (a1422 : List Int) (a1423 : List Int) (a1424 : List ByteArray) (a1425 : List Int) (a1426 : (Nat × (List (List Vrb)))) : Option (Bool × ((List (List Stp) × (Unit × (Unit × (Unit × (Unit × (Unit × (Unit × Unit))))))) × (Unit × (Unit × (List Int × (Unit × (List Int × ((Nat × (List (List Vrb))) × (List Int × (List Int × (List ByteArray × Unit))))))))))) :=
  (bif (a1417 == (1 : Int)) then
  (andThen (rc.1 a1418 a1420 a1421 a1422 a1423 a1424 a1425 a1426) fun r1428 =>
  some (r1428.1, ((r1428.2.1.1, ((), ((), ((), ((), ((), ((), ()))))))), ((), ((), (r1428.2.2.2.2.1, ((), (r1428.2.2.2.2.2.2.1, (r1428.2.2.2.2.2.2.2.1, (r1428.2.2.2.2.2.2.2.2.1, (r1428.2.2.2.2.2.2.2.2.2.1, (r1428.2.2.2.2.2.2.2.2.2.2.1, ()))))))))))))
  else (bif (a1417 == (2 : Int)) then
  (andThen (rc.1 a1418 a1420 a1421 a1422 a1423 a1424 a1425 a1426) fun r1430 =>
  some (true, ((r1430.2.1.1, ((), ((), ((), ((), ((), ((), ()))))))), ((), ((), (r1430.2.2.2.2.1, ((), (r1430.2.2.2.2.2.2.1, (r1430.2.2.2.2.2.2.2.1, (r1430.2.2.2.2.2.2.2.2.1, (r1430.2.2.2.2.2.2.2.2.2.1, (r1430.2.2.2.2.2.2.2.2.2.2.1, ()))))))))))))
  else (bif (a1417 == (3 : Int)) then
  (bif (decide ((0 : Int) ≤ a1416)) then
  (bif (decide (a1416 < ((a1426.2.length) : Int))) then
  let v1432 := (a1416.toNat)
  (andThen (F79 n a1418) fun r1434 =>
  (andThen (F78 n r1434.1) fun r1435 =>
  (bif (decide (a1426.1 = a1426.1)) then
  (andThen (F77 n a1419 r1435.1.1 r1435.1.2.1 r1435.1.2.2.1 (a1426.2.getD v1432 [])) fun r1436 =>
  let v1437 := ((a1426.1 + (1 : Nat)), (a1426.2, v1432))
  (bif (decide ((0 : Int) ≤ a1416)) then
  (bif (decide (a1416 < ((v1437.2.1.length) : Int))) then
  let v1438 := (a1416.toNat)
  (bif (decide (v1437.2.2 = v1438)) then
  some (true, ((a1420, ((), ((), ((), ((), ((), ((), ()))))))), ((), ((), (a1423, ((), (a1425, (((v1437.1 + (1 : Nat)), (v1437.2.1.set v1438 r1436.2.2.1)), (a1421, (a1422, (a1424, ())))))))))))
  else none)
  else none)
  else none))
  else none)))
  else none)
  else none)
  else (bif (a1417 == (4 : Int)) then
  (bif (decide ((0 : Int) ≤ a1418)) then
  (bif (decide (a1418 < ((a1426.2.length) : Int))) then
  let v1441 := (a1418.toNat)
  (bif (decide (a1426.1 = a1426.1)) then
  (andThen (F80 n a1419 (a1426.2.getD v1441 [])) fun r1443 =>
  let v1444 := (((a1426.1 + (1 : Nat)) + (1 : Nat)), (a1426.2.set v1441 r1443.2.1))
  (bif (decide (r1443.1 < (0 : Int))) then
  some (false, ((a1420, ((), ((), ((), ((), ((), ((), ()))))))), ((), ((), (a1423, ((), (a1425, (v1444, (a1421, (a1422, (a1424, ())))))))))))
  else (bif (decide ((0 : Int) ≤ a1418)) then
  (bif (decide (a1418 < ((v1444.2.length) : Int))) then
  let v1446 := (a1418.toNat)
  let v1447 := v1444.1
  (bif (decide (v1444.1 = v1447)) then
  (bif (decide ((0 : Int) ≤ r1443.1)) then
  (bif (decide (r1443.1 < (((v1444.2.getD v1446 []).length) : Int))) then
  (bif (decide (v1444.1 = v1447)) then
  let v1450 := (((v1444.2.getD v1446 []).getD (r1443.1.toNat) (Vrb.mk ({ data := #[] } : ByteArray) (0 : Int) ({ data := #[] } : ByteArray) (0 : Int) false)).text :: [])
  (bif (decide (((a1424.length) + (v1450.length)) ≤ (68719476736 : Nat))) then
  some (true, ((a1420, ((), ((), ((), ((), ((), ((), ()))))))), ((), ((), (a1423, ((), (a1425, (v1444, (a1421, (a1422, ((a1424 ++ v1450), ())))))))))))
  else none)
  else none)
  else none)
  else none)
  else none)
  else none)
  else none)))
  else none)
  else none)
  else none)
  else some (false, ((a1420, ((), ((), ((), ((), ((), ((), ()))))))), ((), ((), (a1423, ((), (a1425, (a1426, (a1421, (a1422, (a1424, ())))))))))))))))
noncomputable def F72be (n : Nat) (rc : Q60RC) : Ent G := ⟨72, (.cons (.ptr 0 0) (.cons (.int .i64) (.cons (.agg (.cons (.int .i64) (.cons (.int .i64) (.cons .str .nil)))) .nil))), [(.box 90 (.cons (.imm 5) (.cons (.own 1) (.cons (.own 2) (.cons (.own 3) (.cons (.own 4) (.cons (.own 5) (.cons (.ref 6 0) .nil)))))))), (.arr 0 true), (.arr 0 true), (.arr 0 true), (.arr 6 true), (.arr 0 true), (.usr 4)], .bool, [(.box 90 (.cons (.imm 5) (.cons (.own 7) (.cons (.own 8) (.cons (.own 3) (.cons (.own 9) (.cons (.own 5) (.cons (.ref 6 0) .nil)))))))), .dead, .dead, (.arr 0 true), .dead, (.arr 0 true), (.usr 4), (.arr 0 true), (.arr 0 true), (.arr 6 true)], fun x y => F72b n rc x.2.1 x.2.2.1.1 x.2.2.1.2.1 x.2.2.1.2.2.1 y.1.1 y.2.1 y.2.2.1 y.2.2.2.1 y.2.2.2.2.1 y.2.2.2.2.2.1 y.2.2.2.2.2.2.1⟩
theorem F72b_eq (n : Nat) (rc : Q60RC) (x : ShL.den G (.cons (.ptr 0 0) (.cons (.int .i64) (.cons (.agg (.cons (.int .i64) (.cons (.int .i64) (.cons .str .nil)))) .nil)))) (y : denO G [(.box 90 (.cons (.imm 5) (.cons (.own 1) (.cons (.own 2) (.cons (.own 3) (.cons (.own 4) (.cons (.own 5) (.cons (.ref 6 0) .nil)))))))), (.arr 0 true), (.arr 0 true), (.arr 0 true), (.arr 6 true), (.arr 0 true), (.usr 4)]) : (F72be n rc).F x y = runFn prog G (ro G (tabOf (Q60L n rc)) (frOf []) _) Go.Proofs.Try.f72 .no [(0, (.obj 0 1 (.mv 0))), (0, (.obj 0 2 (.mv 0))), (0, (.obj 0 4 (.mv 6)))] (ShL.enc G (.cons (.ptr 0 0) (.cons (.int .i64) (.cons (.agg (.cons (.int .i64) (.cons (.int .i64) (.cons .str .nil)))) .nil))) x) (encO G [(.box 90 (.cons (.imm 5) (.cons (.own 1) (.cons (.own 2) (.cons (.own 3) (.cons (.own 4) (.cons (.own 5) (.cons (.ref 6 0) .nil)))))))), (.arr 0 true), (.arr 0 true), (.arr 0 true), (.arr 6 true), (.arr 0 true), (.usr 4)] y) (decR .bool [(.box 90 (.cons (.imm 5) (.cons (.own 7) (.cons (.own 8) (.cons (.own 3) (.cons (.own 9) (.cons (.own 5) (.cons (.ref 6 0) .nil)))))))), .dead, .dead, (.arr 0 true), .dead, (.arr 0 true), (.usr 4), (.arr 0 true), (.arr 0 true), (.arr 6 true)]) := by kernel_rfl
theorem F72b_ok (n : Nat) (rc : Q60RC) (h : AllE prog G (Q60L n rc)) : EntOK prog G (F72be n rc) :=
  ent_ok (fr := frOf []) (ann := .no) (frm := [(0, (.obj 0 1 (.mv 0))), (0, (.obj 0 2 (.mv 0))), (0, (.obj 0 4 (.mv 6)))]) laws fnok h.tab (e := F72be n rc) (fn := Go.Proofs.Try.f72) (by kernel_rfl) (AllF.ofB (cd := F72bc) (l := []) (by kernel_rfl) (by kernel_rfl) AllF.nil) (F72b_eq n rc)
noncomputable def Q60it (n : Nat) : Nat → Q60RC
  | 0 => (fun _ _ _ _ _ _ _ _ => none, fun _ _ _ _ _ _ _ _ _ _ _ => none, ())
  | k + 1 => (F60b n (Q60it n k), F72b n (Q60it n k), ())
theorem Q60it_ok (n : Nat) : ∀ k, AllE prog G (Q60L n (Q60it n k))
  | 0 => (AllE.cons (EntOK.none fun _ _ => rfl) (AllE.cons (EntOK.none fun _ _ => rfl) (E27_ok n)))
  | k + 1 => (AllE.cons (F60b_ok n _ (Q60it_ok n k)) (AllE.cons (F72b_ok n _ (Q60it_ok n k)) (E27_ok n)))
noncomputable def F60 (n : Nat) (a0 : Int) (a1 : List (List Stp)) (a2 : List Int) (a3 : List Int) (a4 : List Int) (a5 : List ByteArray) (a6 : List Int) (a7 : (Nat × (List (List Vrb)))) : Option (Bool × ((List (List Stp) × (Unit × (Unit × (Unit × (Unit × (Unit × (Unit × Unit))))))) × (Unit × (Unit × (List Int × (Unit × (List Int × ((Nat × (List (List Vrb))) × (List Int × (List Int × (List ByteArray × Unit))))))))))) := (Q60it n n).1 a0 a1 a2 a3 a4 a5 a6 a7
noncomputable def F60e (n : Nat) : Ent G := ⟨60, (.cons (.ptr 0 0) (.cons (.int .i64) .nil)), [(.box 90 (.cons (.imm 5) (.cons (.own 1) (.cons (.own 2) (.cons (.own 3) (.cons (.own 4) (.cons (.own 5) (.cons (.ref 6 0) .nil)))))))), (.arr 0 true), (.arr 0 true), (.arr 0 true), (.arr 6 true), (.arr 0 true), (.usr 4)], .bool, [(.box 90 (.cons (.imm 5) (.cons (.own 7) (.cons (.own 8) (.cons (.own 3) (.cons (.own 9) (.cons (.own 5) (.cons (.ref 6 0) .nil)))))))), .dead, .dead, (.arr 0 true), .dead, (.arr 0 true), (.usr 4), (.arr 0 true), (.arr 0 true), (.arr 6 true)], fun x y => F60 n x.2.1 y.1.1 y.2.1 y.2.2.1 y.2.2.2.1 y.2.2.2.2.1 y.2.2.2.2.2.1 y.2.2.2.2.2.2.1⟩
noncomputable def F72 (n : Nat) (a0 : Int) (a1 : Int) (a2 : Int) (a3 : ByteArray) (a4 : List (List Stp)) (a5 : List Int) (a6 : List Int) (a7 : List Int) (a8 : List ByteArray) (a9 : List Int) (a10 : (Nat × (List (List Vrb)))) : Option (Bool × ((List (List Stp) × (Unit × (Unit × (Unit × (Unit × (Unit × (Unit × Unit))))))) × (Unit × (Unit × (List Int × (Unit × (List Int × ((Nat × (List (List Vrb))) × (List Int × (List Int × (List ByteArray × Unit))))))))))) := (Q60it n n).2.1 a0 a1 a2 a3 a4 a5 a6 a7 a8 a9 a10
noncomputable def F72e (n : Nat) : Ent G := ⟨72, (.cons (.ptr 0 0) (.cons (.int .i64) (.cons (.agg (.cons (.int .i64) (.cons (.int .i64) (.cons .str .nil)))) .nil))), [(.box 90 (.cons (.imm 5) (.cons (.own 1) (.cons (.own 2) (.cons (.own 3) (.cons (.own 4) (.cons (.own 5) (.cons (.ref 6 0) .nil)))))))), (.arr 0 true), (.arr 0 true), (.arr 0 true), (.arr 6 true), (.arr 0 true), (.usr 4)], .bool, [(.box 90 (.cons (.imm 5) (.cons (.own 7) (.cons (.own 8) (.cons (.own 3) (.cons (.own 9) (.cons (.own 5) (.cons (.ref 6 0) .nil)))))))), .dead, .dead, (.arr 0 true), .dead, (.arr 0 true), (.usr 4), (.arr 0 true), (.arr 0 true), (.arr 6 true)], fun x y => F72 n x.2.1 x.2.2.1.1 x.2.2.1.2.1 x.2.2.1.2.2.1 y.1.1 y.2.1 y.2.2.1 y.2.2.2.1 y.2.2.2.2.1 y.2.2.2.2.2.1 y.2.2.2.2.2.2.1⟩
noncomputable def E28 (n : Nat) : List (Ent G) := F60e n :: F72e n :: E27 n
theorem E28_ok (n : Nat) : AllE prog G (E28 n) := Q60it_ok n n
noncomputable def F44_0x0 : SSh := ⟨52, [(1, (.imm 0)), (4, (.ptr 0 0)), (5, (.ptr 1 0)), (6, (.int .i64))], [(.box 38 (.cons .nil0 (.cons .nil0 (.cons .nil0 (.cons .nil0 (.cons .nil0 .nil)))))), (.box 90 (.cons (.imm 5) (.cons (.own 2) (.cons (.own 3) (.cons (.own 4) (.cons (.own 5) (.cons (.own 6) (.cons (.ref 7 0) .nil)))))))), (.arr 0 true), (.arr 0 true), (.arr 0 true), (.arr 6 true), (.arr 0 true), (.usr 4)]⟩
noncomputable def F44_0s : SSh := ⟨52, [(1, (.imm 0)), (4, (.ptr 0 0)), (5, (.ptr 1 0)), (6, (.int .i64))], [(.box 38 (.cons .nil0 (.cons .nil0 (.cons .nil0 (.cons .nil0 (.cons .nil0 .nil)))))), (.box 90 (.cons (.imm 5) (.cons (.own 2) (.cons (.own 3) (.cons (.own 4) (.cons (.own 5) (.cons (.own 6) (.cons (.ref 7 0) .nil)))))))), (.arr 0 true), (.arr 0 true), (.arr 0 true), (.arr 6 true), (.arr 0 true), (.usr 4)]⟩
noncomputable def F44_0 {R : Type} (n : Nat) (x1065 : List Int) (x1066 : Int) (x1067 : List (List Stp)) (x1068 : List Int) (x1069 : List Int) (x1070 : List Int) (x1071 : List ByteArray) (x1072 : List Int) (x1073 : (Nat × (List (List Vrb)))) (k0 : List Int → Int → List (List Stp) → List Int → List Int → List Int → List ByteArray → List Int → (Nat × (List (List Vrb))) → Option R) : Option R :=
  (bif (decide ((0 : Int) ≤ x1066)) then
  (bif (decide (x1066 < ((x1065.length) : Int))) then
  (andThen (F60 n (x1065.getD (x1066.toNat) (0 : Int)) x1067 x1068 x1069 x1070 x1071 x1072 x1073) fun r1452 =>
  (bif (!r1452.1) then
  (bif (decide ((0 : Int) ≤ x1066)) then
  (bif (decide (x1066 < ((x1065.length) : Int))) then
  let v1456 := ((x1065.getD (x1066.toNat) (0 : Int)) :: [])
  (bif (decide (((r1452.2.2.2.2.1.length) + (v1456.length)) ≤ (68719476736 : Nat))) then
  (k0 x1065 x1066 r1452.2.1.1 r1452.2.2.2.2.2.2.2.2.1 r1452.2.2.2.2.2.2.2.2.2.1 (r1452.2.2.2.2.1 ++ v1456) r1452.2.2.2.2.2.2.2.2.2.2.1 r1452.2.2.2.2.2.2.1 r1452.2.2.2.2.2.2.2.1)
  else none)
  else none)
  else none)
  else (k0 x1065 x1066 r1452.2.1.1 r1452.2.2.2.2.2.2.2.2.1 r1452.2.2.2.2.2.2.2.2.2.1 r1452.2.2.2.2.1 r1452.2.2.2.2.2.2.2.2.2.2.1 r1452.2.2.2.2.2.2.1 r1452.2.2.2.2.2.2.2.1)))
  else none)
  else none)
noncomputable def F44_0z (n : Nat) : Sm G := inZ G 0 ⟨[1, 4, 5, 6], []⟩ F44_0s fun R x K => F44_0 n x.1.1 x.1.2.2.2.1 x.2.2.1.1 x.2.2.2.1 x.2.2.2.2.1 x.2.2.2.2.2.1 x.2.2.2.2.2.2.1 x.2.2.2.2.2.2.2.1 x.2.2.2.2.2.2.2.2.1 (fun u0 u1 u2 u3 u4 u5 u6 u7 u8 => K .normal (SSh.enc G F44_0x0 ((u0, ((), ((), (u1, ())))), (((), ((), ((), ((), ((), ()))))), ((u2, ((), ((), ((), ((), ((), ((), ()))))))), (u3, (u4, (u5, (u6, (u7, (u8, ())))))))))))
theorem F44_0_eq (n : Nat) (R : Type) (x : SSh.den G F44_0s) (K : AE → St G → Option R) :
  F44_0 n x.1.1 x.1.2.2.2.1 x.2.2.1.1 x.2.2.2.1 x.2.2.2.2.1 x.2.2.2.2.2.1 x.2.2.2.2.2.2.1 x.2.2.2.2.2.2.2.1 x.2.2.2.2.2.2.2.2.1 (fun u0 u1 u2 u3 u4 u5 u6 u7 u8 => K .normal (SSh.enc G F44_0x0 ((u0, ((), ((), (u1, ())))), (((), ((), ((), ((), ((), ()))))), ((u2, ((), ((), ((), ((), ((), ((), ()))))))), (u3, (u4, (u5, (u6, (u7, (u8, ()))))))))))) = exec prog G (ro G (tabOf (E28 n)) (frOf []) R) 0 (codeAt F44c [1, 1, 1, 0, 1, 0, 0, 1, 0]) .no (SSh.enc G F44_0s x) (kNrm G (ro G (tabOf (E28 n)) (frOf []) R) 0 ⟨⟨[1, 4, 5, 6], []⟩, ⟨[4], []⟩, [(0, ⟨[4, 5], []⟩)]⟩ K) := by kernel_rfl
theorem F44_0_ok (n : Nat) : FragOK prog G 0 (codeAt F44c [1, 1, 1, 0, 1, 0, 0, 1, 0]) (F44_0z n) :=
  frag_plain laws fnok (E28_ok n).tab (AllF.of (l := []) (by kernel_rfl) AllF.nil) (F44_0_eq n)
noncomputable def F44_1x0 : SSh := ⟨52, [(4, (.ptr 0 0)), (5, (.ptr 1 0))], [(.box 38 (.cons .nil0 (.cons .nil0 (.cons .nil0 (.cons .nil0 (.cons .nil0 .nil)))))), (.box 90 (.cons (.imm 5) (.cons (.own 2) (.cons (.own 3) (.cons (.own 4) (.cons (.own 5) (.cons (.own 6) (.cons (.ref 7 0) .nil)))))))), (.arr 0 true), (.arr 0 true), (.arr 0 true), (.arr 6 true), (.arr 0 true), (.usr 4)]⟩
noncomputable def F44_1s : SSh := ⟨52, [(1, (.imm 0)), (4, (.ptr 0 0)), (5, (.ptr 1 0)), (6, (.int .i64))], [(.box 38 (.cons .nil0 (.cons .nil0 (.cons .nil0 (.cons .nil0 (.cons .nil0 .nil)))))), (.box 90 (.cons (.imm 5) (.cons (.own 2) (.cons (.own 3) (.cons (.own 4) (.cons (.own 5) (.cons (.own 6) (.cons (.ref 7 0) .nil)))))))), (.arr 0 true), (.arr 0 true), (.arr 0 true), (.arr 6 true), (.arr 0 true), (.usr 4)]⟩
noncomputable def F44_1_step {R : Type} (n : Nat) (k0 : List (List Stp) → List Int → List Int → List Int → List ByteArray → List Int → (Nat × (List (List Vrb))) → Option R) (rec : List Int → Int → List (List Stp) → List Int → List Int → List Int → List ByteArray → List Int → (Nat × (List (List Vrb))) → Option R) (x1054 : List Int) (x1055 : Int) (x1056 : List (List Stp)) (x1057 : List Int) (x1058 : List Int) (x1059 : List Int) (x1060 : List ByteArray) (x1061 : List Int) (x1062 : (Nat × (List (List Vrb)))) : Option R :=
  (bif (decide (x1055 < ((x1054.length) : Int))) then
  (F44_0 n x1054 x1055 x1056 x1057 x1058 x1059 x1060 x1061 x1062 (fun z1458 z1459 z1460 z1461 z1462 z1463 z1464 z1465 z1466 =>
  (rec z1458 (IntKind.wrap .i64 (z1459 + (1 : Int))) z1460 z1461 z1462 z1463 z1464 z1465 z1466)))
  else (k0 x1056 x1057 x1058 x1059 x1060 x1061 x1062))
noncomputable def F44_1_it {R : Type} (n : Nat) (k0 : List (List Stp) → List Int → List Int → List Int → List ByteArray → List Int → (Nat × (List (List Vrb))) → Option R) : Nat → List Int → Int → List (List Stp) → List Int → List Int → List Int → List ByteArray → List Int → (Nat × (List (List Vrb))) → Option R
  | 0, _, _, _, _, _, _, _, _, _ => none
  | k + 1, x1054, x1055, x1056, x1057, x1058, x1059, x1060, x1061, x1062 => F44_1_step n k0 (F44_1_it n k0 k) x1054 x1055 x1056 x1057 x1058 x1059 x1060 x1061 x1062
noncomputable def F44_1 {R : Type} (n : Nat) (x1054 : List Int) (x1055 : Int) (x1056 : List (List Stp)) (x1057 : List Int) (x1058 : List Int) (x1059 : List Int) (x1060 : List ByteArray) (x1061 : List Int) (x1062 : (Nat × (List (List Vrb)))) (k0 : List (List Stp) → List Int → List Int → List Int → List ByteArray → List Int → (Nat × (List (List Vrb))) → Option R) : Option R := F44_1_it n k0 n x1054 x1055 x1056 x1057 x1058 x1059 x1060 x1061 x1062
noncomputable def F44_1z (n : Nat) : Sm G := inZ G 0 ⟨[1, 4, 5, 6], []⟩ F44_1s fun R x K => F44_1_it n (fun u0 u1 u2 u3 u4 u5 u6 => K (.exit 0) (SSh.enc G F44_1x0 (((), ((), ())), (((), ((), ((), ((), ((), ()))))), ((u0, ((), ((), ((), ((), ((), ((), ()))))))), (u1, (u2, (u3, (u4, (u5, (u6, ()))))))))))) n x.1.1 x.1.2.2.2.1 x.2.2.1.1 x.2.2.2.1 x.2.2.2.2.1 x.2.2.2.2.2.1 x.2.2.2.2.2.2.1 x.2.2.2.2.2.2.2.1 x.2.2.2.2.2.2.2.2.1
theorem F44_1_eq (n : Nat) (R : Type) (rec : SSh.den G F44_1s → Option R) (x : SSh.den G F44_1s) (K : AE → St G → Option R) :
  F44_1_step n (fun u0 u1 u2 u3 u4 u5 u6 => K (.exit 0) (SSh.enc G F44_1x0 (((), ((), ())), (((), ((), ((), ((), ((), ()))))), ((u0, ((), ((), ((), ((), ((), ((), ()))))))), (u1, (u2, (u3, (u4, (u5, (u6, ()))))))))))) (fun x1054 x1055 x1056 x1057 x1058 x1059 x1060 x1061 x1062 => rec ((x1054, ((), ((), (x1055, ())))), (((), ((), ((), ((), ((), ()))))), ((x1056, ((), ((), ((), ((), ((), ((), ()))))))), (x1057, (x1058, (x1059, (x1060, (x1061, (x1062, ())))))))))) x.1.1 x.1.2.2.2.1 x.2.2.1.1 x.2.2.2.1 x.2.2.2.2.1 x.2.2.2.2.2.1 x.2.2.2.2.2.2.1 x.2.2.2.2.2.2.2.1 x.2.2.2.2.2.2.2.2.1 = exec prog G (ro G (tabOf (E28 n)) (frOf [F44_0z n]) R) 0 (codeAt F44c [1, 1, 1, 0, 1, 0, 0]) (.nd .no (.nd (.use 0) .no)) (SSh.enc G F44_1s x) (kLoop G (ro G (tabOf (E28 n)) (frOf [F44_0z n]) R) 0 ⟨[1, 4, 5, 6], []⟩ F44_1s ⟨⟨[4, 5], []⟩, ⟨[4], []⟩, [(0, ⟨[4, 5], []⟩)]⟩ rec K) := by kernel_rfl
theorem F44_1_ok (n : Nat) : FragOK prog G 0 (codeAt F44c [1, 1, 1, 0, 1, 0]) (F44_1z n) :=
  frag_loop (Z := fun R k (x : SSh.den G F44_1s) K => F44_1_it n (fun u0 u1 u2 u3 u4 u5 u6 => K (.exit 0) (SSh.enc G F44_1x0 (((), ((), ())), (((), ((), ((), ((), ((), ()))))), ((u0, ((), ((), ((), ((), ((), ((), ()))))))), (u1, (u2, (u3, (u4, (u5, (u6, ()))))))))))) k x.1.1 x.1.2.2.2.1 x.2.2.1.1 x.2.2.2.1 x.2.2.2.2.1 x.2.2.2.2.2.1 x.2.2.2.2.2.2.1 x.2.2.2.2.2.2.2.1 x.2.2.2.2.2.2.2.2.1) laws fnok (E28_ok n).tab (AllF.of (l := [(0, codeAt F44c [1, 1, 1, 0, 1, 0, 0, 1, 0])]) (by kernel_rfl) (AllF.cons (F44_0_ok n) AllF.nil)) (fun _ _ _ => rfl) (fun R k y K => F44_1_eq n R (fun (x : SSh.den G F44_1s) => F44_1_it n (fun u0 u1 u2 u3 u4 u5 u6 => K (.exit 0) (SSh.enc G F44_1x0 (((), ((), ())), (((), ((), ((), ((), ((), ()))))), ((u0, ((), ((), ((), ((), ((), ((), ()))))))), (u1, (u2, (u3, (u4, (u5, (u6, ()))))))))))) k x.1.1 x.1.2.2.2.1 x.2.2.1.1 x.2.2.2.1 x.2.2.2.2.1 x.2.2.2.2.2.1 x.2.2.2.2.2.2.1 x.2.2.2.2.2.2.2.1 x.2.2.2.2.2.2.2.2.1) y K) n
noncomputable def F44 (n : Nat) (a1048 : List (List Stp)) (a1049 : List Int) : Option ((List Int × (List Int × (List Int × (List ByteArray × (List Int × Unit))))) × Unit) :=
  let v1050 := ((a1048.length) : Int)
  (bif (decide ((0 : Int) ≤ v1050)) then
  (bif (decide (v1050 ≤ v1050)) then
  (bif (decide (v1050 ≤ ((68719476736 : Nat) : Int))) then
  let v1052 := ((a1048.length) : Int)
  (bif (decide ((0 : Int) ≤ v1052)) then
  (bif (decide (v1052 ≤ v1052)) then
  (bif (decide (v1052 ≤ ((68719476736 : Nat) : Int))) then
  (F44_1 n a1049 (0 : Int) a1048 [] [] [] [] (List.replicate (v1052.toNat) (0 : Int)) ((0 : Nat), (List.replicate (v1050.toNat) [])) (fun z1468 z1469 z1470 z1471 z1472 z1473 z1474 =>
  some ((z1469, (z1470, (z1471, (z1472, (z1473, ()))))), ())))
  else none)
  else none)
  else none)
  else none)
  else none)
  else none)
noncomputable def F44e (n : Nat) : Ent G := ⟨44, (.cons (.imm 5) (.cons (.imm 0) .nil)), [], (.agg (.cons (.imm 0) (.cons (.imm 0) (.cons (.imm 0) (.cons (.imm 6) (.cons (.imm 0) .nil)))))), [], fun x y => F44 n x.1 x.2.1⟩
theorem F44_eq (n : Nat) (x : ShL.den G (.cons (.imm 5) (.cons (.imm 0) .nil))) (y : denO G []) : (F44e n).F x y = runFn prog G (ro G (tabOf (E28 n)) (frOf [F44_0z n, F44_1z n]) _) Go.Proofs.Try.f44 (.nd .no (.nd .no (.nd .no (.nd (.nd .no (.nd (.use 1) .no)) .no)))) [(0, .fz)] (ShL.enc G (.cons (.imm 5) (.cons (.imm 0) .nil)) x) (encO G [] y) (decR (.agg (.cons (.imm 0) (.cons (.imm 0) (.cons (.imm 0) (.cons (.imm 6) (.cons (.imm 0) .nil)))))) []) := by kernel_rfl
theorem F44_ok (n : Nat) : EntOK prog G (F44e n) :=
  ent_ok (fr := frOf [F44_0z n, F44_1z n]) (ann := (.nd .no (.nd .no (.nd .no (.nd (.nd .no (.nd (.use 1) .no)) .no))))) (frm := [(0, .fz)]) laws fnok (E28_ok n).tab (e := F44e n) (fn := Go.Proofs.Try.f44) (by kernel_rfl) (AllF.ofB (cd := F44c) (l := [(1, codeAt F44c [1, 1, 1, 0, 1, 0])]) (by kernel_rfl) (by kernel_rfl) (AllF.cons (F44_1_ok n) AllF.nil)) (F44_eq n)
noncomputable def E29 (n : Nat) : List (Ent G) := F44e n :: E28 n
theorem E29_ok (n : Nat) : AllE prog G (E29 n) := AllE.cons (F44_ok n) (E28_ok n)
-- 19 loop.example/slowworm/spec.ImportRun
end Go.Proofs.Ytjfmfpnnjgfffaa.Am
