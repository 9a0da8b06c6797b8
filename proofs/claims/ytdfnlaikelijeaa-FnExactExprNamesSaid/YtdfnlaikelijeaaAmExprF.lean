/- The functions of the seat of expressions, printed. -/
import Derived.Test.YtdfnlaikelijeaaAmExprE
namespace Go.Proofs.Ytdfnlaikelijeaa.Am
open Go Go.Proofs.Try
set_option autoImplicit false
set_option linter.unusedVariables false
set_option maxRecDepth 100000
noncomputable def F45c : Code := bodyOf Go.Proofs.Try.f45
-- 64 slices.Index[[]string,string]
noncomputable def F64c : Code := bodyOf Go.Proofs.Try.f64
noncomputable def F64_0x0 : SSh := ⟨19, [(4, (.int .i64))], []⟩
noncomputable def F64_0x1 : SSh := ⟨19, [], []⟩
noncomputable def F64_0s : SSh := ⟨19, [(0, (.imm 2)), (1, .str), (7, (.int .i64)), (8, (.int .i64))], []⟩
noncomputable def F64_0_step {R : Type} (n : Nat) (k0 : Int → Option R) (k1 : Option R) (rec : List ByteArray → ByteArray → Int → Int → Option R) (x969 : List ByteArray) (x970 : ByteArray) (x971 : Int) (x972 : Int) : Option R :=
  (bif (decide (x972 < x971)) then
  (bif (decide ((0 : Int) ≤ x972)) then
  (bif (decide (x972 < ((x969.length) : Int))) then
  (bif ((x970.toList) == ((x969.getD (x972.toNat) ({ data := #[] } : ByteArray)).toList)) then
  (k0 x972)
  else (rec x969 x970 x971 (IntKind.wrap .i64 (x972 + (1 : Int)))))
  else none)
  else none)
  else k1)
noncomputable def F64_0_it {R : Type} (n : Nat) (k0 : Int → Option R) (k1 : Option R) : Nat → List ByteArray → ByteArray → Int → Int → Option R
  | 0, _, _, _, _ => none
  | k + 1, x969, x970, x971, x972 => F64_0_step n k0 k1 (F64_0_it n k0 k1 k) x969 x970 x971 x972
noncomputable def F64_0 {R : Type} (n : Nat) (x969 : List ByteArray) (x970 : ByteArray) (x971 : Int) (x972 : Int) (k0 : Int → Option R) (k1 : Option R) : Option R := F64_0_it n k0 k1 n x969 x970 x971 x972
noncomputable def F64_0z (n : Nat) : Sm G := inZ G 0 ⟨[0, 1, 7, 8], []⟩ F64_0s fun R x K => F64_0_it n (fun u0 => K .ret (SSh.enc G F64_0x0 ((u0, ()), ()))) (K (.exit 0) (SSh.enc G F64_0x1 ((), ()))) n x.1.1 x.1.2.1 x.1.2.2.1 x.1.2.2.2.1
theorem F64_0_eq (n : Nat) (R : Type) (rec : SSh.den G F64_0s → Option R) (x : SSh.den G F64_0s) (K : AE → St G → Option R) :
  F64_0_step n (fun u0 => K .ret (SSh.enc G F64_0x0 ((u0, ()), ()))) (K (.exit 0) (SSh.enc G F64_0x1 ((), ()))) (fun x969 x970 x971 x972 => rec ((x969, (x970, (x971, (x972, ())))), ())) x.1.1 x.1.2.1 x.1.2.2.1 x.1.2.2.2.1 = exec prog G (ro G (tabOf (E28 n)) (frOf []) R) 0 (codeAt F64c [1, 0, 1, 0, 0]) .no (SSh.enc G F64_0s x) (kLoop G (ro G (tabOf (E28 n)) (frOf []) R) 0 ⟨[0, 1, 7, 8], []⟩ F64_0s ⟨⟨[], []⟩, ⟨[4], []⟩, [(0, ⟨[], []⟩)]⟩ rec K) := by kernel_rfl
theorem F64_0_ok (n : Nat) : FragOK prog G 0 (codeAt F64c [1, 0, 1, 0]) (F64_0z n) :=
  frag_loop (Z := fun R k (x : SSh.den G F64_0s) K => F64_0_it n (fun u0 => K .ret (SSh.enc G F64_0x0 ((u0, ()), ()))) (K (.exit 0) (SSh.enc G F64_0x1 ((), ()))) k x.1.1 x.1.2.1 x.1.2.2.1 x.1.2.2.2.1) laws fnok (E28_ok n).tab (AllF.of (l := []) (by kernel_rfl) AllF.nil) (fun _ _ _ => rfl) (fun R k y K => F64_0_eq n R (fun (x : SSh.den G F64_0s) => F64_0_it n (fun u0 => K .ret (SSh.enc G F64_0x0 ((u0, ()), ()))) (K (.exit 0) (SSh.enc G F64_0x1 ((), ()))) k x.1.1 x.1.2.1 x.1.2.2.1 x.1.2.2.2.1) y K) n
noncomputable def F64 (n : Nat) (a966 : List ByteArray) (a967 : ByteArray) : Option (Int × Unit) :=
  (F64_0 n a966 a967 ((a966.length) : Int) (0 : Int) (fun z978 =>
  some (z978, ())) (
  some ((-1 : Int), ())))
noncomputable def F64e (n : Nat) : Ent G := ⟨64, (.cons (.imm 2) (.cons .str .nil)), [], (.int .i64), [], fun x y => F64 n x.1 x.2.1⟩
theorem F64_eq (n : Nat) (x : ShL.den G (.cons (.imm 2) (.cons .str .nil))) (y : denO G []) : (F64e n).F x y = runFn prog G (ro G (tabOf (E28 n)) (frOf [F64_0z n]) _) Go.Proofs.Try.f64 (.nd .no (.nd (.nd .no (.nd (.use 0) .no)) .no)) [(0, .fz)] (ShL.enc G (.cons (.imm 2) (.cons .str .nil)) x) (encO G [] y) (decR (.int .i64) []) := by kernel_rfl
theorem F64_ok (n : Nat) : EntOK prog G (F64e n) :=
  ent_ok (fr := frOf [F64_0z n]) (ann := (.nd .no (.nd (.nd .no (.nd (.use 0) .no)) .no))) (frm := [(0, .fz)]) laws fnok (E28_ok n).tab (e := F64e n) (fn := Go.Proofs.Try.f64) (by kernel_rfl) (AllF.ofB (cd := F64c) (l := [(0, codeAt F64c [1, 0, 1, 0])]) (by kernel_rfl) (by kernel_rfl) (AllF.cons (F64_0_ok n) AllF.nil)) (F64_eq n)
noncomputable def E29 (n : Nat) : List (Ent G) := F64e n :: E28 n
theorem E29_ok (n : Nat) : AllE prog G (E29 n) := AllE.cons (F64_ok n) (E28_ok n)
noncomputable def F45 (n : Nat) (a964 : List ByteArray) (a965 : ByteArray) : Option (Bool × Unit) :=
  (andThen (F64 n a964 a965) fun r979 =>
  some ((decide (r979.1 ≥ (0 : Int))), ()))
noncomputable def F45e (n : Nat) : Ent G := ⟨45, (.cons (.imm 2) (.cons .str .nil)), [], .bool, [], fun x y => F45 n x.1 x.2.1⟩
theorem F45_eq (n : Nat) (x : ShL.den G (.cons (.imm 2) (.cons .str .nil))) (y : denO G []) : (F45e n).F x y = runFn prog G (ro G (tabOf (E29 n)) (frOf []) _) Go.Proofs.Try.f45 .no [(0, .fz)] (ShL.enc G (.cons (.imm 2) (.cons .str .nil)) x) (encO G [] y) (decR .bool []) := by kernel_rfl
theorem F45_ok (n : Nat) : EntOK prog G (F45e n) :=
  ent_ok (fr := frOf []) (ann := .no) (frm := [(0, .fz)]) laws fnok (E29_ok n).tab (e := F45e n) (fn := Go.Proofs.Try.f45) (by kernel_rfl) (AllF.ofB (cd := F45c) (l := []) (by kernel_rfl) (by kernel_rfl) AllF.nil) (F45_eq n)
noncomputable def E30 (n : Nat) : List (Ent G) := F45e n :: E29 n
theorem E30_ok (n : Nat) : AllE prog G (E30 n) := AllE.cons (F45_ok n) (E29_ok n)
noncomputable def F50 (n : Nat) (a961 : ByteArray) : Option (Bool × Unit) :=
  (andThen (F65 n) fun r963 =>
  (andThen (F45 n r963.1 a961) fun r981 =>
  some (r981.1, ())))
noncomputable def F50e (n : Nat) : Ent G := ⟨50, (.cons .str .nil), [], .bool, [], fun x y => F50 n x.1⟩
theorem F50_eq (n : Nat) (x : ShL.den G (.cons .str .nil)) (y : denO G []) : (F50e n).F x y = runFn prog G (ro G (tabOf (E30 n)) (frOf []) _) Go.Proofs.Try.f50 .no [(0, .fz)] (ShL.enc G (.cons .str .nil) x) (encO G [] y) (decR .bool []) := by kernel_rfl
theorem F50_ok (n : Nat) : EntOK prog G (F50e n) :=
  ent_ok (fr := frOf []) (ann := .no) (frm := [(0, .fz)]) laws fnok (E30_ok n).tab (e := F50e n) (fn := Go.Proofs.Try.f50) (by kernel_rfl) (AllF.ofB (cd := F50c) (l := []) (by kernel_rfl) (by kernel_rfl) AllF.nil) (F50_eq n)
noncomputable def E31 (n : Nat) : List (Ent G) := F50e n :: E30 n
theorem E31_ok (n : Nat) : AllE prog G (E31 n) := AllE.cons (F50_ok n) (E30_ok n)
-- 51 loop.example/slowworm/impl.isLetter
noncomputable def F51c : Code := bodyOf Go.Proofs.Try.f51
noncomputable def F51 (n : Nat) (a989 : Int) : Option (Bool × Unit) :=
  (bif (a989 == (95 : Int)) then
  some (true, ())
  else (bif (decide (a989 ≥ (97 : Int))) then
  (bif (decide (a989 ≤ (122 : Int))) then
  some (true, ())
  else (bif (decide (a989 ≥ (65 : Int))) then
  some ((decide (a989 ≤ (90 : Int))), ())
  else some (false, ())))
  else (bif (decide (a989 ≥ (65 : Int))) then
  some ((decide (a989 ≤ (90 : Int))), ())
  else some (false, ()))))
noncomputable def F51e (n : Nat) : Ent G := ⟨51, (.cons (.int .u8) .nil), [], .bool, [], fun x y => F51 n x.1⟩
theorem F51_eq (n : Nat) (x : ShL.den G (.cons (.int .u8) .nil)) (y : denO G []) : (F51e n).F x y = runFn prog G (ro G (tabOf (E31 n)) (frOf []) _) Go.Proofs.Try.f51 .no [(0, .fz)] (ShL.enc G (.cons (.int .u8) .nil) x) (encO G [] y) (decR .bool []) := by kernel_rfl
theorem F51_ok (n : Nat) : EntOK prog G (F51e n) :=
  ent_ok (fr := frOf []) (ann := .no) (frm := [(0, .fz)]) laws fnok (E31_ok n).tab (e := F51e n) (fn := Go.Proofs.Try.f51) (by kernel_rfl) (AllF.ofB (cd := F51c) (l := []) (by kernel_rfl) (by kernel_rfl) AllF.nil) (F51_eq n)
noncomputable def E32 (n : Nat) : List (Ent G) := F51e n :: E31 n
theorem E32_ok (n : Nat) : AllE prog G (E32 n) := AllE.cons (F51_ok n) (E31_ok n)
noncomputable def F27_0x0 : SSh := ⟨39, [(2, .bool)], []⟩
noncomputable def F27_0x1 : SSh := ⟨39, [], []⟩
noncomputable def F27_0s : SSh := ⟨39, [(0, .str), (22, (.int .i64)), (23, (.int .i64))], []⟩
noncomputable def F27_0_step {R : Type} (n : Nat) (k0 : Bool → Option R) (k1 : Option R) (rec : ByteArray → Int → Int → Option R) (x984 : ByteArray) (x985 : Int) (x986 : Int) : Option R :=
  (bif (decide (x986 < x985)) then
  (bif (decide ((0 : Int) ≤ x986)) then
  (bif (decide (x986 < ((x984.size) : Int))) then
  (andThen (F51 n (strOf x984 (x986.toNat))) fun r997 =>
  (bif (!r997.1) then
  (bif (decide ((0 : Int) ≤ x986)) then
  (bif (decide (x986 < ((x984.size) : Int))) then
  (andThen (F49 n (strOf x984 (x986.toNat))) fun r1000 =>
  (bif (!r1000.1) then
  (k0 false)
  else (rec x984 x985 (IntKind.wrap .i64 (x986 + (1 : Int))))))
  else none)
  else none)
  else (rec x984 x985 (IntKind.wrap .i64 (x986 + (1 : Int))))))
  else none)
  else none)
  else k1)
noncomputable def F27_0_it {R : Type} (n : Nat) (k0 : Bool → Option R) (k1 : Option R) : Nat → ByteArray → Int → Int → Option R
  | 0, _, _, _ => none
  | k + 1, x984, x985, x986 => F27_0_step n k0 k1 (F27_0_it n k0 k1 k) x984 x985 x986
noncomputable def F27_0 {R : Type} (n : Nat) (x984 : ByteArray) (x985 : Int) (x986 : Int) (k0 : Bool → Option R) (k1 : Option R) : Option R := F27_0_it n k0 k1 n x984 x985 x986
noncomputable def F27_0z (n : Nat) : Sm G := inZ G 0 ⟨[0, 22, 23], []⟩ F27_0s fun R x K => F27_0_it n (fun u0 => K .ret (SSh.enc G F27_0x0 ((u0, ()), ()))) (K (.exit 0) (SSh.enc G F27_0x1 ((), ()))) n x.1.1 x.1.2.1 x.1.2.2.1
theorem F27_0_eq (n : Nat) (R : Type) (rec : SSh.den G F27_0s → Option R) (x : SSh.den G F27_0s) (K : AE → St G → Option R) :
  F27_0_step n (fun u0 => K .ret (SSh.enc G F27_0x0 ((u0, ()), ()))) (K (.exit 0) (SSh.enc G F27_0x1 ((), ()))) (fun x984 x985 x986 => rec ((x984, (x985, (x986, ()))), ())) x.1.1 x.1.2.1 x.1.2.2.1 = exec prog G (ro G (tabOf (E32 n)) (frOf []) R) 0 (codeAt F27c [1, 1, 0, 1, 0, 0]) .no (SSh.enc G F27_0s x) (kLoop G (ro G (tabOf (E32 n)) (frOf []) R) 0 ⟨[0, 22, 23], []⟩ F27_0s ⟨⟨[], []⟩, ⟨[2], []⟩, [(0, ⟨[], []⟩)]⟩ rec K) := by kernel_rfl
theorem F27_0_ok (n : Nat) : FragOK prog G 0 (codeAt F27c [1, 1, 0, 1, 0]) (F27_0z n) :=
  frag_loop (Z := fun R k (x : SSh.den G F27_0s) K => F27_0_it n (fun u0 => K .ret (SSh.enc G F27_0x0 ((u0, ()), ()))) (K (.exit 0) (SSh.enc G F27_0x1 ((), ()))) k x.1.1 x.1.2.1 x.1.2.2.1) laws fnok (E32_ok n).tab (AllF.of (l := []) (by kernel_rfl) AllF.nil) (fun _ _ _ => rfl) (fun R k y K => F27_0_eq n R (fun (x : SSh.den G F27_0s) => F27_0_it n (fun u0 => K .ret (SSh.enc G F27_0x0 ((u0, ()), ()))) (K (.exit 0) (SSh.enc G F27_0x1 ((), ()))) k x.1.1 x.1.2.1 x.1.2.2.1) y K) n
noncomputable def F27 (n : Nat) (a951 : ByteArray) : Option (Bool × Unit) :=
  (bif (decide (((a951.size) : Int) < (1 : Int))) then
  some (false, ())
  else (bif (decide (((a951.size) : Int) > (12 : Int))) then
  some (false, ())
  else (bif (decide ((0 : Int) < ((a951.size) : Int))) then
  (andThen (F49 n (strOf a951 (0 : Nat))) fun r960 =>
  (bif r960.1 then
  some (false, ())
  else (andThen (F50 n a951) fun r982 =>
  (bif r982.1 then
  some (false, ())
  else (F27_0 n a951 ((a951.size) : Int) (0 : Int) (fun z1004 =>
  some (z1004, ())) (
  some (true, ())))))))
  else none)))
noncomputable def F27e (n : Nat) : Ent G := ⟨27, (.cons .str .nil), [], .bool, [], fun x y => F27 n x.1⟩
theorem F27_eq (n : Nat) (x : ShL.den G (.cons .str .nil)) (y : denO G []) : (F27e n).F x y = runFn prog G (ro G (tabOf (E32 n)) (frOf [F27_0z n]) _) Go.Proofs.Try.f27 (.nd .no (.nd .no (.nd (.nd .no (.nd (.use 0) .no)) .no))) [(0, .fz)] (ShL.enc G (.cons .str .nil) x) (encO G [] y) (decR .bool []) := by kernel_rfl
theorem F27_ok (n : Nat) : EntOK prog G (F27e n) :=
  ent_ok (fr := frOf [F27_0z n]) (ann := (.nd .no (.nd .no (.nd (.nd .no (.nd (.use 0) .no)) .no)))) (frm := [(0, .fz)]) laws fnok (E32_ok n).tab (e := F27e n) (fn := Go.Proofs.Try.f27) (by kernel_rfl) (AllF.ofB (cd := F27c) (l := [(0, codeAt F27c [1, 1, 0, 1, 0])]) (by kernel_rfl) (by kernel_rfl) (AllF.cons (F27_0_ok n) AllF.nil)) (F27_eq n)
noncomputable def E33 (n : Nat) : List (Ent G) := F27e n :: E32 n
theorem E33_ok (n : Nat) : AllE prog G (E33 n) := AllE.cons (F27_ok n) (E32_ok n)
-- 74 loop.example/slowworm/impl.binaryOps
noncomputable def F74c : Code := bodyOf Go.Proofs.Try.f74
noncomputable def F74 (n : Nat)  : Option (List ByteArray × Unit) :=
  some ((({ data := #[43] } : ByteArray) :: (({ data := #[45] } : ByteArray) :: (({ data := #[42] } : ByteArray) :: (({ data := #[47, 47] } : ByteArray) :: (({ data := #[37] } : ByteArray) :: (({ data := #[42, 42] } : ByteArray) :: (({ data := #[60] } : ByteArray) :: (({ data := #[60, 61] } : ByteArray) :: (({ data := #[62] } : ByteArray) :: (({ data := #[62, 61] } : ByteArray) :: (({ data := #[61, 61] } : ByteArray) :: (({ data := #[33, 61] } : ByteArray) :: (({ data := #[105, 110] } : ByteArray) :: (({ data := #[105, 115] } : ByteArray) :: [])))))))))))))), ())
noncomputable def F74e (n : Nat) : Ent G := ⟨74, .nil, [], (.imm 2), [], fun x y => F74 n⟩
theorem F74_eq (n : Nat) (x : ShL.den G .nil) (y : denO G []) : (F74e n).F x y = runFn prog G (ro G (tabOf (E33 n)) (frOf []) _) Go.Proofs.Try.f74 .no [(0, .fz)] (ShL.enc G .nil x) (encO G [] y) (decR (.imm 2) []) := by kernel_rfl
theorem F74_ok (n : Nat) : EntOK prog G (F74e n) :=
  ent_ok (fr := frOf []) (ann := .no) (frm := [(0, .fz)]) laws fnok (E33_ok n).tab (e := F74e n) (fn := Go.Proofs.Try.f74) (by kernel_rfl) (AllF.ofB (cd := F74c) (l := []) (by kernel_rfl) (by kernel_rfl) AllF.nil) (F74_eq n)
noncomputable def E34 (n : Nat) : List (Ent G) := F74e n :: E33 n
theorem E34_ok (n : Nat) : AllE prog G (E34 n) := AllE.cons (F74_ok n) (E33_ok n)
-- 75 loop.example/slowworm/impl.allNames
noncomputable def F75c : Code := bodyOf Go.Proofs.Try.f75
noncomputable def F75_0x0 : SSh := ⟨23, [(2, .bool)], []⟩
noncomputable def F75_0x1 : SSh := ⟨23, [], []⟩
noncomputable def F75_0s : SSh := ⟨23, [(0, (.imm 2)), (5, (.imm 2)), (6, (.int .i64)), (7, (.int .i64))], []⟩
noncomputable def F75_0_step {R : Type} (n : Nat) (k0 : Bool → Option R) (k1 : Option R) (rec : List ByteArray → List ByteArray → Int → Int → Option R) (x1036 : List ByteArray) (x1037 : List ByteArray) (x1038 : Int) (x1039 : Int) : Option R :=
  (bif (decide (x1039 < x1038)) then
  (bif (decide ((0 : Int) ≤ x1039)) then
  (bif (decide (x1039 < ((x1037.length) : Int))) then
  let v1042 := (x1037.getD (x1039.toNat) ({ data := #[] } : ByteArray))
  (andThen (F27 n v1042) fun r1043 =>
  (bif (!r1043.1) then
  (k0 false)
  else (bif (decide ((0 : Int) ≤ x1039)) then
  (bif (decide (x1039 ≤ ((x1036.length) : Int))) then
  (andThen (F45 n ((x1036.take (x1039.toNat)).drop (0 : Nat)) v1042) fun r1046 =>
  (bif r1046.1 then
  (k0 false)
  else (rec x1036 x1037 x1038 (IntKind.wrap .i64 (x1039 + (1 : Int))))))
  else none)
  else none)))
  else none)
  else none)
  else k1)
noncomputable def F75_0_it {R : Type} (n : Nat) (k0 : Bool → Option R) (k1 : Option R) : Nat → List ByteArray → List ByteArray → Int → Int → Option R
  | 0, _, _, _, _ => none
  | k + 1, x1036, x1037, x1038, x1039 => F75_0_step n k0 k1 (F75_0_it n k0 k1 k) x1036 x1037 x1038 x1039
noncomputable def F75_0 {R : Type} (n : Nat) (x1036 : List ByteArray) (x1037 : List ByteArray) (x1038 : Int) (x1039 : Int) (k0 : Bool → Option R) (k1 : Option R) : Option R := F75_0_it n k0 k1 n x1036 x1037 x1038 x1039
noncomputable def F75_0z (n : Nat) : Sm G := inZ G 0 ⟨[0, 5, 6, 7], []⟩ F75_0s fun R x K => F75_0_it n (fun u0 => K .ret (SSh.enc G F75_0x0 ((u0, ()), ()))) (K (.exit 0) (SSh.enc G F75_0x1 ((), ()))) n x.1.1 x.1.2.1 x.1.2.2.1 x.1.2.2.2.1
theorem F75_0_eq (n : Nat) (R : Type) (rec : SSh.den G F75_0s → Option R) (x : SSh.den G F75_0s) (K : AE → St G → Option R) :
  F75_0_step n (fun u0 => K .ret (SSh.enc G F75_0x0 ((u0, ()), ()))) (K (.exit 0) (SSh.enc G F75_0x1 ((), ()))) (fun x1036 x1037 x1038 x1039 => rec ((x1036, (x1037, (x1038, (x1039, ())))), ())) x.1.1 x.1.2.1 x.1.2.2.1 x.1.2.2.2.1 = exec prog G (ro G (tabOf (E34 n)) (frOf []) R) 0 (codeAt F75c [1, 0, 1, 0, 0]) .no (SSh.enc G F75_0s x) (kLoop G (ro G (tabOf (E34 n)) (frOf []) R) 0 ⟨[0, 5, 6, 7], []⟩ F75_0s ⟨⟨[], []⟩, ⟨[2], []⟩, [(0, ⟨[], []⟩)]⟩ rec K) := by kernel_rfl
theorem F75_0_ok (n : Nat) : FragOK prog G 0 (codeAt F75c [1, 0, 1, 0]) (F75_0z n) :=
  frag_loop (Z := fun R k (x : SSh.den G F75_0s) K => F75_0_it n (fun u0 => K .ret (SSh.enc G F75_0x0 ((u0, ()), ()))) (K (.exit 0) (SSh.enc G F75_0x1 ((), ()))) k x.1.1 x.1.2.1 x.1.2.2.1 x.1.2.2.2.1) laws fnok (E34_ok n).tab (AllF.of (l := []) (by kernel_rfl) AllF.nil) (fun _ _ _ => rfl) (fun R k y K => F75_0_eq n R (fun (x : SSh.den G F75_0s) => F75_0_it n (fun u0 => K .ret (SSh.enc G F75_0x0 ((u0, ()), ()))) (K (.exit 0) (SSh.enc G F75_0x1 ((), ()))) k x.1.1 x.1.2.1 x.1.2.2.1 x.1.2.2.2.1) y K) n
noncomputable def F75 (n : Nat) (a1034 : List ByteArray) : Option (Bool × Unit) :=
  (F75_0 n a1034 a1034 ((a1034.length) : Int) (0 : Int) (fun z1048 =>
  some (z1048, ())) (
  some (true, ())))
noncomputable def F75e (n : Nat) : Ent G := ⟨75, (.cons (.imm 2) .nil), [], .bool, [], fun x y => F75 n x.1⟩
theorem F75_eq (n : Nat) (x : ShL.den G (.cons (.imm 2) .nil)) (y : denO G []) : (F75e n).F x y = runFn prog G (ro G (tabOf (E34 n)) (frOf [F75_0z n]) _) Go.Proofs.Try.f75 (.nd .no (.nd (.nd .no (.nd (.use 0) .no)) .no)) [(0, .fz)] (ShL.enc G (.cons (.imm 2) .nil) x) (encO G [] y) (decR .bool []) := by kernel_rfl
theorem F75_ok (n : Nat) : EntOK prog G (F75e n) :=
  ent_ok (fr := frOf [F75_0z n]) (ann := (.nd .no (.nd (.nd .no (.nd (.use 0) .no)) .no))) (frm := [(0, .fz)]) laws fnok (E34_ok n).tab (e := F75e n) (fn := Go.Proofs.Try.f75) (by kernel_rfl) (AllF.ofB (cd := F75c) (l := [(0, codeAt F75c [1, 0, 1, 0])]) (by kernel_rfl) (by kernel_rfl) (AllF.cons (F75_0_ok n) AllF.nil)) (F75_eq n)
noncomputable def E35 (n : Nat) : List (Ent G) := F75e n :: E34 n
theorem E35_ok (n : Nat) : AllE prog G (E35 n) := AllE.cons (F75_ok n) (E34_ok n)
noncomputable def F54_1x0 : SSh := ⟨175, [(2, .bool)], []⟩
noncomputable def F54_1x1 : SSh := ⟨175, [], []⟩
noncomputable def F54_1s : SSh := ⟨175, [(1, (.ptr 0 0)), (3, (.ptr 1 0)), (4, (.ptr 2 0)), (5, (.int .i64)), (6, (.clo 72 (.cons (.ptr 1 0) (.cons (.ptr 2 0) .nil))))], [(.box 30 (.cons (.int .i64) (.cons .str (.cons (.imm 2) (.cons (.imm 3) .nil))))), (.box 3 (.cons (.int .i64) .nil)), (.box 9 (.cons .str .nil))]⟩
noncomputable def F54_1 {R : Type} (n : Nat) (x772 : Int) (x773 : Int) (x774 : ByteArray) (x775 : List ByteArray) (x776 : List Ex) (x777 : Int) (x778 : ByteArray) (k0 : Bool → Option R) (k1 : Option R) : Option R :=
  (F54_0 n x772 x773 x773 x774 x775 x776 x777 x778 (fun z790 z791 z792 z793 z794 z795 z796 z797 z798 =>
  (bif z792 then
  (andThen (F72 n (0 : Int) z797 z798) fun r804 =>
  (k0 r804.1))
  else (bif (z791 == (4 : Int)) then
  (bif (z797 == (0 : Int)) then
  (andThen (F73 n z798) fun r942 =>
  (bif r942.1 then
  (bif (decide ((0 : Int) < ((z798.size) : Int))) then
  (k0 ((strOf z798 (0 : Nat)) != (45 : Int)))
  else none)
  else (k0 false)))
  else (k0 false))
  else (bif (z791 == (5 : Int)) then
  (bif (z797 == (0 : Int)) then
  (k0 (decide (((z798.size) : Int) ≤ (400 : Int))))
  else (k0 false))
  else (bif (z791 == (6 : Int)) then
  (bif (z797 == (0 : Int)) then
  (andThen (F27 n z798) fun r1005 =>
  (k0 r1005.1))
  else (k0 false))
  else (bif (z791 == (7 : Int)) then
  (bif (decide (z797 ≤ (6 : Int))) then
  (k0 ((z798.toList) == (({ data := #[] } : ByteArray).toList)))
  else (k0 false))
  else (bif (z791 == (8 : Int)) then
  (bif (decide (z797 ≤ (12 : Int))) then
  (bif ((z797.tmod (2 : Int)) == (0 : Int)) then
  (k0 ((z798.toList) == (({ data := #[] } : ByteArray).toList)))
  else (k0 false))
  else (k0 false))
  else (bif (z791 == (9 : Int)) then
  (bif (z797 == (1 : Int)) then
  (bif ((z798.toList) == (({ data := #[45] } : ByteArray).toList)) then
  (k0 true)
  else (k0 ((z798.toList) == (({ data := #[110, 111, 116] } : ByteArray).toList))))
  else (k0 false))
  else (bif (z791 == (10 : Int)) then
  (bif (z797 == (2 : Int)) then
  (andThen (F74 n) fun r1021 =>
  (andThen (F45 n r1021.1 z798) fun r1022 =>
  (k0 r1022.1)))
  else (k0 false))
  else (bif (z791 == (11 : Int)) then
  (bif (z797 == (2 : Int)) then
  (bif ((z798.toList) == (({ data := #[97, 110, 100] } : ByteArray).toList)) then
  (k0 true)
  else (k0 ((z798.toList) == (({ data := #[111, 114] } : ByteArray).toList))))
  else (k0 false))
  else (bif (z791 == (12 : Int)) then
  (andThen (F72 n (3 : Int) z797 z798) fun r1028 =>
  (k0 r1028.1))
  else (bif (z791 == (13 : Int)) then
  (bif (decide (z797 ≥ (1 : Int))) then
  (bif (decide (z797 ≤ (7 : Int))) then
  (bif ((z798.toList) == (({ data := #[] } : ByteArray).toList)) then
  (bif (decide (z790 < z797)) then
  (andThen (F75 n z795) fun r1049 =>
  (k0 r1049.1))
  else (k0 false))
  else (k0 false))
  else (k0 false))
  else (k0 false))
  else (bif (z791 == (14 : Int)) then
  (andThen (F72 n (2 : Int) z797 z798) fun r1051 =>
  (k0 r1051.1))
  else (bif (z791 == (15 : Int)) then
  (bif (z797 == (1 : Int)) then
  (andThen (F27 n z798) fun r1054 =>
  (k0 r1054.1))
  else (k0 false))
  else (bif (z791 == (16 : Int)) then
  (andThen (F72 n (1 : Int) z797 z798) fun r1056 =>
  (bif r1056.1 then
  (bif (decide (z790 ≤ (6 : Int))) then
  (andThen (F75 n z795) fun r1058 =>
  (k0 r1058.1))
  else (k0 false))
  else (k0 false)))
  else (bif (z791 == (17 : Int)) then
  (andThen (F72 n (1 : Int) z797 z798) fun r1060 =>
  (k0 r1060.1))
  else k1)))))))))))))))))
noncomputable def F54_1z (n : Nat) : Sm G := inZ G 0 ⟨[1, 3, 4, 5, 6], []⟩ F54_1s fun R x K => F54_1 n x.1.2.2.2.1 x.2.1.1 x.2.1.2.1 x.2.1.2.2.1 x.2.1.2.2.2.1 x.2.2.1.1 x.2.2.2.1.1 (fun u0 => K .ret (SSh.enc G F54_1x0 ((u0, ()), ()))) (K .normal (SSh.enc G F54_1x1 ((), ())))
theorem F54_1_eq (n : Nat) (R : Type) (x : SSh.den G F54_1s) (K : AE → St G → Option R) :
  F54_1 n x.1.2.2.2.1 x.2.1.1 x.2.1.2.1 x.2.1.2.2.1 x.2.1.2.2.2.1 x.2.2.1.1 x.2.2.2.1.1 (fun u0 => K .ret (SSh.enc G F54_1x0 ((u0, ()), ()))) (K .normal (SSh.enc G F54_1x1 ((), ()))) = exec prog G (ro G (tabOf (E35 n)) (frOf [F54_0z n]) R) 0 (codeAt F54c [1, 1, 1, 1, 0]) (.nd .no (.nd (.nd (.use 0) .no) .no)) (SSh.enc G F54_1s x) (kNrm G (ro G (tabOf (E35 n)) (frOf [F54_0z n]) R) 0 ⟨⟨[], []⟩, ⟨[2], []⟩, []⟩ K) := by kernel_rfl
theorem F54_1_ok (n : Nat) : FragOK prog G 0 (codeAt F54c [1, 1, 1, 1, 0]) (F54_1z n) :=
  frag_plain laws fnok (E35_ok n).tab (AllF.of (l := [(0, codeAt F54c [1, 1, 1, 1, 0, 1, 0, 0])]) (by kernel_rfl) (AllF.cons (F54_0_ok n) AllF.nil)) (F54_1_eq n)
noncomputable def F54 (n : Nat) (a763 : Int) (a764 : ByteArray) (a765 : List ByteArray) (a766 : List Ex) : Option (Bool × Unit) :=
  let v767 := ((a766.length) : Int)
  let v768 := ((a765.length) : Int)
  (bif (decide (v768 > (0 : Int))) then
  (bif (a763 != (13 : Int)) then
  (bif (a763 != (16 : Int)) then
  some (false, ())
  else (F54_1 n v768 a763 a764 a765 a766 v767 a764 (fun z1061 =>
  some (z1061, ())) (
  some (false, ()))))
  else (F54_1 n v768 a763 a764 a765 a766 v767 a764 (fun z1062 =>
  some (z1062, ())) (
  some (false, ()))))
  else (F54_1 n v768 a763 a764 a765 a766 v767 a764 (fun z1063 =>
  some (z1063, ())) (
  some (false, ()))))
noncomputable def F54e (n : Nat) : Ent G := ⟨54, (.cons (.agg (.cons (.int .i64) (.cons .str (.cons (.imm 2) (.cons (.imm 3) .nil))))) .nil), [], .bool, [], fun x y => F54 n x.1.1 x.1.2.1 x.1.2.2.1 x.1.2.2.2.1⟩
theorem F54_eq (n : Nat) (x : ShL.den G (.cons (.agg (.cons (.int .i64) (.cons .str (.cons (.imm 2) (.cons (.imm 3) .nil))))) .nil)) (y : denO G []) : (F54e n).F x y = runFn prog G (ro G (tabOf (E35 n)) (frOf [F54_0z n, F54_1z n]) _) Go.Proofs.Try.f54 (.nd .no (.nd .no (.nd .no (.nd .no (.nd (.use 1) .no))))) [(0, .fz)] (ShL.enc G (.cons (.agg (.cons (.int .i64) (.cons .str (.cons (.imm 2) (.cons (.imm 3) .nil))))) .nil) x) (encO G [] y) (decR .bool []) := by kernel_rfl
theorem F54_ok (n : Nat) : EntOK prog G (F54e n) :=
  ent_ok (fr := frOf [F54_0z n, F54_1z n]) (ann := (.nd .no (.nd .no (.nd .no (.nd .no (.nd (.use 1) .no)))))) (frm := [(0, .fz)]) laws fnok (E35_ok n).tab (e := F54e n) (fn := Go.Proofs.Try.f54) (by kernel_rfl) (AllF.ofB (cd := F54c) (l := [(1, codeAt F54c [1, 1, 1, 1, 0])]) (by kernel_rfl) (by kernel_rfl) (AllF.cons (F54_1_ok n) AllF.nil)) (F54_eq n)
noncomputable def E36 (n : Nat) : List (Ent G) := F54e n :: E35 n
theorem E36_ok (n : Nat) : AllE prog G (E36 n) := AllE.cons (F54_ok n) (E35_ok n)
abbrev Q34RC : Type := (Int → ByteArray → List ByteArray → List Ex → Int → Option (Bool × Unit)) × Unit
noncomputable def Q34L (n : Nat) (rc : Q34RC) : List (Ent G) := ⟨34, (.cons (.agg (.cons (.int .i64) (.cons .str (.cons (.imm 2) (.cons (.imm 3) .nil))))) (.cons (.int .i64) .nil)), [], .bool, [], fun x y => rc.1 x.1.1 x.1.2.1 x.1.2.2.1 x.1.2.2.2.1 x.2.1⟩ :: E36 n
-- 34 (loop.example/slowworm/impl.Expr).fits
noncomputable def F34bc : Code := bodyOf Go.Proofs.Try.f34
noncomputable def F34b_0x0 : SSh := ⟨27, [(4, .bool)], []⟩
noncomputable def F34b_0x1 : SSh := ⟨27, [], []⟩
noncomputable def F34b_0s : SSh := ⟨27, [(1, (.int .i64)), (15, (.imm 3)), (16, (.int .i64)), (17, (.int .i64))], []⟩
noncomputable def F34b_0_step {R : Type} (n : Nat) (rc : Q34RC) (k0 : Bool → Option R) (k1 : Option R) (rec : Int → List Ex → Int → Int → Option R) (x1111 : Int) (x1112 : List Ex) (x1113 : Int) (x1114 : Int) : Option R :=
  (bif (decide (x1114 < x1113)) then
  (bif (decide ((0 : Int) ≤ x1114)) then
  (bif (decide (x1114 < ((x1112.length) : Int))) then
  let v1116 := (x1112.getD (x1114.toNat) (Ex.mk (0 : Int) ({ data := #[] } : ByteArray) [] []))
  (andThen (rc.1 v1116.kind v1116.text v1116.names v1116.kids (IntKind.wrap .i64 (x1111 - (1 : Int)))) fun r1122 =>
  (bif (!r1122.1) then
  (k0 false)
  else (rec x1111 x1112 x1113 (IntKind.wrap .i64 (x1114 + (1 : Int))))))
  else none)
  else none)
  else k1)
noncomputable def F34b_0_it {R : Type} (n : Nat) (rc : Q34RC) (k0 : Bool → Option R) (k1 : Option R) : Nat → Int → List Ex → Int → Int → Option R
  | 0, _, _, _, _ => none
  | k + 1, x1111, x1112, x1113, x1114 => F34b_0_step n rc k0 k1 (F34b_0_it n rc k0 k1 k) x1111 x1112 x1113 x1114
noncomputable def F34b_0 {R : Type} (n : Nat) (rc : Q34RC) (x1111 : Int) (x1112 : List Ex) (x1113 : Int) (x1114 : Int) (k0 : Bool → Option R) (k1 : Option R) : Option R := F34b_0_it n rc k0 k1 n x1111 x1112 x1113 x1114
noncomputable def F34b_0z (n : Nat) (rc : Q34RC) : Sm G := inZ G 0 ⟨[1, 15, 16, 17], []⟩ F34b_0s fun R x K => F34b_0_it n rc (fun u0 => K .ret (SSh.enc G F34b_0x0 ((u0, ()), ()))) (K (.exit 0) (SSh.enc G F34b_0x1 ((), ()))) n x.1.1 x.1.2.1 x.1.2.2.1 x.1.2.2.2.1
theorem F34b_0_eq (n : Nat) (rc : Q34RC) (R : Type) (rec : SSh.den G F34b_0s → Option R) (x : SSh.den G F34b_0s) (K : AE → St G → Option R) :
  F34b_0_step n rc (fun u0 => K .ret (SSh.enc G F34b_0x0 ((u0, ()), ()))) (K (.exit 0) (SSh.enc G F34b_0x1 ((), ()))) (fun x1111 x1112 x1113 x1114 => rec ((x1111, (x1112, (x1113, (x1114, ())))), ())) x.1.1 x.1.2.1 x.1.2.2.1 x.1.2.2.2.1 = exec prog G (ro G (tabOf (Q34L n rc)) (frOf []) R) 0 (codeAt F34bc [1, 1, 0, 1, 0, 0]) .no (SSh.enc G F34b_0s x) (kLoop G (ro G (tabOf (Q34L n rc)) (frOf []) R) 0 ⟨[1, 15, 16, 17], []⟩ F34b_0s ⟨⟨[], []⟩, ⟨[4], []⟩, [(0, ⟨[], []⟩)]⟩ rec K) := by kernel_rfl
theorem F34b_0_ok (n : Nat) (rc : Q34RC) (h : AllE prog G (Q34L n rc)) : FragOK prog G 0 (codeAt F34bc [1, 1, 0, 1, 0]) (F34b_0z n rc) :=
  frag_loop (Z := fun R k (x : SSh.den G F34b_0s) K => F34b_0_it n rc (fun u0 => K .ret (SSh.enc G F34b_0x0 ((u0, ()), ()))) (K (.exit 0) (SSh.enc G F34b_0x1 ((), ()))) k x.1.1 x.1.2.1 x.1.2.2.1 x.1.2.2.2.1) laws fnok h.tab (AllF.of (l := []) (by kernel_rfl) AllF.nil) (fun _ _ _ => rfl) (fun R k y K => F34b_0_eq n rc R (fun (x : SSh.den G F34b_0s) => F34b_0_it n rc (fun u0 => K .ret (SSh.enc G F34b_0x0 ((u0, ()), ()))) (K (.exit 0) (SSh.enc G F34b_0x1 ((), ()))) k x.1.1 x.1.2.1 x.1.2.2.1 x.1.2.2.2.1) y K) n
noncomputable def F34b (n : Nat) (rc : Q34RC) (a1102 : Int) (a1103 : ByteArray) (a1104 : List ByteArray) (a1105 : List Ex) (a1106 : Int) : Option (Bool × Unit) :=
  (bif (decide (a1106 < (1 : Int))) then
  some (false, ())
  else (andThen (F54 n a1102 a1103 a1104 a1105) fun r1108 =>
  (bif (!r1108.1) then
  some (false, ())
  else (F34b_0 n rc a1106 a1105 ((a1105.length) : Int) (0 : Int) (fun z1125 =>
  some (z1125, ())) (
  some (true, ()))))))
noncomputable def F34be (n : Nat) (rc : Q34RC) : Ent G := ⟨34, (.cons (.agg (.cons (.int .i64) (.cons .str (.cons (.imm 2) (.cons (.imm 3) .nil))))) (.cons (.int .i64) .nil)), [], .bool, [], fun x y => F34b n rc x.1.1 x.1.2.1 x.1.2.2.1 x.1.2.2.2.1 x.2.1⟩
theorem F34b_eq (n : Nat) (rc : Q34RC) (x : ShL.den G (.cons (.agg (.cons (.int .i64) (.cons .str (.cons (.imm 2) (.cons (.imm 3) .nil))))) (.cons (.int .i64) .nil))) (y : denO G []) : (F34be n rc).F x y = runFn prog G (ro G (tabOf (Q34L n rc)) (frOf [F34b_0z n rc]) _) Go.Proofs.Try.f34 (.nd .no (.nd .no (.nd (.nd .no (.nd (.use 0) .no)) .no))) [(0, .fz)] (ShL.enc G (.cons (.agg (.cons (.int .i64) (.cons .str (.cons (.imm 2) (.cons (.imm 3) .nil))))) (.cons (.int .i64) .nil)) x) (encO G [] y) (decR .bool []) := by kernel_rfl
theorem F34b_ok (n : Nat) (rc : Q34RC) (h : AllE prog G (Q34L n rc)) : EntOK prog G (F34be n rc) :=
  ent_ok (fr := frOf [F34b_0z n rc]) (ann := (.nd .no (.nd .no (.nd (.nd .no (.nd (.use 0) .no)) .no)))) (frm := [(0, .fz)]) laws fnok h.tab (e := F34be n rc) (fn := Go.Proofs.Try.f34) (by kernel_rfl) (AllF.ofB (cd := F34bc) (l := [(0, codeAt F34bc [1, 1, 0, 1, 0])]) (by kernel_rfl) (by kernel_rfl) (AllF.cons (F34b_0_ok n rc h) AllF.nil)) (F34b_eq n rc)
noncomputable def Q34it (n : Nat) : Nat → Q34RC
  | 0 => (fun _ _ _ _ _ => none, ())
  | k + 1 => (F34b n (Q34it n k), ())
theorem Q34it_ok (n : Nat) : ∀ k, AllE prog G (Q34L n (Q34it n k))
  | 0 => (AllE.cons (EntOK.none fun _ _ => rfl) (E36_ok n))
  | k + 1 => (AllE.cons (F34b_ok n _ (Q34it_ok n k)) (E36_ok n))
noncomputable def F34 (n : Nat) (a0 : Int) (a1 : ByteArray) (a2 : List ByteArray) (a3 : List Ex) (a4 : Int) : Option (Bool × Unit) := (Q34it n n).1 a0 a1 a2 a3 a4
noncomputable def F34e (n : Nat) : Ent G := ⟨34, (.cons (.agg (.cons (.int .i64) (.cons .str (.cons (.imm 2) (.cons (.imm 3) .nil))))) (.cons (.int .i64) .nil)), [], .bool, [], fun x y => F34 n x.1.1 x.1.2.1 x.1.2.2.1 x.1.2.2.2.1 x.2.1⟩
noncomputable def E37 (n : Nat) : List (Ent G) := F34e n :: E36 n
theorem E37_ok (n : Nat) : AllE prog G (E37 n) := Q34it_ok n n
noncomputable def F12 (n : Nat) (a753 : Int) (a754 : ByteArray) (a755 : List ByteArray) (a756 : List Ex) : Option (Bool × Unit) :=
  (andThen (F34 n a753 a754 a755 a756 (7 : Int)) fun r1126 =>
  some (r1126.1, ()))
noncomputable def F12e (n : Nat) : Ent G := ⟨12, (.cons (.agg (.cons (.int .i64) (.cons .str (.cons (.imm 2) (.cons (.imm 3) .nil))))) .nil), [], .bool, [], fun x y => F12 n x.1.1 x.1.2.1 x.1.2.2.1 x.1.2.2.2.1⟩
theorem F12_eq (n : Nat) (x : ShL.den G (.cons (.agg (.cons (.int .i64) (.cons .str (.cons (.imm 2) (.cons (.imm 3) .nil))))) .nil)) (y : denO G []) : (F12e n).F x y = runFn prog G (ro G (tabOf (E37 n)) (frOf []) _) Go.Proofs.Try.f12 .no [(0, .fz)] (ShL.enc G (.cons (.agg (.cons (.int .i64) (.cons .str (.cons (.imm 2) (.cons (.imm 3) .nil))))) .nil) x) (encO G [] y) (decR .bool []) := by kernel_rfl
theorem F12_ok (n : Nat) : EntOK prog G (F12e n) :=
  ent_ok (fr := frOf []) (ann := .no) (frm := [(0, .fz)]) laws fnok (E37_ok n).tab (e := F12e n) (fn := Go.Proofs.Try.f12) (by kernel_rfl) (AllF.ofB (cd := F12c) (l := []) (by kernel_rfl) (by kernel_rfl) AllF.nil) (F12_eq n)
noncomputable def E38 (n : Nat) : List (Ent G) := F12e n :: E37 n
theorem E38_ok (n : Nat) : AllE prog G (E38 n) := AllE.cons (F12_ok n) (E37_ok n)
-- 44 loop.example/slowworm/impl.ExprNames$1
noncomputable def F44c : Code := bodyOf Go.Proofs.Try.f44
noncomputable def F44 (n : Nat) (a1144 : ByteArray) (a1145 : List ByteArray) : Option (Unit × ((Unit × Unit) × (Unit × (List ByteArray × Unit)))) :=
  (andThen (F45 n a1145 a1144) fun r1146 =>
  (bif (!r1146.1) then
  let v1148 := (a1144 :: [])
  (bif (decide (((a1145.length) + (v1148.length)) ≤ (68719476736 : Nat))) then
  some ((), (((), ()), ((), ((a1145 ++ v1148), ()))))
  else none)
  else some ((), (((), ()), ((), (a1145, ()))))))
noncomputable def F44e (n : Nat) : Ent G := ⟨44, (.cons .str (.cons (.ptr 0 0) .nil)), [(.box 22 (.cons (.own 1) .nil)), (.arr 2 true)], (.tup .nil), [(.box 22 (.cons (.own 2) .nil)), .dead, (.arr 2 true)], fun x y => F44 n x.1 y.2.1⟩
theorem F44_eq (n : Nat) (x : ShL.den G (.cons .str (.cons (.ptr 0 0) .nil))) (y : denO G [(.box 22 (.cons (.own 1) .nil)), (.arr 2 true)]) : (F44e n).F x y = runFn prog G (ro G (tabOf (E38 n)) (frOf []) _) Go.Proofs.Try.f44 .no [(0, (.obj 0 0 (.mv 2)))] (ShL.enc G (.cons .str (.cons (.ptr 0 0) .nil)) x) (encO G [(.box 22 (.cons (.own 1) .nil)), (.arr 2 true)] y) (decR (.tup .nil) [(.box 22 (.cons (.own 2) .nil)), .dead, (.arr 2 true)]) := by kernel_rfl
theorem F44_ok (n : Nat) : EntOK prog G (F44e n) :=
  ent_ok (fr := frOf []) (ann := .no) (frm := [(0, (.obj 0 0 (.mv 2)))]) laws fnok (E38_ok n).tab (e := F44e n) (fn := Go.Proofs.Try.f44) (by kernel_rfl) (AllF.ofB (cd := F44c) (l := []) (by kernel_rfl) (by kernel_rfl) AllF.nil) (F44_eq n)
noncomputable def E39 (n : Nat) : List (Ent G) := F44e n :: E38 n
theorem E39_ok (n : Nat) : AllE prog G (E39 n) := AllE.cons (F44_ok n) (E38_ok n)
-- 63 slices.Concat[[]string,string]
noncomputable def F63c : Code := bodyOf Go.Proofs.Try.f63
noncomputable def F63_0x0 : SSh := ⟨36, [(0, (.imm 5)), (3, (.int .i64)), (9, (.imm 5)), (10, (.int .i64)), (11, (.int .i64))], []⟩
noncomputable def F63_0s : SSh := ⟨36, [(0, (.imm 5)), (3, (.int .i64)), (9, (.imm 5)), (10, (.int .i64)), (11, (.int .i64))], []⟩
noncomputable def F63_0 {R : Type} (n : Nat) (x1173 : List (List ByteArray)) (x1174 : Int) (x1175 : List (List ByteArray)) (x1176 : Int) (x1177 : Int) (k0 : List (List ByteArray) → Int → List (List ByteArray) → Int → Int → Option R) : Option R :=
  (bif (decide ((0 : Int) ≤ x1177)) then
  (bif (decide (x1177 < ((x1175.length) : Int))) then
  let v1181 := (IntKind.wrap .i64 (x1174 + (((x1175.getD (x1177.toNat) []).length) : Int)))
  (bif (decide (v1181 < (0 : Int))) then
  none
  else (k0 x1173 v1181 x1175 x1176 x1177))
  else none)
  else none)
noncomputable def F63_0z (n : Nat) : Sm G := inZ G 0 ⟨[0, 3, 9, 10, 11], []⟩ F63_0s fun R x K => F63_0 n x.1.1 x.1.2.1 x.1.2.2.1 x.1.2.2.2.1 x.1.2.2.2.2.1 (fun u0 u1 u2 u3 u4 => K .normal (SSh.enc G F63_0x0 ((u0, (u1, (u2, (u3, (u4, ()))))), ())))
theorem F63_0_eq (n : Nat) (R : Type) (x : SSh.den G F63_0s) (K : AE → St G → Option R) :
  F63_0 n x.1.1 x.1.2.1 x.1.2.2.1 x.1.2.2.2.1 x.1.2.2.2.2.1 (fun u0 u1 u2 u3 u4 => K .normal (SSh.enc G F63_0x0 ((u0, (u1, (u2, (u3, (u4, ()))))), ()))) = exec prog G (ro G (tabOf (E39 n)) (frOf []) R) 0 (codeAt F63c [1, 1, 0, 1, 0, 0, 1, 1, 0]) .no (SSh.enc G F63_0s x) (kNrm G (ro G (tabOf (E39 n)) (frOf []) R) 0 ⟨⟨[0, 3, 9, 10, 11], []⟩, ⟨[2], []⟩, [(0, ⟨[0, 3], []⟩)]⟩ K) := by kernel_rfl
theorem F63_0_ok (n : Nat) : FragOK prog G 0 (codeAt F63c [1, 1, 0, 1, 0, 0, 1, 1, 0]) (F63_0z n) :=
  frag_plain laws fnok (E39_ok n).tab (AllF.of (l := []) (by kernel_rfl) AllF.nil) (F63_0_eq n)
noncomputable def F63_1x0 : SSh := ⟨36, [(0, (.imm 5)), (3, (.int .i64))], []⟩
noncomputable def F63_1s : SSh := ⟨36, [(0, (.imm 5)), (3, (.int .i64)), (9, (.imm 5)), (10, (.int .i64)), (11, (.int .i64))], []⟩
noncomputable def F63_1_step {R : Type} (n : Nat) (k0 : List (List ByteArray) → Int → Option R) (rec : List (List ByteArray) → Int → List (List ByteArray) → Int → Int → Option R) (x1167 : List (List ByteArray)) (x1168 : Int) (x1169 : List (List ByteArray)) (x1170 : Int) (x1171 : Int) : Option R :=
  (bif (decide (x1171 < x1170)) then
  (F63_0 n x1167 x1168 x1169 x1170 x1171 (fun z1183 z1184 z1185 z1186 z1187 =>
  (rec z1183 z1184 z1185 z1186 (IntKind.wrap .i64 (z1187 + (1 : Int))))))
  else (k0 x1167 x1168))
noncomputable def F63_1_it {R : Type} (n : Nat) (k0 : List (List ByteArray) → Int → Option R) : Nat → List (List ByteArray) → Int → List (List ByteArray) → Int → Int → Option R
  | 0, _, _, _, _, _ => none
  | k + 1, x1167, x1168, x1169, x1170, x1171 => F63_1_step n k0 (F63_1_it n k0 k) x1167 x1168 x1169 x1170 x1171
noncomputable def F63_1 {R : Type} (n : Nat) (x1167 : List (List ByteArray)) (x1168 : Int) (x1169 : List (List ByteArray)) (x1170 : Int) (x1171 : Int) (k0 : List (List ByteArray) → Int → Option R) : Option R := F63_1_it n k0 n x1167 x1168 x1169 x1170 x1171
noncomputable def F63_1z (n : Nat) : Sm G := inZ G 0 ⟨[0, 3, 9, 10, 11], []⟩ F63_1s fun R x K => F63_1_it n (fun u0 u1 => K (.exit 0) (SSh.enc G F63_1x0 ((u0, (u1, ())), ()))) n x.1.1 x.1.2.1 x.1.2.2.1 x.1.2.2.2.1 x.1.2.2.2.2.1
theorem F63_1_eq (n : Nat) (R : Type) (rec : SSh.den G F63_1s → Option R) (x : SSh.den G F63_1s) (K : AE → St G → Option R) :
  F63_1_step n (fun u0 u1 => K (.exit 0) (SSh.enc G F63_1x0 ((u0, (u1, ())), ()))) (fun x1167 x1168 x1169 x1170 x1171 => rec ((x1167, (x1168, (x1169, (x1170, (x1171, ()))))), ())) x.1.1 x.1.2.1 x.1.2.2.1 x.1.2.2.2.1 x.1.2.2.2.2.1 = exec prog G (ro G (tabOf (E39 n)) (frOf [F63_0z n]) R) 0 (codeAt F63c [1, 1, 0, 1, 0, 0]) (.nd .no (.nd .no (.nd (.use 0) .no))) (SSh.enc G F63_1s x) (kLoop G (ro G (tabOf (E39 n)) (frOf [F63_0z n]) R) 0 ⟨[0, 3, 9, 10, 11], []⟩ F63_1s ⟨⟨[0, 3], []⟩, ⟨[2], []⟩, [(0, ⟨[0, 3], []⟩)]⟩ rec K) := by kernel_rfl
theorem F63_1_ok (n : Nat) : FragOK prog G 0 (codeAt F63c [1, 1, 0, 1, 0]) (F63_1z n) :=
  frag_loop (Z := fun R k (x : SSh.den G F63_1s) K => F63_1_it n (fun u0 u1 => K (.exit 0) (SSh.enc G F63_1x0 ((u0, (u1, ())), ()))) k x.1.1 x.1.2.1 x.1.2.2.1 x.1.2.2.2.1 x.1.2.2.2.2.1) laws fnok (E39_ok n).tab (AllF.of (l := [(0, codeAt F63c [1, 1, 0, 1, 0, 0, 1, 1, 0])]) (by kernel_rfl) (AllF.cons (F63_0_ok n) AllF.nil)) (fun _ _ _ => rfl) (fun R k y K => F63_1_eq n R (fun (x : SSh.den G F63_1s) => F63_1_it n (fun u0 u1 => K (.exit 0) (SSh.enc G F63_1x0 ((u0, (u1, ())), ()))) k x.1.1 x.1.2.1 x.1.2.2.1 x.1.2.2.2.1 x.1.2.2.2.2.1) y K) n
-- 84 slices.Grow[[]string,string]
noncomputable def F84c : Code := bodyOf Go.Proofs.Try.f84
noncomputable def F84_0x0 : SSh := ⟨27, [(0, .nil0), (1, (.int .i64))], []⟩
noncomputable def F84_0s : SSh := ⟨27, [(0, .nil0), (1, (.int .i64))], []⟩
noncomputable def F84_0 {R : Type} (n : Nat) (x1192 : Int) (k0 : Int → Option R) : Option R :=
  (bif (decide (x1192 < (0 : Int))) then
  none
  else (k0 x1192))
noncomputable def F84_0z (n : Nat) : Sm G := inZ G 0 ⟨[0, 1], []⟩ F84_0s fun R x K => F84_0 n x.1.2.1 (fun u0 => K .normal (SSh.enc G F84_0x0 (((), (u0, ())), ())))
theorem F84_0_eq (n : Nat) (R : Type) (x : SSh.den G F84_0s) (K : AE → St G → Option R) :
  F84_0 n x.1.2.1 (fun u0 => K .normal (SSh.enc G F84_0x0 (((), (u0, ())), ()))) = exec prog G (ro G (tabOf (E39 n)) (frOf []) R) 0 (codeAt F84c [1, 0]) .no (SSh.enc G F84_0s x) (kNrm G (ro G (tabOf (E39 n)) (frOf []) R) 0 ⟨⟨[0, 1], []⟩, ⟨[4], []⟩, []⟩ K) := by kernel_rfl
theorem F84_0_ok (n : Nat) : FragOK prog G 0 (codeAt F84c [1, 0]) (F84_0z n) :=
  frag_plain laws fnok (E39_ok n).tab (AllF.of (l := []) (by kernel_rfl) AllF.nil) (F84_0_eq n)
noncomputable def F84_1x0 : SSh := ⟨27, [(0, (.pre 0))], [(.arr 2 true)]⟩
noncomputable def F84_1x1 : SSh := ⟨27, [(0, .nil0)], []⟩
noncomputable def F84_1s : SSh := ⟨27, [(0, .nil0), (1, (.int .i64))], []⟩
noncomputable def F84_1 {R : Type} (n : Nat) (x1195 : Int) (k0 : Nat → List ByteArray → Option R) (k1 : Option R) : Option R :=
  let v1196 := (IntKind.wrap .i64 (x1195 - (Int.ofNat (0 : Nat))))
  (bif (decide (v1196 > (0 : Int))) then
  (bif (decide ((0 : Int) < v1196)) then
  (bif (decide (v1196 ≤ ((68719476736 : Nat) : Int))) then
  let v1198 := (List.replicate (v1196.toNat) ({ data := #[] } : ByteArray))
  (bif (decide ((Int.ofNat (0 : Nat)) ≤ ((v1198.length) : Int))) then
  (k0 (0 : Nat) v1198)
  else none)
  else none)
  else none)
  else k1)
noncomputable def F84_1z (n : Nat) : Sm G := inZ G 0 ⟨[0, 1], []⟩ F84_1s fun R x K => F84_1 n x.1.2.1 (fun u0 u1 => K .normal (SSh.enc G F84_1x0 ((u0, ()), (u1, ())))) (K .normal (SSh.enc G F84_1x1 (((), ()), ())))
theorem F84_1_eq (n : Nat) (R : Type) (x : SSh.den G F84_1s) (K : AE → St G → Option R) :
  F84_1 n x.1.2.1 (fun u0 u1 => K .normal (SSh.enc G F84_1x0 ((u0, ()), (u1, ())))) (K .normal (SSh.enc G F84_1x1 (((), ()), ()))) = exec prog G (ro G (tabOf (E39 n)) (frOf [F84_0z n]) R) 0 (codeAt F84c [1, 1, 0]) .no (SSh.enc G F84_1s x) (kNrm G (ro G (tabOf (E39 n)) (frOf [F84_0z n]) R) 0 ⟨⟨[0], []⟩, ⟨[4], []⟩, []⟩ K) := by kernel_rfl
theorem F84_1_ok (n : Nat) : FragOK prog G 0 (codeAt F84c [1, 1, 0]) (F84_1z n) :=
  frag_plain laws fnok (E39_ok n).tab (AllF.of (l := []) (by kernel_rfl) AllF.nil) (F84_1_eq n)
noncomputable def F84 (n : Nat) (a1191 : Int) : Option (Unit × (List ByteArray × Unit)) :=
  (F84_0 n a1191 (fun z1194 =>
  (F84_1 n z1194 (fun z1199 z1200 =>
  some ((), ((z1200.take z1199), ()))) (
  some ((), ([], ()))))))
noncomputable def F84e (n : Nat) : Ent G := ⟨84, (.cons .nil0 (.cons (.int .i64) .nil)), [], (.own 0), [(.arr 2 true)], fun x y => F84 n x.2.1⟩
theorem F84_eq (n : Nat) (x : ShL.den G (.cons .nil0 (.cons (.int .i64) .nil))) (y : denO G []) : (F84e n).F x y = runFn prog G (ro G (tabOf (E39 n)) (frOf [F84_0z n, F84_1z n]) _) Go.Proofs.Try.f84 (.nd .no (.nd (.use 0) (.nd (.use 1) .no))) [(0, (.mv 2))] (ShL.enc G (.cons .nil0 (.cons (.int .i64) .nil)) x) (encO G [] y) (decR (.own 0) [(.arr 2 true)]) := by kernel_rfl
theorem F84_ok (n : Nat) : EntOK prog G (F84e n) :=
  ent_ok (fr := frOf [F84_0z n, F84_1z n]) (ann := (.nd .no (.nd (.use 0) (.nd (.use 1) .no)))) (frm := [(0, (.mv 2))]) laws fnok (E39_ok n).tab (e := F84e n) (fn := Go.Proofs.Try.f84) (by kernel_rfl) (AllF.ofB (cd := F84c) (l := [(0, codeAt F84c [1, 0]), (1, codeAt F84c [1, 1, 0])]) (by kernel_rfl) (by kernel_rfl) (AllF.cons (F84_0_ok n) (AllF.cons (F84_1_ok n) AllF.nil))) (F84_eq n)
noncomputable def E40 (n : Nat) : List (Ent G) := F84e n :: E39 n
theorem E40_ok (n : Nat) : AllE prog G (E40 n) := AllE.cons (F84_ok n) (E39_ok n)
noncomputable def F63_2x0 : SSh := ⟨36, [(6, (.own 0))], [(.arr 2 true)]⟩
noncomputable def F63_2s : SSh := ⟨36, [(6, (.own 0)), (25, (.imm 5)), (26, (.int .i64)), (27, (.int .i64))], [(.arr 2 true)]⟩
noncomputable def F63_2_step {R : Type} (n : Nat) (k0 : List ByteArray → Option R) (rec : List (List ByteArray) → Int → Int → List ByteArray → Option R) (x1204 : List (List ByteArray)) (x1205 : Int) (x1206 : Int) (x1207 : List ByteArray) : Option R :=
  (bif (decide (x1206 < x1205)) then
  (bif (decide ((0 : Int) ≤ x1206)) then
  (bif (decide (x1206 < ((x1204.length) : Int))) then
  let v1210 := (x1204.getD (x1206.toNat) [])
  (bif (decide (((x1207.length) + (v1210.length)) ≤ (68719476736 : Nat))) then
  (rec x1204 x1205 (IntKind.wrap .i64 (x1206 + (1 : Int))) (x1207 ++ v1210))
  else none)
  else none)
  else none)
  else (k0 x1207))
noncomputable def F63_2_it {R : Type} (n : Nat) (k0 : List ByteArray → Option R) : Nat → List (List ByteArray) → Int → Int → List ByteArray → Option R
  | 0, _, _, _, _ => none
  | k + 1, x1204, x1205, x1206, x1207 => F63_2_step n k0 (F63_2_it n k0 k) x1204 x1205 x1206 x1207
noncomputable def F63_2 {R : Type} (n : Nat) (x1204 : List (List ByteArray)) (x1205 : Int) (x1206 : Int) (x1207 : List ByteArray) (k0 : List ByteArray → Option R) : Option R := F63_2_it n k0 n x1204 x1205 x1206 x1207
noncomputable def F63_2z (n : Nat) : Sm G := inZ G 0 ⟨[6, 25, 26, 27], []⟩ F63_2s fun R x K => F63_2_it n (fun u0 => K (.exit 2) (SSh.enc G F63_2x0 (((), ()), (u0, ())))) n x.1.2.1 x.1.2.2.1 x.1.2.2.2.1 x.2.1
theorem F63_2_eq (n : Nat) (R : Type) (rec : SSh.den G F63_2s → Option R) (x : SSh.den G F63_2s) (K : AE → St G → Option R) :
  F63_2_step n (fun u0 => K (.exit 2) (SSh.enc G F63_2x0 (((), ()), (u0, ())))) (fun x1204 x1205 x1206 x1207 => rec (((), (x1204, (x1205, (x1206, ())))), (x1207, ()))) x.1.2.1 x.1.2.2.1 x.1.2.2.2.1 x.2.1 = exec prog G (ro G (tabOf (E40 n)) (frOf [F63_0z n, F63_1z n]) R) 0 (codeAt F63c [1, 1, 1, 1, 0, 1, 0, 0]) .no (SSh.enc G F63_2s x) (kLoop G (ro G (tabOf (E40 n)) (frOf [F63_0z n, F63_1z n]) R) 0 ⟨[6, 25, 26, 27], []⟩ F63_2s ⟨⟨[6], []⟩, ⟨[2], []⟩, [(2, ⟨[6], []⟩)]⟩ rec K) := by kernel_rfl
theorem F63_2_ok (n : Nat) : FragOK prog G 0 (codeAt F63c [1, 1, 1, 1, 0, 1, 0]) (F63_2z n) :=
  frag_loop (Z := fun R k (x : SSh.den G F63_2s) K => F63_2_it n (fun u0 => K (.exit 2) (SSh.enc G F63_2x0 (((), ()), (u0, ())))) k x.1.2.1 x.1.2.2.1 x.1.2.2.2.1 x.2.1) laws fnok (E40_ok n).tab (AllF.of (l := []) (by kernel_rfl) AllF.nil) (fun _ _ _ => rfl) (fun R k y K => F63_2_eq n R (fun (x : SSh.den G F63_2s) => F63_2_it n (fun u0 => K (.exit 2) (SSh.enc G F63_2x0 (((), ()), (u0, ())))) k x.1.2.1 x.1.2.2.1 x.1.2.2.2.1 x.2.1) y K) n
noncomputable def F63 (n : Nat) (a1165 : List (List ByteArray)) : Option (List ByteArray × Unit) :=
  (F63_1 n a1165 (0 : Int) a1165 ((a1165.length) : Int) (0 : Int) (fun z1189 z1190 =>
  (andThen (F84 n z1190) fun r1202 =>
  (F63_2 n z1189 ((z1189.length) : Int) (0 : Int) r1202.2.1 (fun z1213 =>
  some (z1213, ()))))))
noncomputable def F63e (n : Nat) : Ent G := ⟨63, (.cons (.imm 5) .nil), [], (.imm 2), [], fun x y => F63 n x.1⟩
theorem F63_eq (n : Nat) (x : ShL.den G (.cons (.imm 5) .nil)) (y : denO G []) : (F63e n).F x y = runFn prog G (ro G (tabOf (E40 n)) (frOf [F63_0z n, F63_1z n, F63_2z n]) _) Go.Proofs.Try.f63 (.nd .no (.nd .no (.nd (.nd .no (.nd (.use 1) .no)) (.nd .no (.nd (.nd .no (.nd (.use 2) .no)) .no))))) [(0, .fz)] (ShL.enc G (.cons (.imm 5) .nil) x) (encO G [] y) (decR (.imm 2) []) := by kernel_rfl
theorem F63_ok (n : Nat) : EntOK prog G (F63e n) :=
  ent_ok (fr := frOf [F63_0z n, F63_1z n, F63_2z n]) (ann := (.nd .no (.nd .no (.nd (.nd .no (.nd (.use 1) .no)) (.nd .no (.nd (.nd .no (.nd (.use 2) .no)) .no)))))) (frm := [(0, .fz)]) laws fnok (E40_ok n).tab (e := F63e n) (fn := Go.Proofs.Try.f63) (by kernel_rfl) (AllF.ofB (cd := F63c) (l := [(1, codeAt F63c [1, 1, 0, 1, 0]), (2, codeAt F63c [1, 1, 1, 1, 0, 1, 0])]) (by kernel_rfl) (by kernel_rfl) (AllF.cons (F63_1_ok n) (AllF.cons (F63_2_ok n) AllF.nil))) (F63_eq n)
noncomputable def E41 (n : Nat) : List (Ent G) := F63e n :: E40 n
theorem E41_ok (n : Nat) : AllE prog G (E41 n) := AllE.cons (F63_ok n) (E40_ok n)
abbrev Q43RC : Type := (Int → ByteArray → List ByteArray → List Ex → List ByteArray → List ByteArray → Option (Unit × ((Unit × Unit) × (Unit × (List ByteArray × Unit))))) × Unit
noncomputable def Q43L (n : Nat) (rc : Q43RC) : List (Ent G) := ⟨43, (.cons (.agg (.cons (.int .i64) (.cons .str (.cons (.imm 2) (.cons (.imm 3) .nil))))) (.cons (.imm 2) (.cons (.clo 44 (.cons (.ptr 0 0) .nil)) .nil))), [(.box 22 (.cons (.own 1) .nil)), (.arr 2 true)], (.tup .nil), [(.box 22 (.cons (.own 2) .nil)), .dead, (.arr 2 true)], fun x y => rc.1 x.1.1 x.1.2.1 x.1.2.2.1 x.1.2.2.2.1 x.2.1 y.2.1⟩ :: E41 n
-- 43 (loop.example/slowworm/impl.Expr).reads
noncomputable def F43bc : Code := bodyOf Go.Proofs.Try.f43
noncomputable def F43b_0x0 : SSh := ⟨42, [(1, (.imm 2)), (2, (.clo 44 (.cons (.ptr 0 0) .nil))), (3, (.ptr 2 0))], [(.box 22 (.cons (.own 3) .nil)), .dead, (.box 30 (.cons (.int .i64) (.cons .str (.cons (.imm 2) (.cons (.imm 3) .nil))))), (.arr 2 true)]⟩
noncomputable def F43b_0x1 : SSh := ⟨42, [(1, (.imm 2)), (2, (.clo 44 (.cons (.ptr 0 0) .nil))), (3, (.ptr 2 0))], [(.box 22 (.cons (.own 1) .nil)), (.arr 2 true), (.box 30 (.cons (.int .i64) (.cons .str (.cons (.imm 2) (.cons (.imm 3) .nil)))))]⟩
noncomputable def F43b_0s : SSh := ⟨42, [(1, (.imm 2)), (2, (.clo 44 (.cons (.ptr 0 0) .nil))), (3, (.ptr 2 0))], [(.box 22 (.cons (.own 1) .nil)), (.arr 2 true), (.box 30 (.cons (.int .i64) (.cons .str (.cons (.imm 2) (.cons (.imm 3) .nil)))))]⟩
noncomputable def F43b_0 {R : Type} (n : Nat) (rc : Q43RC) (x1363 : List ByteArray) (x1364 : List ByteArray) (x1365 : Int) (x1366 : ByteArray) (x1367 : List ByteArray) (x1368 : List Ex) (k0 : List ByteArray → Int → ByteArray → List ByteArray → List Ex → List ByteArray → Option R) (k1 : List ByteArray → List ByteArray → Int → ByteArray → List ByteArray → List Ex → Option R) : Option R :=
  (bif (x1365 == (6 : Int)) then
  (andThen (F45 n x1363 x1366) fun r1370 =>
  (bif (!r1370.1) then
  (andThen (F44 n x1366 x1364) fun r1372 =>
  (k0 x1363 x1365 x1366 x1367 x1368 r1372.2.2.2.1))
  else (k1 x1363 x1364 x1365 x1366 x1367 x1368)))
  else (k1 x1363 x1364 x1365 x1366 x1367 x1368))
noncomputable def F43b_0z (n : Nat) (rc : Q43RC) : Sm G := inZ G 2 ⟨[1, 2, 3], []⟩ F43b_0s fun R x K => F43b_0 n rc x.1.1 x.2.2.1 x.2.2.2.1.1 x.2.2.2.1.2.1 x.2.2.2.1.2.2.1 x.2.2.2.1.2.2.2.1 (fun u0 u1 u2 u3 u4 u5 => K .normal (SSh.enc G F43b_0x0 ((u0, (((), ()), ((), ()))), (((), ()), ((), ((u1, (u2, (u3, (u4, ())))), (u5, ()))))))) (fun u0 u1 u2 u3 u4 u5 => K .normal (SSh.enc G F43b_0x1 ((u0, (((), ()), ((), ()))), (((), ()), (u1, ((u2, (u3, (u4, (u5, ())))), ()))))))
theorem F43b_0_eq (n : Nat) (rc : Q43RC) (R : Type) (x : SSh.den G F43b_0s) (K : AE → St G → Option R) :
  F43b_0 n rc x.1.1 x.2.2.1 x.2.2.2.1.1 x.2.2.2.1.2.1 x.2.2.2.1.2.2.1 x.2.2.2.1.2.2.2.1 (fun u0 u1 u2 u3 u4 u5 => K .normal (SSh.enc G F43b_0x0 ((u0, (((), ()), ((), ()))), (((), ()), ((), ((u1, (u2, (u3, (u4, ())))), (u5, ()))))))) (fun u0 u1 u2 u3 u4 u5 => K .normal (SSh.enc G F43b_0x1 ((u0, (((), ()), ((), ()))), (((), ()), (u1, ((u2, (u3, (u4, (u5, ())))), ())))))) = exec prog G (ro G (tabOf (Q43L n rc)) (frOf []) R) 2 (codeAt F43bc [1, 0]) .no (SSh.enc G F43b_0s x) (kNrm G (ro G (tabOf (Q43L n rc)) (frOf []) R) 2 ⟨⟨[1, 2, 3], []⟩, ⟨[], []⟩, []⟩ K) := by kernel_rfl
theorem F43b_0_ok (n : Nat) (rc : Q43RC) (h : AllE prog G (Q43L n rc)) : FragOK prog G 2 (codeAt F43bc [1, 0]) (F43b_0z n rc) :=
  frag_plain laws fnok h.tab (AllF.of (l := []) (by kernel_rfl) AllF.nil) (F43b_0_eq n rc)
noncomputable def F43b_1x0 : SSh := ⟨42, [(1, (.imm 2)), (2, (.clo 44 (.cons (.ptr 0 0) .nil))), (3, (.ptr 2 0))], [(.box 22 (.cons (.own 3) .nil)), .dead, (.box 30 (.cons (.int .i64) (.cons .str (.cons (.imm 2) (.cons (.imm 3) .nil))))), (.arr 2 true)]⟩
noncomputable def F43b_1s : SSh := ⟨42, [(1, (.imm 2)), (2, (.clo 44 (.cons (.ptr 0 0) .nil))), (3, (.ptr 2 0))], [(.box 22 (.cons (.own 3) .nil)), .dead, (.box 30 (.cons (.int .i64) (.cons .str (.cons (.imm 2) (.cons (.imm 3) .nil))))), (.arr 2 true)]⟩
noncomputable def F43b_1 {R : Type} (n : Nat) (rc : Q43RC) (x1379 : List ByteArray) (x1380 : Int) (x1381 : ByteArray) (x1382 : List ByteArray) (x1383 : List Ex) (x1384 : List ByteArray) (k0 : List ByteArray → Int → ByteArray → List ByteArray → List Ex → List ByteArray → Option R) : Option R :=
  (bif (x1380 == (16 : Int)) then
  (andThen (F63 n (x1379 :: (x1382 :: []))) fun r1387 =>
  (k0 r1387.1 x1380 x1381 x1382 x1383 x1384))
  else (k0 x1379 x1380 x1381 x1382 x1383 x1384))
noncomputable def F43b_1z (n : Nat) (rc : Q43RC) : Sm G := inZ G 2 ⟨[1, 2, 3], [(0, (.obj 0 0 (.mv 2)))]⟩ F43b_1s fun R x K => F43b_1 n rc x.1.1 x.2.2.2.1.1 x.2.2.2.1.2.1 x.2.2.2.1.2.2.1 x.2.2.2.1.2.2.2.1 x.2.2.2.2.1 (fun u0 u1 u2 u3 u4 u5 => K .normal (SSh.enc G F43b_1x0 ((u0, (((), ()), ((), ()))), (((), ()), ((), ((u1, (u2, (u3, (u4, ())))), (u5, ())))))))
theorem F43b_1_eq (n : Nat) (rc : Q43RC) (R : Type) (x : SSh.den G F43b_1s) (K : AE → St G → Option R) :
  F43b_1 n rc x.1.1 x.2.2.2.1.1 x.2.2.2.1.2.1 x.2.2.2.1.2.2.1 x.2.2.2.1.2.2.2.1 x.2.2.2.2.1 (fun u0 u1 u2 u3 u4 u5 => K .normal (SSh.enc G F43b_1x0 ((u0, (((), ()), ((), ()))), (((), ()), ((), ((u1, (u2, (u3, (u4, ())))), (u5, ()))))))) = exec prog G (ro G (tabOf (Q43L n rc)) (frOf [F43b_0z n rc]) R) 2 (codeAt F43bc [1, 1, 0]) .no (SSh.enc G F43b_1s x) (kNrm G (ro G (tabOf (Q43L n rc)) (frOf [F43b_0z n rc]) R) 2 ⟨⟨[1, 2, 3], []⟩, ⟨[], []⟩, []⟩ K) := by kernel_rfl
theorem F43b_1_ok (n : Nat) (rc : Q43RC) (h : AllE prog G (Q43L n rc)) : FragOK prog G 2 (codeAt F43bc [1, 1, 0]) (F43b_1z n rc) :=
  frag_plain laws fnok h.tab (AllF.of (l := []) (by kernel_rfl) AllF.nil) (F43b_1_eq n rc)
noncomputable def F43b_2x0 : SSh := ⟨42, [], [(.box 22 (.cons (.own 2) .nil)), .dead, (.arr 2 true)]⟩
noncomputable def F43b_2s : SSh := ⟨42, [(1, (.imm 2)), (2, (.clo 44 (.cons (.ptr 0 0) .nil))), (31, (.imm 3)), (32, (.int .i64)), (33, (.int .i64))], [(.box 22 (.cons (.own 2) .nil)), .dead, (.arr 2 true)]⟩
noncomputable def F43b_2_step {R : Type} (n : Nat) (rc : Q43RC) (k0 : List ByteArray → Option R) (rec : List ByteArray → List Ex → Int → Int → List ByteArray → Option R) (x1395 : List ByteArray) (x1396 : List Ex) (x1397 : Int) (x1398 : Int) (x1399 : List ByteArray) : Option R :=
  (bif (decide (x1398 < x1397)) then
  (bif (decide ((0 : Int) ≤ x1398)) then
  (bif (decide (x1398 < ((x1396.length) : Int))) then
  let v1401 := (x1396.getD (x1398.toNat) (Ex.mk (0 : Int) ({ data := #[] } : ByteArray) [] []))
  (andThen (rc.1 v1401.kind v1401.text v1401.names v1401.kids x1395 x1399) fun r1406 =>
  (rec x1395 x1396 x1397 (IntKind.wrap .i64 (x1398 + (1 : Int))) r1406.2.2.2.1))
  else none)
  else none)
  else (k0 x1399))
noncomputable def F43b_2_it {R : Type} (n : Nat) (rc : Q43RC) (k0 : List ByteArray → Option R) : Nat → List ByteArray → List Ex → Int → Int → List ByteArray → Option R
  | 0, _, _, _, _, _ => none
  | k + 1, x1395, x1396, x1397, x1398, x1399 => F43b_2_step n rc k0 (F43b_2_it n rc k0 k) x1395 x1396 x1397 x1398 x1399
noncomputable def F43b_2 {R : Type} (n : Nat) (rc : Q43RC) (x1395 : List ByteArray) (x1396 : List Ex) (x1397 : Int) (x1398 : Int) (x1399 : List ByteArray) (k0 : List ByteArray → Option R) : Option R := F43b_2_it n rc k0 n x1395 x1396 x1397 x1398 x1399
noncomputable def F43b_2z (n : Nat) (rc : Q43RC) : Sm G := inZ G 2 ⟨[1, 2, 31, 32, 33], []⟩ F43b_2s fun R x K => F43b_2_it n rc (fun u0 => K (.exit 0) (SSh.enc G F43b_2x0 ((), (((), ()), ((), (u0, ())))))) n x.1.1 x.1.2.2.1 x.1.2.2.2.1 x.1.2.2.2.2.1 x.2.2.2.1
theorem F43b_2_eq (n : Nat) (rc : Q43RC) (R : Type) (rec : SSh.den G F43b_2s → Option R) (x : SSh.den G F43b_2s) (K : AE → St G → Option R) :
  F43b_2_step n rc (fun u0 => K (.exit 0) (SSh.enc G F43b_2x0 ((), (((), ()), ((), (u0, ())))))) (fun x1395 x1396 x1397 x1398 x1399 => rec ((x1395, (((), ()), (x1396, (x1397, (x1398, ()))))), (((), ()), ((), (x1399, ()))))) x.1.1 x.1.2.2.1 x.1.2.2.2.1 x.1.2.2.2.2.1 x.2.2.2.1 = exec prog G (ro G (tabOf (Q43L n rc)) (frOf [F43b_0z n rc, F43b_1z n rc]) R) 2 (codeAt F43bc [1, 1, 1, 1, 0, 0]) .no (SSh.enc G F43b_2s x) (kLoop G (ro G (tabOf (Q43L n rc)) (frOf [F43b_0z n rc, F43b_1z n rc]) R) 2 ⟨[1, 2, 31, 32, 33], []⟩ F43b_2s ⟨⟨[], []⟩, ⟨[], []⟩, [(0, ⟨[], []⟩)]⟩ rec K) := by kernel_rfl
theorem F43b_2_ok (n : Nat) (rc : Q43RC) (h : AllE prog G (Q43L n rc)) : FragOK prog G 2 (codeAt F43bc [1, 1, 1, 1, 0]) (F43b_2z n rc) :=
  frag_loop (Z := fun R k (x : SSh.den G F43b_2s) K => F43b_2_it n rc (fun u0 => K (.exit 0) (SSh.enc G F43b_2x0 ((), (((), ()), ((), (u0, ())))))) k x.1.1 x.1.2.2.1 x.1.2.2.2.1 x.1.2.2.2.2.1 x.2.2.2.1) laws fnok h.tab (AllF.of (l := []) (by kernel_rfl) AllF.nil) (fun _ _ _ => rfl) (fun R k y K => F43b_2_eq n rc R (fun (x : SSh.den G F43b_2s) => F43b_2_it n rc (fun u0 => K (.exit 0) (SSh.enc G F43b_2x0 ((), (((), ()), ((), (u0, ())))))) k x.1.1 x.1.2.2.1 x.1.2.2.2.1 x.1.2.2.2.2.1 x.2.2.2.1) y K) n
noncomputable def F43b (n : Nat) (rc : Q43RC) (a1357 : Int) (a1358 : ByteArray) (a1359 : List ByteArray) (a1360 : List Ex) (a1361 : List ByteArray) (a1362 : List ByteArray) : Option (Unit × ((Unit × Unit) × (Unit × (List ByteArray × Unit)))) :=
  (F43b_0 n rc a1361 a1362 a1357 a1358 a1359 a1360 (fun z1373 z1374 z1375 z1376 z1377 z1378 =>
  (F43b_1 n rc z1373 z1374 z1375 z1376 z1377 z1378 (fun z1388 z1389 z1390 z1391 z1392 z1393 =>
  (F43b_2 n rc z1388 z1392 ((z1392.length) : Int) (0 : Int) z1393 (fun z1408 =>
  some ((), (((), ()), ((), (z1408, ()))))))))) (fun z1409 z1410 z1411 z1412 z1413 z1414 =>
  (F43b_1 n rc z1409 z1411 z1412 z1413 z1414 z1410 (fun z1415 z1416 z1417 z1418 z1419 z1420 =>
  (F43b_2 n rc z1415 z1419 ((z1419.length) : Int) (0 : Int) z1420 (fun z1422 =>
  some ((), (((), ()), ((), (z1422, ()))))))))))
noncomputable def F43be (n : Nat) (rc : Q43RC) : Ent G := ⟨43, (.cons (.agg (.cons (.int .i64) (.cons .str (.cons (.imm 2) (.cons (.imm 3) .nil))))) (.cons (.imm 2) (.cons (.clo 44 (.cons (.ptr 0 0) .nil)) .nil))), [(.box 22 (.cons (.own 1) .nil)), (.arr 2 true)], (.tup .nil), [(.box 22 (.cons (.own 2) .nil)), .dead, (.arr 2 true)], fun x y => F43b n rc x.1.1 x.1.2.1 x.1.2.2.1 x.1.2.2.2.1 x.2.1 y.2.1⟩
theorem F43b_eq (n : Nat) (rc : Q43RC) (x : ShL.den G (.cons (.agg (.cons (.int .i64) (.cons .str (.cons (.imm 2) (.cons (.imm 3) .nil))))) (.cons (.imm 2) (.cons (.clo 44 (.cons (.ptr 0 0) .nil)) .nil)))) (y : denO G [(.box 22 (.cons (.own 1) .nil)), (.arr 2 true)]) : (F43be n rc).F x y = runFn prog G (ro G (tabOf (Q43L n rc)) (frOf [F43b_0z n rc, F43b_1z n rc, F43b_2z n rc]) _) Go.Proofs.Try.f43 (.nd .no (.nd (.use 0) (.nd (.use 1) (.nd .no (.nd (.use 2) .no))))) [(0, (.obj 0 0 (.mv 2)))] (ShL.enc G (.cons (.agg (.cons (.int .i64) (.cons .str (.cons (.imm 2) (.cons (.imm 3) .nil))))) (.cons (.imm 2) (.cons (.clo 44 (.cons (.ptr 0 0) .nil)) .nil))) x) (encO G [(.box 22 (.cons (.own 1) .nil)), (.arr 2 true)] y) (decR (.tup .nil) [(.box 22 (.cons (.own 2) .nil)), .dead, (.arr 2 true)]) := by kernel_rfl
theorem F43b_ok (n : Nat) (rc : Q43RC) (h : AllE prog G (Q43L n rc)) : EntOK prog G (F43be n rc) :=
  ent_ok (fr := frOf [F43b_0z n rc, F43b_1z n rc, F43b_2z n rc]) (ann := (.nd .no (.nd (.use 0) (.nd (.use 1) (.nd .no (.nd (.use 2) .no)))))) (frm := [(0, (.obj 0 0 (.mv 2)))]) laws fnok h.tab (e := F43be n rc) (fn := Go.Proofs.Try.f43) (by kernel_rfl) (AllF.ofB (cd := F43bc) (l := [(0, codeAt F43bc [1, 0]), (1, codeAt F43bc [1, 1, 0]), (2, codeAt F43bc [1, 1, 1, 1, 0])]) (by kernel_rfl) (by kernel_rfl) (AllF.cons (F43b_0_ok n rc h) (AllF.cons (F43b_1_ok n rc h) (AllF.cons (F43b_2_ok n rc h) AllF.nil)))) (F43b_eq n rc)
noncomputable def Q43it (n : Nat) : Nat → Q43RC
  | 0 => (fun _ _ _ _ _ _ => none, ())
  | k + 1 => (F43b n (Q43it n k), ())
theorem Q43it_ok (n : Nat) : ∀ k, AllE prog G (Q43L n (Q43it n k))
  | 0 => (AllE.cons (EntOK.none fun _ _ => rfl) (E41_ok n))
  | k + 1 => (AllE.cons (F43b_ok n _ (Q43it_ok n k)) (E41_ok n))
noncomputable def F43 (n : Nat) (a0 : Int) (a1 : ByteArray) (a2 : List ByteArray) (a3 : List Ex) (a4 : List ByteArray) (a5 : List ByteArray) : Option (Unit × ((Unit × Unit) × (Unit × (List ByteArray × Unit)))) := (Q43it n n).1 a0 a1 a2 a3 a4 a5
noncomputable def F43e (n : Nat) : Ent G := ⟨43, (.cons (.agg (.cons (.int .i64) (.cons .str (.cons (.imm 2) (.cons (.imm 3) .nil))))) (.cons (.imm 2) (.cons (.clo 44 (.cons (.ptr 0 0) .nil)) .nil))), [(.box 22 (.cons (.own 1) .nil)), (.arr 2 true)], (.tup .nil), [(.box 22 (.cons (.own 2) .nil)), .dead, (.arr 2 true)], fun x y => F43 n x.1.1 x.1.2.1 x.1.2.2.1 x.1.2.2.2.1 x.2.1 y.2.1⟩
noncomputable def E42 (n : Nat) : List (Ent G) := F43e n :: E41 n
theorem E42_ok (n : Nat) : AllE prog G (E42 n) := Q43it_ok n n
noncomputable def F20 (n : Nat) (a749 : Int) (a750 : ByteArray) (a751 : List ByteArray) (a752 : List Ex) : Option (Unit × (List ByteArray × Unit)) :=
  (andThen (F12 n a749 a750 a751 a752) fun r1127 =>
  (bif (!r1127.1) then
  some ((), ([], ()))
  else (andThen (F43 n a749 a750 a751 a752 [] []) fun r1423 =>
  some ((), (r1423.2.2.2.1, ())))))
noncomputable def F20e (n : Nat) : Ent G := ⟨20, (.cons (.agg (.cons (.int .i64) (.cons .str (.cons (.imm 2) (.cons (.imm 3) .nil))))) .nil), [], (.own 0), [(.arr 2 true)], fun x y => F20 n x.1.1 x.1.2.1 x.1.2.2.1 x.1.2.2.2.1⟩
theorem F20_eq (n : Nat) (x : ShL.den G (.cons (.agg (.cons (.int .i64) (.cons .str (.cons (.imm 2) (.cons (.imm 3) .nil))))) .nil)) (y : denO G []) : (F20e n).F x y = runFn prog G (ro G (tabOf (E42 n)) (frOf []) _) Go.Proofs.Try.f20 .no [(0, (.mv 2))] (ShL.enc G (.cons (.agg (.cons (.int .i64) (.cons .str (.cons (.imm 2) (.cons (.imm 3) .nil))))) .nil) x) (encO G [] y) (decR (.own 0) [(.arr 2 true)]) := by kernel_rfl
theorem F20_ok (n : Nat) : EntOK prog G (F20e n) :=
  ent_ok (fr := frOf []) (ann := .no) (frm := [(0, (.mv 2))]) laws fnok (E42_ok n).tab (e := F20e n) (fn := Go.Proofs.Try.f20) (by kernel_rfl) (AllF.ofB (cd := F20c) (l := []) (by kernel_rfl) (by kernel_rfl) AllF.nil) (F20_eq n)
noncomputable def E43 (n : Nat) : List (Ent G) := F20e n :: E42 n
theorem E43_ok (n : Nat) : AllE prog G (E43 n) := AllE.cons (F20_ok n) (E42_ok n)
-- 21 loop.example/slowworm/laws.eqStringS
noncomputable def F21c : Code := bodyOf Go.Proofs.Try.f21
noncomputable def F21_0x0 : SSh := ⟨26, [(4, .bool)], []⟩
noncomputable def F21_0x1 : SSh := ⟨26, [], []⟩
noncomputable def F21_0s : SSh := ⟨26, [(0, (.imm 2)), (1, (.imm 2)), (5, (.int .i64))], []⟩
noncomputable def F21_0_step {R : Type} (n : Nat) (k0 : Bool → Option R) (k1 : Option R) (rec : List ByteArray → List ByteArray → Int → Option R) (x1430 : List ByteArray) (x1431 : List ByteArray) (x1432 : Int) : Option R :=
  (bif (decide (x1432 < ((x1430.length) : Int))) then
  (bif (decide ((0 : Int) ≤ x1432)) then
  (bif (decide (x1432 < ((x1430.length) : Int))) then
  (bif (decide ((0 : Int) ≤ x1432)) then
  (bif (decide (x1432 < ((x1431.length) : Int))) then
  (bif (!(((x1430.getD (x1432.toNat) ({ data := #[] } : ByteArray)).toList) == ((x1431.getD (x1432.toNat) ({ data := #[] } : ByteArray)).toList))) then
  (k0 false)
  else (rec x1430 x1431 (IntKind.wrap .i64 (x1432 + (1 : Int)))))
  else none)
  else none)
  else none)
  else none)
  else k1)
noncomputable def F21_0_it {R : Type} (n : Nat) (k0 : Bool → Option R) (k1 : Option R) : Nat → List ByteArray → List ByteArray → Int → Option R
  | 0, _, _, _ => none
  | k + 1, x1430, x1431, x1432 => F21_0_step n k0 k1 (F21_0_it n k0 k1 k) x1430 x1431 x1432
noncomputable def F21_0 {R : Type} (n : Nat) (x1430 : List ByteArray) (x1431 : List ByteArray) (x1432 : Int) (k0 : Bool → Option R) (k1 : Option R) : Option R := F21_0_it n k0 k1 n x1430 x1431 x1432
noncomputable def F21_0z (n : Nat) : Sm G := inZ G 0 ⟨[0, 1, 5], []⟩ F21_0s fun R x K => F21_0_it n (fun u0 => K .ret (SSh.enc G F21_0x0 ((u0, ()), ()))) (K (.exit 0) (SSh.enc G F21_0x1 ((), ()))) n x.1.1 x.1.2.1 x.1.2.2.1
theorem F21_0_eq (n : Nat) (R : Type) (rec : SSh.den G F21_0s → Option R) (x : SSh.den G F21_0s) (K : AE → St G → Option R) :
  F21_0_step n (fun u0 => K .ret (SSh.enc G F21_0x0 ((u0, ()), ()))) (K (.exit 0) (SSh.enc G F21_0x1 ((), ()))) (fun x1430 x1431 x1432 => rec ((x1430, (x1431, (x1432, ()))), ())) x.1.1 x.1.2.1 x.1.2.2.1 = exec prog G (ro G (tabOf (E43 n)) (frOf []) R) 0 (codeAt F21c [1, 1, 0, 1, 0, 0]) .no (SSh.enc G F21_0s x) (kLoop G (ro G (tabOf (E43 n)) (frOf []) R) 0 ⟨[0, 1, 5], []⟩ F21_0s ⟨⟨[], []⟩, ⟨[4], []⟩, [(0, ⟨[], []⟩)]⟩ rec K) := by kernel_rfl
theorem F21_0_ok (n : Nat) : FragOK prog G 0 (codeAt F21c [1, 1, 0, 1, 0]) (F21_0z n) :=
  frag_loop (Z := fun R k (x : SSh.den G F21_0s) K => F21_0_it n (fun u0 => K .ret (SSh.enc G F21_0x0 ((u0, ()), ()))) (K (.exit 0) (SSh.enc G F21_0x1 ((), ()))) k x.1.1 x.1.2.1 x.1.2.2.1) laws fnok (E43_ok n).tab (AllF.of (l := []) (by kernel_rfl) AllF.nil) (fun _ _ _ => rfl) (fun R k y K => F21_0_eq n R (fun (x : SSh.den G F21_0s) => F21_0_it n (fun u0 => K .ret (SSh.enc G F21_0x0 ((u0, ()), ()))) (K (.exit 0) (SSh.enc G F21_0x1 ((), ()))) k x.1.1 x.1.2.1 x.1.2.2.1) y K) n
noncomputable def F21 (n : Nat) (a1425 : List ByteArray) (a1426 : List ByteArray) : Option (Bool × Unit) :=
  (bif (((a1425.length) : Int) != ((a1426.length) : Int)) then
  some (false, ())
  else (F21_0 n a1425 a1426 (0 : Int) (fun z1441 =>
  some (z1441, ())) (
  some (true, ()))))
noncomputable def F21e (n : Nat) : Ent G := ⟨21, (.cons (.imm 2) (.cons (.imm 2) .nil)), [], .bool, [], fun x y => F21 n x.1 x.2.1⟩
theorem F21_eq (n : Nat) (x : ShL.den G (.cons (.imm 2) (.cons (.imm 2) .nil))) (y : denO G []) : (F21e n).F x y = runFn prog G (ro G (tabOf (E43 n)) (frOf [F21_0z n]) _) Go.Proofs.Try.f21 (.nd .no (.nd .no (.nd (.nd .no (.nd (.use 0) .no)) .no))) [(0, .fz)] (ShL.enc G (.cons (.imm 2) (.cons (.imm 2) .nil)) x) (encO G [] y) (decR .bool []) := by kernel_rfl
theorem F21_ok (n : Nat) : EntOK prog G (F21e n) :=
  ent_ok (fr := frOf [F21_0z n]) (ann := (.nd .no (.nd .no (.nd (.nd .no (.nd (.use 0) .no)) .no)))) (frm := [(0, .fz)]) laws fnok (E43_ok n).tab (e := F21e n) (fn := Go.Proofs.Try.f21) (by kernel_rfl) (AllF.ofB (cd := F21c) (l := [(0, codeAt F21c [1, 1, 0, 1, 0])]) (by kernel_rfl) (by kernel_rfl) (AllF.cons (F21_0_ok n) AllF.nil)) (F21_eq n)
noncomputable def E44 (n : Nat) : List (Ent G) := F21e n :: E43 n
theorem E44_ok (n : Nat) : AllE prog G (E44 n) := AllE.cons (F21_ok n) (E43_ok n)
abbrev Q13RC : Type := (Int → ByteArray → List ByteArray → List Ex → Int → ByteArray → List ByteArray → List Ex → Option (Bool × Unit)) × (List Ex → List Ex → Option (Bool × Unit)) × Unit
noncomputable def Q13L (n : Nat) (rc : Q13RC) : List (Ent G) := ⟨13, (.cons (.agg (.cons (.int .i64) (.cons .str (.cons (.imm 2) (.cons (.imm 3) .nil))))) (.cons (.agg (.cons (.int .i64) (.cons .str (.cons (.imm 2) (.cons (.imm 3) .nil))))) .nil)), [], .bool, [], fun x y => rc.1 x.1.1 x.1.2.1 x.1.2.2.1 x.1.2.2.2.1 x.2.1.1 x.2.1.2.1 x.2.1.2.2.1 x.2.1.2.2.2.1⟩ :: ⟨35, (.cons (.imm 3) (.cons (.imm 3) .nil)), [], .bool, [], fun x y => rc.2.1 x.1 x.2.1⟩ :: E44 n
-- 13 loop.example/slowworm/laws.eqExpr
noncomputable def F13bc : Code := bodyOf Go.Proofs.Try.f13
noncomputable def F13b (n : Nat) (rc : Q13RC) (a1516 : Int) (a1517 : ByteArray) (a1518 : List ByteArray) (a1519 : List Ex) (a1520 : Int) (a1521 : ByteArray) (a1522 : List ByteArray) (a1523 : List Ex) : Option (Bool × Unit) :=
  (bif (a1516 != a1520) then
  some (false, ())
  else (bif (!((a1517.toList) == (a1521.toList))) then
  some (false, ())
  else (andThen (F21 n a1518 a1522) fun r1526 =>
  (bif (!r1526.1) then
  some (false, ())
  else (andThen (rc.2.1 a1519 a1523) fun r1528 =>
  (bif (!r1528.1) then
  some (false, ())
  else some (true, ())))))))
noncomputable def F13be (n : Nat) (rc : Q13RC) : Ent G := ⟨13, (.cons (.agg (.cons (.int .i64) (.cons .str (.cons (.imm 2) (.cons (.imm 3) .nil))))) (.cons (.agg (.cons (.int .i64) (.cons .str (.cons (.imm 2) (.cons (.imm 3) .nil))))) .nil)), [], .bool, [], fun x y => F13b n rc x.1.1 x.1.2.1 x.1.2.2.1 x.1.2.2.2.1 x.2.1.1 x.2.1.2.1 x.2.1.2.2.1 x.2.1.2.2.2.1⟩
theorem F13b_eq (n : Nat) (rc : Q13RC) (x : ShL.den G (.cons (.agg (.cons (.int .i64) (.cons .str (.cons (.imm 2) (.cons (.imm 3) .nil))))) (.cons (.agg (.cons (.int .i64) (.cons .str (.cons (.imm 2) (.cons (.imm 3) .nil))))) .nil))) (y : denO G []) : (F13be n rc).F x y = runFn prog G (ro G (tabOf (Q13L n rc)) (frOf []) _) Go.Proofs.Try.f13 .no [(0, .fz)] (ShL.enc G (.cons (.agg (.cons (.int .i64) (.cons .str (.cons (.imm 2) (.cons (.imm 3) .nil))))) (.cons (.agg (.cons (.int .i64) (.cons .str (.cons (.imm 2) (.cons (.imm 3) .nil))))) .nil)) x) (encO G [] y) (decR .bool []) := by kernel_rfl
theorem F13b_ok (n : Nat) (rc : Q13RC) (h : AllE prog G (Q13L n rc)) : EntOK prog G (F13be n rc) :=
  ent_ok (fr := frOf []) (ann := .no) (frm := [(0, .fz)]) laws fnok h.tab (e := F13be n rc) (fn := Go.Proofs.Try.f13) (by kernel_rfl) (AllF.ofB (cd := F13bc) (l := []) (by kernel_rfl) (by kernel_rfl) AllF.nil) (F13b_eq n rc)
-- 35 loop.example/slowworm/laws.eqExprS
noncomputable def F35bc : Code := bodyOf Go.Proofs.Try.f35
noncomputable def F35b_0x0 : SSh := ⟨27, [(4, .bool)], []⟩
noncomputable def F35b_0x1 : SSh := ⟨27, [], []⟩
noncomputable def F35b_0s : SSh := ⟨27, [(0, (.imm 3)), (1, (.imm 3)), (5, (.int .i64))], []⟩
noncomputable def F35b_0_step {R : Type} (n : Nat) (rc : Q13RC) (k0 : Bool → Option R) (k1 : Option R) (rec : List Ex → List Ex → Int → Option R) (x1535 : List Ex) (x1536 : List Ex) (x1537 : Int) : Option R :=
  (bif (decide (x1537 < ((x1535.length) : Int))) then
  (bif (decide ((0 : Int) ≤ x1537)) then
  (bif (decide (x1537 < ((x1535.length) : Int))) then
  let v1540 := (x1535.getD (x1537.toNat) (Ex.mk (0 : Int) ({ data := #[] } : ByteArray) [] []))
  (bif (decide ((0 : Int) ≤ x1537)) then
  (bif (decide (x1537 < ((x1536.length) : Int))) then
  let v1545 := (x1536.getD (x1537.toNat) (Ex.mk (0 : Int) ({ data := #[] } : ByteArray) [] []))
  (andThen (rc.1 v1540.kind v1540.text v1540.names v1540.kids v1545.kind v1545.text v1545.names v1545.kids) fun r1550 =>
  (bif (!r1550.1) then
  (k0 false)
  else (rec x1535 x1536 (IntKind.wrap .i64 (x1537 + (1 : Int))))))
  else none)
  else none)
  else none)
  else none)
  else k1)
noncomputable def F35b_0_it {R : Type} (n : Nat) (rc : Q13RC) (k0 : Bool → Option R) (k1 : Option R) : Nat → List Ex → List Ex → Int → Option R
  | 0, _, _, _ => none
  | k + 1, x1535, x1536, x1537 => F35b_0_step n rc k0 k1 (F35b_0_it n rc k0 k1 k) x1535 x1536 x1537
noncomputable def F35b_0 {R : Type} (n : Nat) (rc : Q13RC) (x1535 : List Ex) (x1536 : List Ex) (x1537 : Int) (k0 : Bool → Option R) (k1 : Option R) : Option R := F35b_0_it n rc k0 k1 n x1535 x1536 x1537
noncomputable def F35b_0z (n : Nat) (rc : Q13RC) : Sm G := inZ G 0 ⟨[0, 1, 5], []⟩ F35b_0s fun R x K => F35b_0_it n rc (fun u0 => K .ret (SSh.enc G F35b_0x0 ((u0, ()), ()))) (K (.exit 0) (SSh.enc G F35b_0x1 ((), ()))) n x.1.1 x.1.2.1 x.1.2.2.1
theorem F35b_0_eq (n : Nat) (rc : Q13RC) (R : Type) (rec : SSh.den G F35b_0s → Option R) (x : SSh.den G F35b_0s) (K : AE → St G → Option R) :
  F35b_0_step n rc (fun u0 => K .ret (SSh.enc G F35b_0x0 ((u0, ()), ()))) (K (.exit 0) (SSh.enc G F35b_0x1 ((), ()))) (fun x1535 x1536 x1537 => rec ((x1535, (x1536, (x1537, ()))), ())) x.1.1 x.1.2.1 x.1.2.2.1 = exec prog G (ro G (tabOf (Q13L n rc)) (frOf []) R) 0 (codeAt F35bc [1, 1, 0, 1, 0, 0]) .no (SSh.enc G F35b_0s x) (kLoop G (ro G (tabOf (Q13L n rc)) (frOf []) R) 0 ⟨[0, 1, 5], []⟩ F35b_0s ⟨⟨[], []⟩, ⟨[4], []⟩, [(0, ⟨[], []⟩)]⟩ rec K) := by kernel_rfl
theorem F35b_0_ok (n : Nat) (rc : Q13RC) (h : AllE prog G (Q13L n rc)) : FragOK prog G 0 (codeAt F35bc [1, 1, 0, 1, 0]) (F35b_0z n rc) :=
  frag_loop (Z := fun R k (x : SSh.den G F35b_0s) K => F35b_0_it n rc (fun u0 => K .ret (SSh.enc G F35b_0x0 ((u0, ()), ()))) (K (.exit 0) (SSh.enc G F35b_0x1 ((), ()))) k x.1.1 x.1.2.1 x.1.2.2.1) laws fnok h.tab (AllF.of (l := []) (by kernel_rfl) AllF.nil) (fun _ _ _ => rfl) (fun R k y K => F35b_0_eq n rc R (fun (x : SSh.den G F35b_0s) => F35b_0_it n rc (fun u0 => K .ret (SSh.enc G F35b_0x0 ((u0, ()), ()))) (K (.exit 0) (SSh.enc G F35b_0x1 ((), ()))) k x.1.1 x.1.2.1 x.1.2.2.1) y K) n
noncomputable def F35b (n : Nat) (rc : Q13RC) (a1530 : List Ex) (a1531 : List Ex) : Option (Bool × Unit) :=
  (bif (((a1530.length) : Int) != ((a1531.length) : Int)) then
  some (false, ())
  else (F35b_0 n rc a1530 a1531 (0 : Int) (fun z1553 =>
  some (z1553, ())) (
  some (true, ()))))
noncomputable def F35be (n : Nat) (rc : Q13RC) : Ent G := ⟨35, (.cons (.imm 3) (.cons (.imm 3) .nil)), [], .bool, [], fun x y => F35b n rc x.1 x.2.1⟩
theorem F35b_eq (n : Nat) (rc : Q13RC) (x : ShL.den G (.cons (.imm 3) (.cons (.imm 3) .nil))) (y : denO G []) : (F35be n rc).F x y = runFn prog G (ro G (tabOf (Q13L n rc)) (frOf [F35b_0z n rc]) _) Go.Proofs.Try.f35 (.nd .no (.nd .no (.nd (.nd .no (.nd (.use 0) .no)) .no))) [(0, .fz)] (ShL.enc G (.cons (.imm 3) (.cons (.imm 3) .nil)) x) (encO G [] y) (decR .bool []) := by kernel_rfl
theorem F35b_ok (n : Nat) (rc : Q13RC) (h : AllE prog G (Q13L n rc)) : EntOK prog G (F35be n rc) :=
  ent_ok (fr := frOf [F35b_0z n rc]) (ann := (.nd .no (.nd .no (.nd (.nd .no (.nd (.use 0) .no)) .no)))) (frm := [(0, .fz)]) laws fnok h.tab (e := F35be n rc) (fn := Go.Proofs.Try.f35) (by kernel_rfl) (AllF.ofB (cd := F35bc) (l := [(0, codeAt F35bc [1, 1, 0, 1, 0])]) (by kernel_rfl) (by kernel_rfl) (AllF.cons (F35b_0_ok n rc h) AllF.nil)) (F35b_eq n rc)
noncomputable def Q13it (n : Nat) : Nat → Q13RC
  | 0 => (fun _ _ _ _ _ _ _ _ => none, fun _ _ => none, ())
  | k + 1 => (F13b n (Q13it n k), F35b n (Q13it n k), ())
theorem Q13it_ok (n : Nat) : ∀ k, AllE prog G (Q13L n (Q13it n k))
  | 0 => (AllE.cons (EntOK.none fun _ _ => rfl) (AllE.cons (EntOK.none fun _ _ => rfl) (E44_ok n)))
  | k + 1 => (AllE.cons (F13b_ok n _ (Q13it_ok n k)) (AllE.cons (F35b_ok n _ (Q13it_ok n k)) (E44_ok n)))
noncomputable def F13 (n : Nat) (a0 : Int) (a1 : ByteArray) (a2 : List ByteArray) (a3 : List Ex) (a4 : Int) (a5 : ByteArray) (a6 : List ByteArray) (a7 : List Ex) : Option (Bool × Unit) := (Q13it n n).1 a0 a1 a2 a3 a4 a5 a6 a7
noncomputable def F13e (n : Nat) : Ent G := ⟨13, (.cons (.agg (.cons (.int .i64) (.cons .str (.cons (.imm 2) (.cons (.imm 3) .nil))))) (.cons (.agg (.cons (.int .i64) (.cons .str (.cons (.imm 2) (.cons (.imm 3) .nil))))) .nil)), [], .bool, [], fun x y => F13 n x.1.1 x.1.2.1 x.1.2.2.1 x.1.2.2.2.1 x.2.1.1 x.2.1.2.1 x.2.1.2.2.1 x.2.1.2.2.2.1⟩
noncomputable def F35 (n : Nat) (a0 : List Ex) (a1 : List Ex) : Option (Bool × Unit) := (Q13it n n).2.1 a0 a1
noncomputable def F35e (n : Nat) : Ent G := ⟨35, (.cons (.imm 3) (.cons (.imm 3) .nil)), [], .bool, [], fun x y => F35 n x.1 x.2.1⟩
noncomputable def E45 (n : Nat) : List (Ent G) := F13e n :: F35e n :: E44 n
theorem E45_ok (n : Nat) : AllE prog G (E45 n) := Q13it_ok n n
-- 22 loop.example/slowworm/laws.markExpr
noncomputable def F22c : Code := bodyOf Go.Proofs.Try.f22
-- 23 loop.example/slowworm/laws.markStringS
noncomputable def F23c : Code := bodyOf Go.Proofs.Try.f23
-- 47 loop.example/slowworm/laws.markText
noncomputable def F47c : Code := bodyOf Go.Proofs.Try.f47
noncomputable def F47_0x0 : SSh := ⟨20, [(3, .str)], []⟩
noncomputable def F47_0s : SSh := ⟨20, [(0, (.int .i64)), (3, .str)], []⟩
noncomputable def F47_0_step {R : Type} (n : Nat) (k0 : ByteArray → Option R) (rec : Int → ByteArray → Option R) (x1573 : Int) (x1574 : ByteArray) : Option R :=
  (bif (decide (x1573 > (0 : Int))) then
  let v1580 := (bytesOfInts (List.map (fun y1581 => y1581) ((IntKind.wrap .u8 (IntKind.wrap .i64 ((48 : Int) + (x1573.tmod (10 : Int))))) :: [])))
  (bif (decide (((v1580.size) + (x1574.size)) ≤ (68719476736 : Nat))) then
  (rec (IntKind.wrap .i64 (x1573.tdiv (10 : Int))) (v1580 ++ x1574))
  else none)
  else (k0 x1574))
noncomputable def F47_0_it {R : Type} (n : Nat) (k0 : ByteArray → Option R) : Nat → Int → ByteArray → Option R
  | 0, _, _ => none
  | k + 1, x1573, x1574 => F47_0_step n k0 (F47_0_it n k0 k) x1573 x1574
noncomputable def F47_0 {R : Type} (n : Nat) (x1573 : Int) (x1574 : ByteArray) (k0 : ByteArray → Option R) : Option R := F47_0_it n k0 n x1573 x1574
noncomputable def F47_0z (n : Nat) : Sm G := inZ G 0 ⟨[0, 3], []⟩ F47_0s fun R x K => F47_0_it n (fun u0 => K (.exit 0) (SSh.enc G F47_0x0 ((u0, ()), ()))) n x.1.1 x.1.2.1
theorem F47_0_eq (n : Nat) (R : Type) (rec : SSh.den G F47_0s → Option R) (x : SSh.den G F47_0s) (K : AE → St G → Option R) :
  F47_0_step n (fun u0 => K (.exit 0) (SSh.enc G F47_0x0 ((u0, ()), ()))) (fun x1573 x1574 => rec ((x1573, (x1574, ())), ())) x.1.1 x.1.2.1 = exec prog G (ro G (tabOf (E45 n)) (frOf []) R) 0 (codeAt F47c [1, 1, 1, 0, 0, 0]) .no (SSh.enc G F47_0s x) (kLoop G (ro G (tabOf (E45 n)) (frOf []) R) 0 ⟨[0, 3], []⟩ F47_0s ⟨⟨[3], []⟩, ⟨[2], []⟩, [(0, ⟨[3], []⟩)]⟩ rec K) := by kernel_rfl
theorem F47_0_ok (n : Nat) : FragOK prog G 0 (codeAt F47c [1, 1, 1, 0, 0]) (F47_0z n) :=
  frag_loop (Z := fun R k (x : SSh.den G F47_0s) K => F47_0_it n (fun u0 => K (.exit 0) (SSh.enc G F47_0x0 ((u0, ()), ()))) k x.1.1 x.1.2.1) laws fnok (E45_ok n).tab (AllF.of (l := []) (by kernel_rfl) AllF.nil) (fun _ _ _ => rfl) (fun R k y K => F47_0_eq n R (fun (x : SSh.den G F47_0s) => F47_0_it n (fun u0 => K (.exit 0) (SSh.enc G F47_0x0 ((u0, ()), ()))) k x.1.1 x.1.2.1) y K) n
noncomputable def F47 (n : Nat) (a1571 : Int) : Option (ByteArray × Unit) :=
  (bif (decide (a1571 ≤ (0 : Int))) then
  some (({ data := #[109, 48] } : ByteArray), ())
  else (F47_0 n a1571 ({ data := #[] } : ByteArray) (fun z1584 =>
  (bif (decide (((1 : Nat) + (z1584.size)) ≤ (68719476736 : Nat))) then
  some ((({ data := #[109] } : ByteArray) ++ z1584), ())
  else none))))
noncomputable def F47e (n : Nat) : Ent G := ⟨47, (.cons (.int .i64) .nil), [], .str, [], fun x y => F47 n x.1⟩
theorem F47_eq (n : Nat) (x : ShL.den G (.cons (.int .i64) .nil)) (y : denO G []) : (F47e n).F x y = runFn prog G (ro G (tabOf (E45 n)) (frOf [F47_0z n]) _) Go.Proofs.Try.f47 (.nd .no (.nd .no (.nd .no (.nd (.nd (.use 0) .no) .no)))) [(0, .fz)] (ShL.enc G (.cons (.int .i64) .nil) x) (encO G [] y) (decR .str []) := by kernel_rfl
theorem F47_ok (n : Nat) : EntOK prog G (F47e n) :=
  ent_ok (fr := frOf [F47_0z n]) (ann := (.nd .no (.nd .no (.nd .no (.nd (.nd (.use 0) .no) .no))))) (frm := [(0, .fz)]) laws fnok (E45_ok n).tab (e := F47e n) (fn := Go.Proofs.Try.f47) (by kernel_rfl) (AllF.ofB (cd := F47c) (l := [(0, codeAt F47c [1, 1, 1, 0, 0])]) (by kernel_rfl) (by kernel_rfl) (AllF.cons (F47_0_ok n) AllF.nil)) (F47_eq n)
noncomputable def E46 (n : Nat) : List (Ent G) := F47e n :: E45 n
theorem E46_ok (n : Nat) : AllE prog G (E46 n) := AllE.cons (F47_ok n) (E45_ok n)
noncomputable def F23_0x0 : SSh := ⟨20, [(1, (.int .i64))], [(.usr 1)]⟩
noncomputable def F23_0s : SSh := ⟨20, [(0, (.jk 0 2)), (1, (.int .i64)), (5, (.int .i64))], [(.usr 1)]⟩
noncomputable def F23_0_step {R : Type} (n : Nat) (k0 : Int → Unit → Option R) (rec : List ByteArray → Int → Int → Unit → Option R) (x1565 : List ByteArray) (x1566 : Int) (x1567 : Int) (x1568 : Unit) : Option R :=
  (bif (decide (x1567 < ((x1565.length) : Int))) then
  (andThen (F47 n x1566) fun r1586 =>
  (bif (decide ((0 : Int) ≤ x1567)) then
  (bif (decide (x1567 < ((x1565.length) : Int))) then
  (rec x1565 (IntKind.wrap .i64 (x1566 + (1 : Int))) (IntKind.wrap .i64 (x1567 + (1 : Int))) ())
  else none)
  else none))
  else (k0 x1566 x1568))
noncomputable def F23_0_it {R : Type} (n : Nat) (k0 : Int → Unit → Option R) : Nat → List ByteArray → Int → Int → Unit → Option R
  | 0, _, _, _, _ => none
  | k + 1, x1565, x1566, x1567, x1568 => F23_0_step n k0 (F23_0_it n k0 k) x1565 x1566 x1567 x1568
noncomputable def F23_0 {R : Type} (n : Nat) (x1565 : List ByteArray) (x1566 : Int) (x1567 : Int) (x1568 : Unit) (k0 : Int → Unit → Option R) : Option R := F23_0_it n k0 n x1565 x1566 x1567 x1568
noncomputable def F23_0z (n : Nat) : Sm G := inZ G 1 ⟨[0, 1, 5], []⟩ F23_0s fun R x K => F23_0_it n (fun u0 u1 => K (.exit 0) (SSh.enc G F23_0x0 ((u0, ()), (u1, ())))) n x.1.1 x.1.2.1 x.1.2.2.1 x.2.1
theorem F23_0_eq (n : Nat) (R : Type) (rec : SSh.den G F23_0s → Option R) (x : SSh.den G F23_0s) (K : AE → St G → Option R) :
  F23_0_step n (fun u0 u1 => K (.exit 0) (SSh.enc G F23_0x0 ((u0, ()), (u1, ())))) (fun x1565 x1566 x1567 x1568 => rec ((x1565, (x1566, (x1567, ()))), (x1568, ()))) x.1.1 x.1.2.1 x.1.2.2.1 x.2.1 = exec prog G (ro G (tabOf (E46 n)) (frOf []) R) 1 (codeAt F23c [1, 0, 1, 0, 0]) .no (SSh.enc G F23_0s x) (kLoop G (ro G (tabOf (E46 n)) (frOf []) R) 1 ⟨[0, 1, 5], []⟩ F23_0s ⟨⟨[1], []⟩, ⟨[4], []⟩, [(0, ⟨[1], []⟩)]⟩ rec K) := by kernel_rfl
theorem F23_0_ok (n : Nat) : FragOK prog G 1 (codeAt F23c [1, 0, 1, 0]) (F23_0z n) :=
  frag_loop (Z := fun R k (x : SSh.den G F23_0s) K => F23_0_it n (fun u0 u1 => K (.exit 0) (SSh.enc G F23_0x0 ((u0, ()), (u1, ())))) k x.1.1 x.1.2.1 x.1.2.2.1 x.2.1) laws fnok (E46_ok n).tab (AllF.of (l := []) (by kernel_rfl) AllF.nil) (fun _ _ _ => rfl) (fun R k y K => F23_0_eq n R (fun (x : SSh.den G F23_0s) => F23_0_it n (fun u0 u1 => K (.exit 0) (SSh.enc G F23_0x0 ((u0, ()), (u1, ())))) k x.1.1 x.1.2.1 x.1.2.2.1 x.2.1) y K) n
noncomputable def F23 (n : Nat) (a1562 : List ByteArray) (a1563 : Int) (a1564 : Unit) : Option (Int × (Unit × Unit)) :=
  (F23_0 n a1562 a1563 (0 : Int) a1564 (fun z1590 z1591 =>
  some (z1590, (z1591, ()))))
noncomputable def F23e (n : Nat) : Ent G := ⟨23, (.cons (.jk 0 2) (.cons (.int .i64) .nil)), [(.usr 1)], (.int .i64), [(.usr 1)], fun x y => F23 n x.1 x.2.1 y.1⟩
theorem F23_eq (n : Nat) (x : ShL.den G (.cons (.jk 0 2) (.cons (.int .i64) .nil))) (y : denO G [(.usr 1)]) : (F23e n).F x y = runFn prog G (ro G (tabOf (E46 n)) (frOf [F23_0z n]) _) Go.Proofs.Try.f23 (.nd .no (.nd (.nd .no (.nd (.use 0) .no)) .no)) [(0, .fz)] (ShL.enc G (.cons (.jk 0 2) (.cons (.int .i64) .nil)) x) (encO G [(.usr 1)] y) (decR (.int .i64) [(.usr 1)]) := by kernel_rfl
theorem F23_ok (n : Nat) : EntOK prog G (F23e n) :=
  ent_ok (fr := frOf [F23_0z n]) (ann := (.nd .no (.nd (.nd .no (.nd (.use 0) .no)) .no))) (frm := [(0, .fz)]) laws fnok (E46_ok n).tab (e := F23e n) (fn := Go.Proofs.Try.f23) (by kernel_rfl) (AllF.ofB (cd := F23c) (l := [(0, codeAt F23c [1, 0, 1, 0])]) (by kernel_rfl) (by kernel_rfl) (AllF.cons (F23_0_ok n) AllF.nil)) (F23_eq n)
noncomputable def E47 (n : Nat) : List (Ent G) := F23e n :: E46 n
theorem E47_ok (n : Nat) : AllE prog G (E47 n) := AllE.cons (F23_ok n) (E46_ok n)
abbrev Q46RC : Type := (List Ex → Int → Unit → Option (Int × (Unit × Unit))) × Unit
noncomputable def Q46L (n : Nat) (rc : Q46RC) : List (Ent G) := ⟨46, (.cons (.jk 0 3) (.cons (.int .i64) .nil)), [(.usr 1)], (.int .i64), [(.usr 1)], fun x y => rc.1 x.1 x.2.1 y.1⟩ :: E47 n
-- 46 loop.example/slowworm/laws.markExprS
noncomputable def F46bc : Code := bodyOf Go.Proofs.Try.f46
noncomputable def F46b_0x0 : SSh := ⟨42, [(1, (.int .i64))], [(.usr 1)]⟩
noncomputable def F46b_0s : SSh := ⟨42, [(0, (.jk 0 3)), (1, (.int .i64)), (5, (.int .i64))], [(.usr 1)]⟩
noncomputable def F46b_0_step {R : Type} (n : Nat) (rc : Q46RC) (k0 : Int → Unit → Option R) (rec : List Ex → Int → Int → Unit → Option R) (x1638 : List Ex) (x1639 : Int) (x1640 : Int) (x1641 : Unit) : Option R :=
  (bif (decide (x1640 < ((x1638.length) : Int))) then
  (bif (decide ((0 : Int) ≤ x1640)) then
  (bif (decide (x1640 < ((x1638.length) : Int))) then
  let v1645 := (IntKind.wrap .i64 (x1639 + (1 : Int)))
  (andThen (F47 n v1645) fun r1646 =>
  (bif (decide ((0 : Int) ≤ x1640)) then
  (bif (decide (x1640 < ((x1638.length) : Int))) then
  (bif (decide ((0 : Int) ≤ x1640)) then
  (bif (decide (x1640 < ((x1638.length) : Int))) then
  (andThen (F23 n (x1638.getD (x1640.toNat) (Ex.mk (0 : Int) ({ data := #[] } : ByteArray) [] [])).names (IntKind.wrap .i64 (v1645 + (1 : Int))) ()) fun r1651 =>
  (bif (decide ((0 : Int) ≤ x1640)) then
  (bif (decide (x1640 < ((x1638.length) : Int))) then
  (andThen (rc.1 (x1638.getD (x1640.toNat) (Ex.mk (0 : Int) ({ data := #[] } : ByteArray) [] [])).kids r1651.1 r1651.2.1) fun r1654 =>
  (rec x1638 r1654.1 (IntKind.wrap .i64 (x1640 + (1 : Int))) r1654.2.1))
  else none)
  else none))
  else none)
  else none)
  else none)
  else none))
  else none)
  else none)
  else (k0 x1639 x1641))
noncomputable def F46b_0_it {R : Type} (n : Nat) (rc : Q46RC) (k0 : Int → Unit → Option R) : Nat → List Ex → Int → Int → Unit → Option R
  | 0, _, _, _, _ => none
  | k + 1, x1638, x1639, x1640, x1641 => F46b_0_step n rc k0 (F46b_0_it n rc k0 k) x1638 x1639 x1640 x1641
noncomputable def F46b_0 {R : Type} (n : Nat) (rc : Q46RC) (x1638 : List Ex) (x1639 : Int) (x1640 : Int) (x1641 : Unit) (k0 : Int → Unit → Option R) : Option R := F46b_0_it n rc k0 n x1638 x1639 x1640 x1641
noncomputable def F46b_0z (n : Nat) (rc : Q46RC) : Sm G := inZ G 1 ⟨[0, 1, 5], []⟩ F46b_0s fun R x K => F46b_0_it n rc (fun u0 u1 => K (.exit 0) (SSh.enc G F46b_0x0 ((u0, ()), (u1, ())))) n x.1.1 x.1.2.1 x.1.2.2.1 x.2.1
theorem F46b_0_eq (n : Nat) (rc : Q46RC) (R : Type) (rec : SSh.den G F46b_0s → Option R) (x : SSh.den G F46b_0s) (K : AE → St G → Option R) :
  F46b_0_step n rc (fun u0 u1 => K (.exit 0) (SSh.enc G F46b_0x0 ((u0, ()), (u1, ())))) (fun x1638 x1639 x1640 x1641 => rec ((x1638, (x1639, (x1640, ()))), (x1641, ()))) x.1.1 x.1.2.1 x.1.2.2.1 x.2.1 = exec prog G (ro G (tabOf (Q46L n rc)) (frOf []) R) 1 (codeAt F46bc [1, 0, 1, 0, 0]) .no (SSh.enc G F46b_0s x) (kLoop G (ro G (tabOf (Q46L n rc)) (frOf []) R) 1 ⟨[0, 1, 5], []⟩ F46b_0s ⟨⟨[1], []⟩, ⟨[4], []⟩, [(0, ⟨[1], []⟩)]⟩ rec K) := by kernel_rfl
theorem F46b_0_ok (n : Nat) (rc : Q46RC) (h : AllE prog G (Q46L n rc)) : FragOK prog G 1 (codeAt F46bc [1, 0, 1, 0]) (F46b_0z n rc) :=
  frag_loop (Z := fun R k (x : SSh.den G F46b_0s) K => F46b_0_it n rc (fun u0 u1 => K (.exit 0) (SSh.enc G F46b_0x0 ((u0, ()), (u1, ())))) k x.1.1 x.1.2.1 x.1.2.2.1 x.2.1) laws fnok h.tab (AllF.of (l := []) (by kernel_rfl) AllF.nil) (fun _ _ _ => rfl) (fun R k y K => F46b_0_eq n rc R (fun (x : SSh.den G F46b_0s) => F46b_0_it n rc (fun u0 u1 => K (.exit 0) (SSh.enc G F46b_0x0 ((u0, ()), (u1, ())))) k x.1.1 x.1.2.1 x.1.2.2.1 x.2.1) y K) n
noncomputable def F46b (n : Nat) (rc : Q46RC) (a1635 : List Ex) (a1636 : Int) (a1637 : Unit) : Option (Int × (Unit × Unit)) :=
  (F46b_0 n rc a1635 a1636 (0 : Int) a1637 (fun z1656 z1657 =>
  some (z1656, (z1657, ()))))
noncomputable def F46be (n : Nat) (rc : Q46RC) : Ent G := ⟨46, (.cons (.jk 0 3) (.cons (.int .i64) .nil)), [(.usr 1)], (.int .i64), [(.usr 1)], fun x y => F46b n rc x.1 x.2.1 y.1⟩
theorem F46b_eq (n : Nat) (rc : Q46RC) (x : ShL.den G (.cons (.jk 0 3) (.cons (.int .i64) .nil))) (y : denO G [(.usr 1)]) : (F46be n rc).F x y = runFn prog G (ro G (tabOf (Q46L n rc)) (frOf [F46b_0z n rc]) _) Go.Proofs.Try.f46 (.nd .no (.nd (.nd .no (.nd (.use 0) .no)) .no)) [(0, .fz)] (ShL.enc G (.cons (.jk 0 3) (.cons (.int .i64) .nil)) x) (encO G [(.usr 1)] y) (decR (.int .i64) [(.usr 1)]) := by kernel_rfl
theorem F46b_ok (n : Nat) (rc : Q46RC) (h : AllE prog G (Q46L n rc)) : EntOK prog G (F46be n rc) :=
  ent_ok (fr := frOf [F46b_0z n rc]) (ann := (.nd .no (.nd (.nd .no (.nd (.use 0) .no)) .no))) (frm := [(0, .fz)]) laws fnok h.tab (e := F46be n rc) (fn := Go.Proofs.Try.f46) (by kernel_rfl) (AllF.ofB (cd := F46bc) (l := [(0, codeAt F46bc [1, 0, 1, 0])]) (by kernel_rfl) (by kernel_rfl) (AllF.cons (F46b_0_ok n rc h) AllF.nil)) (F46b_eq n rc)
noncomputable def Q46it (n : Nat) : Nat → Q46RC
  | 0 => (fun _ _ _ => none, ())
  | k + 1 => (F46b n (Q46it n k), ())
theorem Q46it_ok (n : Nat) : ∀ k, AllE prog G (Q46L n (Q46it n k))
  | 0 => (AllE.cons (EntOK.none fun _ _ => rfl) (E47_ok n))
  | k + 1 => (AllE.cons (F46b_ok n _ (Q46it_ok n k)) (E47_ok n))
noncomputable def F46 (n : Nat) (a0 : List Ex) (a1 : Int) (a2 : Unit) : Option (Int × (Unit × Unit)) := (Q46it n n).1 a0 a1 a2
noncomputable def F46e (n : Nat) : Ent G := ⟨46, (.cons (.jk 0 3) (.cons (.int .i64) .nil)), [(.usr 1)], (.int .i64), [(.usr 1)], fun x y => F46 n x.1 x.2.1 y.1⟩
noncomputable def E48 (n : Nat) : List (Ent G) := F46e n :: E47 n
theorem E48_ok (n : Nat) : AllE prog G (E48 n) := Q46it_ok n n
noncomputable def F22 (n : Nat) (a1556 : Int) (a1557 : ByteArray) (a1558 : List ByteArray) (a1559 : List Ex) (a1560 : Int) (a1561 : Unit) : Option (Int × (Unit × Unit)) :=
  (andThen (F23 n a1558 a1560 a1561) fun r1592 =>
  (andThen (F46 n a1559 r1592.1 r1592.2.1) fun r1658 =>
  some (r1658.1, (r1658.2.1, ()))))
noncomputable def F22e (n : Nat) : Ent G := ⟨22, (.cons (.agg (.cons (.int .i64) (.cons .str (.cons (.jk 0 2) (.cons (.jk 0 3) .nil))))) (.cons (.int .i64) .nil)), [(.usr 1)], (.int .i64), [(.usr 1)], fun x y => F22 n x.1.1 x.1.2.1 x.1.2.2.1 x.1.2.2.2.1 x.2.1 y.1⟩
theorem F22_eq (n : Nat) (x : ShL.den G (.cons (.agg (.cons (.int .i64) (.cons .str (.cons (.jk 0 2) (.cons (.jk 0 3) .nil))))) (.cons (.int .i64) .nil))) (y : denO G [(.usr 1)]) : (F22e n).F x y = runFn prog G (ro G (tabOf (E48 n)) (frOf []) _) Go.Proofs.Try.f22 .no [(0, .fz)] (ShL.enc G (.cons (.agg (.cons (.int .i64) (.cons .str (.cons (.jk 0 2) (.cons (.jk 0 3) .nil))))) (.cons (.int .i64) .nil)) x) (encO G [(.usr 1)] y) (decR (.int .i64) [(.usr 1)]) := by kernel_rfl
theorem F22_ok (n : Nat) : EntOK prog G (F22e n) :=
  ent_ok (fr := frOf []) (ann := .no) (frm := [(0, .fz)]) laws fnok (E48_ok n).tab (e := F22e n) (fn := Go.Proofs.Try.f22) (by kernel_rfl) (AllF.ofB (cd := F22c) (l := []) (by kernel_rfl) (by kernel_rfl) AllF.nil) (F22_eq n)
noncomputable def E49 (n : Nat) : List (Ent G) := F22e n :: E48 n
theorem E49_ok (n : Nat) : AllE prog G (E49 n) := AllE.cons (F22_ok n) (E48_ok n)
-- 23 loop.example/slowworm/laws.markStringS
noncomputable def F23v1c : Code := bodyOf Go.Proofs.Try.f23
noncomputable def F23v1_0x0 : SSh := ⟨20, [(1, (.int .i64))], [(.arr 2 true)]⟩
noncomputable def F23v1_0s : SSh := ⟨20, [(0, (.own 0)), (1, (.int .i64)), (5, (.int .i64))], [(.arr 2 true)]⟩
noncomputable def F23v1_0_step {R : Type} (n : Nat) (k0 : Int → List ByteArray → Option R) (rec : Int → Int → List ByteArray → Option R) (x1665 : Int) (x1666 : Int) (x1667 : List ByteArray) : Option R :=
  (bif (decide (x1666 < ((x1667.length) : Int))) then
  (andThen (F47 n x1665) fun r1670 =>
  (bif (decide ((0 : Int) ≤ x1666)) then
  (bif (decide (x1666 < ((x1667.length) : Int))) then
  (rec (IntKind.wrap .i64 (x1665 + (1 : Int))) (IntKind.wrap .i64 (x1666 + (1 : Int))) (x1667.set (x1666.toNat) r1670.1))
  else none)
  else none))
  else (k0 x1665 x1667))
noncomputable def F23v1_0_it {R : Type} (n : Nat) (k0 : Int → List ByteArray → Option R) : Nat → Int → Int → List ByteArray → Option R
  | 0, _, _, _ => none
  | k + 1, x1665, x1666, x1667 => F23v1_0_step n k0 (F23v1_0_it n k0 k) x1665 x1666 x1667
noncomputable def F23v1_0 {R : Type} (n : Nat) (x1665 : Int) (x1666 : Int) (x1667 : List ByteArray) (k0 : Int → List ByteArray → Option R) : Option R := F23v1_0_it n k0 n x1665 x1666 x1667
noncomputable def F23v1_0z (n : Nat) : Sm G := inZ G 1 ⟨[0, 1, 5], []⟩ F23v1_0s fun R x K => F23v1_0_it n (fun u0 u1 => K (.exit 0) (SSh.enc G F23v1_0x0 ((u0, ()), (u1, ())))) n x.1.2.1 x.1.2.2.1 x.2.1
theorem F23v1_0_eq (n : Nat) (R : Type) (rec : SSh.den G F23v1_0s → Option R) (x : SSh.den G F23v1_0s) (K : AE → St G → Option R) :
  F23v1_0_step n (fun u0 u1 => K (.exit 0) (SSh.enc G F23v1_0x0 ((u0, ()), (u1, ())))) (fun x1665 x1666 x1667 => rec (((), (x1665, (x1666, ()))), (x1667, ()))) x.1.2.1 x.1.2.2.1 x.2.1 = exec prog G (ro G (tabOf (E49 n)) (frOf []) R) 1 (codeAt F23v1c [1, 0, 1, 0, 0]) .no (SSh.enc G F23v1_0s x) (kLoop G (ro G (tabOf (E49 n)) (frOf []) R) 1 ⟨[0, 1, 5], []⟩ F23v1_0s ⟨⟨[1], []⟩, ⟨[4], []⟩, [(0, ⟨[1], []⟩)]⟩ rec K) := by kernel_rfl
theorem F23v1_0_ok (n : Nat) : FragOK prog G 1 (codeAt F23v1c [1, 0, 1, 0]) (F23v1_0z n) :=
  frag_loop (Z := fun R k (x : SSh.den G F23v1_0s) K => F23v1_0_it n (fun u0 u1 => K (.exit 0) (SSh.enc G F23v1_0x0 ((u0, ()), (u1, ())))) k x.1.2.1 x.1.2.2.1 x.2.1) laws fnok (E49_ok n).tab (AllF.of (l := []) (by kernel_rfl) AllF.nil) (fun _ _ _ => rfl) (fun R k y K => F23v1_0_eq n R (fun (x : SSh.den G F23v1_0s) => F23v1_0_it n (fun u0 u1 => K (.exit 0) (SSh.enc G F23v1_0x0 ((u0, ()), (u1, ())))) k x.1.2.1 x.1.2.2.1 x.2.1) y K) n
noncomputable def F23v1 (n : Nat) (a1663 : Int) (a1664 : List ByteArray) : Option (Int × (List ByteArray × Unit)) :=
  (F23v1_0 n a1663 (0 : Int) a1664 (fun z1675 z1676 =>
  some (z1675, (z1676, ()))))
noncomputable def F23v1e (n : Nat) : Ent G := ⟨23, (.cons (.own 0) (.cons (.int .i64) .nil)), [(.arr 2 true)], (.int .i64), [(.arr 2 true)], fun x y => F23v1 n x.2.1 y.1⟩
theorem F23v1_eq (n : Nat) (x : ShL.den G (.cons (.own 0) (.cons (.int .i64) .nil))) (y : denO G [(.arr 2 true)]) : (F23v1e n).F x y = runFn prog G (ro G (tabOf (E49 n)) (frOf [F23v1_0z n]) _) Go.Proofs.Try.f23 (.nd .no (.nd (.nd .no (.nd (.use 0) .no)) .no)) [(0, .fz)] (ShL.enc G (.cons (.own 0) (.cons (.int .i64) .nil)) x) (encO G [(.arr 2 true)] y) (decR (.int .i64) [(.arr 2 true)]) := by kernel_rfl
theorem F23v1_ok (n : Nat) : EntOK prog G (F23v1e n) :=
  ent_ok (fr := frOf [F23v1_0z n]) (ann := (.nd .no (.nd (.nd .no (.nd (.use 0) .no)) .no))) (frm := [(0, .fz)]) laws fnok (E49_ok n).tab (e := F23v1e n) (fn := Go.Proofs.Try.f23) (by kernel_rfl) (AllF.ofB (cd := F23v1c) (l := [(0, codeAt F23v1c [1, 0, 1, 0])]) (by kernel_rfl) (by kernel_rfl) (AllF.cons (F23v1_0_ok n) AllF.nil)) (F23v1_eq n)
noncomputable def E50 (n : Nat) : List (Ent G) := F23v1e n :: E49 n
theorem E50_ok (n : Nat) : AllE prog G (E50 n) := AllE.cons (F23v1_ok n) (E49_ok n)
-- 24 loop.example/slowworm/laws.heldStringS
noncomputable def F24c : Code := bodyOf Go.Proofs.Try.f24
noncomputable def F24_0x0 : SSh := ⟨22, [(4, (.int .i64))], []⟩
noncomputable def F24_0x1 : SSh := ⟨22, [(1, (.int .i64))], []⟩
noncomputable def F24_0s : SSh := ⟨22, [(0, (.imm 2)), (1, (.int .i64)), (5, (.int .i64))], []⟩
noncomputable def F24_0_step {R : Type} (n : Nat) (k0 : Int → Option R) (k1 : Int → Option R) (rec : List ByteArray → Int → Int → Option R) (x1680 : List ByteArray) (x1681 : Int) (x1682 : Int) : Option R :=
  (bif (decide (x1682 < ((x1680.length) : Int))) then
  (bif (decide ((0 : Int) ≤ x1682)) then
  (bif (decide (x1682 < ((x1680.length) : Int))) then
  (andThen (F47 n x1681) fun r1687 =>
  (bif (!(((x1680.getD (x1682.toNat) ({ data := #[] } : ByteArray)).toList) == (r1687.1.toList))) then
  (k0 (-1 : Int))
  else (rec x1680 (IntKind.wrap .i64 (x1681 + (1 : Int))) (IntKind.wrap .i64 (x1682 + (1 : Int))))))
  else none)
  else none)
  else (k1 x1681))
noncomputable def F24_0_it {R : Type} (n : Nat) (k0 : Int → Option R) (k1 : Int → Option R) : Nat → List ByteArray → Int → Int → Option R
  | 0, _, _, _ => none
  | k + 1, x1680, x1681, x1682 => F24_0_step n k0 k1 (F24_0_it n k0 k1 k) x1680 x1681 x1682
noncomputable def F24_0 {R : Type} (n : Nat) (x1680 : List ByteArray) (x1681 : Int) (x1682 : Int) (k0 : Int → Option R) (k1 : Int → Option R) : Option R := F24_0_it n k0 k1 n x1680 x1681 x1682
noncomputable def F24_0z (n : Nat) : Sm G := inZ G 0 ⟨[0, 1, 5], []⟩ F24_0s fun R x K => F24_0_it n (fun u0 => K .ret (SSh.enc G F24_0x0 ((u0, ()), ()))) (fun u0 => K (.exit 0) (SSh.enc G F24_0x1 ((u0, ()), ()))) n x.1.1 x.1.2.1 x.1.2.2.1
theorem F24_0_eq (n : Nat) (R : Type) (rec : SSh.den G F24_0s → Option R) (x : SSh.den G F24_0s) (K : AE → St G → Option R) :
  F24_0_step n (fun u0 => K .ret (SSh.enc G F24_0x0 ((u0, ()), ()))) (fun u0 => K (.exit 0) (SSh.enc G F24_0x1 ((u0, ()), ()))) (fun x1680 x1681 x1682 => rec ((x1680, (x1681, (x1682, ()))), ())) x.1.1 x.1.2.1 x.1.2.2.1 = exec prog G (ro G (tabOf (E50 n)) (frOf []) R) 0 (codeAt F24c [1, 0, 1, 0, 0]) .no (SSh.enc G F24_0s x) (kLoop G (ro G (tabOf (E50 n)) (frOf []) R) 0 ⟨[0, 1, 5], []⟩ F24_0s ⟨⟨[1], []⟩, ⟨[4], []⟩, [(0, ⟨[1], []⟩)]⟩ rec K) := by kernel_rfl
theorem F24_0_ok (n : Nat) : FragOK prog G 0 (codeAt F24c [1, 0, 1, 0]) (F24_0z n) :=
  frag_loop (Z := fun R k (x : SSh.den G F24_0s) K => F24_0_it n (fun u0 => K .ret (SSh.enc G F24_0x0 ((u0, ()), ()))) (fun u0 => K (.exit 0) (SSh.enc G F24_0x1 ((u0, ()), ()))) k x.1.1 x.1.2.1 x.1.2.2.1) laws fnok (E50_ok n).tab (AllF.of (l := []) (by kernel_rfl) AllF.nil) (fun _ _ _ => rfl) (fun R k y K => F24_0_eq n R (fun (x : SSh.den G F24_0s) => F24_0_it n (fun u0 => K .ret (SSh.enc G F24_0x0 ((u0, ()), ()))) (fun u0 => K (.exit 0) (SSh.enc G F24_0x1 ((u0, ()), ()))) k x.1.1 x.1.2.1 x.1.2.2.1) y K) n
noncomputable def F24 (n : Nat) (a1678 : List ByteArray) (a1679 : Int) : Option (Int × Unit) :=
  (F24_0 n a1678 a1679 (0 : Int) (fun z1691 =>
  some (z1691, ())) (fun z1692 =>
  some (z1692, ())))
noncomputable def F24e (n : Nat) : Ent G := ⟨24, (.cons (.imm 2) (.cons (.int .i64) .nil)), [], (.int .i64), [], fun x y => F24 n x.1 x.2.1⟩
theorem F24_eq (n : Nat) (x : ShL.den G (.cons (.imm 2) (.cons (.int .i64) .nil))) (y : denO G []) : (F24e n).F x y = runFn prog G (ro G (tabOf (E50 n)) (frOf [F24_0z n]) _) Go.Proofs.Try.f24 (.nd .no (.nd (.nd .no (.nd (.use 0) .no)) .no)) [(0, .fz)] (ShL.enc G (.cons (.imm 2) (.cons (.int .i64) .nil)) x) (encO G [] y) (decR (.int .i64) []) := by kernel_rfl
theorem F24_ok (n : Nat) : EntOK prog G (F24e n) :=
  ent_ok (fr := frOf [F24_0z n]) (ann := (.nd .no (.nd (.nd .no (.nd (.use 0) .no)) .no))) (frm := [(0, .fz)]) laws fnok (E50_ok n).tab (e := F24e n) (fn := Go.Proofs.Try.f24) (by kernel_rfl) (AllF.ofB (cd := F24c) (l := [(0, codeAt F24c [1, 0, 1, 0])]) (by kernel_rfl) (by kernel_rfl) (AllF.cons (F24_0_ok n) AllF.nil)) (F24_eq n)
noncomputable def E51 (n : Nat) : List (Ent G) := F24e n :: E50 n
theorem E51_ok (n : Nat) : AllE prog G (E51 n) := AllE.cons (F24_ok n) (E50_ok n)
noncomputable def F7 (n : Nat) (a0 : Int) (a1 : ByteArray) (a2 : List ByteArray) (a3 : List Ex) : Option (Bool × Unit) :=
  (andThen (F9 n a0 a1 a2 a3 (1048576 : Int)) fun r111 =>
  (bif (decide (r111.1 < (0 : Int))) then
  some (true, ())
  else (andThen (F11 n a0 a1 a2 a3) fun r195 =>
  let v196 := (r195.1.2.2.1, (r195.1.2.2.2.1, ()))
  (andThen (F19 n r195.1.1 r195.1.2.1 v196.1 v196.2.1) fun r746 =>
  (andThen (F11 n a0 a1 a2 a3) fun r747 =>
  let v748 := (r747.1.2.2.1, (r747.1.2.2.2.1, ()))
  (andThen (F20 n r747.1.1 r747.1.2.1 v748.1 v748.2.1) fun r1424 =>
  (andThen (F21 n r1424.2.1 r746.1) fun r1442 =>
  (bif (!r1442.1) then
  some (false, ())
  else (andThen (F11 n a0 a1 a2 a3) fun r1444 =>
  let v1445 := (r1444.1.2.2.1, (r1444.1.2.2.2.1, ()))
  (andThen (F13 n r747.1.1 r747.1.2.1 v748.1 v748.2.1 r1444.1.1 r1444.1.2.1 v1445.1 v1445.2.1) fun r1554 =>
  (bif (!r1554.1) then
  some (false, ())
  else (andThen (F22 n r747.1.1 r747.1.2.1 v748.1 v748.2.1 (1 : Int) ()) fun r1659 =>
  (bif (decide (r1659.1 < (0 : Int))) then
  some (false, ())
  else (andThen (F21 n r1424.2.1 r746.1) fun r1661 =>
  (bif (!r1661.1) then
  some (false, ())
  else (andThen (F23v1 n (1 : Int) r1424.2.1) fun r1677 =>
  (andThen (F24 n r1677.2.1 (1 : Int)) fun r1693 =>
  (bif (decide (r1693.1 < (0 : Int))) then
  some (false, ())
  else (bif (r1693.1 != r1677.1) then
  some (false, ())
  else (andThen (F11 n a0 a1 a2 a3) fun r1696 =>
  let v1697 := (r1696.1.2.2.1, (r1696.1.2.2.2.1, ()))
  (andThen (F20 n r1696.1.1 r1696.1.2.1 v1697.1 v1697.2.1) fun r1698 =>
  (andThen (F21 n r1698.2.1 r746.1) fun r1699 =>
  (bif (!r1699.1) then
  some (false, ())
  else (andThen (F24 n r1677.2.1 (1 : Int)) fun r1701 =>
  (bif (decide (r1701.1 < (0 : Int))) then
  some (false, ())
  else (bif (r1701.1 != r1677.1) then
  some (false, ())
  else some (true, ())))))))))))))))))))))))))))
noncomputable def F7e (n : Nat) : Ent G := ⟨7, (.cons (.agg (.cons (.int .i64) (.cons .str (.cons (.imm 2) (.cons (.imm 4) .nil))))) .nil), [], .bool, [], fun x y => F7 n x.1.1 x.1.2.1 x.1.2.2.1 x.1.2.2.2.1⟩
theorem F7_eq (n : Nat) (x : ShL.den G (.cons (.agg (.cons (.int .i64) (.cons .str (.cons (.imm 2) (.cons (.imm 4) .nil))))) .nil)) (y : denO G []) : (F7e n).F x y = runFn prog G (ro G (tabOf (E51 n)) (frOf []) _) Go.Proofs.Try.f7 .no [(0, .fz)] (ShL.enc G (.cons (.agg (.cons (.int .i64) (.cons .str (.cons (.imm 2) (.cons (.imm 4) .nil))))) .nil) x) (encO G [] y) (decR .bool []) := by kernel_rfl
theorem F7_ok (n : Nat) : EntOK prog G (F7e n) :=
  ent_ok (fr := frOf []) (ann := .no) (frm := [(0, .fz)]) laws fnok (E51_ok n).tab (e := F7e n) (fn := Go.Proofs.Try.f7) (by kernel_rfl) (AllF.ofB (cd := F7c) (l := []) (by kernel_rfl) (by kernel_rfl) AllF.nil) (F7_eq n)
noncomputable def E52 (n : Nat) : List (Ent G) := F7e n :: E51 n
theorem E52_ok (n : Nat) : AllE prog G (E52 n) := AllE.cons (F7_ok n) (E51_ok n)
end Go.Proofs.Ytdfnlaikelijeaa.Am
