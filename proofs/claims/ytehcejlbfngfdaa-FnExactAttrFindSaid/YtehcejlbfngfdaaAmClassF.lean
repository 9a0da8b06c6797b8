/- The functions of the seat of classes, printed. -/
import Derived.Test.YtehcejlbfngfdaaAmClassE
namespace Go.Proofs.Ytehcejlbfngfdaa.Am
open Go Go.Proofs.Try
set_option autoImplicit false
set_option linter.unusedVariables false
set_option maxRecDepth 100000
noncomputable def F81c : Code := bodyOf Go.Proofs.Try.f81
noncomputable def F81 (n : Nat) (a1240 : Int) : Option (Bool × Unit) :=
  (bif (decide (a1240 ≥ (48 : Int))) then
  some ((decide (a1240 ≤ (57 : Int))), ())
  else some (false, ()))
noncomputable def F81e (n : Nat) : Ent G := ⟨81, (.cons (.int .u8) .nil), [], .bool, [], fun x y => F81 n x.1⟩
theorem F81_eq (n : Nat) (x : ShL.den G (.cons (.int .u8) .nil)) (y : denO G []) : (F81e n).F x y = runFn prog G (ro G (tabOf (E46 n)) (frOf []) _) Go.Proofs.Try.f81 .no [(0, .fz)] (ShL.enc G (.cons (.int .u8) .nil) x) (encO G [] y) (decR .bool []) := by kernel_rfl
theorem F81_ok (n : Nat) : EntOK prog G (F81e n) :=
  ent_ok (fr := frOf []) (ann := .no) (frm := [(0, .fz)]) laws fnok (E46_ok n).tab (e := F81e n) (fn := Go.Proofs.Try.f81) (by kernel_rfl) (AllF.ofB (cd := F81c) (l := []) (by kernel_rfl) (by kernel_rfl) AllF.nil) (F81_eq n)
noncomputable def E47 (n : Nat) : List (Ent G) := F81e n :: E46 n
theorem E47_ok (n : Nat) : AllE prog G (E47 n) := AllE.cons (F81_ok n) (E46_ok n)
noncomputable def F58_0x0 : SSh := ⟨34, [(2, .bool)], []⟩
noncomputable def F58_0x1 : SSh := ⟨34, [(0, .str)], []⟩
noncomputable def F58_0s : SSh := ⟨34, [(0, .str), (3, (.int .i64))], []⟩
noncomputable def F58_0_step {R : Type} (n : Nat) (k0 : Bool → Option R) (k1 : ByteArray → Option R) (rec : ByteArray → Int → Option R) (x1220 : ByteArray) (x1221 : Int) : Option R :=
  (bif (decide (x1221 < ((x1220.size) : Int))) then
  (bif (decide ((0 : Int) ≤ x1221)) then
  (bif (decide (x1221 < ((x1220.size) : Int))) then
  (andThen (F80 n (strOf x1220 (x1221.toNat))) fun r1236 =>
  (bif (!r1236.1) then
  (bif (x1221 == (0 : Int)) then
  (k0 false)
  else (bif (decide ((0 : Int) ≤ x1221)) then
  (bif (decide (x1221 < ((x1220.size) : Int))) then
  (andThen (F81 n (strOf x1220 (x1221.toNat))) fun r1243 =>
  (bif (!r1243.1) then
  (k0 false)
  else (rec x1220 (IntKind.wrap .i64 (x1221 + (1 : Int))))))
  else none)
  else none))
  else (rec x1220 (IntKind.wrap .i64 (x1221 + (1 : Int))))))
  else none)
  else none)
  else (k1 x1220))
noncomputable def F58_0_it {R : Type} (n : Nat) (k0 : Bool → Option R) (k1 : ByteArray → Option R) : Nat → ByteArray → Int → Option R
  | 0, _, _ => none
  | k + 1, x1220, x1221 => F58_0_step n k0 k1 (F58_0_it n k0 k1 k) x1220 x1221
noncomputable def F58_0 {R : Type} (n : Nat) (x1220 : ByteArray) (x1221 : Int) (k0 : Bool → Option R) (k1 : ByteArray → Option R) : Option R := F58_0_it n k0 k1 n x1220 x1221
noncomputable def F58_0z (n : Nat) : Sm G := inZ G 0 ⟨[0, 3], []⟩ F58_0s fun R x K => F58_0_it n (fun u0 => K .ret (SSh.enc G F58_0x0 ((u0, ()), ()))) (fun u0 => K (.exit 0) (SSh.enc G F58_0x1 ((u0, ()), ()))) n x.1.1 x.1.2.1
theorem F58_0_eq (n : Nat) (R : Type) (rec : SSh.den G F58_0s → Option R) (x : SSh.den G F58_0s) (K : AE → St G → Option R) :
  F58_0_step n (fun u0 => K .ret (SSh.enc G F58_0x0 ((u0, ()), ()))) (fun u0 => K (.exit 0) (SSh.enc G F58_0x1 ((u0, ()), ()))) (fun x1220 x1221 => rec ((x1220, (x1221, ())), ())) x.1.1 x.1.2.1 = exec prog G (ro G (tabOf (E47 n)) (frOf []) R) 0 (codeAt F58c [1, 0, 1, 0, 0]) .no (SSh.enc G F58_0s x) (kLoop G (ro G (tabOf (E47 n)) (frOf []) R) 0 ⟨[0, 3], []⟩ F58_0s ⟨⟨[0], []⟩, ⟨[2], []⟩, [(0, ⟨[0], []⟩)]⟩ rec K) := by kernel_rfl
theorem F58_0_ok (n : Nat) : FragOK prog G 0 (codeAt F58c [1, 0, 1, 0]) (F58_0z n) :=
  frag_loop (Z := fun R k (x : SSh.den G F58_0s) K => F58_0_it n (fun u0 => K .ret (SSh.enc G F58_0x0 ((u0, ()), ()))) (fun u0 => K (.exit 0) (SSh.enc G F58_0x1 ((u0, ()), ()))) k x.1.1 x.1.2.1) laws fnok (E47_ok n).tab (AllF.of (l := []) (by kernel_rfl) AllF.nil) (fun _ _ _ => rfl) (fun R k y K => F58_0_eq n R (fun (x : SSh.den G F58_0s) => F58_0_it n (fun u0 => K .ret (SSh.enc G F58_0x0 ((u0, ()), ()))) (fun u0 => K (.exit 0) (SSh.enc G F58_0x1 ((u0, ()), ()))) k x.1.1 x.1.2.1) y K) n
-- 82 loop.example/slowworm/spec.isKeyword
noncomputable def F82c : Code := bodyOf Go.Proofs.Try.f82
-- 95 loop.example/slowworm/spec.keywords
noncomputable def F95c : Code := bodyOf Go.Proofs.Try.f95
noncomputable def F95 (n : Nat)  : Option (List ByteArray × Unit) :=
  some ((({ data := #[78, 111, 110, 101] } : ByteArray) :: (({ data := #[84, 114, 117, 101] } : ByteArray) :: (({ data := #[70, 97, 108, 115, 101] } : ByteArray) :: (({ data := #[97, 110, 100] } : ByteArray) :: (({ data := #[111, 114] } : ByteArray) :: (({ data := #[110, 111, 116] } : ByteArray) :: (({ data := #[105, 110] } : ByteArray) :: (({ data := #[105, 115] } : ByteArray) :: (({ data := #[105, 102] } : ByteArray) :: (({ data := #[101, 108, 105, 102] } : ByteArray) :: (({ data := #[101, 108, 115, 101] } : ByteArray) :: (({ data := #[119, 104, 105, 108, 101] } : ByteArray) :: (({ data := #[102, 111, 114] } : ByteArray) :: (({ data := #[98, 114, 101, 97, 107] } : ByteArray) :: (({ data := #[99, 111, 110, 116, 105, 110, 117, 101] } : ByteArray) :: (({ data := #[112, 97, 115, 115] } : ByteArray) :: (({ data := #[100, 101, 102] } : ByteArray) :: (({ data := #[114, 101, 116, 117, 114, 110] } : ByteArray) :: (({ data := #[108, 97, 109, 98, 100, 97] } : ByteArray) :: (({ data := #[99, 108, 97, 115, 115] } : ByteArray) :: (({ data := #[116, 114, 121] } : ByteArray) :: (({ data := #[101, 120, 99, 101, 112, 116] } : ByteArray) :: (({ data := #[102, 105, 110, 97, 108, 108, 121] } : ByteArray) :: (({ data := #[114, 97, 105, 115, 101] } : ByteArray) :: (({ data := #[97, 115] } : ByteArray) :: (({ data := #[103, 108, 111, 98, 97, 108] } : ByteArray) :: (({ data := #[110, 111, 110, 108, 111, 99, 97, 108] } : ByteArray) :: (({ data := #[121, 105, 101, 108, 100] } : ByteArray) :: (({ data := #[105, 109, 112, 111, 114, 116] } : ByteArray) :: (({ data := #[100, 101, 108] } : ByteArray) :: (({ data := #[97, 115, 115, 101, 114, 116] } : ByteArray) :: []))))))))))))))))))))))))))))))), ())
noncomputable def F95e (n : Nat) : Ent G := ⟨95, .nil, [], (.imm 2), [], fun x y => F95 n⟩
theorem F95_eq (n : Nat) (x : ShL.den G .nil) (y : denO G []) : (F95e n).F x y = runFn prog G (ro G (tabOf (E47 n)) (frOf []) _) Go.Proofs.Try.f95 .no [(0, .fz)] (ShL.enc G .nil x) (encO G [] y) (decR (.imm 2) []) := by kernel_rfl
theorem F95_ok (n : Nat) : EntOK prog G (F95e n) :=
  ent_ok (fr := frOf []) (ann := .no) (frm := [(0, .fz)]) laws fnok (E47_ok n).tab (e := F95e n) (fn := Go.Proofs.Try.f95) (by kernel_rfl) (AllF.ofB (cd := F95c) (l := []) (by kernel_rfl) (by kernel_rfl) AllF.nil) (F95_eq n)
noncomputable def E48 (n : Nat) : List (Ent G) := F95e n :: E47 n
theorem E48_ok (n : Nat) : AllE prog G (E48 n) := AllE.cons (F95_ok n) (E47_ok n)
-- 94 loop.example/slowworm/spec.isOne
noncomputable def F94c : Code := bodyOf Go.Proofs.Try.f94
noncomputable def F94_0x0 : SSh := ⟨18, [(4, .bool)], []⟩
noncomputable def F94_0x1 : SSh := ⟨18, [], []⟩
noncomputable def F94_0s : SSh := ⟨18, [(0, (.imm 2)), (1, .str), (5, (.int .i64))], []⟩
noncomputable def F94_0_step {R : Type} (n : Nat) (k0 : Bool → Option R) (k1 : Option R) (rec : List ByteArray → ByteArray → Int → Option R) (x1256 : List ByteArray) (x1257 : ByteArray) (x1258 : Int) : Option R :=
  (bif (decide (x1258 < ((x1256.length) : Int))) then
  (bif (decide ((0 : Int) ≤ x1258)) then
  (bif (decide (x1258 < ((x1256.length) : Int))) then
  (bif (((x1256.getD (x1258.toNat) ({ data := #[] } : ByteArray)).toList) == (x1257.toList)) then
  (k0 true)
  else (rec x1256 x1257 (IntKind.wrap .i64 (x1258 + (1 : Int)))))
  else none)
  else none)
  else k1)
noncomputable def F94_0_it {R : Type} (n : Nat) (k0 : Bool → Option R) (k1 : Option R) : Nat → List ByteArray → ByteArray → Int → Option R
  | 0, _, _, _ => none
  | k + 1, x1256, x1257, x1258 => F94_0_step n k0 k1 (F94_0_it n k0 k1 k) x1256 x1257 x1258
noncomputable def F94_0 {R : Type} (n : Nat) (x1256 : List ByteArray) (x1257 : ByteArray) (x1258 : Int) (k0 : Bool → Option R) (k1 : Option R) : Option R := F94_0_it n k0 k1 n x1256 x1257 x1258
noncomputable def F94_0z (n : Nat) : Sm G := inZ G 0 ⟨[0, 1, 5], []⟩ F94_0s fun R x K => F94_0_it n (fun u0 => K .ret (SSh.enc G F94_0x0 ((u0, ()), ()))) (K (.exit 0) (SSh.enc G F94_0x1 ((), ()))) n x.1.1 x.1.2.1 x.1.2.2.1
theorem F94_0_eq (n : Nat) (R : Type) (rec : SSh.den G F94_0s → Option R) (x : SSh.den G F94_0s) (K : AE → St G → Option R) :
  F94_0_step n (fun u0 => K .ret (SSh.enc G F94_0x0 ((u0, ()), ()))) (K (.exit 0) (SSh.enc G F94_0x1 ((), ()))) (fun x1256 x1257 x1258 => rec ((x1256, (x1257, (x1258, ()))), ())) x.1.1 x.1.2.1 x.1.2.2.1 = exec prog G (ro G (tabOf (E48 n)) (frOf []) R) 0 (codeAt F94c [1, 0, 1, 0, 0]) .no (SSh.enc G F94_0s x) (kLoop G (ro G (tabOf (E48 n)) (frOf []) R) 0 ⟨[0, 1, 5], []⟩ F94_0s ⟨⟨[], []⟩, ⟨[4], []⟩, [(0, ⟨[], []⟩)]⟩ rec K) := by kernel_rfl
theorem F94_0_ok (n : Nat) : FragOK prog G 0 (codeAt F94c [1, 0, 1, 0]) (F94_0z n) :=
  frag_loop (Z := fun R k (x : SSh.den G F94_0s) K => F94_0_it n (fun u0 => K .ret (SSh.enc G F94_0x0 ((u0, ()), ()))) (K (.exit 0) (SSh.enc G F94_0x1 ((), ()))) k x.1.1 x.1.2.1 x.1.2.2.1) laws fnok (E48_ok n).tab (AllF.of (l := []) (by kernel_rfl) AllF.nil) (fun _ _ _ => rfl) (fun R k y K => F94_0_eq n R (fun (x : SSh.den G F94_0s) => F94_0_it n (fun u0 => K .ret (SSh.enc G F94_0x0 ((u0, ()), ()))) (K (.exit 0) (SSh.enc G F94_0x1 ((), ()))) k x.1.1 x.1.2.1 x.1.2.2.1) y K) n
noncomputable def F94 (n : Nat) (a1254 : List ByteArray) (a1255 : ByteArray) : Option (Bool × Unit) :=
  (F94_0 n a1254 a1255 (0 : Int) (fun z1265 =>
  some (z1265, ())) (
  some (false, ())))
noncomputable def F94e (n : Nat) : Ent G := ⟨94, (.cons (.imm 2) (.cons .str .nil)), [], .bool, [], fun x y => F94 n x.1 x.2.1⟩
theorem F94_eq (n : Nat) (x : ShL.den G (.cons (.imm 2) (.cons .str .nil))) (y : denO G []) : (F94e n).F x y = runFn prog G (ro G (tabOf (E48 n)) (frOf [F94_0z n]) _) Go.Proofs.Try.f94 (.nd .no (.nd (.nd .no (.nd (.use 0) .no)) .no)) [(0, .fz)] (ShL.enc G (.cons (.imm 2) (.cons .str .nil)) x) (encO G [] y) (decR .bool []) := by kernel_rfl
theorem F94_ok (n : Nat) : EntOK prog G (F94e n) :=
  ent_ok (fr := frOf [F94_0z n]) (ann := (.nd .no (.nd (.nd .no (.nd (.use 0) .no)) .no))) (frm := [(0, .fz)]) laws fnok (E48_ok n).tab (e := F94e n) (fn := Go.Proofs.Try.f94) (by kernel_rfl) (AllF.ofB (cd := F94c) (l := [(0, codeAt F94c [1, 0, 1, 0])]) (by kernel_rfl) (by kernel_rfl) (AllF.cons (F94_0_ok n) AllF.nil)) (F94_eq n)
noncomputable def E49 (n : Nat) : List (Ent G) := F94e n :: E48 n
theorem E49_ok (n : Nat) : AllE prog G (E49 n) := AllE.cons (F94_ok n) (E48_ok n)
noncomputable def F82 (n : Nat) (a1251 : ByteArray) : Option (Bool × Unit) :=
  (andThen (F95 n) fun r1253 =>
  (andThen (F94 n r1253.1 a1251) fun r1266 =>
  some (r1266.1, ())))
noncomputable def F82e (n : Nat) : Ent G := ⟨82, (.cons .str .nil), [], .bool, [], fun x y => F82 n x.1⟩
theorem F82_eq (n : Nat) (x : ShL.den G (.cons .str .nil)) (y : denO G []) : (F82e n).F x y = runFn prog G (ro G (tabOf (E49 n)) (frOf []) _) Go.Proofs.Try.f82 .no [(0, .fz)] (ShL.enc G (.cons .str .nil) x) (encO G [] y) (decR .bool []) := by kernel_rfl
theorem F82_ok (n : Nat) : EntOK prog G (F82e n) :=
  ent_ok (fr := frOf []) (ann := .no) (frm := [(0, .fz)]) laws fnok (E49_ok n).tab (e := F82e n) (fn := Go.Proofs.Try.f82) (by kernel_rfl) (AllF.ofB (cd := F82c) (l := []) (by kernel_rfl) (by kernel_rfl) AllF.nil) (F82_eq n)
noncomputable def E50 (n : Nat) : List (Ent G) := F82e n :: E49 n
theorem E50_ok (n : Nat) : AllE prog G (E50 n) := AllE.cons (F82_ok n) (E49_ok n)
noncomputable def F58 (n : Nat) (a1219 : ByteArray) : Option (Bool × Unit) :=
  (F58_0 n a1219 (0 : Int) (fun z1247 =>
  some (z1247, ())) (fun z1248 =>
  (andThen (F47 n ((z1248.size) : Int) (1 : Int) (12 : Int)) fun r1250 =>
  (bif r1250.1 then
  (andThen (F82 n z1248) fun r1267 =>
  some ((!r1267.1), ()))
  else some (false, ())))))
noncomputable def F58e (n : Nat) : Ent G := ⟨58, (.cons .str .nil), [], .bool, [], fun x y => F58 n x.1⟩
theorem F58_eq (n : Nat) (x : ShL.den G (.cons .str .nil)) (y : denO G []) : (F58e n).F x y = runFn prog G (ro G (tabOf (E50 n)) (frOf [F58_0z n]) _) Go.Proofs.Try.f58 (.nd .no (.nd (.nd .no (.nd (.use 0) .no)) .no)) [(0, .fz)] (ShL.enc G (.cons .str .nil) x) (encO G [] y) (decR .bool []) := by kernel_rfl
theorem F58_ok (n : Nat) : EntOK prog G (F58e n) :=
  ent_ok (fr := frOf [F58_0z n]) (ann := (.nd .no (.nd (.nd .no (.nd (.use 0) .no)) .no))) (frm := [(0, .fz)]) laws fnok (E50_ok n).tab (e := F58e n) (fn := Go.Proofs.Try.f58) (by kernel_rfl) (AllF.ofB (cd := F58c) (l := [(0, codeAt F58c [1, 0, 1, 0])]) (by kernel_rfl) (by kernel_rfl) (AllF.cons (F58_0_ok n) AllF.nil)) (F58_eq n)
noncomputable def E51 (n : Nat) : List (Ent G) := F58e n :: E50 n
theorem E51_ok (n : Nat) : AllE prog G (E51 n) := AllE.cons (F58_ok n) (E50_ok n)
noncomputable def F64_0x0 : SSh := ⟨48, [(2, .bool)], []⟩
noncomputable def F64_0x1 : SSh := ⟨48, [(0, (.imm 3)), (3, (.int .i64))], []⟩
noncomputable def F64_0s : SSh := ⟨48, [(0, (.imm 3)), (3, (.int .i64)), (4, (.ptr 0 0)), (5, (.int .i64))], [(.box 35 (.cons .str (.cons (.int .i64) (.cons (.int .i64) .nil))))]⟩
noncomputable def F64_0_step {R : Type} (n : Nat) (k0 : Bool → Option R) (k1 : List Atr → Int → Option R) (rec : List Atr → Int → Int → ByteArray → Int → Int → Option R) (x1275 : List Atr) (x1276 : Int) (x1277 : Int) (x1278 : ByteArray) (x1279 : Int) (x1280 : Int) : Option R :=
  (bif (decide (x1277 < x1276)) then
  (bif (decide ((0 : Int) ≤ x1277)) then
  (bif (decide (x1277 < ((x1275.length) : Int))) then
  (bif (((x1275.getD (x1277.toNat) (Atr.mk ({ data := #[] } : ByteArray) (0 : Int) (0 : Int))).name.toList) == (x1278.toList)) then
  (k0 false)
  else (rec x1275 x1276 (IntKind.wrap .i64 (x1277 + (1 : Int))) x1278 x1279 x1280))
  else none)
  else none)
  else (k1 x1275 x1276))
noncomputable def F64_0_it {R : Type} (n : Nat) (k0 : Bool → Option R) (k1 : List Atr → Int → Option R) : Nat → List Atr → Int → Int → ByteArray → Int → Int → Option R
  | 0, _, _, _, _, _, _ => none
  | k + 1, x1275, x1276, x1277, x1278, x1279, x1280 => F64_0_step n k0 k1 (F64_0_it n k0 k1 k) x1275 x1276 x1277 x1278 x1279 x1280
noncomputable def F64_0 {R : Type} (n : Nat) (x1275 : List Atr) (x1276 : Int) (x1277 : Int) (x1278 : ByteArray) (x1279 : Int) (x1280 : Int) (k0 : Bool → Option R) (k1 : List Atr → Int → Option R) : Option R := F64_0_it n k0 k1 n x1275 x1276 x1277 x1278 x1279 x1280
noncomputable def F64_0z (n : Nat) : Sm G := inZ G 0 ⟨[0, 3, 4, 5], []⟩ F64_0s fun R x K => F64_0_it n (fun u0 => K .ret (SSh.enc G F64_0x0 ((u0, ()), ()))) (fun u0 u1 => K (.exit 2) (SSh.enc G F64_0x1 ((u0, (u1, ())), ()))) n x.1.1 x.1.2.1 x.1.2.2.2.1 x.2.1.1 x.2.1.2.1 x.2.1.2.2.1
theorem F64_0_eq (n : Nat) (R : Type) (rec : SSh.den G F64_0s → Option R) (x : SSh.den G F64_0s) (K : AE → St G → Option R) :
  F64_0_step n (fun u0 => K .ret (SSh.enc G F64_0x0 ((u0, ()), ()))) (fun u0 u1 => K (.exit 2) (SSh.enc G F64_0x1 ((u0, (u1, ())), ()))) (fun x1275 x1276 x1277 x1278 x1279 x1280 => rec ((x1275, (x1276, ((), (x1277, ())))), ((x1278, (x1279, (x1280, ()))), ()))) x.1.1 x.1.2.1 x.1.2.2.2.1 x.2.1.1 x.2.1.2.1 x.2.1.2.2.1 = exec prog G (ro G (tabOf (E51 n)) (frOf []) R) 0 (codeAt F64c [1, 0, 1, 0, 0, 1, 0, 0, 1, 1, 1, 0, 0]) .no (SSh.enc G F64_0s x) (kLoop G (ro G (tabOf (E51 n)) (frOf []) R) 0 ⟨[0, 3, 4, 5], []⟩ F64_0s ⟨⟨[0, 3], []⟩, ⟨[2], []⟩, [(2, ⟨[0, 3], []⟩), (1, ⟨[0, 3], []⟩), (0, ⟨[0], []⟩)]⟩ rec K) := by kernel_rfl
theorem F64_0_ok (n : Nat) : FragOK prog G 0 (codeAt F64c [1, 0, 1, 0, 0, 1, 0, 0, 1, 1, 1, 0]) (F64_0z n) :=
  frag_loop (Z := fun R k (x : SSh.den G F64_0s) K => F64_0_it n (fun u0 => K .ret (SSh.enc G F64_0x0 ((u0, ()), ()))) (fun u0 u1 => K (.exit 2) (SSh.enc G F64_0x1 ((u0, (u1, ())), ()))) k x.1.1 x.1.2.1 x.1.2.2.2.1 x.2.1.1 x.2.1.2.1 x.2.1.2.2.1) laws fnok (E51_ok n).tab (AllF.of (l := []) (by kernel_rfl) AllF.nil) (fun _ _ _ => rfl) (fun R k y K => F64_0_eq n R (fun (x : SSh.den G F64_0s) => F64_0_it n (fun u0 => K .ret (SSh.enc G F64_0x0 ((u0, ()), ()))) (fun u0 u1 => K (.exit 2) (SSh.enc G F64_0x1 ((u0, (u1, ())), ()))) k x.1.1 x.1.2.1 x.1.2.2.2.1 x.2.1.1 x.2.1.2.1 x.2.1.2.2.1) y K) n
noncomputable def F64_1x0 : SSh := ⟨48, [(2, .bool)], []⟩
noncomputable def F64_1x1 : SSh := ⟨48, [(0, (.imm 3))], []⟩
noncomputable def F64_1s : SSh := ⟨48, [(0, (.imm 3)), (3, (.int .i64))], []⟩
noncomputable def F64_1_step {R : Type} (n : Nat) (k0 : Bool → Option R) (k1 : List Atr → Option R) (rec : List Atr → Int → Option R) (x1211 : List Atr) (x1212 : Int) : Option R :=
  (bif (decide (x1212 < ((x1211.length) : Int))) then
  (bif (decide ((0 : Int) ≤ x1212)) then
  (bif (decide (x1212 < ((x1211.length) : Int))) then
  let v1215 := (x1211.getD (x1212.toNat) (Atr.mk ({ data := #[] } : ByteArray) (0 : Int) (0 : Int)))
  let v1216 := v1215.name
  let v1217 := v1215.kind
  let v1218 := v1215.val
  (andThen (F58 n v1216) fun r1269 =>
  (bif (!r1269.1) then
  (k0 false)
  else (andThen (F47 n v1217 (1 : Int) (3 : Int)) fun r1271 =>
  (bif (!r1271.1) then
  (k0 false)
  else (andThen (F47 n v1218 (-1000000 : Int) (1000000 : Int)) fun r1273 =>
  (bif (!r1273.1) then
  (k0 false)
  else (F64_0 n x1211 x1212 (0 : Int) v1216 v1217 v1218 (fun z1286 =>
  (k0 z1286)) (fun z1287 z1288 =>
  (rec z1287 (IntKind.wrap .i64 (z1288 + (1 : Int))))))))))))
  else none)
  else none)
  else (k1 x1211))
noncomputable def F64_1_it {R : Type} (n : Nat) (k0 : Bool → Option R) (k1 : List Atr → Option R) : Nat → List Atr → Int → Option R
  | 0, _, _ => none
  | k + 1, x1211, x1212 => F64_1_step n k0 k1 (F64_1_it n k0 k1 k) x1211 x1212
noncomputable def F64_1 {R : Type} (n : Nat) (x1211 : List Atr) (x1212 : Int) (k0 : Bool → Option R) (k1 : List Atr → Option R) : Option R := F64_1_it n k0 k1 n x1211 x1212
noncomputable def F64_1z (n : Nat) : Sm G := inZ G 0 ⟨[0, 3], []⟩ F64_1s fun R x K => F64_1_it n (fun u0 => K .ret (SSh.enc G F64_1x0 ((u0, ()), ()))) (fun u0 => K (.exit 0) (SSh.enc G F64_1x1 ((u0, ()), ()))) n x.1.1 x.1.2.1
theorem F64_1_eq (n : Nat) (R : Type) (rec : SSh.den G F64_1s → Option R) (x : SSh.den G F64_1s) (K : AE → St G → Option R) :
  F64_1_step n (fun u0 => K .ret (SSh.enc G F64_1x0 ((u0, ()), ()))) (fun u0 => K (.exit 0) (SSh.enc G F64_1x1 ((u0, ()), ()))) (fun x1211 x1212 => rec ((x1211, (x1212, ())), ())) x.1.1 x.1.2.1 = exec prog G (ro G (tabOf (E51 n)) (frOf [F64_0z n]) R) 0 (codeAt F64c [1, 0, 1, 0, 0]) (.nd .no (.nd (.nd (.nd .no (.nd .no (.nd .no (.nd (.use 0) .no)))) .no) .no)) (SSh.enc G F64_1s x) (kLoop G (ro G (tabOf (E51 n)) (frOf [F64_0z n]) R) 0 ⟨[0, 3], []⟩ F64_1s ⟨⟨[0], []⟩, ⟨[2], []⟩, [(0, ⟨[0], []⟩)]⟩ rec K) := by kernel_rfl
theorem F64_1_ok (n : Nat) : FragOK prog G 0 (codeAt F64c [1, 0, 1, 0]) (F64_1z n) :=
  frag_loop (Z := fun R k (x : SSh.den G F64_1s) K => F64_1_it n (fun u0 => K .ret (SSh.enc G F64_1x0 ((u0, ()), ()))) (fun u0 => K (.exit 0) (SSh.enc G F64_1x1 ((u0, ()), ()))) k x.1.1 x.1.2.1) laws fnok (E51_ok n).tab (AllF.of (l := [(0, codeAt F64c [1, 0, 1, 0, 0, 1, 0, 0, 1, 1, 1, 0])]) (by kernel_rfl) (AllF.cons (F64_0_ok n) AllF.nil)) (fun _ _ _ => rfl) (fun R k y K => F64_1_eq n R (fun (x : SSh.den G F64_1s) => F64_1_it n (fun u0 => K .ret (SSh.enc G F64_1x0 ((u0, ()), ()))) (fun u0 => K (.exit 0) (SSh.enc G F64_1x1 ((u0, ()), ()))) k x.1.1 x.1.2.1) y K) n
noncomputable def F64 (n : Nat) (a1210 : List Atr) : Option (Bool × Unit) :=
  (F64_1 n a1210 (0 : Int) (fun z1290 =>
  some (z1290, ())) (fun z1291 =>
  some ((decide (((z1291.length) : Int) ≤ (60 : Int))), ())))
noncomputable def F64e (n : Nat) : Ent G := ⟨64, (.cons (.imm 3) .nil), [], .bool, [], fun x y => F64 n x.1⟩
theorem F64_eq (n : Nat) (x : ShL.den G (.cons (.imm 3) .nil)) (y : denO G []) : (F64e n).F x y = runFn prog G (ro G (tabOf (E51 n)) (frOf [F64_0z n, F64_1z n]) _) Go.Proofs.Try.f64 (.nd .no (.nd (.nd .no (.nd (.use 1) .no)) .no)) [(0, .fz)] (ShL.enc G (.cons (.imm 3) .nil) x) (encO G [] y) (decR .bool []) := by kernel_rfl
theorem F64_ok (n : Nat) : EntOK prog G (F64e n) :=
  ent_ok (fr := frOf [F64_0z n, F64_1z n]) (ann := (.nd .no (.nd (.nd .no (.nd (.use 1) .no)) .no))) (frm := [(0, .fz)]) laws fnok (E51_ok n).tab (e := F64e n) (fn := Go.Proofs.Try.f64) (by kernel_rfl) (AllF.ofB (cd := F64c) (l := [(1, codeAt F64c [1, 0, 1, 0])]) (by kernel_rfl) (by kernel_rfl) (AllF.cons (F64_1_ok n) AllF.nil)) (F64_eq n)
noncomputable def E52 (n : Nat) : List (Ent G) := F64e n :: E51 n
theorem E52_ok (n : Nat) : AllE prog G (E52 n) := AllE.cons (F64_ok n) (E51_ok n)
noncomputable def F38_0x0 : SSh := ⟨23, [(2, .bool)], []⟩
noncomputable def F38_0x1 : SSh := ⟨23, [], []⟩
noncomputable def F38_0s : SSh := ⟨23, [(0, (.imm 4)), (4, (.int .i64))], []⟩
noncomputable def F38_0_step {R : Type} (n : Nat) (k0 : Bool → Option R) (k1 : Option R) (rec : List Cls → Int → Option R) (x1204 : List Cls) (x1205 : Int) : Option R :=
  (bif (decide (x1205 < ((x1204.length) : Int))) then
  (bif (decide ((0 : Int) ≤ x1205)) then
  (bif (decide (x1205 < ((x1204.length) : Int))) then
  (andThen (F64 n (x1204.getD (x1205.toNat) (Cls.mk [] [])).attrs) fun r1294 =>
  (bif (!r1294.1) then
  (k0 false)
  else (rec x1204 (IntKind.wrap .i64 (x1205 + (1 : Int))))))
  else none)
  else none)
  else k1)
noncomputable def F38_0_it {R : Type} (n : Nat) (k0 : Bool → Option R) (k1 : Option R) : Nat → List Cls → Int → Option R
  | 0, _, _ => none
  | k + 1, x1204, x1205 => F38_0_step n k0 k1 (F38_0_it n k0 k1 k) x1204 x1205
noncomputable def F38_0 {R : Type} (n : Nat) (x1204 : List Cls) (x1205 : Int) (k0 : Bool → Option R) (k1 : Option R) : Option R := F38_0_it n k0 k1 n x1204 x1205
noncomputable def F38_0z (n : Nat) : Sm G := inZ G 0 ⟨[0, 4], []⟩ F38_0s fun R x K => F38_0_it n (fun u0 => K .ret (SSh.enc G F38_0x0 ((u0, ()), ()))) (K (.exit 0) (SSh.enc G F38_0x1 ((), ()))) n x.1.1 x.1.2.1
theorem F38_0_eq (n : Nat) (R : Type) (rec : SSh.den G F38_0s → Option R) (x : SSh.den G F38_0s) (K : AE → St G → Option R) :
  F38_0_step n (fun u0 => K .ret (SSh.enc G F38_0x0 ((u0, ()), ()))) (K (.exit 0) (SSh.enc G F38_0x1 ((), ()))) (fun x1204 x1205 => rec ((x1204, (x1205, ())), ())) x.1.1 x.1.2.1 = exec prog G (ro G (tabOf (E52 n)) (frOf []) R) 0 (codeAt F38c [1, 1, 1, 0, 1, 0, 0]) .no (SSh.enc G F38_0s x) (kLoop G (ro G (tabOf (E52 n)) (frOf []) R) 0 ⟨[0, 4], []⟩ F38_0s ⟨⟨[], []⟩, ⟨[2], []⟩, [(0, ⟨[], []⟩)]⟩ rec K) := by kernel_rfl
theorem F38_0_ok (n : Nat) : FragOK prog G 0 (codeAt F38c [1, 1, 1, 0, 1, 0]) (F38_0z n) :=
  frag_loop (Z := fun R k (x : SSh.den G F38_0s) K => F38_0_it n (fun u0 => K .ret (SSh.enc G F38_0x0 ((u0, ()), ()))) (K (.exit 0) (SSh.enc G F38_0x1 ((), ()))) k x.1.1 x.1.2.1) laws fnok (E52_ok n).tab (AllF.of (l := []) (by kernel_rfl) AllF.nil) (fun _ _ _ => rfl) (fun R k y K => F38_0_eq n R (fun (x : SSh.den G F38_0s) => F38_0_it n (fun u0 => K .ret (SSh.enc G F38_0x0 ((u0, ()), ()))) (K (.exit 0) (SSh.enc G F38_0x1 ((), ()))) k x.1.1 x.1.2.1) y K) n
noncomputable def F38 (n : Nat) (a853 : List Cls) : Option (Bool × Unit) :=
  (andThen (F50 n a853) fun r867 =>
  (andThen (F63 n r867.1) fun r1202 =>
  (bif (!r1202.1) then
  some (false, ())
  else (F38_0 n a853 (0 : Int) (fun z1297 =>
  some (z1297, ())) (
  some (true, ()))))))
noncomputable def F38e (n : Nat) : Ent G := ⟨38, (.cons (.imm 4) .nil), [], .bool, [], fun x y => F38 n x.1⟩
theorem F38_eq (n : Nat) (x : ShL.den G (.cons (.imm 4) .nil)) (y : denO G []) : (F38e n).F x y = runFn prog G (ro G (tabOf (E52 n)) (frOf [F38_0z n]) _) Go.Proofs.Try.f38 (.nd .no (.nd .no (.nd .no (.nd (.nd .no (.nd (.use 0) .no)) .no)))) [(0, .fz)] (ShL.enc G (.cons (.imm 4) .nil) x) (encO G [] y) (decR .bool []) := by kernel_rfl
theorem F38_ok (n : Nat) : EntOK prog G (F38e n) :=
  ent_ok (fr := frOf [F38_0z n]) (ann := (.nd .no (.nd .no (.nd .no (.nd (.nd .no (.nd (.use 0) .no)) .no))))) (frm := [(0, .fz)]) laws fnok (E52_ok n).tab (e := F38e n) (fn := Go.Proofs.Try.f38) (by kernel_rfl) (AllF.ofB (cd := F38c) (l := [(0, codeAt F38c [1, 1, 1, 0, 1, 0])]) (by kernel_rfl) (by kernel_rfl) (AllF.cons (F38_0_ok n) AllF.nil)) (F38_eq n)
noncomputable def E53 (n : Nat) : List (Ent G) := F38e n :: E52 n
theorem E53_ok (n : Nat) : AllE prog G (E53 n) := AllE.cons (F38_ok n) (E52_ok n)
noncomputable def F12 (n : Nat) (a852 : List Cls) : Option (Bool × Unit) :=
  (andThen (F38 n a852) fun r1298 =>
  some (r1298.1, ()))
noncomputable def F12e (n : Nat) : Ent G := ⟨12, (.cons (.imm 4) .nil), [], .bool, [], fun x y => F12 n x.1⟩
theorem F12_eq (n : Nat) (x : ShL.den G (.cons (.imm 4) .nil)) (y : denO G []) : (F12e n).F x y = runFn prog G (ro G (tabOf (E53 n)) (frOf []) _) Go.Proofs.Try.f12 .no [(0, .fz)] (ShL.enc G (.cons (.imm 4) .nil) x) (encO G [] y) (decR .bool []) := by kernel_rfl
theorem F12_ok (n : Nat) : EntOK prog G (F12e n) :=
  ent_ok (fr := frOf []) (ann := .no) (frm := [(0, .fz)]) laws fnok (E53_ok n).tab (e := F12e n) (fn := Go.Proofs.Try.f12) (by kernel_rfl) (AllF.ofB (cd := F12c) (l := []) (by kernel_rfl) (by kernel_rfl) AllF.nil) (F12_eq n)
noncomputable def E54 (n : Nat) : List (Ent G) := F12e n :: E53 n
theorem E54_ok (n : Nat) : AllE prog G (E54 n) := AllE.cons (F12_ok n) (E53_ok n)
noncomputable def F3 (n : Nat) (a0 : List Int) : Option (Bool × Unit) :=
  (bif (decide (((a0.length) : Int) > (1048576 : Int))) then
  some (true, ())
  else (andThen (F10 n a0) fun r248 =>
  (andThen (F11 n r248.1) fun r851 =>
  (andThen (F12 n r248.1) fun r1299 =>
  let v1300 := (r851.1 == r1299.1)
  (bif (!v1300) then
  some (v1300, ())
  else (bif (!r851.1) then
  some (v1300, ())
  else (bif (((r248.1.length) : Int) == (0 : Int)) then
  some (true, ())
  else let v1306 := (IntKind.wrap .i64 (((r248.1.length) : Int) - (1 : Int)))
  (bif (decide ((0 : Int) ≤ v1306)) then
  (bif (decide (v1306 ≤ ((r248.1.length) : Int))) then
  (andThen (F11 n ((r248.1.take (v1306.toNat)).drop (0 : Nat))) fun r1308 =>
  some (r1308.1, ()))
  else none)
  else none))))))))
noncomputable def F3e (n : Nat) : Ent G := ⟨3, (.cons (.imm 1) .nil), [], .bool, [], fun x y => F3 n x.1⟩
theorem F3_eq (n : Nat) (x : ShL.den G (.cons (.imm 1) .nil)) (y : denO G []) : (F3e n).F x y = runFn prog G (ro G (tabOf (E54 n)) (frOf []) _) Go.Proofs.Try.f3 .no [(0, .fz)] (ShL.enc G (.cons (.imm 1) .nil) x) (encO G [] y) (decR .bool []) := by kernel_rfl
theorem F3_ok (n : Nat) : EntOK prog G (F3e n) :=
  ent_ok (fr := frOf []) (ann := .no) (frm := [(0, .fz)]) laws fnok (E54_ok n).tab (e := F3e n) (fn := Go.Proofs.Try.f3) (by kernel_rfl) (AllF.ofB (cd := F3c) (l := []) (by kernel_rfl) (by kernel_rfl) AllF.nil) (F3_eq n)
noncomputable def E55 (n : Nat) : List (Ent G) := F3e n :: E54 n
theorem E55_ok (n : Nat) : AllE prog G (E55 n) := AllE.cons (F3_ok n) (E54_ok n)
-- 4 loop.example/slowworm/laws.FnExactClassesOk
noncomputable def F4c : Code := bodyOf Go.Proofs.Try.f4
-- 13 loop.example/slowworm/laws.szClassS
noncomputable def F13c : Code := bodyOf Go.Proofs.Try.f13
-- 39 loop.example/slowworm/laws.szClass
noncomputable def F39c : Code := bodyOf Go.Proofs.Try.f39
-- 65 loop.example/slowworm/laws.szIntS
noncomputable def F65c : Code := bodyOf Go.Proofs.Try.f65
noncomputable def F65 (n : Nat) (a1326 : List Int) (a1327 : Int) : Option (Int × Unit) :=
  let v1329 := (IntKind.wrap .i64 (a1327 - ((a1326.length) : Int)))
  (bif (decide (v1329 < (0 : Int))) then
  some ((-1 : Int), ())
  else some (v1329, ()))
noncomputable def F65e (n : Nat) : Ent G := ⟨65, (.cons (.imm 0) (.cons (.int .i64) .nil)), [], (.int .i64), [], fun x y => F65 n x.1 x.2.1⟩
theorem F65_eq (n : Nat) (x : ShL.den G (.cons (.imm 0) (.cons (.int .i64) .nil))) (y : denO G []) : (F65e n).F x y = runFn prog G (ro G (tabOf (E55 n)) (frOf []) _) Go.Proofs.Try.f65 .no [(0, .fz)] (ShL.enc G (.cons (.imm 0) (.cons (.int .i64) .nil)) x) (encO G [] y) (decR (.int .i64) []) := by kernel_rfl
theorem F65_ok (n : Nat) : EntOK prog G (F65e n) :=
  ent_ok (fr := frOf []) (ann := .no) (frm := [(0, .fz)]) laws fnok (E55_ok n).tab (e := F65e n) (fn := Go.Proofs.Try.f65) (by kernel_rfl) (AllF.ofB (cd := F65c) (l := []) (by kernel_rfl) (by kernel_rfl) AllF.nil) (F65_eq n)
noncomputable def E56 (n : Nat) : List (Ent G) := F65e n :: E55 n
theorem E56_ok (n : Nat) : AllE prog G (E56 n) := AllE.cons (F65_ok n) (E55_ok n)
-- 66 loop.example/slowworm/laws.szAttrS
noncomputable def F66c : Code := bodyOf Go.Proofs.Try.f66
-- 85 loop.example/slowworm/laws.szAttr
noncomputable def F85c : Code := bodyOf Go.Proofs.Try.f85
noncomputable def F85 (n : Nat) (a1347 : ByteArray) (a1348 : Int) (a1349 : Int) (a1350 : Int) : Option (Int × Unit) :=
  let v1352 := (IntKind.wrap .i64 (a1350 - ((a1347.size) : Int)))
  (bif (decide (v1352 < (0 : Int))) then
  some ((-1 : Int), ())
  else some (v1352, ()))
noncomputable def F85e (n : Nat) : Ent G := ⟨85, (.cons (.agg (.cons .str (.cons (.int .i64) (.cons (.int .i64) .nil)))) (.cons (.int .i64) .nil)), [], (.int .i64), [], fun x y => F85 n x.1.1 x.1.2.1 x.1.2.2.1 x.2.1⟩
theorem F85_eq (n : Nat) (x : ShL.den G (.cons (.agg (.cons .str (.cons (.int .i64) (.cons (.int .i64) .nil)))) (.cons (.int .i64) .nil))) (y : denO G []) : (F85e n).F x y = runFn prog G (ro G (tabOf (E56 n)) (frOf []) _) Go.Proofs.Try.f85 .no [(0, .fz)] (ShL.enc G (.cons (.agg (.cons .str (.cons (.int .i64) (.cons (.int .i64) .nil)))) (.cons (.int .i64) .nil)) x) (encO G [] y) (decR (.int .i64) []) := by kernel_rfl
theorem F85_ok (n : Nat) : EntOK prog G (F85e n) :=
  ent_ok (fr := frOf []) (ann := .no) (frm := [(0, .fz)]) laws fnok (E56_ok n).tab (e := F85e n) (fn := Go.Proofs.Try.f85) (by kernel_rfl) (AllF.ofB (cd := F85c) (l := []) (by kernel_rfl) (by kernel_rfl) AllF.nil) (F85_eq n)
noncomputable def E57 (n : Nat) : List (Ent G) := F85e n :: E56 n
theorem E57_ok (n : Nat) : AllE prog G (E57 n) := AllE.cons (F85_ok n) (E56_ok n)
noncomputable def F66_0x0 : SSh := ⟨27, [(4, (.int .i64))], []⟩
noncomputable def F66_0x1 : SSh := ⟨27, [(1, (.int .i64))], []⟩
noncomputable def F66_0s : SSh := ⟨27, [(0, (.imm 5)), (1, (.int .i64)), (5, (.int .i64))], []⟩
noncomputable def F66_0_step {R : Type} (n : Nat) (k0 : Int → Option R) (k1 : Int → Option R) (rec : List Atr → Int → Int → Option R) (x1338 : List Atr) (x1339 : Int) (x1340 : Int) : Option R :=
  (bif (decide (x1340 < ((x1338.length) : Int))) then
  (bif (decide ((0 : Int) ≤ x1340)) then
  (bif (decide (x1340 < ((x1338.length) : Int))) then
  let v1343 := (x1338.getD (x1340.toNat) (Atr.mk ({ data := #[] } : ByteArray) (0 : Int) (0 : Int)))
  (andThen (F85 n v1343.name v1343.kind v1343.val x1339) fun r1354 =>
  (bif (decide (r1354.1 < (0 : Int))) then
  (k0 (-1 : Int))
  else (rec x1338 r1354.1 (IntKind.wrap .i64 (x1340 + (1 : Int))))))
  else none)
  else none)
  else (k1 x1339))
noncomputable def F66_0_it {R : Type} (n : Nat) (k0 : Int → Option R) (k1 : Int → Option R) : Nat → List Atr → Int → Int → Option R
  | 0, _, _, _ => none
  | k + 1, x1338, x1339, x1340 => F66_0_step n k0 k1 (F66_0_it n k0 k1 k) x1338 x1339 x1340
noncomputable def F66_0 {R : Type} (n : Nat) (x1338 : List Atr) (x1339 : Int) (x1340 : Int) (k0 : Int → Option R) (k1 : Int → Option R) : Option R := F66_0_it n k0 k1 n x1338 x1339 x1340
noncomputable def F66_0z (n : Nat) : Sm G := inZ G 0 ⟨[0, 1, 5], []⟩ F66_0s fun R x K => F66_0_it n (fun u0 => K .ret (SSh.enc G F66_0x0 ((u0, ()), ()))) (fun u0 => K (.exit 0) (SSh.enc G F66_0x1 ((u0, ()), ()))) n x.1.1 x.1.2.1 x.1.2.2.1
theorem F66_0_eq (n : Nat) (R : Type) (rec : SSh.den G F66_0s → Option R) (x : SSh.den G F66_0s) (K : AE → St G → Option R) :
  F66_0_step n (fun u0 => K .ret (SSh.enc G F66_0x0 ((u0, ()), ()))) (fun u0 => K (.exit 0) (SSh.enc G F66_0x1 ((u0, ()), ()))) (fun x1338 x1339 x1340 => rec ((x1338, (x1339, (x1340, ()))), ())) x.1.1 x.1.2.1 x.1.2.2.1 = exec prog G (ro G (tabOf (E57 n)) (frOf []) R) 0 (codeAt F66c [1, 1, 1, 0, 1, 0, 0]) .no (SSh.enc G F66_0s x) (kLoop G (ro G (tabOf (E57 n)) (frOf []) R) 0 ⟨[0, 1, 5], []⟩ F66_0s ⟨⟨[1], []⟩, ⟨[4], []⟩, [(0, ⟨[1], []⟩)]⟩ rec K) := by kernel_rfl
theorem F66_0_ok (n : Nat) : FragOK prog G 0 (codeAt F66c [1, 1, 1, 0, 1, 0]) (F66_0z n) :=
  frag_loop (Z := fun R k (x : SSh.den G F66_0s) K => F66_0_it n (fun u0 => K .ret (SSh.enc G F66_0x0 ((u0, ()), ()))) (fun u0 => K (.exit 0) (SSh.enc G F66_0x1 ((u0, ()), ()))) k x.1.1 x.1.2.1 x.1.2.2.1) laws fnok (E57_ok n).tab (AllF.of (l := []) (by kernel_rfl) AllF.nil) (fun _ _ _ => rfl) (fun R k y K => F66_0_eq n R (fun (x : SSh.den G F66_0s) => F66_0_it n (fun u0 => K .ret (SSh.enc G F66_0x0 ((u0, ()), ()))) (fun u0 => K (.exit 0) (SSh.enc G F66_0x1 ((u0, ()), ()))) k x.1.1 x.1.2.1 x.1.2.2.1) y K) n
noncomputable def F66 (n : Nat) (a1333 : List Atr) (a1334 : Int) : Option (Int × Unit) :=
  let v1336 := (IntKind.wrap .i64 (a1334 - ((a1333.length) : Int)))
  (bif (decide (v1336 < (0 : Int))) then
  some ((-1 : Int), ())
  else (F66_0 n a1333 v1336 (0 : Int) (fun z1357 =>
  some (z1357, ())) (fun z1358 =>
  some (z1358, ()))))
noncomputable def F66e (n : Nat) : Ent G := ⟨66, (.cons (.imm 5) (.cons (.int .i64) .nil)), [], (.int .i64), [], fun x y => F66 n x.1 x.2.1⟩
theorem F66_eq (n : Nat) (x : ShL.den G (.cons (.imm 5) (.cons (.int .i64) .nil))) (y : denO G []) : (F66e n).F x y = runFn prog G (ro G (tabOf (E57 n)) (frOf [F66_0z n]) _) Go.Proofs.Try.f66 (.nd .no (.nd .no (.nd .no (.nd (.nd .no (.nd (.use 0) .no)) .no)))) [(0, .fz)] (ShL.enc G (.cons (.imm 5) (.cons (.int .i64) .nil)) x) (encO G [] y) (decR (.int .i64) []) := by kernel_rfl
theorem F66_ok (n : Nat) : EntOK prog G (F66e n) :=
  ent_ok (fr := frOf [F66_0z n]) (ann := (.nd .no (.nd .no (.nd .no (.nd (.nd .no (.nd (.use 0) .no)) .no))))) (frm := [(0, .fz)]) laws fnok (E57_ok n).tab (e := F66e n) (fn := Go.Proofs.Try.f66) (by kernel_rfl) (AllF.ofB (cd := F66c) (l := [(0, codeAt F66c [1, 1, 1, 0, 1, 0])]) (by kernel_rfl) (by kernel_rfl) (AllF.cons (F66_0_ok n) AllF.nil)) (F66_eq n)
noncomputable def E58 (n : Nat) : List (Ent G) := F66e n :: E57 n
theorem E58_ok (n : Nat) : AllE prog G (E58 n) := AllE.cons (F66_ok n) (E57_ok n)
noncomputable def F39 (n : Nat) (a1323 : List Int) (a1324 : List Atr) (a1325 : Int) : Option (Int × Unit) :=
  (andThen (F65 n a1323 a1325) fun r1331 =>
  (bif (decide (r1331.1 < (0 : Int))) then
  some ((-1 : Int), ())
  else (andThen (F66 n a1324 r1331.1) fun r1359 =>
  (bif (decide (r1359.1 < (0 : Int))) then
  some ((-1 : Int), ())
  else some (r1359.1, ())))))
noncomputable def F39e (n : Nat) : Ent G := ⟨39, (.cons (.agg (.cons (.imm 0) (.cons (.imm 5) .nil))) (.cons (.int .i64) .nil)), [], (.int .i64), [], fun x y => F39 n x.1.1 x.1.2.1 x.2.1⟩
theorem F39_eq (n : Nat) (x : ShL.den G (.cons (.agg (.cons (.imm 0) (.cons (.imm 5) .nil))) (.cons (.int .i64) .nil))) (y : denO G []) : (F39e n).F x y = runFn prog G (ro G (tabOf (E58 n)) (frOf []) _) Go.Proofs.Try.f39 .no [(0, .fz)] (ShL.enc G (.cons (.agg (.cons (.imm 0) (.cons (.imm 5) .nil))) (.cons (.int .i64) .nil)) x) (encO G [] y) (decR (.int .i64) []) := by kernel_rfl
theorem F39_ok (n : Nat) : EntOK prog G (F39e n) :=
  ent_ok (fr := frOf []) (ann := .no) (frm := [(0, .fz)]) laws fnok (E58_ok n).tab (e := F39e n) (fn := Go.Proofs.Try.f39) (by kernel_rfl) (AllF.ofB (cd := F39c) (l := []) (by kernel_rfl) (by kernel_rfl) AllF.nil) (F39_eq n)
noncomputable def E59 (n : Nat) : List (Ent G) := F39e n :: E58 n
theorem E59_ok (n : Nat) : AllE prog G (E59 n) := AllE.cons (F39_ok n) (E58_ok n)
noncomputable def F13_0x0 : SSh := ⟨27, [(4, (.int .i64))], []⟩
noncomputable def F13_0x1 : SSh := ⟨27, [(1, (.int .i64))], []⟩
noncomputable def F13_0s : SSh := ⟨27, [(0, (.imm 6)), (1, (.int .i64)), (5, (.int .i64))], []⟩
noncomputable def F13_0_step {R : Type} (n : Nat) (k0 : Int → Option R) (k1 : Int → Option R) (rec : List Cls → Int → Int → Option R) (x1315 : List Cls) (x1316 : Int) (x1317 : Int) : Option R :=
  (bif (decide (x1317 < ((x1315.length) : Int))) then
  (bif (decide ((0 : Int) ≤ x1317)) then
  (bif (decide (x1317 < ((x1315.length) : Int))) then
  let v1320 := (x1315.getD (x1317.toNat) (Cls.mk [] []))
  (andThen (F39 n v1320.bases v1320.attrs x1316) fun r1361 =>
  (bif (decide (r1361.1 < (0 : Int))) then
  (k0 (-1 : Int))
  else (rec x1315 r1361.1 (IntKind.wrap .i64 (x1317 + (1 : Int))))))
  else none)
  else none)
  else (k1 x1316))
noncomputable def F13_0_it {R : Type} (n : Nat) (k0 : Int → Option R) (k1 : Int → Option R) : Nat → List Cls → Int → Int → Option R
  | 0, _, _, _ => none
  | k + 1, x1315, x1316, x1317 => F13_0_step n k0 k1 (F13_0_it n k0 k1 k) x1315 x1316 x1317
noncomputable def F13_0 {R : Type} (n : Nat) (x1315 : List Cls) (x1316 : Int) (x1317 : Int) (k0 : Int → Option R) (k1 : Int → Option R) : Option R := F13_0_it n k0 k1 n x1315 x1316 x1317
noncomputable def F13_0z (n : Nat) : Sm G := inZ G 0 ⟨[0, 1, 5], []⟩ F13_0s fun R x K => F13_0_it n (fun u0 => K .ret (SSh.enc G F13_0x0 ((u0, ()), ()))) (fun u0 => K (.exit 0) (SSh.enc G F13_0x1 ((u0, ()), ()))) n x.1.1 x.1.2.1 x.1.2.2.1
theorem F13_0_eq (n : Nat) (R : Type) (rec : SSh.den G F13_0s → Option R) (x : SSh.den G F13_0s) (K : AE → St G → Option R) :
  F13_0_step n (fun u0 => K .ret (SSh.enc G F13_0x0 ((u0, ()), ()))) (fun u0 => K (.exit 0) (SSh.enc G F13_0x1 ((u0, ()), ()))) (fun x1315 x1316 x1317 => rec ((x1315, (x1316, (x1317, ()))), ())) x.1.1 x.1.2.1 x.1.2.2.1 = exec prog G (ro G (tabOf (E59 n)) (frOf []) R) 0 (codeAt F13c [1, 1, 1, 0, 1, 0, 0]) .no (SSh.enc G F13_0s x) (kLoop G (ro G (tabOf (E59 n)) (frOf []) R) 0 ⟨[0, 1, 5], []⟩ F13_0s ⟨⟨[1], []⟩, ⟨[4], []⟩, [(0, ⟨[1], []⟩)]⟩ rec K) := by kernel_rfl
theorem F13_0_ok (n : Nat) : FragOK prog G 0 (codeAt F13c [1, 1, 1, 0, 1, 0]) (F13_0z n) :=
  frag_loop (Z := fun R k (x : SSh.den G F13_0s) K => F13_0_it n (fun u0 => K .ret (SSh.enc G F13_0x0 ((u0, ()), ()))) (fun u0 => K (.exit 0) (SSh.enc G F13_0x1 ((u0, ()), ()))) k x.1.1 x.1.2.1 x.1.2.2.1) laws fnok (E59_ok n).tab (AllF.of (l := []) (by kernel_rfl) AllF.nil) (fun _ _ _ => rfl) (fun R k y K => F13_0_eq n R (fun (x : SSh.den G F13_0s) => F13_0_it n (fun u0 => K .ret (SSh.enc G F13_0x0 ((u0, ()), ()))) (fun u0 => K (.exit 0) (SSh.enc G F13_0x1 ((u0, ()), ()))) k x.1.1 x.1.2.1 x.1.2.2.1) y K) n
noncomputable def F13 (n : Nat) (a1310 : List Cls) (a1311 : Int) : Option (Int × Unit) :=
  let v1313 := (IntKind.wrap .i64 (a1311 - ((a1310.length) : Int)))
  (bif (decide (v1313 < (0 : Int))) then
  some ((-1 : Int), ())
  else (F13_0 n a1310 v1313 (0 : Int) (fun z1364 =>
  some (z1364, ())) (fun z1365 =>
  some (z1365, ()))))
noncomputable def F13e (n : Nat) : Ent G := ⟨13, (.cons (.imm 6) (.cons (.int .i64) .nil)), [], (.int .i64), [], fun x y => F13 n x.1 x.2.1⟩
theorem F13_eq (n : Nat) (x : ShL.den G (.cons (.imm 6) (.cons (.int .i64) .nil))) (y : denO G []) : (F13e n).F x y = runFn prog G (ro G (tabOf (E59 n)) (frOf [F13_0z n]) _) Go.Proofs.Try.f13 (.nd .no (.nd .no (.nd .no (.nd (.nd .no (.nd (.use 0) .no)) .no)))) [(0, .fz)] (ShL.enc G (.cons (.imm 6) (.cons (.int .i64) .nil)) x) (encO G [] y) (decR (.int .i64) []) := by kernel_rfl
theorem F13_ok (n : Nat) : EntOK prog G (F13e n) :=
  ent_ok (fr := frOf [F13_0z n]) (ann := (.nd .no (.nd .no (.nd .no (.nd (.nd .no (.nd (.use 0) .no)) .no))))) (frm := [(0, .fz)]) laws fnok (E59_ok n).tab (e := F13e n) (fn := Go.Proofs.Try.f13) (by kernel_rfl) (AllF.ofB (cd := F13c) (l := [(0, codeAt F13c [1, 1, 1, 0, 1, 0])]) (by kernel_rfl) (by kernel_rfl) (AllF.cons (F13_0_ok n) AllF.nil)) (F13_eq n)
noncomputable def E60 (n : Nat) : List (Ent G) := F13e n :: E59 n
theorem E60_ok (n : Nat) : AllE prog G (E60 n) := AllE.cons (F13_ok n) (E59_ok n)
-- 14 loop.example/slowworm/laws.toClassS
noncomputable def F14c : Code := bodyOf Go.Proofs.Try.f14
-- 40 loop.example/slowworm/laws.toClass
noncomputable def F40c : Code := bodyOf Go.Proofs.Try.f40
-- 67 loop.example/slowworm/laws.toIntS
noncomputable def F67c : Code := bodyOf Go.Proofs.Try.f67
noncomputable def F67_0x0 : SSh := ⟨22, [(3, (.own 0))], [(.arr 0 true)]⟩
noncomputable def F67_0s : SSh := ⟨22, [(0, (.imm 0)), (3, (.own 0)), (4, (.int .i64))], [(.arr 0 true)]⟩
noncomputable def F67_0_step {R : Type} (n : Nat) (k0 : List Int → Option R) (rec : List Int → Int → List Int → Option R) (x1384 : List Int) (x1385 : Int) (x1386 : List Int) : Option R :=
  (bif (decide (x1385 < ((x1384.length) : Int))) then
  (bif (decide ((0 : Int) ≤ x1385)) then
  (bif (decide (x1385 < ((x1384.length) : Int))) then
  (bif (decide ((0 : Int) ≤ x1385)) then
  (bif (decide (x1385 < ((x1386.length) : Int))) then
  (rec x1384 (IntKind.wrap .i64 (x1385 + (1 : Int))) (x1386.set (x1385.toNat) (x1384.getD (x1385.toNat) (0 : Int))))
  else none)
  else none)
  else none)
  else none)
  else (k0 x1386))
noncomputable def F67_0_it {R : Type} (n : Nat) (k0 : List Int → Option R) : Nat → List Int → Int → List Int → Option R
  | 0, _, _, _ => none
  | k + 1, x1384, x1385, x1386 => F67_0_step n k0 (F67_0_it n k0 k) x1384 x1385 x1386
noncomputable def F67_0 {R : Type} (n : Nat) (x1384 : List Int) (x1385 : Int) (x1386 : List Int) (k0 : List Int → Option R) : Option R := F67_0_it n k0 n x1384 x1385 x1386
noncomputable def F67_0z (n : Nat) : Sm G := inZ G 0 ⟨[0, 3, 4], []⟩ F67_0s fun R x K => F67_0_it n (fun u0 => K (.exit 0) (SSh.enc G F67_0x0 (((), ()), (u0, ())))) n x.1.1 x.1.2.2.1 x.2.1
theorem F67_0_eq (n : Nat) (R : Type) (rec : SSh.den G F67_0s → Option R) (x : SSh.den G F67_0s) (K : AE → St G → Option R) :
  F67_0_step n (fun u0 => K (.exit 0) (SSh.enc G F67_0x0 (((), ()), (u0, ())))) (fun x1384 x1385 x1386 => rec ((x1384, ((), (x1385, ()))), (x1386, ()))) x.1.1 x.1.2.2.1 x.2.1 = exec prog G (ro G (tabOf (E60 n)) (frOf []) R) 0 (codeAt F67c [1, 1, 0, 1, 0, 0]) .no (SSh.enc G F67_0s x) (kLoop G (ro G (tabOf (E60 n)) (frOf []) R) 0 ⟨[0, 3, 4], []⟩ F67_0s ⟨⟨[3], []⟩, ⟨[2], []⟩, [(0, ⟨[3], []⟩)]⟩ rec K) := by kernel_rfl
theorem F67_0_ok (n : Nat) : FragOK prog G 0 (codeAt F67c [1, 1, 0, 1, 0]) (F67_0z n) :=
  frag_loop (Z := fun R k (x : SSh.den G F67_0s) K => F67_0_it n (fun u0 => K (.exit 0) (SSh.enc G F67_0x0 (((), ()), (u0, ())))) k x.1.1 x.1.2.2.1 x.2.1) laws fnok (E60_ok n).tab (AllF.of (l := []) (by kernel_rfl) AllF.nil) (fun _ _ _ => rfl) (fun R k y K => F67_0_eq n R (fun (x : SSh.den G F67_0s) => F67_0_it n (fun u0 => K (.exit 0) (SSh.enc G F67_0x0 (((), ()), (u0, ())))) k x.1.1 x.1.2.2.1 x.2.1) y K) n
noncomputable def F67 (n : Nat) (a1381 : List Int) : Option (List Int × Unit) :=
  let v1382 := ((a1381.length) : Int)
  (bif (decide ((0 : Int) ≤ v1382)) then
  (bif (decide (v1382 ≤ v1382)) then
  (bif (decide (v1382 ≤ ((68719476736 : Nat) : Int))) then
  (F67_0 n a1381 (0 : Int) (List.replicate (v1382.toNat) (0 : Int)) (fun z1394 =>
  some (z1394, ())))
  else none)
  else none)
  else none)
noncomputable def F67e (n : Nat) : Ent G := ⟨67, (.cons (.imm 0) .nil), [], (.imm 0), [], fun x y => F67 n x.1⟩
theorem F67_eq (n : Nat) (x : ShL.den G (.cons (.imm 0) .nil)) (y : denO G []) : (F67e n).F x y = runFn prog G (ro G (tabOf (E60 n)) (frOf [F67_0z n]) _) Go.Proofs.Try.f67 (.nd .no (.nd .no (.nd (.nd .no (.nd (.use 0) .no)) .no))) [(0, .fz)] (ShL.enc G (.cons (.imm 0) .nil) x) (encO G [] y) (decR (.imm 0) []) := by kernel_rfl
theorem F67_ok (n : Nat) : EntOK prog G (F67e n) :=
  ent_ok (fr := frOf [F67_0z n]) (ann := (.nd .no (.nd .no (.nd (.nd .no (.nd (.use 0) .no)) .no)))) (frm := [(0, .fz)]) laws fnok (E60_ok n).tab (e := F67e n) (fn := Go.Proofs.Try.f67) (by kernel_rfl) (AllF.ofB (cd := F67c) (l := [(0, codeAt F67c [1, 1, 0, 1, 0])]) (by kernel_rfl) (by kernel_rfl) (AllF.cons (F67_0_ok n) AllF.nil)) (F67_eq n)
noncomputable def E61 (n : Nat) : List (Ent G) := F67e n :: E60 n
theorem E61_ok (n : Nat) : AllE prog G (E61 n) := AllE.cons (F67_ok n) (E60_ok n)
-- 68 loop.example/slowworm/laws.toAttrS
noncomputable def F68c : Code := bodyOf Go.Proofs.Try.f68
-- 86 loop.example/slowworm/laws.toAttr
noncomputable def F86c : Code := bodyOf Go.Proofs.Try.f86
noncomputable def F86 (n : Nat) (a1408 : ByteArray) (a1409 : Int) (a1410 : Int) : Option ((ByteArray × (Int × (Int × Unit))) × Unit) :=
  some ((a1408, (a1409, (a1410, ()))), ())
noncomputable def F86e (n : Nat) : Ent G := ⟨86, (.cons (.agg (.cons .str (.cons (.int .i64) (.cons (.int .i64) .nil)))) .nil), [], (.agg (.cons .str (.cons (.int .i64) (.cons (.int .i64) .nil)))), [], fun x y => F86 n x.1.1 x.1.2.1 x.1.2.2.1⟩
theorem F86_eq (n : Nat) (x : ShL.den G (.cons (.agg (.cons .str (.cons (.int .i64) (.cons (.int .i64) .nil)))) .nil)) (y : denO G []) : (F86e n).F x y = runFn prog G (ro G (tabOf (E61 n)) (frOf []) _) Go.Proofs.Try.f86 .no [(0, .fz)] (ShL.enc G (.cons (.agg (.cons .str (.cons (.int .i64) (.cons (.int .i64) .nil)))) .nil) x) (encO G [] y) (decR (.agg (.cons .str (.cons (.int .i64) (.cons (.int .i64) .nil)))) []) := by kernel_rfl
theorem F86_ok (n : Nat) : EntOK prog G (F86e n) :=
  ent_ok (fr := frOf []) (ann := .no) (frm := [(0, .fz)]) laws fnok (E61_ok n).tab (e := F86e n) (fn := Go.Proofs.Try.f86) (by kernel_rfl) (AllF.ofB (cd := F86c) (l := []) (by kernel_rfl) (by kernel_rfl) AllF.nil) (F86_eq n)
noncomputable def E62 (n : Nat) : List (Ent G) := F86e n :: E61 n
theorem E62_ok (n : Nat) : AllE prog G (E62 n) := AllE.cons (F86_ok n) (E61_ok n)
noncomputable def F68_0x0 : SSh := ⟨23, [(3, (.own 0))], [(.arr 3 true)]⟩
noncomputable def F68_0s : SSh := ⟨23, [(0, (.imm 5)), (3, (.own 0)), (4, (.int .i64))], [(.arr 3 true)]⟩
noncomputable def F68_0_step {R : Type} (n : Nat) (k0 : List Atr → Option R) (rec : List Atr → Int → List Atr → Option R) (x1399 : List Atr) (x1400 : Int) (x1401 : List Atr) : Option R :=
  (bif (decide (x1400 < ((x1399.length) : Int))) then
  (bif (decide ((0 : Int) ≤ x1400)) then
  (bif (decide (x1400 < ((x1399.length) : Int))) then
  let v1404 := (x1399.getD (x1400.toNat) (Atr.mk ({ data := #[] } : ByteArray) (0 : Int) (0 : Int)))
  (andThen (F86 n v1404.name v1404.kind v1404.val) fun r1411 =>
  (bif (decide ((0 : Int) ≤ x1400)) then
  (bif (decide (x1400 < ((x1401.length) : Int))) then
  (rec x1399 (IntKind.wrap .i64 (x1400 + (1 : Int))) (x1401.set (x1400.toNat) (Atr.mk r1411.1.1 r1411.1.2.1 r1411.1.2.2.1)))
  else none)
  else none))
  else none)
  else none)
  else (k0 x1401))
noncomputable def F68_0_it {R : Type} (n : Nat) (k0 : List Atr → Option R) : Nat → List Atr → Int → List Atr → Option R
  | 0, _, _, _ => none
  | k + 1, x1399, x1400, x1401 => F68_0_step n k0 (F68_0_it n k0 k) x1399 x1400 x1401
noncomputable def F68_0 {R : Type} (n : Nat) (x1399 : List Atr) (x1400 : Int) (x1401 : List Atr) (k0 : List Atr → Option R) : Option R := F68_0_it n k0 n x1399 x1400 x1401
noncomputable def F68_0z (n : Nat) : Sm G := inZ G 0 ⟨[0, 3, 4], []⟩ F68_0s fun R x K => F68_0_it n (fun u0 => K (.exit 0) (SSh.enc G F68_0x0 (((), ()), (u0, ())))) n x.1.1 x.1.2.2.1 x.2.1
theorem F68_0_eq (n : Nat) (R : Type) (rec : SSh.den G F68_0s → Option R) (x : SSh.den G F68_0s) (K : AE → St G → Option R) :
  F68_0_step n (fun u0 => K (.exit 0) (SSh.enc G F68_0x0 (((), ()), (u0, ())))) (fun x1399 x1400 x1401 => rec ((x1399, ((), (x1400, ()))), (x1401, ()))) x.1.1 x.1.2.2.1 x.2.1 = exec prog G (ro G (tabOf (E62 n)) (frOf []) R) 0 (codeAt F68c [1, 1, 0, 1, 0, 0]) .no (SSh.enc G F68_0s x) (kLoop G (ro G (tabOf (E62 n)) (frOf []) R) 0 ⟨[0, 3, 4], []⟩ F68_0s ⟨⟨[3], []⟩, ⟨[2], []⟩, [(0, ⟨[3], []⟩)]⟩ rec K) := by kernel_rfl
theorem F68_0_ok (n : Nat) : FragOK prog G 0 (codeAt F68c [1, 1, 0, 1, 0]) (F68_0z n) :=
  frag_loop (Z := fun R k (x : SSh.den G F68_0s) K => F68_0_it n (fun u0 => K (.exit 0) (SSh.enc G F68_0x0 (((), ()), (u0, ())))) k x.1.1 x.1.2.2.1 x.2.1) laws fnok (E62_ok n).tab (AllF.of (l := []) (by kernel_rfl) AllF.nil) (fun _ _ _ => rfl) (fun R k y K => F68_0_eq n R (fun (x : SSh.den G F68_0s) => F68_0_it n (fun u0 => K (.exit 0) (SSh.enc G F68_0x0 (((), ()), (u0, ())))) k x.1.1 x.1.2.2.1 x.2.1) y K) n
noncomputable def F68 (n : Nat) (a1396 : List Atr) : Option (List Atr × Unit) :=
  let v1397 := ((a1396.length) : Int)
  (bif (decide ((0 : Int) ≤ v1397)) then
  (bif (decide (v1397 ≤ v1397)) then
  (bif (decide (v1397 ≤ ((68719476736 : Nat) : Int))) then
  (F68_0 n a1396 (0 : Int) (List.replicate (v1397.toNat) (Atr.mk ({ data := #[] } : ByteArray) (0 : Int) (0 : Int))) (fun z1415 =>
  some (z1415, ())))
  else none)
  else none)
  else none)
noncomputable def F68e (n : Nat) : Ent G := ⟨68, (.cons (.imm 5) .nil), [], (.imm 3), [], fun x y => F68 n x.1⟩
theorem F68_eq (n : Nat) (x : ShL.den G (.cons (.imm 5) .nil)) (y : denO G []) : (F68e n).F x y = runFn prog G (ro G (tabOf (E62 n)) (frOf [F68_0z n]) _) Go.Proofs.Try.f68 (.nd .no (.nd .no (.nd (.nd .no (.nd (.use 0) .no)) .no))) [(0, .fz)] (ShL.enc G (.cons (.imm 5) .nil) x) (encO G [] y) (decR (.imm 3) []) := by kernel_rfl
theorem F68_ok (n : Nat) : EntOK prog G (F68e n) :=
  ent_ok (fr := frOf [F68_0z n]) (ann := (.nd .no (.nd .no (.nd (.nd .no (.nd (.use 0) .no)) .no)))) (frm := [(0, .fz)]) laws fnok (E62_ok n).tab (e := F68e n) (fn := Go.Proofs.Try.f68) (by kernel_rfl) (AllF.ofB (cd := F68c) (l := [(0, codeAt F68c [1, 1, 0, 1, 0])]) (by kernel_rfl) (by kernel_rfl) (AllF.cons (F68_0_ok n) AllF.nil)) (F68_eq n)
noncomputable def E63 (n : Nat) : List (Ent G) := F68e n :: E62 n
theorem E63_ok (n : Nat) : AllE prog G (E63 n) := AllE.cons (F68_ok n) (E62_ok n)
noncomputable def F40 (n : Nat) (a1379 : List Int) (a1380 : List Atr) : Option ((List Int × (List Atr × Unit)) × Unit) :=
  (andThen (F67 n a1379) fun r1395 =>
  (andThen (F68 n a1380) fun r1416 =>
  some ((r1395.1, (r1416.1, ())), ())))
noncomputable def F40e (n : Nat) : Ent G := ⟨40, (.cons (.agg (.cons (.imm 0) (.cons (.imm 5) .nil))) .nil), [], (.agg (.cons (.imm 0) (.cons (.imm 3) .nil))), [], fun x y => F40 n x.1.1 x.1.2.1⟩
theorem F40_eq (n : Nat) (x : ShL.den G (.cons (.agg (.cons (.imm 0) (.cons (.imm 5) .nil))) .nil)) (y : denO G []) : (F40e n).F x y = runFn prog G (ro G (tabOf (E63 n)) (frOf []) _) Go.Proofs.Try.f40 .no [(0, .fz)] (ShL.enc G (.cons (.agg (.cons (.imm 0) (.cons (.imm 5) .nil))) .nil) x) (encO G [] y) (decR (.agg (.cons (.imm 0) (.cons (.imm 3) .nil))) []) := by kernel_rfl
theorem F40_ok (n : Nat) : EntOK prog G (F40e n) :=
  ent_ok (fr := frOf []) (ann := .no) (frm := [(0, .fz)]) laws fnok (E63_ok n).tab (e := F40e n) (fn := Go.Proofs.Try.f40) (by kernel_rfl) (AllF.ofB (cd := F40c) (l := []) (by kernel_rfl) (by kernel_rfl) AllF.nil) (F40_eq n)
noncomputable def E64 (n : Nat) : List (Ent G) := F40e n :: E63 n
theorem E64_ok (n : Nat) : AllE prog G (E64 n) := AllE.cons (F40_ok n) (E63_ok n)
noncomputable def F14_0x0 : SSh := ⟨23, [(3, (.own 0))], [(.arr 4 true)]⟩
noncomputable def F14_0s : SSh := ⟨23, [(0, (.imm 6)), (3, (.own 0)), (4, (.int .i64))], [(.arr 4 true)]⟩
noncomputable def F14_0_step {R : Type} (n : Nat) (k0 : List Cls → Option R) (rec : List Cls → Int → List Cls → Option R) (x1371 : List Cls) (x1372 : Int) (x1373 : List Cls) : Option R :=
  (bif (decide (x1372 < ((x1371.length) : Int))) then
  (bif (decide ((0 : Int) ≤ x1372)) then
  (bif (decide (x1372 < ((x1371.length) : Int))) then
  let v1376 := (x1371.getD (x1372.toNat) (Cls.mk [] []))
  (andThen (F40 n v1376.bases v1376.attrs) fun r1417 =>
  (bif (decide ((0 : Int) ≤ x1372)) then
  (bif (decide (x1372 < ((x1373.length) : Int))) then
  (rec x1371 (IntKind.wrap .i64 (x1372 + (1 : Int))) (x1373.set (x1372.toNat) (Cls.mk r1417.1.1 r1417.1.2.1)))
  else none)
  else none))
  else none)
  else none)
  else (k0 x1373))
noncomputable def F14_0_it {R : Type} (n : Nat) (k0 : List Cls → Option R) : Nat → List Cls → Int → List Cls → Option R
  | 0, _, _, _ => none
  | k + 1, x1371, x1372, x1373 => F14_0_step n k0 (F14_0_it n k0 k) x1371 x1372 x1373
noncomputable def F14_0 {R : Type} (n : Nat) (x1371 : List Cls) (x1372 : Int) (x1373 : List Cls) (k0 : List Cls → Option R) : Option R := F14_0_it n k0 n x1371 x1372 x1373
noncomputable def F14_0z (n : Nat) : Sm G := inZ G 0 ⟨[0, 3, 4], []⟩ F14_0s fun R x K => F14_0_it n (fun u0 => K (.exit 0) (SSh.enc G F14_0x0 (((), ()), (u0, ())))) n x.1.1 x.1.2.2.1 x.2.1
theorem F14_0_eq (n : Nat) (R : Type) (rec : SSh.den G F14_0s → Option R) (x : SSh.den G F14_0s) (K : AE → St G → Option R) :
  F14_0_step n (fun u0 => K (.exit 0) (SSh.enc G F14_0x0 (((), ()), (u0, ())))) (fun x1371 x1372 x1373 => rec ((x1371, ((), (x1372, ()))), (x1373, ()))) x.1.1 x.1.2.2.1 x.2.1 = exec prog G (ro G (tabOf (E64 n)) (frOf []) R) 0 (codeAt F14c [1, 1, 0, 1, 0, 0]) .no (SSh.enc G F14_0s x) (kLoop G (ro G (tabOf (E64 n)) (frOf []) R) 0 ⟨[0, 3, 4], []⟩ F14_0s ⟨⟨[3], []⟩, ⟨[2], []⟩, [(0, ⟨[3], []⟩)]⟩ rec K) := by kernel_rfl
theorem F14_0_ok (n : Nat) : FragOK prog G 0 (codeAt F14c [1, 1, 0, 1, 0]) (F14_0z n) :=
  frag_loop (Z := fun R k (x : SSh.den G F14_0s) K => F14_0_it n (fun u0 => K (.exit 0) (SSh.enc G F14_0x0 (((), ()), (u0, ())))) k x.1.1 x.1.2.2.1 x.2.1) laws fnok (E64_ok n).tab (AllF.of (l := []) (by kernel_rfl) AllF.nil) (fun _ _ _ => rfl) (fun R k y K => F14_0_eq n R (fun (x : SSh.den G F14_0s) => F14_0_it n (fun u0 => K (.exit 0) (SSh.enc G F14_0x0 (((), ()), (u0, ())))) k x.1.1 x.1.2.2.1 x.2.1) y K) n
noncomputable def F14 (n : Nat) (a1368 : List Cls) : Option (List Cls × Unit) :=
  let v1369 := ((a1368.length) : Int)
  (bif (decide ((0 : Int) ≤ v1369)) then
  (bif (decide (v1369 ≤ v1369)) then
  (bif (decide (v1369 ≤ ((68719476736 : Nat) : Int))) then
  (F14_0 n a1368 (0 : Int) (List.replicate (v1369.toNat) (Cls.mk [] [])) (fun z1421 =>
  some (z1421, ())))
  else none)
  else none)
  else none)
noncomputable def F14e (n : Nat) : Ent G := ⟨14, (.cons (.imm 6) .nil), [], (.imm 4), [], fun x y => F14 n x.1⟩
theorem F14_eq (n : Nat) (x : ShL.den G (.cons (.imm 6) .nil)) (y : denO G []) : (F14e n).F x y = runFn prog G (ro G (tabOf (E64 n)) (frOf [F14_0z n]) _) Go.Proofs.Try.f14 (.nd .no (.nd .no (.nd (.nd .no (.nd (.use 0) .no)) .no))) [(0, .fz)] (ShL.enc G (.cons (.imm 6) .nil) x) (encO G [] y) (decR (.imm 4) []) := by kernel_rfl
theorem F14_ok (n : Nat) : EntOK prog G (F14e n) :=
  ent_ok (fr := frOf [F14_0z n]) (ann := (.nd .no (.nd .no (.nd (.nd .no (.nd (.use 0) .no)) .no)))) (frm := [(0, .fz)]) laws fnok (E64_ok n).tab (e := F14e n) (fn := Go.Proofs.Try.f14) (by kernel_rfl) (AllF.ofB (cd := F14c) (l := [(0, codeAt F14c [1, 1, 0, 1, 0])]) (by kernel_rfl) (by kernel_rfl) (AllF.cons (F14_0_ok n) AllF.nil)) (F14_eq n)
noncomputable def E65 (n : Nat) : List (Ent G) := F14e n :: E64 n
theorem E65_ok (n : Nat) : AllE prog G (E65 n) := AllE.cons (F14_ok n) (E64_ok n)
-- 15 loop.example/slowworm/laws.eqClassS
noncomputable def F15c : Code := bodyOf Go.Proofs.Try.f15
-- 41 loop.example/slowworm/laws.eqClass
noncomputable def F41c : Code := bodyOf Go.Proofs.Try.f41
-- 69 loop.example/slowworm/laws.eqIntS
noncomputable def F69c : Code := bodyOf Go.Proofs.Try.f69
noncomputable def F69_0x0 : SSh := ⟨26, [(4, .bool)], []⟩
noncomputable def F69_0x1 : SSh := ⟨26, [], []⟩
noncomputable def F69_0s : SSh := ⟨26, [(0, (.imm 0)), (1, (.imm 0)), (5, (.int .i64))], []⟩
noncomputable def F69_0_step {R : Type} (n : Nat) (k0 : Bool → Option R) (k1 : Option R) (rec : List Int → List Int → Int → Option R) (x1453 : List Int) (x1454 : List Int) (x1455 : Int) : Option R :=
  (bif (decide (x1455 < ((x1453.length) : Int))) then
  (bif (decide ((0 : Int) ≤ x1455)) then
  (bif (decide (x1455 < ((x1453.length) : Int))) then
  (bif (decide ((0 : Int) ≤ x1455)) then
  (bif (decide (x1455 < ((x1454.length) : Int))) then
  (bif ((x1453.getD (x1455.toNat) (0 : Int)) != (x1454.getD (x1455.toNat) (0 : Int))) then
  (k0 false)
  else (rec x1453 x1454 (IntKind.wrap .i64 (x1455 + (1 : Int)))))
  else none)
  else none)
  else none)
  else none)
  else k1)
noncomputable def F69_0_it {R : Type} (n : Nat) (k0 : Bool → Option R) (k1 : Option R) : Nat → List Int → List Int → Int → Option R
  | 0, _, _, _ => none
  | k + 1, x1453, x1454, x1455 => F69_0_step n k0 k1 (F69_0_it n k0 k1 k) x1453 x1454 x1455
noncomputable def F69_0 {R : Type} (n : Nat) (x1453 : List Int) (x1454 : List Int) (x1455 : Int) (k0 : Bool → Option R) (k1 : Option R) : Option R := F69_0_it n k0 k1 n x1453 x1454 x1455
noncomputable def F69_0z (n : Nat) : Sm G := inZ G 0 ⟨[0, 1, 5], []⟩ F69_0s fun R x K => F69_0_it n (fun u0 => K .ret (SSh.enc G F69_0x0 ((u0, ()), ()))) (K (.exit 0) (SSh.enc G F69_0x1 ((), ()))) n x.1.1 x.1.2.1 x.1.2.2.1
theorem F69_0_eq (n : Nat) (R : Type) (rec : SSh.den G F69_0s → Option R) (x : SSh.den G F69_0s) (K : AE → St G → Option R) :
  F69_0_step n (fun u0 => K .ret (SSh.enc G F69_0x0 ((u0, ()), ()))) (K (.exit 0) (SSh.enc G F69_0x1 ((), ()))) (fun x1453 x1454 x1455 => rec ((x1453, (x1454, (x1455, ()))), ())) x.1.1 x.1.2.1 x.1.2.2.1 = exec prog G (ro G (tabOf (E65 n)) (frOf []) R) 0 (codeAt F69c [1, 1, 0, 1, 0, 0]) .no (SSh.enc G F69_0s x) (kLoop G (ro G (tabOf (E65 n)) (frOf []) R) 0 ⟨[0, 1, 5], []⟩ F69_0s ⟨⟨[], []⟩, ⟨[4], []⟩, [(0, ⟨[], []⟩)]⟩ rec K) := by kernel_rfl
theorem F69_0_ok (n : Nat) : FragOK prog G 0 (codeAt F69c [1, 1, 0, 1, 0]) (F69_0z n) :=
  frag_loop (Z := fun R k (x : SSh.den G F69_0s) K => F69_0_it n (fun u0 => K .ret (SSh.enc G F69_0x0 ((u0, ()), ()))) (K (.exit 0) (SSh.enc G F69_0x1 ((), ()))) k x.1.1 x.1.2.1 x.1.2.2.1) laws fnok (E65_ok n).tab (AllF.of (l := []) (by kernel_rfl) AllF.nil) (fun _ _ _ => rfl) (fun R k y K => F69_0_eq n R (fun (x : SSh.den G F69_0s) => F69_0_it n (fun u0 => K .ret (SSh.enc G F69_0x0 ((u0, ()), ()))) (K (.exit 0) (SSh.enc G F69_0x1 ((), ()))) k x.1.1 x.1.2.1 x.1.2.2.1) y K) n
noncomputable def F69 (n : Nat) (a1448 : List Int) (a1449 : List Int) : Option (Bool × Unit) :=
  (bif (((a1448.length) : Int) != ((a1449.length) : Int)) then
  some (false, ())
  else (F69_0 n a1448 a1449 (0 : Int) (fun z1464 =>
  some (z1464, ())) (
  some (true, ()))))
noncomputable def F69e (n : Nat) : Ent G := ⟨69, (.cons (.imm 0) (.cons (.imm 0) .nil)), [], .bool, [], fun x y => F69 n x.1 x.2.1⟩
theorem F69_eq (n : Nat) (x : ShL.den G (.cons (.imm 0) (.cons (.imm 0) .nil))) (y : denO G []) : (F69e n).F x y = runFn prog G (ro G (tabOf (E65 n)) (frOf [F69_0z n]) _) Go.Proofs.Try.f69 (.nd .no (.nd .no (.nd (.nd .no (.nd (.use 0) .no)) .no))) [(0, .fz)] (ShL.enc G (.cons (.imm 0) (.cons (.imm 0) .nil)) x) (encO G [] y) (decR .bool []) := by kernel_rfl
theorem F69_ok (n : Nat) : EntOK prog G (F69e n) :=
  ent_ok (fr := frOf [F69_0z n]) (ann := (.nd .no (.nd .no (.nd (.nd .no (.nd (.use 0) .no)) .no)))) (frm := [(0, .fz)]) laws fnok (E65_ok n).tab (e := F69e n) (fn := Go.Proofs.Try.f69) (by kernel_rfl) (AllF.ofB (cd := F69c) (l := [(0, codeAt F69c [1, 1, 0, 1, 0])]) (by kernel_rfl) (by kernel_rfl) (AllF.cons (F69_0_ok n) AllF.nil)) (F69_eq n)
noncomputable def E66 (n : Nat) : List (Ent G) := F69e n :: E65 n
theorem E66_ok (n : Nat) : AllE prog G (E66 n) := AllE.cons (F69_ok n) (E65_ok n)
-- 70 loop.example/slowworm/laws.eqAttrS
noncomputable def F70c : Code := bodyOf Go.Proofs.Try.f70
-- 30 loop.example/slowworm/laws.eqAttr
noncomputable def F30c : Code := bodyOf Go.Proofs.Try.f30
noncomputable def F30 (n : Nat) (a1485 : ByteArray) (a1486 : Int) (a1487 : Int) (a1488 : ByteArray) (a1489 : Int) (a1490 : Int) : Option (Bool × Unit) :=
  (bif (!((a1485.toList) == (a1488.toList))) then
  some (false, ())
  else (bif (a1486 != a1489) then
  some (false, ())
  else (bif (a1487 != a1490) then
  some (false, ())
  else some (true, ()))))
noncomputable def F30e (n : Nat) : Ent G := ⟨30, (.cons (.agg (.cons .str (.cons (.int .i64) (.cons (.int .i64) .nil)))) (.cons (.agg (.cons .str (.cons (.int .i64) (.cons (.int .i64) .nil)))) .nil)), [], .bool, [], fun x y => F30 n x.1.1 x.1.2.1 x.1.2.2.1 x.2.1.1 x.2.1.2.1 x.2.1.2.2.1⟩
theorem F30_eq (n : Nat) (x : ShL.den G (.cons (.agg (.cons .str (.cons (.int .i64) (.cons (.int .i64) .nil)))) (.cons (.agg (.cons .str (.cons (.int .i64) (.cons (.int .i64) .nil)))) .nil))) (y : denO G []) : (F30e n).F x y = runFn prog G (ro G (tabOf (E66 n)) (frOf []) _) Go.Proofs.Try.f30 .no [(0, .fz)] (ShL.enc G (.cons (.agg (.cons .str (.cons (.int .i64) (.cons (.int .i64) .nil)))) (.cons (.agg (.cons .str (.cons (.int .i64) (.cons (.int .i64) .nil)))) .nil)) x) (encO G [] y) (decR .bool []) := by kernel_rfl
theorem F30_ok (n : Nat) : EntOK prog G (F30e n) :=
  ent_ok (fr := frOf []) (ann := .no) (frm := [(0, .fz)]) laws fnok (E66_ok n).tab (e := F30e n) (fn := Go.Proofs.Try.f30) (by kernel_rfl) (AllF.ofB (cd := F30c) (l := []) (by kernel_rfl) (by kernel_rfl) AllF.nil) (F30_eq n)
noncomputable def E67 (n : Nat) : List (Ent G) := F30e n :: E66 n
theorem E67_ok (n : Nat) : AllE prog G (E67 n) := AllE.cons (F30_ok n) (E66_ok n)
noncomputable def F70_0x0 : SSh := ⟨27, [(4, .bool)], []⟩
noncomputable def F70_0x1 : SSh := ⟨27, [], []⟩
noncomputable def F70_0s : SSh := ⟨27, [(0, (.imm 3)), (1, (.imm 3)), (5, (.int .i64))], []⟩
noncomputable def F70_0_step {R : Type} (n : Nat) (k0 : Bool → Option R) (k1 : Option R) (rec : List Atr → List Atr → Int → Option R) (x1472 : List Atr) (x1473 : List Atr) (x1474 : Int) : Option R :=
  (bif (decide (x1474 < ((x1472.length) : Int))) then
  (bif (decide ((0 : Int) ≤ x1474)) then
  (bif (decide (x1474 < ((x1472.length) : Int))) then
  let v1477 := (x1472.getD (x1474.toNat) (Atr.mk ({ data := #[] } : ByteArray) (0 : Int) (0 : Int)))
  (bif (decide ((0 : Int) ≤ x1474)) then
  (bif (decide (x1474 < ((x1473.length) : Int))) then
  let v1481 := (x1473.getD (x1474.toNat) (Atr.mk ({ data := #[] } : ByteArray) (0 : Int) (0 : Int)))
  (andThen (F30 n v1477.name v1477.kind v1477.val v1481.name v1481.kind v1481.val) fun r1494 =>
  (bif (!r1494.1) then
  (k0 false)
  else (rec x1472 x1473 (IntKind.wrap .i64 (x1474 + (1 : Int))))))
  else none)
  else none)
  else none)
  else none)
  else k1)
noncomputable def F70_0_it {R : Type} (n : Nat) (k0 : Bool → Option R) (k1 : Option R) : Nat → List Atr → List Atr → Int → Option R
  | 0, _, _, _ => none
  | k + 1, x1472, x1473, x1474 => F70_0_step n k0 k1 (F70_0_it n k0 k1 k) x1472 x1473 x1474
noncomputable def F70_0 {R : Type} (n : Nat) (x1472 : List Atr) (x1473 : List Atr) (x1474 : Int) (k0 : Bool → Option R) (k1 : Option R) : Option R := F70_0_it n k0 k1 n x1472 x1473 x1474
noncomputable def F70_0z (n : Nat) : Sm G := inZ G 0 ⟨[0, 1, 5], []⟩ F70_0s fun R x K => F70_0_it n (fun u0 => K .ret (SSh.enc G F70_0x0 ((u0, ()), ()))) (K (.exit 0) (SSh.enc G F70_0x1 ((), ()))) n x.1.1 x.1.2.1 x.1.2.2.1
theorem F70_0_eq (n : Nat) (R : Type) (rec : SSh.den G F70_0s → Option R) (x : SSh.den G F70_0s) (K : AE → St G → Option R) :
  F70_0_step n (fun u0 => K .ret (SSh.enc G F70_0x0 ((u0, ()), ()))) (K (.exit 0) (SSh.enc G F70_0x1 ((), ()))) (fun x1472 x1473 x1474 => rec ((x1472, (x1473, (x1474, ()))), ())) x.1.1 x.1.2.1 x.1.2.2.1 = exec prog G (ro G (tabOf (E67 n)) (frOf []) R) 0 (codeAt F70c [1, 1, 0, 1, 0, 0]) .no (SSh.enc G F70_0s x) (kLoop G (ro G (tabOf (E67 n)) (frOf []) R) 0 ⟨[0, 1, 5], []⟩ F70_0s ⟨⟨[], []⟩, ⟨[4], []⟩, [(0, ⟨[], []⟩)]⟩ rec K) := by kernel_rfl
theorem F70_0_ok (n : Nat) : FragOK prog G 0 (codeAt F70c [1, 1, 0, 1, 0]) (F70_0z n) :=
  frag_loop (Z := fun R k (x : SSh.den G F70_0s) K => F70_0_it n (fun u0 => K .ret (SSh.enc G F70_0x0 ((u0, ()), ()))) (K (.exit 0) (SSh.enc G F70_0x1 ((), ()))) k x.1.1 x.1.2.1 x.1.2.2.1) laws fnok (E67_ok n).tab (AllF.of (l := []) (by kernel_rfl) AllF.nil) (fun _ _ _ => rfl) (fun R k y K => F70_0_eq n R (fun (x : SSh.den G F70_0s) => F70_0_it n (fun u0 => K .ret (SSh.enc G F70_0x0 ((u0, ()), ()))) (K (.exit 0) (SSh.enc G F70_0x1 ((), ()))) k x.1.1 x.1.2.1 x.1.2.2.1) y K) n
noncomputable def F70 (n : Nat) (a1467 : List Atr) (a1468 : List Atr) : Option (Bool × Unit) :=
  (bif (((a1467.length) : Int) != ((a1468.length) : Int)) then
  some (false, ())
  else (F70_0 n a1467 a1468 (0 : Int) (fun z1497 =>
  some (z1497, ())) (
  some (true, ()))))
noncomputable def F70e (n : Nat) : Ent G := ⟨70, (.cons (.imm 3) (.cons (.imm 3) .nil)), [], .bool, [], fun x y => F70 n x.1 x.2.1⟩
theorem F70_eq (n : Nat) (x : ShL.den G (.cons (.imm 3) (.cons (.imm 3) .nil))) (y : denO G []) : (F70e n).F x y = runFn prog G (ro G (tabOf (E67 n)) (frOf [F70_0z n]) _) Go.Proofs.Try.f70 (.nd .no (.nd .no (.nd (.nd .no (.nd (.use 0) .no)) .no))) [(0, .fz)] (ShL.enc G (.cons (.imm 3) (.cons (.imm 3) .nil)) x) (encO G [] y) (decR .bool []) := by kernel_rfl
theorem F70_ok (n : Nat) : EntOK prog G (F70e n) :=
  ent_ok (fr := frOf [F70_0z n]) (ann := (.nd .no (.nd .no (.nd (.nd .no (.nd (.use 0) .no)) .no)))) (frm := [(0, .fz)]) laws fnok (E67_ok n).tab (e := F70e n) (fn := Go.Proofs.Try.f70) (by kernel_rfl) (AllF.ofB (cd := F70c) (l := [(0, codeAt F70c [1, 1, 0, 1, 0])]) (by kernel_rfl) (by kernel_rfl) (AllF.cons (F70_0_ok n) AllF.nil)) (F70_eq n)
noncomputable def E68 (n : Nat) : List (Ent G) := F70e n :: E67 n
theorem E68_ok (n : Nat) : AllE prog G (E68 n) := AllE.cons (F70_ok n) (E67_ok n)
noncomputable def F41 (n : Nat) (a1444 : List Int) (a1445 : List Atr) (a1446 : List Int) (a1447 : List Atr) : Option (Bool × Unit) :=
  (andThen (F69 n a1444 a1446) fun r1465 =>
  (bif (!r1465.1) then
  some (false, ())
  else (andThen (F70 n a1445 a1447) fun r1498 =>
  (bif (!r1498.1) then
  some (false, ())
  else some (true, ())))))
noncomputable def F41e (n : Nat) : Ent G := ⟨41, (.cons (.agg (.cons (.imm 0) (.cons (.imm 3) .nil))) (.cons (.agg (.cons (.imm 0) (.cons (.imm 3) .nil))) .nil)), [], .bool, [], fun x y => F41 n x.1.1 x.1.2.1 x.2.1.1 x.2.1.2.1⟩
theorem F41_eq (n : Nat) (x : ShL.den G (.cons (.agg (.cons (.imm 0) (.cons (.imm 3) .nil))) (.cons (.agg (.cons (.imm 0) (.cons (.imm 3) .nil))) .nil))) (y : denO G []) : (F41e n).F x y = runFn prog G (ro G (tabOf (E68 n)) (frOf []) _) Go.Proofs.Try.f41 .no [(0, .fz)] (ShL.enc G (.cons (.agg (.cons (.imm 0) (.cons (.imm 3) .nil))) (.cons (.agg (.cons (.imm 0) (.cons (.imm 3) .nil))) .nil)) x) (encO G [] y) (decR .bool []) := by kernel_rfl
theorem F41_ok (n : Nat) : EntOK prog G (F41e n) :=
  ent_ok (fr := frOf []) (ann := .no) (frm := [(0, .fz)]) laws fnok (E68_ok n).tab (e := F41e n) (fn := Go.Proofs.Try.f41) (by kernel_rfl) (AllF.ofB (cd := F41c) (l := []) (by kernel_rfl) (by kernel_rfl) AllF.nil) (F41_eq n)
noncomputable def E69 (n : Nat) : List (Ent G) := F41e n :: E68 n
theorem E69_ok (n : Nat) : AllE prog G (E69 n) := AllE.cons (F41_ok n) (E68_ok n)
noncomputable def F15_0x0 : SSh := ⟨27, [(4, .bool)], []⟩
noncomputable def F15_0x1 : SSh := ⟨27, [], []⟩
noncomputable def F15_0s : SSh := ⟨27, [(0, (.imm 4)), (1, (.imm 4)), (5, (.int .i64))], []⟩
noncomputable def F15_0_step {R : Type} (n : Nat) (k0 : Bool → Option R) (k1 : Option R) (rec : List Cls → List Cls → Int → Option R) (x1433 : List Cls) (x1434 : List Cls) (x1435 : Int) : Option R :=
  (bif (decide (x1435 < ((x1433.length) : Int))) then
  (bif (decide ((0 : Int) ≤ x1435)) then
  (bif (decide (x1435 < ((x1433.length) : Int))) then
  let v1438 := (x1433.getD (x1435.toNat) (Cls.mk [] []))
  (bif (decide ((0 : Int) ≤ x1435)) then
  (bif (decide (x1435 < ((x1434.length) : Int))) then
  let v1441 := (x1434.getD (x1435.toNat) (Cls.mk [] []))
  (andThen (F41 n v1438.bases v1438.attrs v1441.bases v1441.attrs) fun r1500 =>
  (bif (!r1500.1) then
  (k0 false)
  else (rec x1433 x1434 (IntKind.wrap .i64 (x1435 + (1 : Int))))))
  else none)
  else none)
  else none)
  else none)
  else k1)
noncomputable def F15_0_it {R : Type} (n : Nat) (k0 : Bool → Option R) (k1 : Option R) : Nat → List Cls → List Cls → Int → Option R
  | 0, _, _, _ => none
  | k + 1, x1433, x1434, x1435 => F15_0_step n k0 k1 (F15_0_it n k0 k1 k) x1433 x1434 x1435
noncomputable def F15_0 {R : Type} (n : Nat) (x1433 : List Cls) (x1434 : List Cls) (x1435 : Int) (k0 : Bool → Option R) (k1 : Option R) : Option R := F15_0_it n k0 k1 n x1433 x1434 x1435
noncomputable def F15_0z (n : Nat) : Sm G := inZ G 0 ⟨[0, 1, 5], []⟩ F15_0s fun R x K => F15_0_it n (fun u0 => K .ret (SSh.enc G F15_0x0 ((u0, ()), ()))) (K (.exit 0) (SSh.enc G F15_0x1 ((), ()))) n x.1.1 x.1.2.1 x.1.2.2.1
theorem F15_0_eq (n : Nat) (R : Type) (rec : SSh.den G F15_0s → Option R) (x : SSh.den G F15_0s) (K : AE → St G → Option R) :
  F15_0_step n (fun u0 => K .ret (SSh.enc G F15_0x0 ((u0, ()), ()))) (K (.exit 0) (SSh.enc G F15_0x1 ((), ()))) (fun x1433 x1434 x1435 => rec ((x1433, (x1434, (x1435, ()))), ())) x.1.1 x.1.2.1 x.1.2.2.1 = exec prog G (ro G (tabOf (E69 n)) (frOf []) R) 0 (codeAt F15c [1, 1, 0, 1, 0, 0]) .no (SSh.enc G F15_0s x) (kLoop G (ro G (tabOf (E69 n)) (frOf []) R) 0 ⟨[0, 1, 5], []⟩ F15_0s ⟨⟨[], []⟩, ⟨[4], []⟩, [(0, ⟨[], []⟩)]⟩ rec K) := by kernel_rfl
theorem F15_0_ok (n : Nat) : FragOK prog G 0 (codeAt F15c [1, 1, 0, 1, 0]) (F15_0z n) :=
  frag_loop (Z := fun R k (x : SSh.den G F15_0s) K => F15_0_it n (fun u0 => K .ret (SSh.enc G F15_0x0 ((u0, ()), ()))) (K (.exit 0) (SSh.enc G F15_0x1 ((), ()))) k x.1.1 x.1.2.1 x.1.2.2.1) laws fnok (E69_ok n).tab (AllF.of (l := []) (by kernel_rfl) AllF.nil) (fun _ _ _ => rfl) (fun R k y K => F15_0_eq n R (fun (x : SSh.den G F15_0s) => F15_0_it n (fun u0 => K .ret (SSh.enc G F15_0x0 ((u0, ()), ()))) (K (.exit 0) (SSh.enc G F15_0x1 ((), ()))) k x.1.1 x.1.2.1 x.1.2.2.1) y K) n
noncomputable def F15 (n : Nat) (a1428 : List Cls) (a1429 : List Cls) : Option (Bool × Unit) :=
  (bif (((a1428.length) : Int) != ((a1429.length) : Int)) then
  some (false, ())
  else (F15_0 n a1428 a1429 (0 : Int) (fun z1503 =>
  some (z1503, ())) (
  some (true, ()))))
noncomputable def F15e (n : Nat) : Ent G := ⟨15, (.cons (.imm 4) (.cons (.imm 4) .nil)), [], .bool, [], fun x y => F15 n x.1 x.2.1⟩
theorem F15_eq (n : Nat) (x : ShL.den G (.cons (.imm 4) (.cons (.imm 4) .nil))) (y : denO G []) : (F15e n).F x y = runFn prog G (ro G (tabOf (E69 n)) (frOf [F15_0z n]) _) Go.Proofs.Try.f15 (.nd .no (.nd .no (.nd (.nd .no (.nd (.use 0) .no)) .no))) [(0, .fz)] (ShL.enc G (.cons (.imm 4) (.cons (.imm 4) .nil)) x) (encO G [] y) (decR .bool []) := by kernel_rfl
theorem F15_ok (n : Nat) : EntOK prog G (F15e n) :=
  ent_ok (fr := frOf [F15_0z n]) (ann := (.nd .no (.nd .no (.nd (.nd .no (.nd (.use 0) .no)) .no)))) (frm := [(0, .fz)]) laws fnok (E69_ok n).tab (e := F15e n) (fn := Go.Proofs.Try.f15) (by kernel_rfl) (AllF.ofB (cd := F15c) (l := [(0, codeAt F15c [1, 1, 0, 1, 0])]) (by kernel_rfl) (by kernel_rfl) (AllF.cons (F15_0_ok n) AllF.nil)) (F15_eq n)
noncomputable def E70 (n : Nat) : List (Ent G) := F15e n :: E69 n
theorem E70_ok (n : Nat) : AllE prog G (E70 n) := AllE.cons (F15_ok n) (E69_ok n)
noncomputable def F4 (n : Nat) (a1309 : List Cls) : Option (Bool × Unit) :=
  (andThen (F13 n a1309 (1048576 : Int)) fun r1366 =>
  (bif (decide (r1366.1 < (0 : Int))) then
  some (true, ())
  else (andThen (F14 n a1309) fun r1422 =>
  (andThen (F12 n r1422.1) fun r1423 =>
  (andThen (F14 n a1309) fun r1424 =>
  (andThen (F11 n r1424.1) fun r1425 =>
  (bif (!(r1425.1 == r1423.1)) then
  some (false, ())
  else (andThen (F14 n a1309) fun r1427 =>
  (andThen (F15 n r1424.1 r1427.1) fun r1504 =>
  (bif (!r1504.1) then
  some (false, ())
  else some (true, ())))))))))))
noncomputable def F4e (n : Nat) : Ent G := ⟨4, (.cons (.imm 6) .nil), [], .bool, [], fun x y => F4 n x.1⟩
theorem F4_eq (n : Nat) (x : ShL.den G (.cons (.imm 6) .nil)) (y : denO G []) : (F4e n).F x y = runFn prog G (ro G (tabOf (E70 n)) (frOf []) _) Go.Proofs.Try.f4 .no [(0, .fz)] (ShL.enc G (.cons (.imm 6) .nil) x) (encO G [] y) (decR .bool []) := by kernel_rfl
theorem F4_ok (n : Nat) : EntOK prog G (F4e n) :=
  ent_ok (fr := frOf []) (ann := .no) (frm := [(0, .fz)]) laws fnok (E70_ok n).tab (e := F4e n) (fn := Go.Proofs.Try.f4) (by kernel_rfl) (AllF.ofB (cd := F4c) (l := []) (by kernel_rfl) (by kernel_rfl) AllF.nil) (F4_eq n)
noncomputable def E71 (n : Nat) : List (Ent G) := F4e n :: E70 n
theorem E71_ok (n : Nat) : AllE prog G (E71 n) := AllE.cons (F4_ok n) (E70_ok n)
-- 5 loop.example/slowworm/laws.FnAttrFind
noncomputable def F5c : Code := bodyOf Go.Proofs.Try.f5
-- 16 loop.example/slowworm/spec.DrawAttrFind
noncomputable def F16c : Code := bodyOf Go.Proofs.Try.f16
-- 44 (*loop.example/slowworm/spec.rnd).of
noncomputable def F44c : Code := bodyOf Go.Proofs.Try.f44
noncomputable def F44 (n : Nat) (a1517 : List ByteArray) (a1518 : List Int) (a1519 : Int) : Option (ByteArray × ((List Int × (Int × Unit)) × Unit)) :=
  (andThen (F43 n ((a1517.length) : Int) a1518 a1519) fun r1521 =>
  (bif (decide ((0 : Int) ≤ r1521.1)) then
  (bif (decide (r1521.1 < ((a1517.length) : Int))) then
  some ((a1517.getD (r1521.1.toNat) ({ data := #[] } : ByteArray)), ((r1521.2.1.1, (r1521.2.1.2.1, ())), ()))
  else none)
  else none))
noncomputable def F44e (n : Nat) : Ent G := ⟨44, (.cons (.ptr 0 0) (.cons (.imm 2) .nil)), [(.box 88 (.cons (.imm 1) (.cons (.int .i64) .nil)))], .str, [(.box 88 (.cons (.imm 1) (.cons (.int .i64) .nil)))], fun x y => F44 n x.2.1 y.1.1 y.1.2.1⟩
theorem F44_eq (n : Nat) (x : ShL.den G (.cons (.ptr 0 0) (.cons (.imm 2) .nil))) (y : denO G [(.box 88 (.cons (.imm 1) (.cons (.int .i64) .nil)))]) : (F44e n).F x y = runFn prog G (ro G (tabOf (E71 n)) (frOf []) _) Go.Proofs.Try.f44 .no [(0, .fz)] (ShL.enc G (.cons (.ptr 0 0) (.cons (.imm 2) .nil)) x) (encO G [(.box 88 (.cons (.imm 1) (.cons (.int .i64) .nil)))] y) (decR .str [(.box 88 (.cons (.imm 1) (.cons (.int .i64) .nil)))]) := by kernel_rfl
theorem F44_ok (n : Nat) : EntOK prog G (F44e n) :=
  ent_ok (fr := frOf []) (ann := .no) (frm := [(0, .fz)]) laws fnok (E71_ok n).tab (e := F44e n) (fn := Go.Proofs.Try.f44) (by kernel_rfl) (AllF.ofB (cd := F44c) (l := []) (by kernel_rfl) (by kernel_rfl) AllF.nil) (F44_eq n)
noncomputable def E72 (n : Nat) : List (Ent G) := F44e n :: E71 n
theorem E72_ok (n : Nat) : AllE prog G (E72 n) := AllE.cons (F44_ok n) (E71_ok n)
noncomputable def F16 (n : Nat) (a1509 : List Int) : Option ((List Cls × (Int × (ByteArray × Unit))) × Unit) :=
  (andThen (F31 n a1509) fun r1510 =>
  (andThen (F32 n r1510.2.1.1 r1510.2.1.2.1) fun r1511 =>
  let v1512 := ((r1511.1.length) : Int)
  (andThen (F43 n (if (v1512 > (1 : Int)) then v1512 else (1 : Int)) r1511.2.1.1 r1511.2.1.2.1) fun r1514 =>
  (andThen (F42 n r1514.1 r1514.2.1.1 r1514.2.1.2.1) fun r1515 =>
  (andThen (F44 n (({ data := #[97] } : ByteArray) :: (({ data := #[98] } : ByteArray) :: (({ data := #[99] } : ByteArray) :: (({ data := #[] } : ByteArray) :: (({ data := #[100] } : ByteArray) :: []))))) r1515.2.1.1 r1515.2.1.2.1) fun r1524 =>
  some ((r1511.1, (r1515.1, (r1524.1, ()))), ()))))))
noncomputable def F16e (n : Nat) : Ent G := ⟨16, (.cons (.imm 1) .nil), [], (.tup (.cons (.imm 4) (.cons (.int .i64) (.cons .str .nil)))), [], fun x y => F16 n x.1⟩
theorem F16_eq (n : Nat) (x : ShL.den G (.cons (.imm 1) .nil)) (y : denO G []) : (F16e n).F x y = runFn prog G (ro G (tabOf (E72 n)) (frOf []) _) Go.Proofs.Try.f16 .no [(0, .fz), (1, .fz), (2, .fz)] (ShL.enc G (.cons (.imm 1) .nil) x) (encO G [] y) (decR (.tup (.cons (.imm 4) (.cons (.int .i64) (.cons .str .nil)))) []) := by kernel_rfl
theorem F16_ok (n : Nat) : EntOK prog G (F16e n) :=
  ent_ok (fr := frOf []) (ann := .no) (frm := [(0, .fz), (1, .fz), (2, .fz)]) laws fnok (E72_ok n).tab (e := F16e n) (fn := Go.Proofs.Try.f16) (by kernel_rfl) (AllF.ofB (cd := F16c) (l := []) (by kernel_rfl) (by kernel_rfl) AllF.nil) (F16_eq n)
noncomputable def E73 (n : Nat) : List (Ent G) := F16e n :: E72 n
theorem E73_ok (n : Nat) : AllE prog G (E73 n) := AllE.cons (F16_ok n) (E72_ok n)
-- 17 loop.example/slowworm/impl.AttrFind
noncomputable def F17c : Code := bodyOf Go.Proofs.Try.f17
-- 46 loop.example/slowworm/impl.attrNamed
noncomputable def F46c : Code := bodyOf Go.Proofs.Try.f46
noncomputable def F46_0x0 : SSh := ⟨21, [(4, (.ptr 0 0)), (5, .bool)], [(.box 35 (.cons .str (.cons (.int .i64) (.cons (.int .i64) .nil))))]⟩
noncomputable def F46_0x1 : SSh := ⟨21, [(4, (.ptr 0 0))], [(.box 35 (.cons .str (.cons (.int .i64) (.cons (.int .i64) .nil))))]⟩
noncomputable def F46_0s : SSh := ⟨21, [(1, .str), (4, (.ptr 0 0)), (8, (.imm 3)), (9, (.int .i64)), (10, (.int .i64))], [(.box 35 (.cons .str (.cons (.int .i64) (.cons (.int .i64) .nil))))]⟩
noncomputable def F46_0_step {R : Type} (n : Nat) (k0 : Bool → ByteArray → Int → Int → Option R) (k1 : ByteArray → Int → Int → Option R) (rec : ByteArray → List Atr → Int → Int → ByteArray → Int → Int → Option R) (x1551 : ByteArray) (x1552 : List Atr) (x1553 : Int) (x1554 : Int) (x1555 : ByteArray) (x1556 : Int) (x1557 : Int) : Option R :=
  (bif (decide (x1554 < x1553)) then
  (bif (decide ((0 : Int) ≤ x1554)) then
  (bif (decide (x1554 < ((x1552.length) : Int))) then
  let v1559 := (x1552.getD (x1554.toNat) (Atr.mk ({ data := #[] } : ByteArray) (0 : Int) (0 : Int)))
  let v1560 := v1559.name
  (bif ((v1560.toList) == (x1551.toList)) then
  (k0 true v1560 v1559.kind v1559.val)
  else (rec x1551 x1552 x1553 (IntKind.wrap .i64 (x1554 + (1 : Int))) x1555 x1556 x1557))
  else none)
  else none)
  else (k1 x1555 x1556 x1557))
noncomputable def F46_0_it {R : Type} (n : Nat) (k0 : Bool → ByteArray → Int → Int → Option R) (k1 : ByteArray → Int → Int → Option R) : Nat → ByteArray → List Atr → Int → Int → ByteArray → Int → Int → Option R
  | 0, _, _, _, _, _, _, _ => none
  | k + 1, x1551, x1552, x1553, x1554, x1555, x1556, x1557 => F46_0_step n k0 k1 (F46_0_it n k0 k1 k) x1551 x1552 x1553 x1554 x1555 x1556 x1557
noncomputable def F46_0 {R : Type} (n : Nat) (x1551 : ByteArray) (x1552 : List Atr) (x1553 : Int) (x1554 : Int) (x1555 : ByteArray) (x1556 : Int) (x1557 : Int) (k0 : Bool → ByteArray → Int → Int → Option R) (k1 : ByteArray → Int → Int → Option R) : Option R := F46_0_it n k0 k1 n x1551 x1552 x1553 x1554 x1555 x1556 x1557
noncomputable def F46_0z (n : Nat) : Sm G := inZ G 0 ⟨[1, 4, 8, 9, 10], []⟩ F46_0s fun R x K => F46_0_it n (fun u0 u1 u2 u3 => K .ret (SSh.enc G F46_0x0 (((), (u0, ())), ((u1, (u2, (u3, ()))), ())))) (fun u0 u1 u2 => K (.exit 0) (SSh.enc G F46_0x1 (((), ()), ((u0, (u1, (u2, ()))), ())))) n x.1.1 x.1.2.2.1 x.1.2.2.2.1 x.1.2.2.2.2.1 x.2.1.1 x.2.1.2.1 x.2.1.2.2.1
theorem F46_0_eq (n : Nat) (R : Type) (rec : SSh.den G F46_0s → Option R) (x : SSh.den G F46_0s) (K : AE → St G → Option R) :
  F46_0_step n (fun u0 u1 u2 u3 => K .ret (SSh.enc G F46_0x0 (((), (u0, ())), ((u1, (u2, (u3, ()))), ())))) (fun u0 u1 u2 => K (.exit 0) (SSh.enc G F46_0x1 (((), ()), ((u0, (u1, (u2, ()))), ())))) (fun x1551 x1552 x1553 x1554 x1555 x1556 x1557 => rec ((x1551, ((), (x1552, (x1553, (x1554, ()))))), ((x1555, (x1556, (x1557, ()))), ()))) x.1.1 x.1.2.2.1 x.1.2.2.2.1 x.1.2.2.2.2.1 x.2.1.1 x.2.1.2.1 x.2.1.2.2.1 = exec prog G (ro G (tabOf (E73 n)) (frOf []) R) 0 (codeAt F46c [1, 0, 1, 0, 0]) .no (SSh.enc G F46_0s x) (kLoop G (ro G (tabOf (E73 n)) (frOf []) R) 0 ⟨[1, 4, 8, 9, 10], []⟩ F46_0s ⟨⟨[4], []⟩, ⟨[4, 5], []⟩, [(0, ⟨[4], []⟩)]⟩ rec K) := by kernel_rfl
theorem F46_0_ok (n : Nat) : FragOK prog G 0 (codeAt F46c [1, 0, 1, 0]) (F46_0z n) :=
  frag_loop (Z := fun R k (x : SSh.den G F46_0s) K => F46_0_it n (fun u0 u1 u2 u3 => K .ret (SSh.enc G F46_0x0 (((), (u0, ())), ((u1, (u2, (u3, ()))), ())))) (fun u0 u1 u2 => K (.exit 0) (SSh.enc G F46_0x1 (((), ()), ((u0, (u1, (u2, ()))), ())))) k x.1.1 x.1.2.2.1 x.1.2.2.2.1 x.1.2.2.2.2.1 x.2.1.1 x.2.1.2.1 x.2.1.2.2.1) laws fnok (E73_ok n).tab (AllF.of (l := []) (by kernel_rfl) AllF.nil) (fun _ _ _ => rfl) (fun R k y K => F46_0_eq n R (fun (x : SSh.den G F46_0s) => F46_0_it n (fun u0 u1 u2 u3 => K .ret (SSh.enc G F46_0x0 (((), (u0, ())), ((u1, (u2, (u3, ()))), ())))) (fun u0 u1 u2 => K (.exit 0) (SSh.enc G F46_0x1 (((), ()), ((u0, (u1, (u2, ()))), ())))) k x.1.1 x.1.2.2.1 x.1.2.2.2.1 x.1.2.2.2.2.1 x.2.1.1 x.2.1.2.1 x.2.1.2.2.1) y K) n
noncomputable def F46 (n : Nat) (a1548 : List Atr) (a1549 : ByteArray) : Option (((ByteArray × (Int × (Int × Unit))) × (Bool × Unit)) × Unit) :=
  (F46_0 n a1549 a1548 ((a1548.length) : Int) (0 : Int) ({ data := #[] } : ByteArray) (0 : Int) (0 : Int) (fun z1565 z1566 z1567 z1568 =>
  some (((z1566, (z1567, (z1568, ()))), (z1565, ())), ())) (fun z1569 z1570 z1571 =>
  some (((({ data := #[] } : ByteArray), ((0 : Int), ((0 : Int), ()))), (false, ())), ())))
noncomputable def F46e (n : Nat) : Ent G := ⟨46, (.cons (.imm 3) (.cons .str .nil)), [], (.tup (.cons (.agg (.cons .str (.cons (.int .i64) (.cons (.int .i64) .nil)))) (.cons .bool .nil))), [], fun x y => F46 n x.1 x.2.1⟩
theorem F46_eq (n : Nat) (x : ShL.den G (.cons (.imm 3) (.cons .str .nil))) (y : denO G []) : (F46e n).F x y = runFn prog G (ro G (tabOf (E73 n)) (frOf [F46_0z n]) _) Go.Proofs.Try.f46 (.nd .no (.nd (.nd .no (.nd (.use 0) .no)) .no)) [(0, .fz), (1, .fz)] (ShL.enc G (.cons (.imm 3) (.cons .str .nil)) x) (encO G [] y) (decR (.tup (.cons (.agg (.cons .str (.cons (.int .i64) (.cons (.int .i64) .nil)))) (.cons .bool .nil))) []) := by kernel_rfl
theorem F46_ok (n : Nat) : EntOK prog G (F46e n) :=
  ent_ok (fr := frOf [F46_0z n]) (ann := (.nd .no (.nd (.nd .no (.nd (.use 0) .no)) .no))) (frm := [(0, .fz), (1, .fz)]) laws fnok (E73_ok n).tab (e := F46e n) (fn := Go.Proofs.Try.f46) (by kernel_rfl) (AllF.ofB (cd := F46c) (l := [(0, codeAt F46c [1, 0, 1, 0])]) (by kernel_rfl) (by kernel_rfl) (AllF.cons (F46_0_ok n) AllF.nil)) (F46_eq n)
noncomputable def E74 (n : Nat) : List (Ent G) := F46e n :: E73 n
theorem E74_ok (n : Nat) : AllE prog G (E74 n) := AllE.cons (F46_ok n) (E73_ok n)
noncomputable def F17_0x0 : SSh := ⟨50, [(6, (.ptr 0 0)), (7, (.int .i64)), (8, .bool)], [(.box 35 (.cons .str (.cons (.int .i64) (.cons (.int .i64) .nil))))]⟩
noncomputable def F17_0x1 : SSh := ⟨50, [(6, (.ptr 0 0))], [(.box 35 (.cons .str (.cons (.int .i64) (.cons (.int .i64) .nil))))]⟩
noncomputable def F17_0s : SSh := ⟨50, [(0, (.imm 4)), (2, .str), (6, (.ptr 0 0)), (29, (.imm 0)), (30, (.int .i64)), (31, (.int .i64))], [(.box 35 (.cons .str (.cons (.int .i64) (.cons (.int .i64) .nil))))]⟩
noncomputable def F17_0_step {R : Type} (n : Nat) (k0 : Int → Bool → ByteArray → Int → Int → Option R) (k1 : ByteArray → Int → Int → Option R) (rec : List Cls → ByteArray → List Int → Int → Int → ByteArray → Int → Int → Option R) (x1535 : List Cls) (x1536 : ByteArray) (x1537 : List Int) (x1538 : Int) (x1539 : Int) (x1540 : ByteArray) (x1541 : Int) (x1542 : Int) : Option R :=
  (bif (decide (x1539 < x1538)) then
  (bif (decide ((0 : Int) ≤ x1539)) then
  (bif (decide (x1539 < ((x1537.length) : Int))) then
  let v1545 := (x1537.getD (x1539.toNat) (0 : Int))
  (bif (decide ((0 : Int) ≤ v1545)) then
  (bif (decide (v1545 < ((x1535.length) : Int))) then
  (andThen (F46 n (x1535.getD (v1545.toNat) (Cls.mk [] [])).attrs x1536) fun r1572 =>
  (bif r1572.1.2.1 then
  (k0 v1545 true r1572.1.1.1 r1572.1.1.2.1 r1572.1.1.2.2.1)
  else (rec x1535 x1536 x1537 x1538 (IntKind.wrap .i64 (x1539 + (1 : Int))) x1540 x1541 x1542)))
  else none)
  else none)
  else none)
  else none)
  else (k1 x1540 x1541 x1542))
noncomputable def F17_0_it {R : Type} (n : Nat) (k0 : Int → Bool → ByteArray → Int → Int → Option R) (k1 : ByteArray → Int → Int → Option R) : Nat → List Cls → ByteArray → List Int → Int → Int → ByteArray → Int → Int → Option R
  | 0, _, _, _, _, _, _, _, _ => none
  | k + 1, x1535, x1536, x1537, x1538, x1539, x1540, x1541, x1542 => F17_0_step n k0 k1 (F17_0_it n k0 k1 k) x1535 x1536 x1537 x1538 x1539 x1540 x1541 x1542
noncomputable def F17_0 {R : Type} (n : Nat) (x1535 : List Cls) (x1536 : ByteArray) (x1537 : List Int) (x1538 : Int) (x1539 : Int) (x1540 : ByteArray) (x1541 : Int) (x1542 : Int) (k0 : Int → Bool → ByteArray → Int → Int → Option R) (k1 : ByteArray → Int → Int → Option R) : Option R := F17_0_it n k0 k1 n x1535 x1536 x1537 x1538 x1539 x1540 x1541 x1542
noncomputable def F17_0z (n : Nat) : Sm G := inZ G 0 ⟨[0, 2, 6, 29, 30, 31], []⟩ F17_0s fun R x K => F17_0_it n (fun u0 u1 u2 u3 u4 => K .ret (SSh.enc G F17_0x0 (((), (u0, (u1, ()))), ((u2, (u3, (u4, ()))), ())))) (fun u0 u1 u2 => K (.exit 0) (SSh.enc G F17_0x1 (((), ()), ((u0, (u1, (u2, ()))), ())))) n x.1.1 x.1.2.1 x.1.2.2.2.1 x.1.2.2.2.2.1 x.1.2.2.2.2.2.1 x.2.1.1 x.2.1.2.1 x.2.1.2.2.1
theorem F17_0_eq (n : Nat) (R : Type) (rec : SSh.den G F17_0s → Option R) (x : SSh.den G F17_0s) (K : AE → St G → Option R) :
  F17_0_step n (fun u0 u1 u2 u3 u4 => K .ret (SSh.enc G F17_0x0 (((), (u0, (u1, ()))), ((u2, (u3, (u4, ()))), ())))) (fun u0 u1 u2 => K (.exit 0) (SSh.enc G F17_0x1 (((), ()), ((u0, (u1, (u2, ()))), ())))) (fun x1535 x1536 x1537 x1538 x1539 x1540 x1541 x1542 => rec ((x1535, (x1536, ((), (x1537, (x1538, (x1539, ())))))), ((x1540, (x1541, (x1542, ()))), ()))) x.1.1 x.1.2.1 x.1.2.2.2.1 x.1.2.2.2.2.1 x.1.2.2.2.2.2.1 x.2.1.1 x.2.1.2.1 x.2.1.2.2.1 = exec prog G (ro G (tabOf (E74 n)) (frOf []) R) 0 (codeAt F17c [1, 1, 1, 1, 0, 1, 0, 0]) .no (SSh.enc G F17_0s x) (kLoop G (ro G (tabOf (E74 n)) (frOf []) R) 0 ⟨[0, 2, 6, 29, 30, 31], []⟩ F17_0s ⟨⟨[6], []⟩, ⟨[6, 7, 8], []⟩, [(0, ⟨[6], []⟩)]⟩ rec K) := by kernel_rfl
theorem F17_0_ok (n : Nat) : FragOK prog G 0 (codeAt F17c [1, 1, 1, 1, 0, 1, 0]) (F17_0z n) :=
  frag_loop (Z := fun R k (x : SSh.den G F17_0s) K => F17_0_it n (fun u0 u1 u2 u3 u4 => K .ret (SSh.enc G F17_0x0 (((), (u0, (u1, ()))), ((u2, (u3, (u4, ()))), ())))) (fun u0 u1 u2 => K (.exit 0) (SSh.enc G F17_0x1 (((), ()), ((u0, (u1, (u2, ()))), ())))) k x.1.1 x.1.2.1 x.1.2.2.2.1 x.1.2.2.2.2.1 x.1.2.2.2.2.2.1 x.2.1.1 x.2.1.2.1 x.2.1.2.2.1) laws fnok (E74_ok n).tab (AllF.of (l := []) (by kernel_rfl) AllF.nil) (fun _ _ _ => rfl) (fun R k y K => F17_0_eq n R (fun (x : SSh.den G F17_0s) => F17_0_it n (fun u0 u1 u2 u3 u4 => K .ret (SSh.enc G F17_0x0 (((), (u0, (u1, ()))), ((u2, (u3, (u4, ()))), ())))) (fun u0 u1 u2 => K (.exit 0) (SSh.enc G F17_0x1 (((), ()), ((u0, (u1, (u2, ()))), ())))) k x.1.1 x.1.2.1 x.1.2.2.2.1 x.1.2.2.2.2.1 x.1.2.2.2.2.2.1 x.2.1.1 x.2.1.2.1 x.2.1.2.2.1) y K) n
noncomputable def F17 (n : Nat) (a1526 : List Cls) (a1527 : Int) (a1528 : ByteArray) : Option (((ByteArray × (Int × (Int × Unit))) × (Int × (Bool × Unit))) × Unit) :=
  (andThen (F11 n a1526) fun r1529 =>
  (bif (!r1529.1) then
  some (((({ data := #[] } : ByteArray), ((0 : Int), ((0 : Int), ()))), ((0 : Int), (false, ()))), ())
  else (andThen (F34 n a1526) fun r1531 =>
  (andThen (F45 n r1531.1 a1527) fun r1532 =>
  (bif (!r1532.1.2.1) then
  some (((({ data := #[] } : ByteArray), ((0 : Int), ((0 : Int), ()))), ((0 : Int), (false, ()))), ())
  else (F17_0 n a1526 a1528 r1532.1.1 ((r1532.1.1.length) : Int) (0 : Int) ({ data := #[] } : ByteArray) (0 : Int) (0 : Int) (fun z1574 z1575 z1576 z1577 z1578 =>
  some (((z1576, (z1577, (z1578, ()))), (z1574, (z1575, ()))), ())) (fun z1579 z1580 z1581 =>
  some (((({ data := #[] } : ByteArray), ((0 : Int), ((0 : Int), ()))), ((0 : Int), (false, ()))), ()))))))))
noncomputable def F17e (n : Nat) : Ent G := ⟨17, (.cons (.imm 4) (.cons (.int .i64) (.cons .str .nil))), [], (.tup (.cons (.agg (.cons .str (.cons (.int .i64) (.cons (.int .i64) .nil)))) (.cons (.int .i64) (.cons .bool .nil)))), [], fun x y => F17 n x.1 x.2.1 x.2.2.1⟩
theorem F17_eq (n : Nat) (x : ShL.den G (.cons (.imm 4) (.cons (.int .i64) (.cons .str .nil)))) (y : denO G []) : (F17e n).F x y = runFn prog G (ro G (tabOf (E74 n)) (frOf [F17_0z n]) _) Go.Proofs.Try.f17 (.nd .no (.nd .no (.nd .no (.nd .no (.nd (.nd .no (.nd (.use 0) .no)) .no))))) [(0, .fz), (1, .fz), (2, .fz)] (ShL.enc G (.cons (.imm 4) (.cons (.int .i64) (.cons .str .nil))) x) (encO G [] y) (decR (.tup (.cons (.agg (.cons .str (.cons (.int .i64) (.cons (.int .i64) .nil)))) (.cons (.int .i64) (.cons .bool .nil)))) []) := by kernel_rfl
theorem F17_ok (n : Nat) : EntOK prog G (F17e n) :=
  ent_ok (fr := frOf [F17_0z n]) (ann := (.nd .no (.nd .no (.nd .no (.nd .no (.nd (.nd .no (.nd (.use 0) .no)) .no)))))) (frm := [(0, .fz), (1, .fz), (2, .fz)]) laws fnok (E74_ok n).tab (e := F17e n) (fn := Go.Proofs.Try.f17) (by kernel_rfl) (AllF.ofB (cd := F17c) (l := [(0, codeAt F17c [1, 1, 1, 1, 0, 1, 0])]) (by kernel_rfl) (by kernel_rfl) (AllF.cons (F17_0_ok n) AllF.nil)) (F17_eq n)
noncomputable def E75 (n : Nat) : List (Ent G) := F17e n :: E74 n
theorem E75_ok (n : Nat) : AllE prog G (E75 n) := AllE.cons (F17_ok n) (E74_ok n)
-- 18 loop.example/slowworm/spec.AttrFind
noncomputable def F18c : Code := bodyOf Go.Proofs.Try.f18
-- 48 loop.example/slowworm/spec.findAttr
noncomputable def F48c : Code := bodyOf Go.Proofs.Try.f48
-- 54 loop.example/slowworm/spec.attrIn
noncomputable def F54c : Code := bodyOf Go.Proofs.Try.f54
noncomputable def F54_0x0 : SSh := ⟨20, [(4, (.int .i64))], []⟩
noncomputable def F54_0x1 : SSh := ⟨20, [], []⟩
noncomputable def F54_0s : SSh := ⟨20, [(0, (.imm 3)), (1, .str), (5, (.int .i64))], []⟩
noncomputable def F54_0_step {R : Type} (n : Nat) (k0 : Int → Option R) (k1 : Option R) (rec : List Atr → ByteArray → Int → Option R) (x1612 : List Atr) (x1613 : ByteArray) (x1614 : Int) : Option R :=
  (bif (decide (x1614 < ((x1612.length) : Int))) then
  (bif (decide ((0 : Int) ≤ x1614)) then
  (bif (decide (x1614 < ((x1612.length) : Int))) then
  (bif (((x1612.getD (x1614.toNat) (Atr.mk ({ data := #[] } : ByteArray) (0 : Int) (0 : Int))).name.toList) == (x1613.toList)) then
  (k0 x1614)
  else (rec x1612 x1613 (IntKind.wrap .i64 (x1614 + (1 : Int)))))
  else none)
  else none)
  else k1)
noncomputable def F54_0_it {R : Type} (n : Nat) (k0 : Int → Option R) (k1 : Option R) : Nat → List Atr → ByteArray → Int → Option R
  | 0, _, _, _ => none
  | k + 1, x1612, x1613, x1614 => F54_0_step n k0 k1 (F54_0_it n k0 k1 k) x1612 x1613 x1614
noncomputable def F54_0 {R : Type} (n : Nat) (x1612 : List Atr) (x1613 : ByteArray) (x1614 : Int) (k0 : Int → Option R) (k1 : Option R) : Option R := F54_0_it n k0 k1 n x1612 x1613 x1614
noncomputable def F54_0z (n : Nat) : Sm G := inZ G 0 ⟨[0, 1, 5], []⟩ F54_0s fun R x K => F54_0_it n (fun u0 => K .ret (SSh.enc G F54_0x0 ((u0, ()), ()))) (K (.exit 0) (SSh.enc G F54_0x1 ((), ()))) n x.1.1 x.1.2.1 x.1.2.2.1
theorem F54_0_eq (n : Nat) (R : Type) (rec : SSh.den G F54_0s → Option R) (x : SSh.den G F54_0s) (K : AE → St G → Option R) :
  F54_0_step n (fun u0 => K .ret (SSh.enc G F54_0x0 ((u0, ()), ()))) (K (.exit 0) (SSh.enc G F54_0x1 ((), ()))) (fun x1612 x1613 x1614 => rec ((x1612, (x1613, (x1614, ()))), ())) x.1.1 x.1.2.1 x.1.2.2.1 = exec prog G (ro G (tabOf (E75 n)) (frOf []) R) 0 (codeAt F54c [1, 0, 1, 0, 0]) .no (SSh.enc G F54_0s x) (kLoop G (ro G (tabOf (E75 n)) (frOf []) R) 0 ⟨[0, 1, 5], []⟩ F54_0s ⟨⟨[], []⟩, ⟨[4], []⟩, [(0, ⟨[], []⟩)]⟩ rec K) := by kernel_rfl
theorem F54_0_ok (n : Nat) : FragOK prog G 0 (codeAt F54c [1, 0, 1, 0]) (F54_0z n) :=
  frag_loop (Z := fun R k (x : SSh.den G F54_0s) K => F54_0_it n (fun u0 => K .ret (SSh.enc G F54_0x0 ((u0, ()), ()))) (K (.exit 0) (SSh.enc G F54_0x1 ((), ()))) k x.1.1 x.1.2.1 x.1.2.2.1) laws fnok (E75_ok n).tab (AllF.of (l := []) (by kernel_rfl) AllF.nil) (fun _ _ _ => rfl) (fun R k y K => F54_0_eq n R (fun (x : SSh.den G F54_0s) => F54_0_it n (fun u0 => K .ret (SSh.enc G F54_0x0 ((u0, ()), ()))) (K (.exit 0) (SSh.enc G F54_0x1 ((), ()))) k x.1.1 x.1.2.1 x.1.2.2.1) y K) n
noncomputable def F54 (n : Nat) (a1610 : List Atr) (a1611 : ByteArray) : Option (Int × Unit) :=
  (F54_0 n a1610 a1611 (0 : Int) (fun z1621 =>
  some (z1621, ())) (
  some ((-1 : Int), ())))
noncomputable def F54e (n : Nat) : Ent G := ⟨54, (.cons (.imm 3) (.cons .str .nil)), [], (.int .i64), [], fun x y => F54 n x.1 x.2.1⟩
theorem F54_eq (n : Nat) (x : ShL.den G (.cons (.imm 3) (.cons .str .nil))) (y : denO G []) : (F54e n).F x y = runFn prog G (ro G (tabOf (E75 n)) (frOf [F54_0z n]) _) Go.Proofs.Try.f54 (.nd .no (.nd (.nd .no (.nd (.use 0) .no)) .no)) [(0, .fz)] (ShL.enc G (.cons (.imm 3) (.cons .str .nil)) x) (encO G [] y) (decR (.int .i64) []) := by kernel_rfl
theorem F54_ok (n : Nat) : EntOK prog G (F54e n) :=
  ent_ok (fr := frOf [F54_0z n]) (ann := (.nd .no (.nd (.nd .no (.nd (.use 0) .no)) .no))) (frm := [(0, .fz)]) laws fnok (E75_ok n).tab (e := F54e n) (fn := Go.Proofs.Try.f54) (by kernel_rfl) (AllF.ofB (cd := F54c) (l := [(0, codeAt F54c [1, 0, 1, 0])]) (by kernel_rfl) (by kernel_rfl) (AllF.cons (F54_0_ok n) AllF.nil)) (F54_eq n)
noncomputable def E76 (n : Nat) : List (Ent G) := F54e n :: E75 n
theorem E76_ok (n : Nat) : AllE prog G (E76 n) := AllE.cons (F54_ok n) (E75_ok n)
noncomputable def F48_0x0 : SSh := ⟨53, [(6, (.ptr 0 0)), (7, (.int .i64))], [(.box 35 (.cons .str (.cons (.int .i64) (.cons (.int .i64) .nil))))]⟩
noncomputable def F48_0x1 : SSh := ⟨53, [(6, (.ptr 0 0))], [(.box 35 (.cons .str (.cons (.int .i64) (.cons (.int .i64) .nil))))]⟩
noncomputable def F48_0s : SSh := ⟨53, [(0, (.imm 4)), (2, .str), (6, (.ptr 0 0)), (8, (.imm 0)), (10, (.int .i64))], [(.box 35 (.cons .str (.cons (.int .i64) (.cons (.int .i64) .nil))))]⟩
noncomputable def F48_0_step {R : Type} (n : Nat) (k0 : Int → ByteArray → Int → Int → Option R) (k1 : ByteArray → Int → Int → Option R) (rec : List Cls → ByteArray → List Int → Int → ByteArray → Int → Int → Option R) (x1597 : List Cls) (x1598 : ByteArray) (x1599 : List Int) (x1600 : Int) (x1601 : ByteArray) (x1602 : Int) (x1603 : Int) : Option R :=
  (bif (decide (x1600 < ((x1599.length) : Int))) then
  (bif (decide ((0 : Int) ≤ x1600)) then
  (bif (decide (x1600 < ((x1599.length) : Int))) then
  let v1607 := (x1599.getD (x1600.toNat) (0 : Int))
  (bif (decide ((0 : Int) ≤ v1607)) then
  (bif (decide (v1607 < ((x1597.length) : Int))) then
  (andThen (F54 n (x1597.getD (v1607.toNat) (Cls.mk [] [])).attrs x1598) fun r1622 =>
  (bif (decide (r1622.1 ≥ (0 : Int))) then
  (bif (decide ((0 : Int) ≤ x1600)) then
  (bif (decide (x1600 < ((x1599.length) : Int))) then
  let v1625 := (x1599.getD (x1600.toNat) (0 : Int))
  (bif (decide ((0 : Int) ≤ v1625)) then
  (bif (decide (v1625 < ((x1597.length) : Int))) then
  let v1627 := (x1597.getD (v1625.toNat) (Cls.mk [] [])).attrs
  (bif (decide ((0 : Int) ≤ r1622.1)) then
  (bif (decide (r1622.1 < ((v1627.length) : Int))) then
  let v1628 := (v1627.getD (r1622.1.toNat) (Atr.mk ({ data := #[] } : ByteArray) (0 : Int) (0 : Int)))
  (bif (decide ((0 : Int) ≤ x1600)) then
  (bif (decide (x1600 < ((x1599.length) : Int))) then
  (k0 (x1599.getD (x1600.toNat) (0 : Int)) v1628.name v1628.kind v1628.val)
  else none)
  else none)
  else none)
  else none)
  else none)
  else none)
  else none)
  else none)
  else (rec x1597 x1598 x1599 (IntKind.wrap .i64 (x1600 + (1 : Int))) x1601 x1602 x1603)))
  else none)
  else none)
  else none)
  else none)
  else (k1 x1601 x1602 x1603))
noncomputable def F48_0_it {R : Type} (n : Nat) (k0 : Int → ByteArray → Int → Int → Option R) (k1 : ByteArray → Int → Int → Option R) : Nat → List Cls → ByteArray → List Int → Int → ByteArray → Int → Int → Option R
  | 0, _, _, _, _, _, _, _ => none
  | k + 1, x1597, x1598, x1599, x1600, x1601, x1602, x1603 => F48_0_step n k0 k1 (F48_0_it n k0 k1 k) x1597 x1598 x1599 x1600 x1601 x1602 x1603
noncomputable def F48_0 {R : Type} (n : Nat) (x1597 : List Cls) (x1598 : ByteArray) (x1599 : List Int) (x1600 : Int) (x1601 : ByteArray) (x1602 : Int) (x1603 : Int) (k0 : Int → ByteArray → Int → Int → Option R) (k1 : ByteArray → Int → Int → Option R) : Option R := F48_0_it n k0 k1 n x1597 x1598 x1599 x1600 x1601 x1602 x1603
noncomputable def F48_0z (n : Nat) : Sm G := inZ G 0 ⟨[0, 2, 6, 8, 10], []⟩ F48_0s fun R x K => F48_0_it n (fun u0 u1 u2 u3 => K .ret (SSh.enc G F48_0x0 (((), (u0, ())), ((u1, (u2, (u3, ()))), ())))) (fun u0 u1 u2 => K (.exit 0) (SSh.enc G F48_0x1 (((), ()), ((u0, (u1, (u2, ()))), ())))) n x.1.1 x.1.2.1 x.1.2.2.2.1 x.1.2.2.2.2.1 x.2.1.1 x.2.1.2.1 x.2.1.2.2.1
theorem F48_0_eq (n : Nat) (R : Type) (rec : SSh.den G F48_0s → Option R) (x : SSh.den G F48_0s) (K : AE → St G → Option R) :
  F48_0_step n (fun u0 u1 u2 u3 => K .ret (SSh.enc G F48_0x0 (((), (u0, ())), ((u1, (u2, (u3, ()))), ())))) (fun u0 u1 u2 => K (.exit 0) (SSh.enc G F48_0x1 (((), ()), ((u0, (u1, (u2, ()))), ())))) (fun x1597 x1598 x1599 x1600 x1601 x1602 x1603 => rec ((x1597, (x1598, ((), (x1599, (x1600, ()))))), ((x1601, (x1602, (x1603, ()))), ()))) x.1.1 x.1.2.1 x.1.2.2.2.1 x.1.2.2.2.2.1 x.2.1.1 x.2.1.2.1 x.2.1.2.2.1 = exec prog G (ro G (tabOf (E76 n)) (frOf []) R) 0 (codeAt F48c [1, 1, 0, 1, 0, 0]) .no (SSh.enc G F48_0s x) (kLoop G (ro G (tabOf (E76 n)) (frOf []) R) 0 ⟨[0, 2, 6, 8, 10], []⟩ F48_0s ⟨⟨[6], []⟩, ⟨[6, 7], []⟩, [(0, ⟨[6], []⟩)]⟩ rec K) := by kernel_rfl
theorem F48_0_ok (n : Nat) : FragOK prog G 0 (codeAt F48c [1, 1, 0, 1, 0]) (F48_0z n) :=
  frag_loop (Z := fun R k (x : SSh.den G F48_0s) K => F48_0_it n (fun u0 u1 u2 u3 => K .ret (SSh.enc G F48_0x0 (((), (u0, ())), ((u1, (u2, (u3, ()))), ())))) (fun u0 u1 u2 => K (.exit 0) (SSh.enc G F48_0x1 (((), ()), ((u0, (u1, (u2, ()))), ())))) k x.1.1 x.1.2.1 x.1.2.2.2.1 x.1.2.2.2.2.1 x.2.1.1 x.2.1.2.1 x.2.1.2.2.1) laws fnok (E76_ok n).tab (AllF.of (l := []) (by kernel_rfl) AllF.nil) (fun _ _ _ => rfl) (fun R k y K => F48_0_eq n R (fun (x : SSh.den G F48_0s) => F48_0_it n (fun u0 u1 u2 u3 => K .ret (SSh.enc G F48_0x0 (((), (u0, ())), ((u1, (u2, (u3, ()))), ())))) (fun u0 u1 u2 => K (.exit 0) (SSh.enc G F48_0x1 (((), ()), ((u0, (u1, (u2, ()))), ())))) k x.1.1 x.1.2.1 x.1.2.2.2.1 x.1.2.2.2.2.1 x.2.1.1 x.2.1.2.1 x.2.1.2.2.1) y K) n
noncomputable def F48 (n : Nat) (a1592 : List Cls) (a1593 : Int) (a1594 : ByteArray) : Option (((ByteArray × (Int × (Int × Unit))) × (Int × Unit)) × Unit) :=
  (andThen (F50 n a1592) fun r1595 =>
  (andThen (F74 n r1595.1 a1593) fun r1596 =>
  (F48_0 n a1592 a1594 r1596.1.1 (0 : Int) ({ data := #[] } : ByteArray) (0 : Int) (0 : Int) (fun z1635 z1636 z1637 z1638 =>
  some (((z1636, (z1637, (z1638, ()))), (z1635, ())), ())) (fun z1639 z1640 z1641 =>
  some (((({ data := #[] } : ByteArray), ((0 : Int), ((0 : Int), ()))), ((-1 : Int), ())), ())))))
noncomputable def F48e (n : Nat) : Ent G := ⟨48, (.cons (.imm 4) (.cons (.int .i64) (.cons .str .nil))), [], (.tup (.cons (.agg (.cons .str (.cons (.int .i64) (.cons (.int .i64) .nil)))) (.cons (.int .i64) .nil))), [], fun x y => F48 n x.1 x.2.1 x.2.2.1⟩
theorem F48_eq (n : Nat) (x : ShL.den G (.cons (.imm 4) (.cons (.int .i64) (.cons .str .nil)))) (y : denO G []) : (F48e n).F x y = runFn prog G (ro G (tabOf (E76 n)) (frOf [F48_0z n]) _) Go.Proofs.Try.f48 (.nd .no (.nd .no (.nd (.nd .no (.nd (.use 0) .no)) .no))) [(0, .fz), (1, .fz)] (ShL.enc G (.cons (.imm 4) (.cons (.int .i64) (.cons .str .nil))) x) (encO G [] y) (decR (.tup (.cons (.agg (.cons .str (.cons (.int .i64) (.cons (.int .i64) .nil)))) (.cons (.int .i64) .nil))) []) := by kernel_rfl
theorem F48_ok (n : Nat) : EntOK prog G (F48e n) :=
  ent_ok (fr := frOf [F48_0z n]) (ann := (.nd .no (.nd .no (.nd (.nd .no (.nd (.use 0) .no)) .no)))) (frm := [(0, .fz), (1, .fz)]) laws fnok (E76_ok n).tab (e := F48e n) (fn := Go.Proofs.Try.f48) (by kernel_rfl) (AllF.ofB (cd := F48c) (l := [(0, codeAt F48c [1, 1, 0, 1, 0])]) (by kernel_rfl) (by kernel_rfl) (AllF.cons (F48_0_ok n) AllF.nil)) (F48_eq n)
noncomputable def E77 (n : Nat) : List (Ent G) := F48e n :: E76 n
theorem E77_ok (n : Nat) : AllE prog G (E77 n) := AllE.cons (F48_ok n) (E76_ok n)
noncomputable def F18 (n : Nat) (a1583 : List Cls) (a1584 : Int) (a1585 : ByteArray) : Option (((ByteArray × (Int × (Int × Unit))) × (Int × (Bool × Unit))) × Unit) :=
  (andThen (F38 n a1583) fun r1586 =>
  (bif (!r1586.1) then
  some (((({ data := #[] } : ByteArray), ((0 : Int), ((0 : Int), ()))), ((0 : Int), (false, ()))), ())
  else (andThen (F47 n a1584 (0 : Int) (IntKind.wrap .i64 (((a1583.length) : Int) - (1 : Int)))) fun r1590 =>
  (bif (!r1590.1) then
  some (((({ data := #[] } : ByteArray), ((0 : Int), ((0 : Int), ()))), ((0 : Int), (false, ()))), ())
  else (andThen (F48 n a1583 a1584 a1585) fun r1642 =>
  (bif (decide (r1642.1.2.1 < (0 : Int))) then
  some (((({ data := #[] } : ByteArray), ((0 : Int), ((0 : Int), ()))), ((0 : Int), (false, ()))), ())
  else some (((r1642.1.1.1, (r1642.1.1.2.1, (r1642.1.1.2.2.1, ()))), (r1642.1.2.1, (true, ()))), ())))))))
noncomputable def F18e (n : Nat) : Ent G := ⟨18, (.cons (.imm 4) (.cons (.int .i64) (.cons .str .nil))), [], (.tup (.cons (.agg (.cons .str (.cons (.int .i64) (.cons (.int .i64) .nil)))) (.cons (.int .i64) (.cons .bool .nil)))), [], fun x y => F18 n x.1 x.2.1 x.2.2.1⟩
theorem F18_eq (n : Nat) (x : ShL.den G (.cons (.imm 4) (.cons (.int .i64) (.cons .str .nil)))) (y : denO G []) : (F18e n).F x y = runFn prog G (ro G (tabOf (E77 n)) (frOf []) _) Go.Proofs.Try.f18 .no [(0, .fz), (1, .fz), (2, .fz)] (ShL.enc G (.cons (.imm 4) (.cons (.int .i64) (.cons .str .nil))) x) (encO G [] y) (decR (.tup (.cons (.agg (.cons .str (.cons (.int .i64) (.cons (.int .i64) .nil)))) (.cons (.int .i64) (.cons .bool .nil)))) []) := by kernel_rfl
theorem F18_ok (n : Nat) : EntOK prog G (F18e n) :=
  ent_ok (fr := frOf []) (ann := .no) (frm := [(0, .fz), (1, .fz), (2, .fz)]) laws fnok (E77_ok n).tab (e := F18e n) (fn := Go.Proofs.Try.f18) (by kernel_rfl) (AllF.ofB (cd := F18c) (l := []) (by kernel_rfl) (by kernel_rfl) AllF.nil) (F18_eq n)
noncomputable def E78 (n : Nat) : List (Ent G) := F18e n :: E77 n
theorem E78_ok (n : Nat) : AllE prog G (E78 n) := AllE.cons (F18_ok n) (E77_ok n)
-- 20 loop.example/slowworm/spec.BasesOf
noncomputable def F20c : Code := bodyOf Go.Proofs.Try.f20
noncomputable def F20 (n : Nat) (a1650 : List Cls) : Option (List (List Int) × Unit) :=
  (andThen (F50 n a1650) fun r1651 =>
  some (r1651.1, ()))
noncomputable def F20e (n : Nat) : Ent G := ⟨20, (.cons (.imm 4) .nil), [], (.imm 7), [], fun x y => F20 n x.1⟩
theorem F20_eq (n : Nat) (x : ShL.den G (.cons (.imm 4) .nil)) (y : denO G []) : (F20e n).F x y = runFn prog G (ro G (tabOf (E78 n)) (frOf []) _) Go.Proofs.Try.f20 .no [(0, .fz)] (ShL.enc G (.cons (.imm 4) .nil) x) (encO G [] y) (decR (.imm 7) []) := by kernel_rfl
theorem F20_ok (n : Nat) : EntOK prog G (F20e n) :=
  ent_ok (fr := frOf []) (ann := .no) (frm := [(0, .fz)]) laws fnok (E78_ok n).tab (e := F20e n) (fn := Go.Proofs.Try.f20) (by kernel_rfl) (AllF.ofB (cd := F20c) (l := []) (by kernel_rfl) (by kernel_rfl) AllF.nil) (F20_eq n)
noncomputable def E79 (n : Nat) : List (Ent G) := F20e n :: E78 n
theorem E79_ok (n : Nat) : AllE prog G (E79 n) := AllE.cons (F20_ok n) (E78_ok n)
-- 19 loop.example/slowworm/impl.MroOf
noncomputable def F19c : Code := bodyOf Go.Proofs.Try.f19
noncomputable def F19_0x0 : SSh := ⟨48, [(4, .nil0), (5, .bool)], []⟩
noncomputable def F19_0x1 : SSh := ⟨48, [(0, (.imm 7)), (1, (.int .i64)), (10, (.imm 7)), (11, (.int .i64)), (12, (.int .i64))], []⟩
noncomputable def F19_0s : SSh := ⟨48, [(0, (.imm 7)), (1, (.int .i64)), (6, (.int .i64)), (7, (.imm 0)), (10, (.imm 7)), (11, (.int .i64)), (12, (.int .i64)), (20, (.imm 0)), (21, (.int .i64)), (22, (.int .i64))], []⟩
noncomputable def F19_0_step {R : Type} (n : Nat) (k0 : Bool → Option R) (k1 : List (List Int) → Int → List (List Int) → Int → Int → Option R) (rec : List (List Int) → Int → Int → List Int → List (List Int) → Int → Int → List Int → Int → Int → Option R) (x1710 : List (List Int)) (x1711 : Int) (x1712 : Int) (x1713 : List Int) (x1714 : List (List Int)) (x1715 : Int) (x1716 : Int) (x1717 : List Int) (x1718 : Int) (x1719 : Int) : Option R :=
  (bif (decide (x1719 < x1718)) then
  (bif (decide ((0 : Int) ≤ x1719)) then
  (bif (decide (x1719 < ((x1717.length) : Int))) then
  let v1722 := (x1717.getD (x1719.toNat) (0 : Int))
  (bif (decide (v1722 < (0 : Int))) then
  (k0 false)
  else (bif (decide (v1722 ≥ x1712)) then
  (k0 false)
  else (bif (decide ((0 : Int) ≤ x1719)) then
  (bif (decide (x1719 ≤ ((x1713.length) : Int))) then
  (andThen (F49 n ((x1713.take (x1719.toNat)).drop (0 : Nat)) v1722) fun r1726 =>
  (bif r1726.1 then
  (k0 false)
  else (rec x1710 x1711 x1712 x1713 x1714 x1715 x1716 x1717 x1718 (IntKind.wrap .i64 (x1719 + (1 : Int))))))
  else none)
  else none)))
  else none)
  else none)
  else (k1 x1710 x1711 x1714 x1715 x1716))
noncomputable def F19_0_it {R : Type} (n : Nat) (k0 : Bool → Option R) (k1 : List (List Int) → Int → List (List Int) → Int → Int → Option R) : Nat → List (List Int) → Int → Int → List Int → List (List Int) → Int → Int → List Int → Int → Int → Option R
  | 0, _, _, _, _, _, _, _, _, _, _ => none
  | k + 1, x1710, x1711, x1712, x1713, x1714, x1715, x1716, x1717, x1718, x1719 => F19_0_step n k0 k1 (F19_0_it n k0 k1 k) x1710 x1711 x1712 x1713 x1714 x1715 x1716 x1717 x1718 x1719
noncomputable def F19_0 {R : Type} (n : Nat) (x1710 : List (List Int)) (x1711 : Int) (x1712 : Int) (x1713 : List Int) (x1714 : List (List Int)) (x1715 : Int) (x1716 : Int) (x1717 : List Int) (x1718 : Int) (x1719 : Int) (k0 : Bool → Option R) (k1 : List (List Int) → Int → List (List Int) → Int → Int → Option R) : Option R := F19_0_it n k0 k1 n x1710 x1711 x1712 x1713 x1714 x1715 x1716 x1717 x1718 x1719
noncomputable def F19_0z (n : Nat) : Sm G := inZ G 0 ⟨[0, 1, 6, 7, 10, 11, 12, 20, 21, 22], []⟩ F19_0s fun R x K => F19_0_it n (fun u0 => K .ret (SSh.enc G F19_0x0 (((), (u0, ())), ()))) (fun u0 u1 u2 u3 u4 => K (.exit 2) (SSh.enc G F19_0x1 ((u0, (u1, (u2, (u3, (u4, ()))))), ()))) n x.1.1 x.1.2.1 x.1.2.2.1 x.1.2.2.2.1 x.1.2.2.2.2.1 x.1.2.2.2.2.2.1 x.1.2.2.2.2.2.2.1 x.1.2.2.2.2.2.2.2.1 x.1.2.2.2.2.2.2.2.2.1 x.1.2.2.2.2.2.2.2.2.2.1
theorem F19_0_eq (n : Nat) (R : Type) (rec : SSh.den G F19_0s → Option R) (x : SSh.den G F19_0s) (K : AE → St G → Option R) :
  F19_0_step n (fun u0 => K .ret (SSh.enc G F19_0x0 (((), (u0, ())), ()))) (fun u0 u1 u2 u3 u4 => K (.exit 2) (SSh.enc G F19_0x1 ((u0, (u1, (u2, (u3, (u4, ()))))), ()))) (fun x1710 x1711 x1712 x1713 x1714 x1715 x1716 x1717 x1718 x1719 => rec ((x1710, (x1711, (x1712, (x1713, (x1714, (x1715, (x1716, (x1717, (x1718, (x1719, ())))))))))), ())) x.1.1 x.1.2.1 x.1.2.2.1 x.1.2.2.2.1 x.1.2.2.2.2.1 x.1.2.2.2.2.2.1 x.1.2.2.2.2.2.2.1 x.1.2.2.2.2.2.2.2.1 x.1.2.2.2.2.2.2.2.2.1 x.1.2.2.2.2.2.2.2.2.2.1 = exec prog G (ro G (tabOf (E79 n)) (frOf []) R) 0 (codeAt F19c [1, 0, 1, 0, 0, 1, 1, 0, 0, 1, 1, 1, 0, 0]) .no (SSh.enc G F19_0s x) (kLoop G (ro G (tabOf (E79 n)) (frOf []) R) 0 ⟨[0, 1, 6, 7, 10, 11, 12, 20, 21, 22], []⟩ F19_0s ⟨⟨[0, 1, 10, 11, 12], []⟩, ⟨[4, 5], []⟩, [(2, ⟨[0, 1, 10, 11, 12], []⟩), (1, ⟨[0, 1, 10, 11, 12], []⟩), (0, ⟨[0, 1], []⟩)]⟩ rec K) := by kernel_rfl
theorem F19_0_ok (n : Nat) : FragOK prog G 0 (codeAt F19c [1, 0, 1, 0, 0, 1, 1, 0, 0, 1, 1, 1, 0]) (F19_0z n) :=
  frag_loop (Z := fun R k (x : SSh.den G F19_0s) K => F19_0_it n (fun u0 => K .ret (SSh.enc G F19_0x0 (((), (u0, ())), ()))) (fun u0 u1 u2 u3 u4 => K (.exit 2) (SSh.enc G F19_0x1 ((u0, (u1, (u2, (u3, (u4, ()))))), ()))) k x.1.1 x.1.2.1 x.1.2.2.1 x.1.2.2.2.1 x.1.2.2.2.2.1 x.1.2.2.2.2.2.1 x.1.2.2.2.2.2.2.1 x.1.2.2.2.2.2.2.2.1 x.1.2.2.2.2.2.2.2.2.1 x.1.2.2.2.2.2.2.2.2.2.1) laws fnok (E79_ok n).tab (AllF.of (l := []) (by kernel_rfl) AllF.nil) (fun _ _ _ => rfl) (fun R k y K => F19_0_eq n R (fun (x : SSh.den G F19_0s) => F19_0_it n (fun u0 => K .ret (SSh.enc G F19_0x0 (((), (u0, ())), ()))) (fun u0 u1 u2 u3 u4 => K (.exit 2) (SSh.enc G F19_0x1 ((u0, (u1, (u2, (u3, (u4, ()))))), ()))) k x.1.1 x.1.2.1 x.1.2.2.1 x.1.2.2.2.1 x.1.2.2.2.2.1 x.1.2.2.2.2.2.1 x.1.2.2.2.2.2.2.1 x.1.2.2.2.2.2.2.2.1 x.1.2.2.2.2.2.2.2.2.1 x.1.2.2.2.2.2.2.2.2.2.1) y K) n
noncomputable def F19_1x0 : SSh := ⟨48, [(4, .nil0), (5, .bool)], []⟩
noncomputable def F19_1x1 : SSh := ⟨48, [(0, (.imm 7)), (1, (.int .i64))], []⟩
noncomputable def F19_1s : SSh := ⟨48, [(0, (.imm 7)), (1, (.int .i64)), (10, (.imm 7)), (11, (.int .i64)), (12, (.int .i64))], []⟩
noncomputable def F19_1_step {R : Type} (n : Nat) (k0 : Bool → Option R) (k1 : List (List Int) → Int → Option R) (rec : List (List Int) → Int → List (List Int) → Int → Int → Option R) (x1699 : List (List Int)) (x1700 : Int) (x1701 : List (List Int)) (x1702 : Int) (x1703 : Int) : Option R :=
  (bif (decide (x1703 < x1702)) then
  (bif (decide ((0 : Int) ≤ x1703)) then
  (bif (decide (x1703 < ((x1701.length) : Int))) then
  let v1706 := (x1701.getD (x1703.toNat) [])
  (bif (decide (((v1706.length) : Int) > (6 : Int))) then
  (k0 false)
  else (F19_0 n x1699 x1700 x1703 v1706 x1701 x1702 x1703 v1706 ((v1706.length) : Int) (0 : Int) (fun z1728 =>
  (k0 z1728)) (fun z1729 z1730 z1731 z1732 z1733 =>
  (rec z1729 z1730 z1731 z1732 (IntKind.wrap .i64 (z1733 + (1 : Int)))))))
  else none)
  else none)
  else (k1 x1699 x1700))
noncomputable def F19_1_it {R : Type} (n : Nat) (k0 : Bool → Option R) (k1 : List (List Int) → Int → Option R) : Nat → List (List Int) → Int → List (List Int) → Int → Int → Option R
  | 0, _, _, _, _, _ => none
  | k + 1, x1699, x1700, x1701, x1702, x1703 => F19_1_step n k0 k1 (F19_1_it n k0 k1 k) x1699 x1700 x1701 x1702 x1703
noncomputable def F19_1 {R : Type} (n : Nat) (x1699 : List (List Int)) (x1700 : Int) (x1701 : List (List Int)) (x1702 : Int) (x1703 : Int) (k0 : Bool → Option R) (k1 : List (List Int) → Int → Option R) : Option R := F19_1_it n k0 k1 n x1699 x1700 x1701 x1702 x1703
noncomputable def F19_1z (n : Nat) : Sm G := inZ G 0 ⟨[0, 1, 10, 11, 12], []⟩ F19_1s fun R x K => F19_1_it n (fun u0 => K .ret (SSh.enc G F19_1x0 (((), (u0, ())), ()))) (fun u0 u1 => K (.exit 0) (SSh.enc G F19_1x1 ((u0, (u1, ())), ()))) n x.1.1 x.1.2.1 x.1.2.2.1 x.1.2.2.2.1 x.1.2.2.2.2.1
theorem F19_1_eq (n : Nat) (R : Type) (rec : SSh.den G F19_1s → Option R) (x : SSh.den G F19_1s) (K : AE → St G → Option R) :
  F19_1_step n (fun u0 => K .ret (SSh.enc G F19_1x0 (((), (u0, ())), ()))) (fun u0 u1 => K (.exit 0) (SSh.enc G F19_1x1 ((u0, (u1, ())), ()))) (fun x1699 x1700 x1701 x1702 x1703 => rec ((x1699, (x1700, (x1701, (x1702, (x1703, ()))))), ())) x.1.1 x.1.2.1 x.1.2.2.1 x.1.2.2.2.1 x.1.2.2.2.2.1 = exec prog G (ro G (tabOf (E79 n)) (frOf [F19_0z n]) R) 0 (codeAt F19c [1, 0, 1, 0, 0]) (.nd .no (.nd .no (.nd (.nd (.nd .no (.nd .no (.nd .no (.nd (.use 0) .no)))) .no) .no))) (SSh.enc G F19_1s x) (kLoop G (ro G (tabOf (E79 n)) (frOf [F19_0z n]) R) 0 ⟨[0, 1, 10, 11, 12], []⟩ F19_1s ⟨⟨[0, 1], []⟩, ⟨[4, 5], []⟩, [(0, ⟨[0, 1], []⟩)]⟩ rec K) := by kernel_rfl
theorem F19_1_ok (n : Nat) : FragOK prog G 0 (codeAt F19c [1, 0, 1, 0]) (F19_1z n) :=
  frag_loop (Z := fun R k (x : SSh.den G F19_1s) K => F19_1_it n (fun u0 => K .ret (SSh.enc G F19_1x0 (((), (u0, ())), ()))) (fun u0 u1 => K (.exit 0) (SSh.enc G F19_1x1 ((u0, (u1, ())), ()))) k x.1.1 x.1.2.1 x.1.2.2.1 x.1.2.2.2.1 x.1.2.2.2.2.1) laws fnok (E79_ok n).tab (AllF.of (l := [(0, codeAt F19c [1, 0, 1, 0, 0, 1, 1, 0, 0, 1, 1, 1, 0])]) (by kernel_rfl) (AllF.cons (F19_0_ok n) AllF.nil)) (fun _ _ _ => rfl) (fun R k y K => F19_1_eq n R (fun (x : SSh.den G F19_1s) => F19_1_it n (fun u0 => K .ret (SSh.enc G F19_1x0 (((), (u0, ())), ()))) (fun u0 u1 => K (.exit 0) (SSh.enc G F19_1x1 ((u0, (u1, ())), ()))) k x.1.1 x.1.2.1 x.1.2.2.1 x.1.2.2.2.1 x.1.2.2.2.2.1) y K) n
noncomputable def F19 (n : Nat) (a1696 : List (List Int)) (a1697 : Int) : Option ((List Int × (Bool × Unit)) × Unit) :=
  (F19_1 n a1696 a1697 a1696 ((a1696.length) : Int) (0 : Int) (fun z1735 =>
  some (([], (z1735, ())), ())) (fun z1736 z1737 =>
  (andThen (F45 n z1736 z1737) fun r1738 =>
  some ((r1738.1.1, (r1738.1.2.1, ())), ()))))
noncomputable def F19e (n : Nat) : Ent G := ⟨19, (.cons (.imm 7) (.cons (.int .i64) .nil)), [], (.tup (.cons (.imm 0) (.cons .bool .nil))), [], fun x y => F19 n x.1 x.2.1⟩
theorem F19_eq (n : Nat) (x : ShL.den G (.cons (.imm 7) (.cons (.int .i64) .nil))) (y : denO G []) : (F19e n).F x y = runFn prog G (ro G (tabOf (E79 n)) (frOf [F19_0z n, F19_1z n]) _) Go.Proofs.Try.f19 (.nd .no (.nd (.nd .no (.nd (.use 1) .no)) .no)) [(0, .fz), (1, .fz)] (ShL.enc G (.cons (.imm 7) (.cons (.int .i64) .nil)) x) (encO G [] y) (decR (.tup (.cons (.imm 0) (.cons .bool .nil))) []) := by kernel_rfl
theorem F19_ok (n : Nat) : EntOK prog G (F19e n) :=
  ent_ok (fr := frOf [F19_0z n, F19_1z n]) (ann := (.nd .no (.nd (.nd .no (.nd (.use 1) .no)) .no))) (frm := [(0, .fz), (1, .fz)]) laws fnok (E79_ok n).tab (e := F19e n) (fn := Go.Proofs.Try.f19) (by kernel_rfl) (AllF.ofB (cd := F19c) (l := [(1, codeAt F19c [1, 0, 1, 0])]) (by kernel_rfl) (by kernel_rfl) (AllF.cons (F19_1_ok n) AllF.nil)) (F19_eq n)
noncomputable def E80 (n : Nat) : List (Ent G) := F19e n :: E79 n
theorem E80_ok (n : Nat) : AllE prog G (E80 n) := AllE.cons (F19_ok n) (E79_ok n)
noncomputable def F5_0x0 : SSh := ⟨134, [(2, .bool)], []⟩
noncomputable def F5_0x1 : SSh := ⟨134, [(3, (.imm 4)), (5, .str), (6, (.ptr 0 0)), (7, (.int .i64)), (13, (.imm 0)), (14, .bool), (15, (.int .i64))], [(.box 35 (.cons .str (.cons (.int .i64) (.cons (.int .i64) .nil))))]⟩
noncomputable def F5_0s : SSh := ⟨134, [(3, (.imm 4)), (5, .str), (6, (.ptr 0 0)), (7, (.int .i64)), (13, (.imm 0)), (14, .bool), (15, (.int .i64)), (16, (.int .i64))], [(.box 35 (.cons .str (.cons (.int .i64) (.cons (.int .i64) .nil))))]⟩
noncomputable def F5_0_step {R : Type} (n : Nat) (k0 : Bool → Option R) (k1 : List Cls → ByteArray → Int → List Int → Bool → Int → ByteArray → Int → Int → Option R) (rec : List Cls → ByteArray → Int → List Int → Bool → Int → Int → ByteArray → Int → Int → Option R) (x1754 : List Cls) (x1755 : ByteArray) (x1756 : Int) (x1757 : List Int) (x1758 : Bool) (x1759 : Int) (x1760 : Int) (x1761 : ByteArray) (x1762 : Int) (x1763 : Int) : Option R :=
  (bif (decide ((0 : Int) ≤ x1759)) then
  (bif (decide (x1759 < ((x1757.length) : Int))) then
  let v1765 := (x1757.getD (x1759.toNat) (0 : Int))
  (bif (decide ((0 : Int) ≤ v1765)) then
  (bif (decide (v1765 < ((x1754.length) : Int))) then
  (bif (decide (x1760 < (((x1754.getD (v1765.toNat) (Cls.mk [] [])).attrs.length) : Int))) then
  (bif (decide ((0 : Int) ≤ x1759)) then
  (bif (decide (x1759 < ((x1757.length) : Int))) then
  let v1771 := (x1757.getD (x1759.toNat) (0 : Int))
  (bif (decide ((0 : Int) ≤ v1771)) then
  (bif (decide (v1771 < ((x1754.length) : Int))) then
  let v1773 := (x1754.getD (v1771.toNat) (Cls.mk [] [])).attrs
  (bif (decide ((0 : Int) ≤ x1760)) then
  (bif (decide (x1760 < ((v1773.length) : Int))) then
  (bif (((v1773.getD (x1760.toNat) (Atr.mk ({ data := #[] } : ByteArray) (0 : Int) (0 : Int))).name.toList) == (x1755.toList)) then
  (k0 false)
  else (rec x1754 x1755 x1756 x1757 x1758 x1759 (IntKind.wrap .i64 (x1760 + (1 : Int))) x1761 x1762 x1763))
  else none)
  else none)
  else none)
  else none)
  else none)
  else none)
  else (k1 x1754 x1755 x1756 x1757 x1758 x1759 x1761 x1762 x1763))
  else none)
  else none)
  else none)
  else none)
noncomputable def F5_0_it {R : Type} (n : Nat) (k0 : Bool → Option R) (k1 : List Cls → ByteArray → Int → List Int → Bool → Int → ByteArray → Int → Int → Option R) : Nat → List Cls → ByteArray → Int → List Int → Bool → Int → Int → ByteArray → Int → Int → Option R
  | 0, _, _, _, _, _, _, _, _, _, _ => none
  | k + 1, x1754, x1755, x1756, x1757, x1758, x1759, x1760, x1761, x1762, x1763 => F5_0_step n k0 k1 (F5_0_it n k0 k1 k) x1754 x1755 x1756 x1757 x1758 x1759 x1760 x1761 x1762 x1763
noncomputable def F5_0 {R : Type} (n : Nat) (x1754 : List Cls) (x1755 : ByteArray) (x1756 : Int) (x1757 : List Int) (x1758 : Bool) (x1759 : Int) (x1760 : Int) (x1761 : ByteArray) (x1762 : Int) (x1763 : Int) (k0 : Bool → Option R) (k1 : List Cls → ByteArray → Int → List Int → Bool → Int → ByteArray → Int → Int → Option R) : Option R := F5_0_it n k0 k1 n x1754 x1755 x1756 x1757 x1758 x1759 x1760 x1761 x1762 x1763
noncomputable def F5_0z (n : Nat) : Sm G := inZ G 0 ⟨[3, 5, 6, 7, 13, 14, 15, 16], []⟩ F5_0s fun R x K => F5_0_it n (fun u0 => K .ret (SSh.enc G F5_0x0 ((u0, ()), ()))) (fun u0 u1 u2 u3 u4 u5 u6 u7 u8 => K (.exit 2) (SSh.enc G F5_0x1 ((u0, (u1, ((), (u2, (u3, (u4, (u5, ()))))))), ((u6, (u7, (u8, ()))), ())))) n x.1.1 x.1.2.1 x.1.2.2.2.1 x.1.2.2.2.2.1 x.1.2.2.2.2.2.1 x.1.2.2.2.2.2.2.1 x.1.2.2.2.2.2.2.2.1 x.2.1.1 x.2.1.2.1 x.2.1.2.2.1
theorem F5_0_eq (n : Nat) (R : Type) (rec : SSh.den G F5_0s → Option R) (x : SSh.den G F5_0s) (K : AE → St G → Option R) :
  F5_0_step n (fun u0 => K .ret (SSh.enc G F5_0x0 ((u0, ()), ()))) (fun u0 u1 u2 u3 u4 u5 u6 u7 u8 => K (.exit 2) (SSh.enc G F5_0x1 ((u0, (u1, ((), (u2, (u3, (u4, (u5, ()))))))), ((u6, (u7, (u8, ()))), ())))) (fun x1754 x1755 x1756 x1757 x1758 x1759 x1760 x1761 x1762 x1763 => rec ((x1754, (x1755, ((), (x1756, (x1757, (x1758, (x1759, (x1760, ())))))))), ((x1761, (x1762, (x1763, ()))), ()))) x.1.1 x.1.2.1 x.1.2.2.2.1 x.1.2.2.2.2.1 x.1.2.2.2.2.2.1 x.1.2.2.2.2.2.2.1 x.1.2.2.2.2.2.2.2.1 x.2.1.1 x.2.1.2.1 x.2.1.2.2.1 = exec prog G (ro G (tabOf (E80 n)) (frOf []) R) 0 (codeAt F5c [1, 1, 1, 1, 1, 1, 1, 1, 0, 1, 0, 0, 1, 0, 0, 1, 0, 0]) .no (SSh.enc G F5_0s x) (kLoop G (ro G (tabOf (E80 n)) (frOf []) R) 0 ⟨[3, 5, 6, 7, 13, 14, 15, 16], []⟩ F5_0s ⟨⟨[3, 5, 6, 7, 13, 14, 15], []⟩, ⟨[2], []⟩, [(2, ⟨[3, 5, 6, 7, 13, 14, 15], []⟩), (1, ⟨[3, 5, 6, 7, 13, 14, 15], []⟩), (0, ⟨[3, 5, 6, 7, 13, 14], []⟩)]⟩ rec K) := by kernel_rfl
theorem F5_0_ok (n : Nat) : FragOK prog G 0 (codeAt F5c [1, 1, 1, 1, 1, 1, 1, 1, 0, 1, 0, 0, 1, 0, 0, 1, 0]) (F5_0z n) :=
  frag_loop (Z := fun R k (x : SSh.den G F5_0s) K => F5_0_it n (fun u0 => K .ret (SSh.enc G F5_0x0 ((u0, ()), ()))) (fun u0 u1 u2 u3 u4 u5 u6 u7 u8 => K (.exit 2) (SSh.enc G F5_0x1 ((u0, (u1, ((), (u2, (u3, (u4, (u5, ()))))))), ((u6, (u7, (u8, ()))), ())))) k x.1.1 x.1.2.1 x.1.2.2.2.1 x.1.2.2.2.2.1 x.1.2.2.2.2.2.1 x.1.2.2.2.2.2.2.1 x.1.2.2.2.2.2.2.2.1 x.2.1.1 x.2.1.2.1 x.2.1.2.2.1) laws fnok (E80_ok n).tab (AllF.of (l := []) (by kernel_rfl) AllF.nil) (fun _ _ _ => rfl) (fun R k y K => F5_0_eq n R (fun (x : SSh.den G F5_0s) => F5_0_it n (fun u0 => K .ret (SSh.enc G F5_0x0 ((u0, ()), ()))) (fun u0 u1 u2 u3 u4 u5 u6 u7 u8 => K (.exit 2) (SSh.enc G F5_0x1 ((u0, (u1, ((), (u2, (u3, (u4, (u5, ()))))))), ((u6, (u7, (u8, ()))), ())))) k x.1.1 x.1.2.1 x.1.2.2.2.1 x.1.2.2.2.2.1 x.1.2.2.2.2.2.1 x.1.2.2.2.2.2.2.1 x.1.2.2.2.2.2.2.2.1 x.2.1.1 x.2.1.2.1 x.2.1.2.2.1) y K) n
noncomputable def F5_1x0 : SSh := ⟨134, [(2, .bool)], []⟩
noncomputable def F5_1x1 : SSh := ⟨134, [(3, (.imm 4)), (5, .str), (6, (.ptr 0 0)), (7, (.int .i64)), (13, (.imm 0)), (14, .bool)], [(.box 35 (.cons .str (.cons (.int .i64) (.cons (.int .i64) .nil))))]⟩
noncomputable def F5_1s : SSh := ⟨134, [(3, (.imm 4)), (5, .str), (6, (.ptr 0 0)), (7, (.int .i64)), (13, (.imm 0)), (14, .bool), (15, (.int .i64))], [(.box 35 (.cons .str (.cons (.int .i64) (.cons (.int .i64) .nil))))]⟩
noncomputable def F5_1_step {R : Type} (n : Nat) (k0 : Bool → Option R) (k1 : List Cls → ByteArray → Int → List Int → Bool → ByteArray → Int → Int → Option R) (rec : List Cls → ByteArray → Int → List Int → Bool → Int → ByteArray → Int → Int → Option R) (x1740 : List Cls) (x1741 : ByteArray) (x1742 : Int) (x1743 : List Int) (x1744 : Bool) (x1745 : Int) (x1746 : ByteArray) (x1747 : Int) (x1748 : Int) : Option R :=
  (bif x1744 then
  (bif (decide (x1745 < ((x1743.length) : Int))) then
  (bif (decide ((0 : Int) ≤ x1745)) then
  (bif (decide (x1745 < ((x1743.length) : Int))) then
  (bif ((x1743.getD (x1745.toNat) (0 : Int)) != x1742) then
  (F5_0 n x1740 x1741 x1742 x1743 x1744 x1745 (0 : Int) x1746 x1747 x1748 (fun z1778 =>
  (k0 z1778)) (fun z1779 z1780 z1781 z1782 z1783 z1784 z1785 z1786 z1787 =>
  (rec z1779 z1780 z1781 z1782 z1783 (IntKind.wrap .i64 (z1784 + (1 : Int))) z1785 z1786 z1787)))
  else (k1 x1740 x1741 x1742 x1743 x1744 x1746 x1747 x1748))
  else none)
  else none)
  else (k1 x1740 x1741 x1742 x1743 x1744 x1746 x1747 x1748))
  else (k1 x1740 x1741 x1742 x1743 x1744 x1746 x1747 x1748))
noncomputable def F5_1_it {R : Type} (n : Nat) (k0 : Bool → Option R) (k1 : List Cls → ByteArray → Int → List Int → Bool → ByteArray → Int → Int → Option R) : Nat → List Cls → ByteArray → Int → List Int → Bool → Int → ByteArray → Int → Int → Option R
  | 0, _, _, _, _, _, _, _, _, _ => none
  | k + 1, x1740, x1741, x1742, x1743, x1744, x1745, x1746, x1747, x1748 => F5_1_step n k0 k1 (F5_1_it n k0 k1 k) x1740 x1741 x1742 x1743 x1744 x1745 x1746 x1747 x1748
noncomputable def F5_1 {R : Type} (n : Nat) (x1740 : List Cls) (x1741 : ByteArray) (x1742 : Int) (x1743 : List Int) (x1744 : Bool) (x1745 : Int) (x1746 : ByteArray) (x1747 : Int) (x1748 : Int) (k0 : Bool → Option R) (k1 : List Cls → ByteArray → Int → List Int → Bool → ByteArray → Int → Int → Option R) : Option R := F5_1_it n k0 k1 n x1740 x1741 x1742 x1743 x1744 x1745 x1746 x1747 x1748
noncomputable def F5_1z (n : Nat) : Sm G := inZ G 0 ⟨[3, 5, 6, 7, 13, 14, 15], []⟩ F5_1s fun R x K => F5_1_it n (fun u0 => K .ret (SSh.enc G F5_1x0 ((u0, ()), ()))) (fun u0 u1 u2 u3 u4 u5 u6 u7 => K (.exit 0) (SSh.enc G F5_1x1 ((u0, (u1, ((), (u2, (u3, (u4, ())))))), ((u5, (u6, (u7, ()))), ())))) n x.1.1 x.1.2.1 x.1.2.2.2.1 x.1.2.2.2.2.1 x.1.2.2.2.2.2.1 x.1.2.2.2.2.2.2.1 x.2.1.1 x.2.1.2.1 x.2.1.2.2.1
theorem F5_1_eq (n : Nat) (R : Type) (rec : SSh.den G F5_1s → Option R) (x : SSh.den G F5_1s) (K : AE → St G → Option R) :
  F5_1_step n (fun u0 => K .ret (SSh.enc G F5_1x0 ((u0, ()), ()))) (fun u0 u1 u2 u3 u4 u5 u6 u7 => K (.exit 0) (SSh.enc G F5_1x1 ((u0, (u1, ((), (u2, (u3, (u4, ())))))), ((u5, (u6, (u7, ()))), ())))) (fun x1740 x1741 x1742 x1743 x1744 x1745 x1746 x1747 x1748 => rec ((x1740, (x1741, ((), (x1742, (x1743, (x1744, (x1745, ()))))))), ((x1746, (x1747, (x1748, ()))), ()))) x.1.1 x.1.2.1 x.1.2.2.2.1 x.1.2.2.2.2.1 x.1.2.2.2.2.2.1 x.1.2.2.2.2.2.2.1 x.2.1.1 x.2.1.2.1 x.2.1.2.2.1 = exec prog G (ro G (tabOf (E80 n)) (frOf [F5_0z n]) R) 0 (codeAt F5c [1, 1, 1, 1, 1, 1, 1, 1, 0, 1, 0, 0]) (.nd .no (.nd (.nd (.nd .no (.nd (.use 0) .no)) .no) .no)) (SSh.enc G F5_1s x) (kLoop G (ro G (tabOf (E80 n)) (frOf [F5_0z n]) R) 0 ⟨[3, 5, 6, 7, 13, 14, 15], []⟩ F5_1s ⟨⟨[3, 5, 6, 7, 13, 14], []⟩, ⟨[2], []⟩, [(0, ⟨[3, 5, 6, 7, 13, 14], []⟩)]⟩ rec K) := by kernel_rfl
theorem F5_1_ok (n : Nat) : FragOK prog G 0 (codeAt F5c [1, 1, 1, 1, 1, 1, 1, 1, 0, 1, 0]) (F5_1z n) :=
  frag_loop (Z := fun R k (x : SSh.den G F5_1s) K => F5_1_it n (fun u0 => K .ret (SSh.enc G F5_1x0 ((u0, ()), ()))) (fun u0 u1 u2 u3 u4 u5 u6 u7 => K (.exit 0) (SSh.enc G F5_1x1 ((u0, (u1, ((), (u2, (u3, (u4, ())))))), ((u5, (u6, (u7, ()))), ())))) k x.1.1 x.1.2.1 x.1.2.2.2.1 x.1.2.2.2.2.1 x.1.2.2.2.2.2.1 x.1.2.2.2.2.2.2.1 x.2.1.1 x.2.1.2.1 x.2.1.2.2.1) laws fnok (E80_ok n).tab (AllF.of (l := [(0, codeAt F5c [1, 1, 1, 1, 1, 1, 1, 1, 0, 1, 0, 0, 1, 0, 0, 1, 0])]) (by kernel_rfl) (AllF.cons (F5_0_ok n) AllF.nil)) (fun _ _ _ => rfl) (fun R k y K => F5_1_eq n R (fun (x : SSh.den G F5_1s) => F5_1_it n (fun u0 => K .ret (SSh.enc G F5_1x0 ((u0, ()), ()))) (fun u0 u1 u2 u3 u4 u5 u6 u7 => K (.exit 0) (SSh.enc G F5_1x1 ((u0, (u1, ((), (u2, (u3, (u4, ())))))), ((u5, (u6, (u7, ()))), ())))) k x.1.1 x.1.2.1 x.1.2.2.2.1 x.1.2.2.2.2.1 x.1.2.2.2.2.2.1 x.1.2.2.2.2.2.2.1 x.2.1.1 x.2.1.2.1 x.2.1.2.2.1) y K) n
-- 21 loop.example/slowworm/spec.HasInt
noncomputable def F21c : Code := bodyOf Go.Proofs.Try.f21
noncomputable def F21 (n : Nat) (a1798 : List Int) (a1799 : Int) : Option (Bool × Unit) :=
  (andThen (F51 n a1798 a1799) fun r1800 =>
  some (r1800.1, ()))
noncomputable def F21e (n : Nat) : Ent G := ⟨21, (.cons (.imm 0) (.cons (.int .i64) .nil)), [], .bool, [], fun x y => F21 n x.1 x.2.1⟩
theorem F21_eq (n : Nat) (x : ShL.den G (.cons (.imm 0) (.cons (.int .i64) .nil))) (y : denO G []) : (F21e n).F x y = runFn prog G (ro G (tabOf (E80 n)) (frOf []) _) Go.Proofs.Try.f21 .no [(0, .fz)] (ShL.enc G (.cons (.imm 0) (.cons (.int .i64) .nil)) x) (encO G [] y) (decR .bool []) := by kernel_rfl
theorem F21_ok (n : Nat) : EntOK prog G (F21e n) :=
  ent_ok (fr := frOf []) (ann := .no) (frm := [(0, .fz)]) laws fnok (E80_ok n).tab (e := F21e n) (fn := Go.Proofs.Try.f21) (by kernel_rfl) (AllF.ofB (cd := F21c) (l := []) (by kernel_rfl) (by kernel_rfl) AllF.nil) (F21_eq n)
noncomputable def E81 (n : Nat) : List (Ent G) := F21e n :: E80 n
theorem E81_ok (n : Nat) : AllE prog G (E81 n) := AllE.cons (F21_ok n) (E80_ok n)
-- 22 loop.example/slowworm/spec.HasAttr
noncomputable def F22c : Code := bodyOf Go.Proofs.Try.f22
noncomputable def F22_0x0 : SSh := ⟨18, [(4, .bool)], []⟩
noncomputable def F22_0x1 : SSh := ⟨18, [], []⟩
noncomputable def F22_0s : SSh := ⟨18, [(0, (.imm 3)), (3, (.ptr 0 0)), (5, (.int .i64))], [(.box 35 (.cons .str (.cons (.int .i64) (.cons (.int .i64) .nil))))]⟩
noncomputable def F22_0_step {R : Type} (n : Nat) (k0 : Bool → Option R) (k1 : Option R) (rec : List Atr → Int → ByteArray → Int → Int → Option R) (x1809 : List Atr) (x1810 : Int) (x1811 : ByteArray) (x1812 : Int) (x1813 : Int) : Option R :=
  (bif (decide (x1810 < ((x1809.length) : Int))) then
  (bif (decide ((0 : Int) ≤ x1810)) then
  (bif (decide (x1810 < ((x1809.length) : Int))) then
  let v1816 := (x1809.getD (x1810.toNat) (Atr.mk ({ data := #[] } : ByteArray) (0 : Int) (0 : Int)))
  (bif ((v1816.name == x1811) && ((v1816.kind == x1812) && (v1816.val == x1813))) then
  (k0 true)
  else (rec x1809 (IntKind.wrap .i64 (x1810 + (1 : Int))) x1811 x1812 x1813))
  else none)
  else none)
  else k1)
noncomputable def F22_0_it {R : Type} (n : Nat) (k0 : Bool → Option R) (k1 : Option R) : Nat → List Atr → Int → ByteArray → Int → Int → Option R
  | 0, _, _, _, _, _ => none
  | k + 1, x1809, x1810, x1811, x1812, x1813 => F22_0_step n k0 k1 (F22_0_it n k0 k1 k) x1809 x1810 x1811 x1812 x1813
noncomputable def F22_0 {R : Type} (n : Nat) (x1809 : List Atr) (x1810 : Int) (x1811 : ByteArray) (x1812 : Int) (x1813 : Int) (k0 : Bool → Option R) (k1 : Option R) : Option R := F22_0_it n k0 k1 n x1809 x1810 x1811 x1812 x1813
noncomputable def F22_0z (n : Nat) : Sm G := inZ G 0 ⟨[0, 3, 5], []⟩ F22_0s fun R x K => F22_0_it n (fun u0 => K .ret (SSh.enc G F22_0x0 ((u0, ()), ()))) (K (.exit 0) (SSh.enc G F22_0x1 ((), ()))) n x.1.1 x.1.2.2.1 x.2.1.1 x.2.1.2.1 x.2.1.2.2.1
theorem F22_0_eq (n : Nat) (R : Type) (rec : SSh.den G F22_0s → Option R) (x : SSh.den G F22_0s) (K : AE → St G → Option R) :
  F22_0_step n (fun u0 => K .ret (SSh.enc G F22_0x0 ((u0, ()), ()))) (K (.exit 0) (SSh.enc G F22_0x1 ((), ()))) (fun x1809 x1810 x1811 x1812 x1813 => rec ((x1809, ((), (x1810, ()))), ((x1811, (x1812, (x1813, ()))), ()))) x.1.1 x.1.2.2.1 x.2.1.1 x.2.1.2.1 x.2.1.2.2.1 = exec prog G (ro G (tabOf (E81 n)) (frOf []) R) 0 (codeAt F22c [1, 0, 1, 0, 0]) .no (SSh.enc G F22_0s x) (kLoop G (ro G (tabOf (E81 n)) (frOf []) R) 0 ⟨[0, 3, 5], []⟩ F22_0s ⟨⟨[], []⟩, ⟨[4], []⟩, [(0, ⟨[], []⟩)]⟩ rec K) := by kernel_rfl
theorem F22_0_ok (n : Nat) : FragOK prog G 0 (codeAt F22c [1, 0, 1, 0]) (F22_0z n) :=
  frag_loop (Z := fun R k (x : SSh.den G F22_0s) K => F22_0_it n (fun u0 => K .ret (SSh.enc G F22_0x0 ((u0, ()), ()))) (K (.exit 0) (SSh.enc G F22_0x1 ((), ()))) k x.1.1 x.1.2.2.1 x.2.1.1 x.2.1.2.1 x.2.1.2.2.1) laws fnok (E81_ok n).tab (AllF.of (l := []) (by kernel_rfl) AllF.nil) (fun _ _ _ => rfl) (fun R k y K => F22_0_eq n R (fun (x : SSh.den G F22_0s) => F22_0_it n (fun u0 => K .ret (SSh.enc G F22_0x0 ((u0, ()), ()))) (K (.exit 0) (SSh.enc G F22_0x1 ((), ()))) k x.1.1 x.1.2.2.1 x.2.1.1 x.2.1.2.1 x.2.1.2.2.1) y K) n
noncomputable def F22 (n : Nat) (a1805 : List Atr) (a1806 : ByteArray) (a1807 : Int) (a1808 : Int) : Option (Bool × Unit) :=
  (F22_0 n a1805 (0 : Int) a1806 a1807 a1808 (fun z1822 =>
  some (z1822, ())) (
  some (false, ())))
noncomputable def F22e (n : Nat) : Ent G := ⟨22, (.cons (.imm 3) (.cons (.agg (.cons .str (.cons (.int .i64) (.cons (.int .i64) .nil)))) .nil)), [], .bool, [], fun x y => F22 n x.1 x.2.1.1 x.2.1.2.1 x.2.1.2.2.1⟩
theorem F22_eq (n : Nat) (x : ShL.den G (.cons (.imm 3) (.cons (.agg (.cons .str (.cons (.int .i64) (.cons (.int .i64) .nil)))) .nil))) (y : denO G []) : (F22e n).F x y = runFn prog G (ro G (tabOf (E81 n)) (frOf [F22_0z n]) _) Go.Proofs.Try.f22 (.nd .no (.nd (.nd .no (.nd (.use 0) .no)) .no)) [(0, .fz)] (ShL.enc G (.cons (.imm 3) (.cons (.agg (.cons .str (.cons (.int .i64) (.cons (.int .i64) .nil)))) .nil)) x) (encO G [] y) (decR .bool []) := by kernel_rfl
theorem F22_ok (n : Nat) : EntOK prog G (F22e n) :=
  ent_ok (fr := frOf [F22_0z n]) (ann := (.nd .no (.nd (.nd .no (.nd (.use 0) .no)) .no))) (frm := [(0, .fz)]) laws fnok (E81_ok n).tab (e := F22e n) (fn := Go.Proofs.Try.f22) (by kernel_rfl) (AllF.ofB (cd := F22c) (l := [(0, codeAt F22c [1, 0, 1, 0])]) (by kernel_rfl) (by kernel_rfl) (AllF.cons (F22_0_ok n) AllF.nil)) (F22_eq n)
noncomputable def E82 (n : Nat) : List (Ent G) := F22e n :: E81 n
theorem E82_ok (n : Nat) : AllE prog G (E82 n) := AllE.cons (F22_ok n) (E81_ok n)
noncomputable def F5 (n : Nat) (a1506 : List Int) : Option (Bool × Unit) :=
  (bif (decide (((a1506.length) : Int) > (1048576 : Int))) then
  some (true, ())
  else (andThen (F16 n a1506) fun r1525 =>
  (andThen (F17 n r1525.1.1 r1525.1.2.1 r1525.1.2.2.1) fun r1582 =>
  (andThen (F18 n r1525.1.1 r1525.1.2.1 r1525.1.2.2.1) fun r1644 =>
  (bif ((r1582.1.1.1 == r1644.1.1.1) && ((r1582.1.1.2.1 == r1644.1.1.2.1) && (r1582.1.1.2.2.1 == r1644.1.1.2.2.1))) then
  (bif (r1582.1.2.1 == r1644.1.2.1) then
  let v1647 := (r1582.1.2.2.1 == r1644.1.2.2.1)
  (bif (!v1647) then
  some (v1647, ())
  else (bif (!r1582.1.2.2.1) then
  some (v1647, ())
  else (andThen (F20 n r1525.1.1) fun r1652 =>
  (andThen (F19 n r1652.1 r1525.1.2.1) fun r1739 =>
  (F5_1 n r1525.1.1 r1525.1.2.2.1 r1582.1.2.1 r1739.1.1 r1739.1.2.1 (0 : Int) r1582.1.1.1 r1582.1.1.2.1 r1582.1.1.2.2.1 (fun z1789 =>
  some (z1789, ())) (fun z1790 z1791 z1792 z1793 z1794 z1795 z1796 z1797 =>
  (bif z1794 then
  (andThen (F21 n z1793 z1792) fun r1801 =>
  (bif r1801.1 then
  (bif ((z1795.toList) == (z1791.toList)) then
  (bif (decide ((0 : Int) ≤ z1792)) then
  (bif (decide (z1792 < ((z1790.length) : Int))) then
  (andThen (F22 n (z1790.getD (z1792.toNat) (Cls.mk [] [])).attrs z1795 z1796 z1797) fun r1823 =>
  some (r1823.1, ()))
  else none)
  else none)
  else some (false, ()))
  else some (false, ())))
  else some (false, ()))))))))
  else some (false, ()))
  else some (false, ()))))))
noncomputable def F5e (n : Nat) : Ent G := ⟨5, (.cons (.imm 1) .nil), [], .bool, [], fun x y => F5 n x.1⟩
theorem F5_eq (n : Nat) (x : ShL.den G (.cons (.imm 1) .nil)) (y : denO G []) : (F5e n).F x y = runFn prog G (ro G (tabOf (E82 n)) (frOf [F5_0z n, F5_1z n]) _) Go.Proofs.Try.f5 (.nd .no (.nd .no (.nd .no (.nd .no (.nd .no (.nd .no (.nd .no (.nd .no (.nd (.nd .no (.nd (.use 1) .no)) .no))))))))) [(0, .fz)] (ShL.enc G (.cons (.imm 1) .nil) x) (encO G [] y) (decR .bool []) := by kernel_rfl
theorem F5_ok (n : Nat) : EntOK prog G (F5e n) :=
  ent_ok (fr := frOf [F5_0z n, F5_1z n]) (ann := (.nd .no (.nd .no (.nd .no (.nd .no (.nd .no (.nd .no (.nd .no (.nd .no (.nd (.nd .no (.nd (.use 1) .no)) .no)))))))))) (frm := [(0, .fz)]) laws fnok (E82_ok n).tab (e := F5e n) (fn := Go.Proofs.Try.f5) (by kernel_rfl) (AllF.ofB (cd := F5c) (l := [(1, codeAt F5c [1, 1, 1, 1, 1, 1, 1, 1, 0, 1, 0])]) (by kernel_rfl) (by kernel_rfl) (AllF.cons (F5_1_ok n) AllF.nil)) (F5_eq n)
noncomputable def E83 (n : Nat) : List (Ent G) := F5e n :: E82 n
theorem E83_ok (n : Nat) : AllE prog G (E83 n) := AllE.cons (F5_ok n) (E82_ok n)
-- 6 loop.example/slowworm/laws.FnAttrGet
noncomputable def F6c : Code := bodyOf Go.Proofs.Try.f6
-- 23 loop.example/slowworm/spec.DrawAttrGet
noncomputable def F23c : Code := bodyOf Go.Proofs.Try.f23
noncomputable def F23 (n : Nat) (a1827 : List Int) : Option ((List Cls × (Int × (List Atr × (ByteArray × Unit)))) × Unit) :=
  (andThen (F31 n a1827) fun r1828 =>
  (andThen (F32 n r1828.2.1.1 r1828.2.1.2.1) fun r1829 =>
  let v1830 := ((r1829.1.length) : Int)
  (andThen (F43 n (if (v1830 > (1 : Int)) then v1830 else (1 : Int)) r1829.2.1.1 r1829.2.1.2.1) fun r1832 =>
  (andThen (F42 n r1832.1 r1832.2.1.1 r1832.2.1.2.1) fun r1833 =>
  (andThen (F43 n (12 : Int) r1833.2.1.1 r1833.2.1.2.1) fun r1834 =>
  (andThen (F52 n (r1834.1 == (0 : Int)) r1834.2.1.1 r1834.2.1.2.1) fun r1836 =>
  (andThen (F44 n (({ data := #[97] } : ByteArray) :: (({ data := #[98] } : ByteArray) :: (({ data := #[99] } : ByteArray) :: (({ data := #[] } : ByteArray) :: [])))) r1836.2.1.1 r1836.2.1.2.1) fun r1838 =>
  some ((r1829.1, (r1833.1, (r1836.1, (r1838.1, ())))), ()))))))))
noncomputable def F23e (n : Nat) : Ent G := ⟨23, (.cons (.imm 1) .nil), [], (.tup (.cons (.imm 4) (.cons (.int .i64) (.cons (.imm 3) (.cons .str .nil))))), [], fun x y => F23 n x.1⟩
theorem F23_eq (n : Nat) (x : ShL.den G (.cons (.imm 1) .nil)) (y : denO G []) : (F23e n).F x y = runFn prog G (ro G (tabOf (E83 n)) (frOf []) _) Go.Proofs.Try.f23 .no [(0, .fz), (1, .fz), (2, .fz), (3, .fz)] (ShL.enc G (.cons (.imm 1) .nil) x) (encO G [] y) (decR (.tup (.cons (.imm 4) (.cons (.int .i64) (.cons (.imm 3) (.cons .str .nil))))) []) := by kernel_rfl
theorem F23_ok (n : Nat) : EntOK prog G (F23e n) :=
  ent_ok (fr := frOf []) (ann := .no) (frm := [(0, .fz), (1, .fz), (2, .fz), (3, .fz)]) laws fnok (E83_ok n).tab (e := F23e n) (fn := Go.Proofs.Try.f23) (by kernel_rfl) (AllF.ofB (cd := F23c) (l := []) (by kernel_rfl) (by kernel_rfl) AllF.nil) (F23_eq n)
noncomputable def E84 (n : Nat) : List (Ent G) := F23e n :: E83 n
theorem E84_ok (n : Nat) : AllE prog G (E84 n) := AllE.cons (F23_ok n) (E83_ok n)
-- 24 loop.example/slowworm/impl.AttrGet
noncomputable def F24c : Code := bodyOf Go.Proofs.Try.f24
noncomputable def F24 (n : Nat) (a1840 : List Cls) (a1841 : Int) (a1842 : List Atr) (a1843 : ByteArray) : Option (((Int × (Int × Unit)) × (Bool × Unit)) × Unit) :=
  (andThen (F11 n a1840) fun r1844 =>
  (bif (!r1844.1) then
  some ((((0 : Int), ((0 : Int), ())), (false, ())), ())
  else (andThen (F37 n a1842 true) fun r1846 =>
  (bif (!r1846.1) then
  some ((((0 : Int), ((0 : Int), ())), (false, ())), ())
  else (bif (decide (a1841 < (0 : Int))) then
  some ((((0 : Int), ((0 : Int), ())), (false, ())), ())
  else (bif (decide (a1841 ≥ ((a1840.length) : Int))) then
  some ((((0 : Int), ((0 : Int), ())), (false, ())), ())
  else (andThen (F17 n a1840 a1841 a1843) fun r1851 =>
  (bif r1851.1.2.2.1 then
  (bif (r1851.1.1.2.1 == (3 : Int)) then
  some ((((3 : Int), (r1851.1.1.2.2.1, ())), (true, ())), ())
  else (andThen (F46 n a1842 a1843) fun r1853 =>
  (bif r1853.1.2.1 then
  some ((((1 : Int), (r1853.1.1.2.2.1, ())), (true, ())), ())
  else (bif (!r1851.1.2.2.1) then
  some ((((0 : Int), ((0 : Int), ())), (false, ())), ())
  else (bif (r1851.1.1.2.1 == (2 : Int)) then
  some ((((2 : Int), (r1851.1.1.2.2.1, ())), (true, ())), ())
  else some ((((4 : Int), (r1851.1.1.2.2.1, ())), (true, ())), ()))))))
  else (andThen (F46 n a1842 a1843) fun r1856 =>
  (bif r1856.1.2.1 then
  some ((((1 : Int), (r1856.1.1.2.2.1, ())), (true, ())), ())
  else (bif (!r1851.1.2.2.1) then
  some ((((0 : Int), ((0 : Int), ())), (false, ())), ())
  else (bif (r1851.1.1.2.1 == (2 : Int)) then
  some ((((2 : Int), (r1851.1.1.2.2.1, ())), (true, ())), ())
  else some ((((4 : Int), (r1851.1.1.2.2.1, ())), (true, ())), ())))))))))))))
noncomputable def F24e (n : Nat) : Ent G := ⟨24, (.cons (.imm 4) (.cons (.int .i64) (.cons (.imm 3) (.cons .str .nil)))), [], (.tup (.cons (.agg (.cons (.int .i64) (.cons (.int .i64) .nil))) (.cons .bool .nil))), [], fun x y => F24 n x.1 x.2.1 x.2.2.1 x.2.2.2.1⟩
theorem F24_eq (n : Nat) (x : ShL.den G (.cons (.imm 4) (.cons (.int .i64) (.cons (.imm 3) (.cons .str .nil))))) (y : denO G []) : (F24e n).F x y = runFn prog G (ro G (tabOf (E84 n)) (frOf []) _) Go.Proofs.Try.f24 .no [(0, .fz), (1, .fz)] (ShL.enc G (.cons (.imm 4) (.cons (.int .i64) (.cons (.imm 3) (.cons .str .nil)))) x) (encO G [] y) (decR (.tup (.cons (.agg (.cons (.int .i64) (.cons (.int .i64) .nil))) (.cons .bool .nil))) []) := by kernel_rfl
theorem F24_ok (n : Nat) : EntOK prog G (F24e n) :=
  ent_ok (fr := frOf []) (ann := .no) (frm := [(0, .fz), (1, .fz)]) laws fnok (E84_ok n).tab (e := F24e n) (fn := Go.Proofs.Try.f24) (by kernel_rfl) (AllF.ofB (cd := F24c) (l := []) (by kernel_rfl) (by kernel_rfl) AllF.nil) (F24_eq n)
noncomputable def E85 (n : Nat) : List (Ent G) := F24e n :: E84 n
theorem E85_ok (n : Nat) : AllE prog G (E85 n) := AllE.cons (F24_ok n) (E84_ok n)
-- 25 loop.example/slowworm/spec.AttrGet
noncomputable def F25c : Code := bodyOf Go.Proofs.Try.f25
-- 53 loop.example/slowworm/spec.plainAttrs
noncomputable def F53c : Code := bodyOf Go.Proofs.Try.f53
noncomputable def F53_0x0 : SSh := ⟨18, [(2, .bool)], []⟩
noncomputable def F53_0x1 : SSh := ⟨18, [(0, (.imm 3))], []⟩
noncomputable def F53_0s : SSh := ⟨18, [(0, (.imm 3)), (3, (.int .i64))], []⟩
noncomputable def F53_0_step {R : Type} (n : Nat) (k0 : Bool → Option R) (k1 : List Atr → Option R) (rec : List Atr → Int → Option R) (x1871 : List Atr) (x1872 : Int) : Option R :=
  (bif (decide (x1872 < ((x1871.length) : Int))) then
  (bif (decide ((0 : Int) ≤ x1872)) then
  (bif (decide (x1872 < ((x1871.length) : Int))) then
  (bif ((x1871.getD (x1872.toNat) (Atr.mk ({ data := #[] } : ByteArray) (0 : Int) (0 : Int))).kind != (1 : Int)) then
  (k0 false)
  else (rec x1871 (IntKind.wrap .i64 (x1872 + (1 : Int)))))
  else none)
  else none)
  else (k1 x1871))
noncomputable def F53_0_it {R : Type} (n : Nat) (k0 : Bool → Option R) (k1 : List Atr → Option R) : Nat → List Atr → Int → Option R
  | 0, _, _ => none
  | k + 1, x1871, x1872 => F53_0_step n k0 k1 (F53_0_it n k0 k1 k) x1871 x1872
noncomputable def F53_0 {R : Type} (n : Nat) (x1871 : List Atr) (x1872 : Int) (k0 : Bool → Option R) (k1 : List Atr → Option R) : Option R := F53_0_it n k0 k1 n x1871 x1872
noncomputable def F53_0z (n : Nat) : Sm G := inZ G 0 ⟨[0, 3], []⟩ F53_0s fun R x K => F53_0_it n (fun u0 => K .ret (SSh.enc G F53_0x0 ((u0, ()), ()))) (fun u0 => K (.exit 0) (SSh.enc G F53_0x1 ((u0, ()), ()))) n x.1.1 x.1.2.1
theorem F53_0_eq (n : Nat) (R : Type) (rec : SSh.den G F53_0s → Option R) (x : SSh.den G F53_0s) (K : AE → St G → Option R) :
  F53_0_step n (fun u0 => K .ret (SSh.enc G F53_0x0 ((u0, ()), ()))) (fun u0 => K (.exit 0) (SSh.enc G F53_0x1 ((u0, ()), ()))) (fun x1871 x1872 => rec ((x1871, (x1872, ())), ())) x.1.1 x.1.2.1 = exec prog G (ro G (tabOf (E85 n)) (frOf []) R) 0 (codeAt F53c [1, 0, 1, 0, 0]) .no (SSh.enc G F53_0s x) (kLoop G (ro G (tabOf (E85 n)) (frOf []) R) 0 ⟨[0, 3], []⟩ F53_0s ⟨⟨[0], []⟩, ⟨[2], []⟩, [(0, ⟨[0], []⟩)]⟩ rec K) := by kernel_rfl
theorem F53_0_ok (n : Nat) : FragOK prog G 0 (codeAt F53c [1, 0, 1, 0]) (F53_0z n) :=
  frag_loop (Z := fun R k (x : SSh.den G F53_0s) K => F53_0_it n (fun u0 => K .ret (SSh.enc G F53_0x0 ((u0, ()), ()))) (fun u0 => K (.exit 0) (SSh.enc G F53_0x1 ((u0, ()), ()))) k x.1.1 x.1.2.1) laws fnok (E85_ok n).tab (AllF.of (l := []) (by kernel_rfl) AllF.nil) (fun _ _ _ => rfl) (fun R k y K => F53_0_eq n R (fun (x : SSh.den G F53_0s) => F53_0_it n (fun u0 => K .ret (SSh.enc G F53_0x0 ((u0, ()), ()))) (fun u0 => K (.exit 0) (SSh.enc G F53_0x1 ((u0, ()), ()))) k x.1.1 x.1.2.1) y K) n
noncomputable def F53 (n : Nat) (a1870 : List Atr) : Option (Bool × Unit) :=
  (F53_0 n a1870 (0 : Int) (fun z1879 =>
  some (z1879, ())) (fun z1880 =>
  (andThen (F64 n z1880) fun r1881 =>
  some (r1881.1, ()))))
noncomputable def F53e (n : Nat) : Ent G := ⟨53, (.cons (.imm 3) .nil), [], .bool, [], fun x y => F53 n x.1⟩
theorem F53_eq (n : Nat) (x : ShL.den G (.cons (.imm 3) .nil)) (y : denO G []) : (F53e n).F x y = runFn prog G (ro G (tabOf (E85 n)) (frOf [F53_0z n]) _) Go.Proofs.Try.f53 (.nd .no (.nd (.nd .no (.nd (.use 0) .no)) .no)) [(0, .fz)] (ShL.enc G (.cons (.imm 3) .nil) x) (encO G [] y) (decR .bool []) := by kernel_rfl
theorem F53_ok (n : Nat) : EntOK prog G (F53e n) :=
  ent_ok (fr := frOf [F53_0z n]) (ann := (.nd .no (.nd (.nd .no (.nd (.use 0) .no)) .no))) (frm := [(0, .fz)]) laws fnok (E85_ok n).tab (e := F53e n) (fn := Go.Proofs.Try.f53) (by kernel_rfl) (AllF.ofB (cd := F53c) (l := [(0, codeAt F53c [1, 0, 1, 0])]) (by kernel_rfl) (by kernel_rfl) (AllF.cons (F53_0_ok n) AllF.nil)) (F53_eq n)
noncomputable def E86 (n : Nat) : List (Ent G) := F53e n :: E85 n
theorem E86_ok (n : Nat) : AllE prog G (E86 n) := AllE.cons (F53_ok n) (E85_ok n)
noncomputable def F25 (n : Nat) (a1860 : List Cls) (a1861 : Int) (a1862 : List Atr) (a1863 : ByteArray) : Option (((Int × (Int × Unit)) × (Bool × Unit)) × Unit) :=
  (andThen (F38 n a1860) fun r1864 =>
  (bif (!r1864.1) then
  some ((((0 : Int), ((0 : Int), ())), (false, ())), ())
  else (andThen (F47 n a1861 (0 : Int) (IntKind.wrap .i64 (((a1860.length) : Int) - (1 : Int)))) fun r1868 =>
  (bif (!r1868.1) then
  some ((((0 : Int), ((0 : Int), ())), (false, ())), ())
  else (andThen (F53 n a1862) fun r1882 =>
  (bif (!r1882.1) then
  some ((((0 : Int), ((0 : Int), ())), (false, ())), ())
  else (andThen (F48 n a1860 a1861 a1863) fun r1884 =>
  (andThen (F54 n a1862 a1863) fun r1885 =>
  (bif (decide (r1884.1.2.1 ≥ (0 : Int))) then
  (bif (r1884.1.1.2.1 == (3 : Int)) then
  some ((((3 : Int), (r1884.1.1.2.2.1, ())), (true, ())), ())
  else (bif (decide (r1885.1 ≥ (0 : Int))) then
  (bif (decide ((0 : Int) ≤ r1885.1)) then
  (bif (decide (r1885.1 < ((a1862.length) : Int))) then
  some ((((1 : Int), ((a1862.getD (r1885.1.toNat) (Atr.mk ({ data := #[] } : ByteArray) (0 : Int) (0 : Int))).val, ())), (true, ())), ())
  else none)
  else none)
  else (bif (decide (r1884.1.2.1 ≥ (0 : Int))) then
  (bif (r1884.1.1.2.1 == (2 : Int)) then
  some ((((2 : Int), (r1884.1.1.2.2.1, ())), (true, ())), ())
  else (bif (decide (r1884.1.2.1 ≥ (0 : Int))) then
  some ((((4 : Int), (r1884.1.1.2.2.1, ())), (true, ())), ())
  else some ((((0 : Int), ((0 : Int), ())), (false, ())), ())))
  else (bif (decide (r1884.1.2.1 ≥ (0 : Int))) then
  some ((((4 : Int), (r1884.1.1.2.2.1, ())), (true, ())), ())
  else some ((((0 : Int), ((0 : Int), ())), (false, ())), ())))))
  else (bif (decide (r1885.1 ≥ (0 : Int))) then
  (bif (decide ((0 : Int) ≤ r1885.1)) then
  (bif (decide (r1885.1 < ((a1862.length) : Int))) then
  some ((((1 : Int), ((a1862.getD (r1885.1.toNat) (Atr.mk ({ data := #[] } : ByteArray) (0 : Int) (0 : Int))).val, ())), (true, ())), ())
  else none)
  else none)
  else (bif (decide (r1884.1.2.1 ≥ (0 : Int))) then
  (bif (r1884.1.1.2.1 == (2 : Int)) then
  some ((((2 : Int), (r1884.1.1.2.2.1, ())), (true, ())), ())
  else (bif (decide (r1884.1.2.1 ≥ (0 : Int))) then
  some ((((4 : Int), (r1884.1.1.2.2.1, ())), (true, ())), ())
  else some ((((0 : Int), ((0 : Int), ())), (false, ())), ())))
  else (bif (decide (r1884.1.2.1 ≥ (0 : Int))) then
  some ((((4 : Int), (r1884.1.1.2.2.1, ())), (true, ())), ())
  else some ((((0 : Int), ((0 : Int), ())), (false, ())), ())))))))))))))
noncomputable def F25e (n : Nat) : Ent G := ⟨25, (.cons (.imm 4) (.cons (.int .i64) (.cons (.imm 3) (.cons .str .nil)))), [], (.tup (.cons (.agg (.cons (.int .i64) (.cons (.int .i64) .nil))) (.cons .bool .nil))), [], fun x y => F25 n x.1 x.2.1 x.2.2.1 x.2.2.2.1⟩
theorem F25_eq (n : Nat) (x : ShL.den G (.cons (.imm 4) (.cons (.int .i64) (.cons (.imm 3) (.cons .str .nil))))) (y : denO G []) : (F25e n).F x y = runFn prog G (ro G (tabOf (E86 n)) (frOf []) _) Go.Proofs.Try.f25 .no [(0, .fz), (1, .fz)] (ShL.enc G (.cons (.imm 4) (.cons (.int .i64) (.cons (.imm 3) (.cons .str .nil)))) x) (encO G [] y) (decR (.tup (.cons (.agg (.cons (.int .i64) (.cons (.int .i64) .nil))) (.cons .bool .nil))) []) := by kernel_rfl
theorem F25_ok (n : Nat) : EntOK prog G (F25e n) :=
  ent_ok (fr := frOf []) (ann := .no) (frm := [(0, .fz), (1, .fz)]) laws fnok (E86_ok n).tab (e := F25e n) (fn := Go.Proofs.Try.f25) (by kernel_rfl) (AllF.ofB (cd := F25c) (l := []) (by kernel_rfl) (by kernel_rfl) AllF.nil) (F25_eq n)
noncomputable def E87 (n : Nat) : List (Ent G) := F25e n :: E86 n
theorem E87_ok (n : Nat) : AllE prog G (E87 n) := AllE.cons (F25_ok n) (E86_ok n)
-- 57 slices.Clone[[]loop.example/slowworm/impl.Attr,loop.example/slowworm/impl.Attr]
noncomputable def F57c : Code := bodyOf Go.Proofs.Try.f57
noncomputable def F57 (n : Nat) (a1923 : List Atr) : Option (Unit × (List Atr × Unit)) :=
  (bif (decide ((a1923.length) ≤ (0 : Nat))) then
  (both
  (some ((), ([], ())))
  (let v1925 := []
  (bif (decide (((v1925.length) + (a1923.length)) ≤ (68719476736 : Nat))) then
  some ((), ((v1925 ++ a1923), ()))
  else none)))
  else let v1927 := []
  (bif (decide (((v1927.length) + (a1923.length)) ≤ (68719476736 : Nat))) then
  some ((), ((v1927 ++ a1923), ()))
  else none))
noncomputable def F57e (n : Nat) : Ent G := ⟨57, (.cons (.imm 3) .nil), [], (.own 0), [(.arr 3 true)], fun x y => F57 n x.1⟩
theorem F57_eq (n : Nat) (x : ShL.den G (.cons (.imm 3) .nil)) (y : denO G []) : (F57e n).F x y = runFn prog G (ro G (tabOf (E87 n)) (frOf []) _) Go.Proofs.Try.f57 .no [(0, (.own 3))] (ShL.enc G (.cons (.imm 3) .nil) x) (encO G [] y) (decR (.own 0) [(.arr 3 true)]) := by kernel_rfl
theorem F57_ok (n : Nat) : EntOK prog G (F57e n) :=
  ent_ok (fr := frOf []) (ann := .no) (frm := [(0, (.own 3))]) laws fnok (E87_ok n).tab (e := F57e n) (fn := Go.Proofs.Try.f57) (by kernel_rfl) (AllF.ofB (cd := F57c) (l := []) (by kernel_rfl) (by kernel_rfl) AllF.nil) (F57_eq n)
noncomputable def E88 (n : Nat) : List (Ent G) := F57e n :: E87 n
theorem E88_ok (n : Nat) : AllE prog G (E88 n) := AllE.cons (F57_ok n) (E87_ok n)
-- 26 loop.example/slowworm/impl.AttrSet
noncomputable def F26c : Code := bodyOf Go.Proofs.Try.f26
noncomputable def F26_0x0 : SSh := ⟨90, [(10, (.own 0)), (11, .bool)], [(.arr 3 true)]⟩
noncomputable def F26_0x1 : SSh := ⟨90, [(3, .str), (4, (.int .i64)), (12, (.own 0))], [(.arr 3 true)]⟩
noncomputable def F26_0s : SSh := ⟨90, [(3, .str), (4, (.int .i64)), (12, (.own 0)), (63, (.int .i64)), (64, (.int .i64))], [(.arr 3 true)]⟩
noncomputable def F26_0_step {R : Type} (n : Nat) (k0 : Bool → List Atr → Option R) (k1 : ByteArray → Int → List Atr → Option R) (rec : ByteArray → Int → Int → Int → List Atr → Option R) (x1952 : ByteArray) (x1953 : Int) (x1954 : Int) (x1955 : Int) (x1956 : List Atr) : Option R :=
  (bif (decide (x1955 < x1954)) then
  (bif (decide ((0 : Int) ≤ x1955)) then
  (bif (decide (x1955 < ((x1956.length) : Int))) then
  (bif (((x1956.getD (x1955.toNat) (Atr.mk ({ data := #[] } : ByteArray) (0 : Int) (0 : Int))).name.toList) == (x1952.toList)) then
  (bif (decide ((0 : Int) ≤ x1955)) then
  (bif (decide (x1955 < ((x1956.length) : Int))) then
  let v1961 := (x1955.toNat)
  (k0 true (x1956.set v1961 (Atr.mk (x1956.getD v1961 (Atr.mk ({ data := #[] } : ByteArray) (0 : Int) (0 : Int))).name (x1956.getD v1961 (Atr.mk ({ data := #[] } : ByteArray) (0 : Int) (0 : Int))).kind x1953)))
  else none)
  else none)
  else (rec x1952 x1953 x1954 (IntKind.wrap .i64 (x1955 + (1 : Int))) x1956))
  else none)
  else none)
  else (k1 x1952 x1953 x1956))
noncomputable def F26_0_it {R : Type} (n : Nat) (k0 : Bool → List Atr → Option R) (k1 : ByteArray → Int → List Atr → Option R) : Nat → ByteArray → Int → Int → Int → List Atr → Option R
  | 0, _, _, _, _, _ => none
  | k + 1, x1952, x1953, x1954, x1955, x1956 => F26_0_step n k0 k1 (F26_0_it n k0 k1 k) x1952 x1953 x1954 x1955 x1956
noncomputable def F26_0 {R : Type} (n : Nat) (x1952 : ByteArray) (x1953 : Int) (x1954 : Int) (x1955 : Int) (x1956 : List Atr) (k0 : Bool → List Atr → Option R) (k1 : ByteArray → Int → List Atr → Option R) : Option R := F26_0_it n k0 k1 n x1952 x1953 x1954 x1955 x1956
noncomputable def F26_0z (n : Nat) : Sm G := inZ G 0 ⟨[3, 4, 12, 63, 64], []⟩ F26_0s fun R x K => F26_0_it n (fun u0 u1 => K .ret (SSh.enc G F26_0x0 (((), (u0, ())), (u1, ())))) (fun u0 u1 u2 => K (.exit 0) (SSh.enc G F26_0x1 ((u0, (u1, ((), ()))), (u2, ())))) n x.1.1 x.1.2.1 x.1.2.2.2.1 x.1.2.2.2.2.1 x.2.1
theorem F26_0_eq (n : Nat) (R : Type) (rec : SSh.den G F26_0s → Option R) (x : SSh.den G F26_0s) (K : AE → St G → Option R) :
  F26_0_step n (fun u0 u1 => K .ret (SSh.enc G F26_0x0 (((), (u0, ())), (u1, ())))) (fun u0 u1 u2 => K (.exit 0) (SSh.enc G F26_0x1 ((u0, (u1, ((), ()))), (u2, ())))) (fun x1952 x1953 x1954 x1955 x1956 => rec ((x1952, (x1953, ((), (x1954, (x1955, ()))))), (x1956, ()))) x.1.1 x.1.2.1 x.1.2.2.2.1 x.1.2.2.2.2.1 x.2.1 = exec prog G (ro G (tabOf (E88 n)) (frOf []) R) 0 (codeAt F26c [1, 1, 1, 1, 0, 1, 0, 0]) .no (SSh.enc G F26_0s x) (kLoop G (ro G (tabOf (E88 n)) (frOf []) R) 0 ⟨[3, 4, 12, 63, 64], []⟩ F26_0s ⟨⟨[3, 4, 12], []⟩, ⟨[10, 11], []⟩, [(0, ⟨[3, 4, 12], []⟩)]⟩ rec K) := by kernel_rfl
theorem F26_0_ok (n : Nat) : FragOK prog G 0 (codeAt F26c [1, 1, 1, 1, 0, 1, 0]) (F26_0z n) :=
  frag_loop (Z := fun R k (x : SSh.den G F26_0s) K => F26_0_it n (fun u0 u1 => K .ret (SSh.enc G F26_0x0 (((), (u0, ())), (u1, ())))) (fun u0 u1 u2 => K (.exit 0) (SSh.enc G F26_0x1 ((u0, (u1, ((), ()))), (u2, ())))) k x.1.1 x.1.2.1 x.1.2.2.2.1 x.1.2.2.2.2.1 x.2.1) laws fnok (E88_ok n).tab (AllF.of (l := []) (by kernel_rfl) AllF.nil) (fun _ _ _ => rfl) (fun R k y K => F26_0_eq n R (fun (x : SSh.den G F26_0s) => F26_0_it n (fun u0 u1 => K .ret (SSh.enc G F26_0x0 (((), (u0, ())), (u1, ())))) (fun u0 u1 u2 => K (.exit 0) (SSh.enc G F26_0x1 ((u0, (u1, ((), ()))), (u2, ())))) k x.1.1 x.1.2.1 x.1.2.2.2.1 x.1.2.2.2.2.1 x.2.1) y K) n
noncomputable def F26 (n : Nat) (a1932 : List Cls) (a1933 : Int) (a1934 : List Atr) (a1935 : ByteArray) (a1936 : Int) : Option ((List Atr × (Bool × Unit)) × Unit) :=
  (andThen (F11 n a1932) fun r1937 =>
  (bif (!r1937.1) then
  some (([], (false, ())), ())
  else (andThen (F37 n a1934 true) fun r1939 =>
  (bif (!r1939.1) then
  some (([], (false, ())), ())
  else (bif (decide (a1933 < (0 : Int))) then
  some (([], (false, ())), ())
  else (bif (decide (a1933 ≥ ((a1932.length) : Int))) then
  some (([], (false, ())), ())
  else (andThen (F55 n a1935) fun r1944 =>
  (bif (!r1944.1) then
  some (([], (false, ())), ())
  else (andThen (F56 n a1936 (-1000000 : Int) (1000000 : Int)) fun r1946 =>
  (bif (!r1946.1) then
  some (([], (false, ())), ())
  else (andThen (F57 n a1934) fun r1948 =>
  (andThen (F17 n a1932 a1933 a1935) fun r1949 =>
  (bif r1949.1.2.2.1 then
  (bif (r1949.1.1.2.1 == (3 : Int)) then
  some ((r1948.2.1, (true, ())), ())
  else (F26_0 n a1935 a1936 ((r1948.2.1.length) : Int) (0 : Int) r1948.2.1 (fun z1964 z1965 =>
  some ((z1965, (z1964, ())), ())) (fun z1966 z1967 z1968 =>
  (bif (((z1968.length) : Int) == (60 : Int)) then
  some (([], (false, ())), ())
  else let v1971 := ((Atr.mk z1966 (1 : Int) z1967) :: [])
  (bif (decide (((z1968.length) + (v1971.length)) ≤ (68719476736 : Nat))) then
  some (((z1968 ++ v1971), (true, ())), ())
  else none)))))
  else (F26_0 n a1935 a1936 ((r1948.2.1.length) : Int) (0 : Int) r1948.2.1 (fun z1974 z1975 =>
  some ((z1975, (z1974, ())), ())) (fun z1976 z1977 z1978 =>
  (bif (((z1978.length) : Int) == (60 : Int)) then
  some (([], (false, ())), ())
  else let v1981 := ((Atr.mk z1976 (1 : Int) z1977) :: [])
  (bif (decide (((z1978.length) + (v1981.length)) ≤ (68719476736 : Nat))) then
  some (((z1978 ++ v1981), (true, ())), ())
  else none)))))))))))))))))
noncomputable def F26e (n : Nat) : Ent G := ⟨26, (.cons (.imm 4) (.cons (.int .i64) (.cons (.imm 3) (.cons .str (.cons (.int .i64) .nil))))), [], (.tup (.cons (.imm 3) (.cons .bool .nil))), [], fun x y => F26 n x.1 x.2.1 x.2.2.1 x.2.2.2.1 x.2.2.2.2.1⟩
theorem F26_eq (n : Nat) (x : ShL.den G (.cons (.imm 4) (.cons (.int .i64) (.cons (.imm 3) (.cons .str (.cons (.int .i64) .nil)))))) (y : denO G []) : (F26e n).F x y = runFn prog G (ro G (tabOf (E88 n)) (frOf [F26_0z n]) _) Go.Proofs.Try.f26 (.nd .no (.nd .no (.nd .no (.nd .no (.nd (.nd .no (.nd (.use 0) .no)) .no))))) [(0, .fz), (1, .fz)] (ShL.enc G (.cons (.imm 4) (.cons (.int .i64) (.cons (.imm 3) (.cons .str (.cons (.int .i64) .nil))))) x) (encO G [] y) (decR (.tup (.cons (.imm 3) (.cons .bool .nil))) []) := by kernel_rfl
theorem F26_ok (n : Nat) : EntOK prog G (F26e n) :=
  ent_ok (fr := frOf [F26_0z n]) (ann := (.nd .no (.nd .no (.nd .no (.nd .no (.nd (.nd .no (.nd (.use 0) .no)) .no)))))) (frm := [(0, .fz), (1, .fz)]) laws fnok (E88_ok n).tab (e := F26e n) (fn := Go.Proofs.Try.f26) (by kernel_rfl) (AllF.ofB (cd := F26c) (l := [(0, codeAt F26c [1, 1, 1, 1, 0, 1, 0])]) (by kernel_rfl) (by kernel_rfl) (AllF.cons (F26_0_ok n) AllF.nil)) (F26_eq n)
noncomputable def E89 (n : Nat) : List (Ent G) := F26e n :: E88 n
theorem E89_ok (n : Nat) : AllE prog G (E89 n) := AllE.cons (F26_ok n) (E88_ok n)
noncomputable def F6 (n : Nat) (a1824 : List Int) : Option (Bool × Unit) :=
  (bif (decide (((a1824.length) : Int) > (1048576 : Int))) then
  some (true, ())
  else (andThen (F23 n a1824) fun r1839 =>
  (andThen (F24 n r1839.1.1 r1839.1.2.1 r1839.1.2.2.1 r1839.1.2.2.2.1) fun r1859 =>
  (andThen (F25 n r1839.1.1 r1839.1.2.1 r1839.1.2.2.1 r1839.1.2.2.2.1) fun r1902 =>
  (bif ((r1859.1.1.1 == r1902.1.1.1) && (r1859.1.1.2.1 == r1902.1.1.2.1)) then
  let v1904 := (r1859.1.2.1 == r1902.1.2.1)
  (bif (!v1904) then
  some (v1904, ())
  else (bif (!r1859.1.2.1) then
  some (v1904, ())
  else (andThen (F26 n r1839.1.1 r1839.1.2.1 r1839.1.2.2.1 r1839.1.2.2.2.1 (7 : Int)) fun r1983 =>
  (andThen (F24 n r1839.1.1 r1839.1.2.1 r1983.1.1 r1839.1.2.2.2.1) fun r1984 =>
  (bif (decide (r1859.1.1.1 ≥ (1 : Int))) then
  (bif (decide (r1859.1.1.1 ≤ (4 : Int))) then
  (bif (!r1983.1.2.1) then
  some (true, ())
  else (bif r1984.1.2.1 then
  (bif (r1859.1.1.1 == (3 : Int)) then
  (bif ((r1984.1.1.1 == r1859.1.1.1) && (r1984.1.1.2.1 == r1859.1.1.2.1)) then
  some (true, ())
  else some (((r1984.1.1.1 == (1 : Int)) && (r1984.1.1.2.1 == (7 : Int))), ()))
  else some (((r1984.1.1.1 == (1 : Int)) && (r1984.1.1.2.1 == (7 : Int))), ()))
  else some (false, ())))
  else some (false, ()))
  else some (false, ()))))))
  else some (false, ()))))))
noncomputable def F6e (n : Nat) : Ent G := ⟨6, (.cons (.imm 1) .nil), [], .bool, [], fun x y => F6 n x.1⟩
theorem F6_eq (n : Nat) (x : ShL.den G (.cons (.imm 1) .nil)) (y : denO G []) : (F6e n).F x y = runFn prog G (ro G (tabOf (E89 n)) (frOf []) _) Go.Proofs.Try.f6 .no [(0, .fz)] (ShL.enc G (.cons (.imm 1) .nil) x) (encO G [] y) (decR .bool []) := by kernel_rfl
theorem F6_ok (n : Nat) : EntOK prog G (F6e n) :=
  ent_ok (fr := frOf []) (ann := .no) (frm := [(0, .fz)]) laws fnok (E89_ok n).tab (e := F6e n) (fn := Go.Proofs.Try.f6) (by kernel_rfl) (AllF.ofB (cd := F6c) (l := []) (by kernel_rfl) (by kernel_rfl) AllF.nil) (F6_eq n)
noncomputable def E90 (n : Nat) : List (Ent G) := F6e n :: E89 n
theorem E90_ok (n : Nat) : AllE prog G (E90 n) := AllE.cons (F6_ok n) (E89_ok n)
-- 7 loop.example/slowworm/laws.FnAttrOwn
noncomputable def F7c : Code := bodyOf Go.Proofs.Try.f7
-- 27 loop.example/slowworm/spec.DrawAttrSet
noncomputable def F27c : Code := bodyOf Go.Proofs.Try.f27
noncomputable def F27 (n : Nat) (a1995 : List Int) : Option ((List Cls × (Int × (List Atr × (ByteArray × (Int × Unit))))) × Unit) :=
  (andThen (F31 n a1995) fun r1996 =>
  (andThen (F32 n r1996.2.1.1 r1996.2.1.2.1) fun r1997 =>
  let v1998 := ((r1997.1.length) : Int)
  (andThen (F43 n (if (v1998 > (1 : Int)) then v1998 else (1 : Int)) r1997.2.1.1 r1997.2.1.2.1) fun r2000 =>
  (andThen (F42 n r2000.1 r2000.2.1.1 r2000.2.1.2.1) fun r2001 =>
  (andThen (F43 n (12 : Int) r2001.2.1.1 r2001.2.1.2.1) fun r2002 =>
  (andThen (F52 n (r2002.1 == (0 : Int)) r2002.2.1.1 r2002.2.1.2.1) fun r2004 =>
  (andThen (F44 n (({ data := #[97] } : ByteArray) :: (({ data := #[98] } : ByteArray) :: (({ data := #[99] } : ByteArray) :: (({ data := #[100] } : ByteArray) :: (({ data := #[] } : ByteArray) :: []))))) r2004.2.1.1 r2004.2.1.2.1) fun r2006 =>
  (andThen (F43 n (30 : Int) r2006.2.1.1 r2006.2.1.2.1) fun r2007 =>
  (andThen (F42 n r2007.1 r2007.2.1.1 r2007.2.1.2.1) fun r2008 =>
  some ((r1997.1, (r2001.1, (r2004.1, (r2006.1, (r2008.1, ()))))), ()))))))))))
noncomputable def F27e (n : Nat) : Ent G := ⟨27, (.cons (.imm 1) .nil), [], (.tup (.cons (.imm 4) (.cons (.int .i64) (.cons (.imm 3) (.cons .str (.cons (.int .i64) .nil)))))), [], fun x y => F27 n x.1⟩
theorem F27_eq (n : Nat) (x : ShL.den G (.cons (.imm 1) .nil)) (y : denO G []) : (F27e n).F x y = runFn prog G (ro G (tabOf (E90 n)) (frOf []) _) Go.Proofs.Try.f27 .no [(0, .fz), (1, .fz), (2, .fz), (3, .fz), (4, .fz)] (ShL.enc G (.cons (.imm 1) .nil) x) (encO G [] y) (decR (.tup (.cons (.imm 4) (.cons (.int .i64) (.cons (.imm 3) (.cons .str (.cons (.int .i64) .nil)))))) []) := by kernel_rfl
theorem F27_ok (n : Nat) : EntOK prog G (F27e n) :=
  ent_ok (fr := frOf []) (ann := .no) (frm := [(0, .fz), (1, .fz), (2, .fz), (3, .fz), (4, .fz)]) laws fnok (E90_ok n).tab (e := F27e n) (fn := Go.Proofs.Try.f27) (by kernel_rfl) (AllF.ofB (cd := F27c) (l := []) (by kernel_rfl) (by kernel_rfl) AllF.nil) (F27_eq n)
noncomputable def E91 (n : Nat) : List (Ent G) := F27e n :: E90 n
theorem E91_ok (n : Nat) : AllE prog G (E91 n) := AllE.cons (F27_ok n) (E90_ok n)
-- 28 loop.example/slowworm/spec.AttrSet
noncomputable def F28c : Code := bodyOf Go.Proofs.Try.f28
noncomputable def F28_0x0 : SSh := ⟨82, [(12, (.own 0))], [(.arr 3 true)]⟩
noncomputable def F28_0x1 : SSh := ⟨82, [(10, .nil0), (11, .bool)], []⟩
noncomputable def F28_0s : SSh := ⟨82, [(3, .str), (4, (.int .i64)), (12, (.own 0)), (13, (.ptr 1 0)), (14, (.int .i64)), (15, (.int .i64))], [(.arr 3 true), (.box 35 (.cons .str (.cons (.int .i64) (.cons (.int .i64) .nil))))]⟩
noncomputable def F28_0 {R : Type} (n : Nat) (x2078 : ByteArray) (x2079 : Int) (x2080 : Int) (x2081 : Int) (x2082 : List Atr) (x2083 : ByteArray) (x2084 : Int) (x2085 : Int) (k0 : List Atr → Option R) (k1 : Bool → Option R) : Option R :=
  (bif (decide (x2080 ≥ (0 : Int))) then
  (bif (x2084 == (3 : Int)) then
  (k0 x2082)
  else (bif (decide (x2081 ≥ (0 : Int))) then
  (bif (decide ((0 : Int) ≤ x2081)) then
  (bif (decide (x2081 < ((x2082.length) : Int))) then
  let v2089 := (x2081.toNat)
  (k0 (x2082.set v2089 (Atr.mk (x2082.getD v2089 (Atr.mk ({ data := #[] } : ByteArray) (0 : Int) (0 : Int))).name (x2082.getD v2089 (Atr.mk ({ data := #[] } : ByteArray) (0 : Int) (0 : Int))).kind x2079)))
  else none)
  else none)
  else (bif (((x2082.length) : Int) == (60 : Int)) then
  (k1 false)
  else let v2093 := ((Atr.mk x2078 (1 : Int) x2079) :: [])
  (bif (decide (((x2082.length) + (v2093.length)) ≤ (68719476736 : Nat))) then
  (k0 (x2082 ++ v2093))
  else none))))
  else (bif (decide (x2081 ≥ (0 : Int))) then
  (bif (decide ((0 : Int) ≤ x2081)) then
  (bif (decide (x2081 < ((x2082.length) : Int))) then
  let v2096 := (x2081.toNat)
  (k0 (x2082.set v2096 (Atr.mk (x2082.getD v2096 (Atr.mk ({ data := #[] } : ByteArray) (0 : Int) (0 : Int))).name (x2082.getD v2096 (Atr.mk ({ data := #[] } : ByteArray) (0 : Int) (0 : Int))).kind x2079)))
  else none)
  else none)
  else (bif (((x2082.length) : Int) == (60 : Int)) then
  (k1 false)
  else let v2100 := ((Atr.mk x2078 (1 : Int) x2079) :: [])
  (bif (decide (((x2082.length) + (v2100.length)) ≤ (68719476736 : Nat))) then
  (k0 (x2082 ++ v2100))
  else none))))
noncomputable def F28_0z (n : Nat) : Sm G := inZ G 0 ⟨[3, 4, 12, 13, 14, 15], []⟩ F28_0s fun R x K => F28_0 n x.1.1 x.1.2.1 x.1.2.2.2.2.1 x.1.2.2.2.2.2.1 x.2.1 x.2.2.1.1 x.2.2.1.2.1 x.2.2.1.2.2.1 (fun u0 => K .normal (SSh.enc G F28_0x0 (((), ()), (u0, ())))) (fun u0 => K .ret (SSh.enc G F28_0x1 (((), (u0, ())), ())))
theorem F28_0_eq (n : Nat) (R : Type) (x : SSh.den G F28_0s) (K : AE → St G → Option R) :
  F28_0 n x.1.1 x.1.2.1 x.1.2.2.2.2.1 x.1.2.2.2.2.2.1 x.2.1 x.2.2.1.1 x.2.2.1.2.1 x.2.2.1.2.2.1 (fun u0 => K .normal (SSh.enc G F28_0x0 (((), ()), (u0, ())))) (fun u0 => K .ret (SSh.enc G F28_0x1 (((), (u0, ())), ()))) = exec prog G (ro G (tabOf (E91 n)) (frOf []) R) 0 (codeAt F28c [1, 1, 1, 1, 1, 0]) .no (SSh.enc G F28_0s x) (kNrm G (ro G (tabOf (E91 n)) (frOf []) R) 0 ⟨⟨[12], []⟩, ⟨[10, 11], []⟩, []⟩ K) := by kernel_rfl
theorem F28_0_ok (n : Nat) : FragOK prog G 0 (codeAt F28c [1, 1, 1, 1, 1, 0]) (F28_0z n) :=
  frag_plain laws fnok (E91_ok n).tab (AllF.of (l := []) (by kernel_rfl) AllF.nil) (F28_0_eq n)
noncomputable def F28 (n : Nat) (a2057 : List Cls) (a2058 : Int) (a2059 : List Atr) (a2060 : ByteArray) (a2061 : Int) : Option ((List Atr × (Bool × Unit)) × Unit) :=
  (andThen (F38 n a2057) fun r2062 =>
  (bif (!r2062.1) then
  some (([], (false, ())), ())
  else (andThen (F47 n a2058 (0 : Int) (IntKind.wrap .i64 (((a2057.length) : Int) - (1 : Int)))) fun r2066 =>
  (bif (!r2066.1) then
  some (([], (false, ())), ())
  else (andThen (F53 n a2059) fun r2068 =>
  (bif (!r2068.1) then
  some (([], (false, ())), ())
  else (andThen (F58 n a2060) fun r2070 =>
  (bif (!r2070.1) then
  some (([], (false, ())), ())
  else (andThen (F47 n a2061 (-1000000 : Int) (1000000 : Int)) fun r2072 =>
  (bif (!r2072.1) then
  some (([], (false, ())), ())
  else let v2074 := []
  (bif (decide (((v2074.length) + (a2059.length)) ≤ (68719476736 : Nat))) then
  (andThen (F48 n a2057 a2058 a2060) fun r2076 =>
  (andThen (F54 n a2059 a2060) fun r2077 =>
  (F28_0 n a2060 a2061 r2076.1.2.1 r2077.1 (v2074 ++ a2059) r2076.1.1.1 r2076.1.1.2.1 r2076.1.1.2.2.1 (fun z2102 =>
  some ((z2102, (true, ())), ())) (fun z2103 =>
  some (([], (z2103, ())), ())))))
  else none)))))))))))
noncomputable def F28e (n : Nat) : Ent G := ⟨28, (.cons (.imm 4) (.cons (.int .i64) (.cons (.imm 3) (.cons .str (.cons (.int .i64) .nil))))), [], (.tup (.cons (.imm 3) (.cons .bool .nil))), [], fun x y => F28 n x.1 x.2.1 x.2.2.1 x.2.2.2.1 x.2.2.2.2.1⟩
theorem F28_eq (n : Nat) (x : ShL.den G (.cons (.imm 4) (.cons (.int .i64) (.cons (.imm 3) (.cons .str (.cons (.int .i64) .nil)))))) (y : denO G []) : (F28e n).F x y = runFn prog G (ro G (tabOf (E91 n)) (frOf [F28_0z n]) _) Go.Proofs.Try.f28 (.nd .no (.nd .no (.nd .no (.nd .no (.nd .no (.nd (.use 0) .no)))))) [(0, .fz), (1, .fz)] (ShL.enc G (.cons (.imm 4) (.cons (.int .i64) (.cons (.imm 3) (.cons .str (.cons (.int .i64) .nil))))) x) (encO G [] y) (decR (.tup (.cons (.imm 3) (.cons .bool .nil))) []) := by kernel_rfl
theorem F28_ok (n : Nat) : EntOK prog G (F28e n) :=
  ent_ok (fr := frOf [F28_0z n]) (ann := (.nd .no (.nd .no (.nd .no (.nd .no (.nd .no (.nd (.use 0) .no))))))) (frm := [(0, .fz), (1, .fz)]) laws fnok (E91_ok n).tab (e := F28e n) (fn := Go.Proofs.Try.f28) (by kernel_rfl) (AllF.ofB (cd := F28c) (l := [(0, codeAt F28c [1, 1, 1, 1, 1, 0])]) (by kernel_rfl) (by kernel_rfl) (AllF.cons (F28_0_ok n) AllF.nil)) (F28_eq n)
noncomputable def E92 (n : Nat) : List (Ent G) := F28e n :: E91 n
theorem E92_ok (n : Nat) : AllE prog G (E92 n) := AllE.cons (F28_ok n) (E91_ok n)
-- 29 loop.example/slowworm/spec.SameAttrs
noncomputable def F29c : Code := bodyOf Go.Proofs.Try.f29
-- 59 loop.example/slowworm/spec.sameAttrList
noncomputable def F59c : Code := bodyOf Go.Proofs.Try.f59
noncomputable def F59_0x0 : SSh := ⟨26, [(4, .bool)], []⟩
noncomputable def F59_0x1 : SSh := ⟨26, [], []⟩
noncomputable def F59_0s : SSh := ⟨26, [(0, (.imm 3)), (1, (.imm 3)), (5, (.int .i64))], []⟩
noncomputable def F59_0_step {R : Type} (n : Nat) (k0 : Bool → Option R) (k1 : Option R) (rec : List Atr → List Atr → Int → Option R) (x2114 : List Atr) (x2115 : List Atr) (x2116 : Int) : Option R :=
  (bif (decide (x2116 < ((x2114.length) : Int))) then
  (bif (decide ((0 : Int) ≤ x2116)) then
  (bif (decide (x2116 < ((x2114.length) : Int))) then
  let v2119 := (x2114.getD (x2116.toNat) (Atr.mk ({ data := #[] } : ByteArray) (0 : Int) (0 : Int)))
  (bif (decide ((0 : Int) ≤ x2116)) then
  (bif (decide (x2116 < ((x2115.length) : Int))) then
  let v2123 := (x2115.getD (x2116.toNat) (Atr.mk ({ data := #[] } : ByteArray) (0 : Int) (0 : Int)))
  (bif (!((v2119.name == v2123.name) && ((v2119.kind == v2123.kind) && (v2119.val == v2123.val)))) then
  (k0 false)
  else (rec x2114 x2115 (IntKind.wrap .i64 (x2116 + (1 : Int)))))
  else none)
  else none)
  else none)
  else none)
  else k1)
noncomputable def F59_0_it {R : Type} (n : Nat) (k0 : Bool → Option R) (k1 : Option R) : Nat → List Atr → List Atr → Int → Option R
  | 0, _, _, _ => none
  | k + 1, x2114, x2115, x2116 => F59_0_step n k0 k1 (F59_0_it n k0 k1 k) x2114 x2115 x2116
noncomputable def F59_0 {R : Type} (n : Nat) (x2114 : List Atr) (x2115 : List Atr) (x2116 : Int) (k0 : Bool → Option R) (k1 : Option R) : Option R := F59_0_it n k0 k1 n x2114 x2115 x2116
noncomputable def F59_0z (n : Nat) : Sm G := inZ G 0 ⟨[0, 1, 5], []⟩ F59_0s fun R x K => F59_0_it n (fun u0 => K .ret (SSh.enc G F59_0x0 ((u0, ()), ()))) (K (.exit 0) (SSh.enc G F59_0x1 ((), ()))) n x.1.1 x.1.2.1 x.1.2.2.1
theorem F59_0_eq (n : Nat) (R : Type) (rec : SSh.den G F59_0s → Option R) (x : SSh.den G F59_0s) (K : AE → St G → Option R) :
  F59_0_step n (fun u0 => K .ret (SSh.enc G F59_0x0 ((u0, ()), ()))) (K (.exit 0) (SSh.enc G F59_0x1 ((), ()))) (fun x2114 x2115 x2116 => rec ((x2114, (x2115, (x2116, ()))), ())) x.1.1 x.1.2.1 x.1.2.2.1 = exec prog G (ro G (tabOf (E92 n)) (frOf []) R) 0 (codeAt F59c [1, 1, 0, 1, 0, 0]) .no (SSh.enc G F59_0s x) (kLoop G (ro G (tabOf (E92 n)) (frOf []) R) 0 ⟨[0, 1, 5], []⟩ F59_0s ⟨⟨[], []⟩, ⟨[4], []⟩, [(0, ⟨[], []⟩)]⟩ rec K) := by kernel_rfl
theorem F59_0_ok (n : Nat) : FragOK prog G 0 (codeAt F59c [1, 1, 0, 1, 0]) (F59_0z n) :=
  frag_loop (Z := fun R k (x : SSh.den G F59_0s) K => F59_0_it n (fun u0 => K .ret (SSh.enc G F59_0x0 ((u0, ()), ()))) (K (.exit 0) (SSh.enc G F59_0x1 ((), ()))) k x.1.1 x.1.2.1 x.1.2.2.1) laws fnok (E92_ok n).tab (AllF.of (l := []) (by kernel_rfl) AllF.nil) (fun _ _ _ => rfl) (fun R k y K => F59_0_eq n R (fun (x : SSh.den G F59_0s) => F59_0_it n (fun u0 => K .ret (SSh.enc G F59_0x0 ((u0, ()), ()))) (K (.exit 0) (SSh.enc G F59_0x1 ((), ()))) k x.1.1 x.1.2.1 x.1.2.2.1) y K) n
noncomputable def F59 (n : Nat) (a2109 : List Atr) (a2110 : List Atr) : Option (Bool × Unit) :=
  (bif (((a2109.length) : Int) != ((a2110.length) : Int)) then
  some (false, ())
  else (F59_0 n a2109 a2110 (0 : Int) (fun z2129 =>
  some (z2129, ())) (
  some (true, ()))))
noncomputable def F59e (n : Nat) : Ent G := ⟨59, (.cons (.imm 3) (.cons (.imm 3) .nil)), [], .bool, [], fun x y => F59 n x.1 x.2.1⟩
theorem F59_eq (n : Nat) (x : ShL.den G (.cons (.imm 3) (.cons (.imm 3) .nil))) (y : denO G []) : (F59e n).F x y = runFn prog G (ro G (tabOf (E92 n)) (frOf [F59_0z n]) _) Go.Proofs.Try.f59 (.nd .no (.nd .no (.nd (.nd .no (.nd (.use 0) .no)) .no))) [(0, .fz)] (ShL.enc G (.cons (.imm 3) (.cons (.imm 3) .nil)) x) (encO G [] y) (decR .bool []) := by kernel_rfl
theorem F59_ok (n : Nat) : EntOK prog G (F59e n) :=
  ent_ok (fr := frOf [F59_0z n]) (ann := (.nd .no (.nd .no (.nd (.nd .no (.nd (.use 0) .no)) .no)))) (frm := [(0, .fz)]) laws fnok (E92_ok n).tab (e := F59e n) (fn := Go.Proofs.Try.f59) (by kernel_rfl) (AllF.ofB (cd := F59c) (l := [(0, codeAt F59c [1, 1, 0, 1, 0])]) (by kernel_rfl) (by kernel_rfl) (AllF.cons (F59_0_ok n) AllF.nil)) (F59_eq n)
noncomputable def E93 (n : Nat) : List (Ent G) := F59e n :: E92 n
theorem E93_ok (n : Nat) : AllE prog G (E93 n) := AllE.cons (F59_ok n) (E92_ok n)
noncomputable def F29 (n : Nat) (a2107 : List Atr) (a2108 : List Atr) : Option (Bool × Unit) :=
  (andThen (F59 n a2107 a2108) fun r2130 =>
  some (r2130.1, ()))
noncomputable def F29e (n : Nat) : Ent G := ⟨29, (.cons (.imm 3) (.cons (.imm 3) .nil)), [], .bool, [], fun x y => F29 n x.1 x.2.1⟩
theorem F29_eq (n : Nat) (x : ShL.den G (.cons (.imm 3) (.cons (.imm 3) .nil))) (y : denO G []) : (F29e n).F x y = runFn prog G (ro G (tabOf (E93 n)) (frOf []) _) Go.Proofs.Try.f29 .no [(0, .fz)] (ShL.enc G (.cons (.imm 3) (.cons (.imm 3) .nil)) x) (encO G [] y) (decR .bool []) := by kernel_rfl
theorem F29_ok (n : Nat) : EntOK prog G (F29e n) :=
  ent_ok (fr := frOf []) (ann := .no) (frm := [(0, .fz)]) laws fnok (E93_ok n).tab (e := F29e n) (fn := Go.Proofs.Try.f29) (by kernel_rfl) (AllF.ofB (cd := F29c) (l := []) (by kernel_rfl) (by kernel_rfl) AllF.nil) (F29_eq n)
noncomputable def E94 (n : Nat) : List (Ent G) := F29e n :: E93 n
theorem E94_ok (n : Nat) : AllE prog G (E94 n) := AllE.cons (F29_ok n) (E93_ok n)
noncomputable def F7_0x0 : SSh := ⟨113, [(2, .bool)], []⟩
noncomputable def F7_0x1 : SSh := ⟨113, [], []⟩
noncomputable def F7_0s : SSh := ⟨113, [(3, (.imm 4)), (4, (.int .i64)), (5, (.imm 3)), (6, .str), (8, (.imm 3)), (12, (.own 0)), (13, (.int .i64))], [(.arr 2 true)]⟩
noncomputable def F7_0_step {R : Type} (n : Nat) (k0 : Bool → Option R) (k1 : Option R) (rec : List Cls → Int → List Atr → ByteArray → List Atr → Int → List ByteArray → Option R) (x2140 : List Cls) (x2141 : Int) (x2142 : List Atr) (x2143 : ByteArray) (x2144 : List Atr) (x2145 : Int) (x2146 : List ByteArray) : Option R :=
  (bif (decide (x2145 < ((x2146.length) : Int))) then
  (bif (decide ((0 : Int) ≤ x2145)) then
  (bif (decide (x2145 < ((x2146.length) : Int))) then
  (andThen (F24 n x2140 x2141 x2142 (x2146.getD (x2145.toNat) ({ data := #[] } : ByteArray))) fun r2151 =>
  (bif (decide ((0 : Int) ≤ x2145)) then
  (bif (decide (x2145 < ((x2146.length) : Int))) then
  (andThen (F24 n x2140 x2141 x2144 (x2146.getD (x2145.toNat) ({ data := #[] } : ByteArray))) fun r2154 =>
  (bif (decide ((0 : Int) ≤ x2145)) then
  (bif (decide (x2145 < ((x2146.length) : Int))) then
  (bif (!(((x2146.getD (x2145.toNat) ({ data := #[] } : ByteArray)).toList) == (x2143.toList))) then
  (bif (!(r2151.1.2.1 == r2154.1.2.1)) then
  (k0 false)
  else (bif (!((r2151.1.1.1 == r2154.1.1.1) && (r2151.1.1.2.1 == r2154.1.1.2.1))) then
  (k0 false)
  else (rec x2140 x2141 x2142 x2143 x2144 (IntKind.wrap .i64 (x2145 + (1 : Int))) x2146)))
  else (rec x2140 x2141 x2142 x2143 x2144 (IntKind.wrap .i64 (x2145 + (1 : Int))) x2146))
  else none)
  else none))
  else none)
  else none))
  else none)
  else none)
  else k1)
noncomputable def F7_0_it {R : Type} (n : Nat) (k0 : Bool → Option R) (k1 : Option R) : Nat → List Cls → Int → List Atr → ByteArray → List Atr → Int → List ByteArray → Option R
  | 0, _, _, _, _, _, _, _ => none
  | k + 1, x2140, x2141, x2142, x2143, x2144, x2145, x2146 => F7_0_step n k0 k1 (F7_0_it n k0 k1 k) x2140 x2141 x2142 x2143 x2144 x2145 x2146
noncomputable def F7_0 {R : Type} (n : Nat) (x2140 : List Cls) (x2141 : Int) (x2142 : List Atr) (x2143 : ByteArray) (x2144 : List Atr) (x2145 : Int) (x2146 : List ByteArray) (k0 : Bool → Option R) (k1 : Option R) : Option R := F7_0_it n k0 k1 n x2140 x2141 x2142 x2143 x2144 x2145 x2146
noncomputable def F7_0z (n : Nat) : Sm G := inZ G 0 ⟨[3, 4, 5, 6, 8, 12, 13], []⟩ F7_0s fun R x K => F7_0_it n (fun u0 => K .ret (SSh.enc G F7_0x0 ((u0, ()), ()))) (K (.exit 0) (SSh.enc G F7_0x1 ((), ()))) n x.1.1 x.1.2.1 x.1.2.2.1 x.1.2.2.2.1 x.1.2.2.2.2.1 x.1.2.2.2.2.2.2.1 x.2.1
theorem F7_0_eq (n : Nat) (R : Type) (rec : SSh.den G F7_0s → Option R) (x : SSh.den G F7_0s) (K : AE → St G → Option R) :
  F7_0_step n (fun u0 => K .ret (SSh.enc G F7_0x0 ((u0, ()), ()))) (K (.exit 0) (SSh.enc G F7_0x1 ((), ()))) (fun x2140 x2141 x2142 x2143 x2144 x2145 x2146 => rec ((x2140, (x2141, (x2142, (x2143, (x2144, ((), (x2145, ()))))))), (x2146, ()))) x.1.1 x.1.2.1 x.1.2.2.1 x.1.2.2.2.1 x.1.2.2.2.2.1 x.1.2.2.2.2.2.2.1 x.2.1 = exec prog G (ro G (tabOf (E94 n)) (frOf []) R) 0 (codeAt F7c [1, 1, 1, 1, 1, 1, 1, 0, 1, 0, 0]) .no (SSh.enc G F7_0s x) (kLoop G (ro G (tabOf (E94 n)) (frOf []) R) 0 ⟨[3, 4, 5, 6, 8, 12, 13], []⟩ F7_0s ⟨⟨[], []⟩, ⟨[2], []⟩, [(0, ⟨[], []⟩)]⟩ rec K) := by kernel_rfl
theorem F7_0_ok (n : Nat) : FragOK prog G 0 (codeAt F7c [1, 1, 1, 1, 1, 1, 1, 0, 1, 0]) (F7_0z n) :=
  frag_loop (Z := fun R k (x : SSh.den G F7_0s) K => F7_0_it n (fun u0 => K .ret (SSh.enc G F7_0x0 ((u0, ()), ()))) (K (.exit 0) (SSh.enc G F7_0x1 ((), ()))) k x.1.1 x.1.2.1 x.1.2.2.1 x.1.2.2.2.1 x.1.2.2.2.2.1 x.1.2.2.2.2.2.2.1 x.2.1) laws fnok (E94_ok n).tab (AllF.of (l := []) (by kernel_rfl) AllF.nil) (fun _ _ _ => rfl) (fun R k y K => F7_0_eq n R (fun (x : SSh.den G F7_0s) => F7_0_it n (fun u0 => K .ret (SSh.enc G F7_0x0 ((u0, ()), ()))) (K (.exit 0) (SSh.enc G F7_0x1 ((), ()))) k x.1.1 x.1.2.1 x.1.2.2.1 x.1.2.2.2.1 x.1.2.2.2.2.1 x.1.2.2.2.2.2.2.1 x.2.1) y K) n
noncomputable def F7 (n : Nat) (a1992 : List Int) : Option (Bool × Unit) :=
  (bif (decide (((a1992.length) : Int) > (1048576 : Int))) then
  some (true, ())
  else (andThen (F27 n a1992) fun r2009 =>
  (andThen (F26 n r2009.1.1 r2009.1.2.1 r2009.1.2.2.1 r2009.1.2.2.2.1 r2009.1.2.2.2.2.1) fun r2010 =>
  (andThen (F28 n r2009.1.1 r2009.1.2.1 r2009.1.2.2.1 r2009.1.2.2.2.1 r2009.1.2.2.2.2.1) fun r2104 =>
  (bif (!(r2010.1.2.1 == r2104.1.2.1)) then
  (bif (r2010.1.2.1 == r2104.1.2.1) then
  (andThen (F29 n r2010.1.1 r2104.1.1) fun r2131 =>
  some (r2131.1, ()))
  else some (false, ()))
  else (andThen (F29 n r2010.1.1 r2104.1.1) fun r2132 =>
  (bif (!r2132.1) then
  (bif (r2010.1.2.1 == r2104.1.2.1) then
  (andThen (F29 n r2010.1.1 r2104.1.1) fun r2135 =>
  some (r2135.1, ()))
  else some (false, ()))
  else (bif (!r2010.1.2.1) then
  (bif (r2010.1.2.1 == r2104.1.2.1) then
  (andThen (F29 n r2010.1.1 r2104.1.1) fun r2138 =>
  some (r2138.1, ()))
  else some (false, ()))
  else (F7_0 n r2009.1.1 r2009.1.2.1 r2009.1.2.2.1 r2009.1.2.2.2.1 r2010.1.1 (0 : Int) (({ data := #[97] } : ByteArray) :: (({ data := #[98] } : ByteArray) :: (({ data := #[99] } : ByteArray) :: (({ data := #[100] } : ByteArray) :: [])))) (fun z2162 =>
  some (z2162, ())) (
  some (true, ())))))))))))
noncomputable def F7e (n : Nat) : Ent G := ⟨7, (.cons (.imm 1) .nil), [], .bool, [], fun x y => F7 n x.1⟩
theorem F7_eq (n : Nat) (x : ShL.den G (.cons (.imm 1) .nil)) (y : denO G []) : (F7e n).F x y = runFn prog G (ro G (tabOf (E94 n)) (frOf [F7_0z n]) _) Go.Proofs.Try.f7 (.nd .no (.nd .no (.nd .no (.nd .no (.nd .no (.nd .no (.nd .no (.nd (.nd .no (.nd (.use 0) .no)) .no)))))))) [(0, .fz)] (ShL.enc G (.cons (.imm 1) .nil) x) (encO G [] y) (decR .bool []) := by kernel_rfl
theorem F7_ok (n : Nat) : EntOK prog G (F7e n) :=
  ent_ok (fr := frOf [F7_0z n]) (ann := (.nd .no (.nd .no (.nd .no (.nd .no (.nd .no (.nd .no (.nd .no (.nd (.nd .no (.nd (.use 0) .no)) .no))))))))) (frm := [(0, .fz)]) laws fnok (E94_ok n).tab (e := F7e n) (fn := Go.Proofs.Try.f7) (by kernel_rfl) (AllF.ofB (cd := F7c) (l := [(0, codeAt F7c [1, 1, 1, 1, 1, 1, 1, 0, 1, 0])]) (by kernel_rfl) (by kernel_rfl) (AllF.cons (F7_0_ok n) AllF.nil)) (F7_eq n)
noncomputable def E95 (n : Nat) : List (Ent G) := F7e n :: E94 n
theorem E95_ok (n : Nat) : AllE prog G (E95 n) := AllE.cons (F7_ok n) (E94_ok n)
-- 8 loop.example/slowworm/laws.FnAttrSet
noncomputable def F8c : Code := bodyOf Go.Proofs.Try.f8
noncomputable def F8 (n : Nat) (a2163 : List Int) : Option (Bool × Unit) :=
  (bif (decide (((a2163.length) : Int) > (1048576 : Int))) then
  some (true, ())
  else (andThen (F27 n a2163) fun r2166 =>
  (andThen (F26 n r2166.1.1 r2166.1.2.1 r2166.1.2.2.1 r2166.1.2.2.2.1 r2166.1.2.2.2.2.1) fun r2167 =>
  (andThen (F28 n r2166.1.1 r2166.1.2.1 r2166.1.2.2.1 r2166.1.2.2.2.1 r2166.1.2.2.2.2.1) fun r2168 =>
  (andThen (F29 n r2167.1.1 r2168.1.1) fun r2169 =>
  (bif r2169.1 then
  let v2170 := (r2167.1.2.1 == r2168.1.2.1)
  (bif (!v2170) then
  some (v2170, ())
  else (bif (!r2167.1.2.1) then
  some (v2170, ())
  else (andThen (F24 n r2166.1.1 r2166.1.2.1 r2167.1.1 r2166.1.2.2.2.1) fun r2173 =>
  (bif (((r2167.1.1.length) : Int) == ((r2166.1.2.2.1.length) : Int)) then
  (andThen (F29 n r2167.1.1 r2166.1.2.2.1) fun r2177 =>
  (bif r2177.1 then
  (bif r2173.1.2.1 then
  (bif (r2173.1.1.1 == (3 : Int)) then
  some (true, ())
  else (bif r2173.1.2.1 then
  (bif ((r2173.1.1.1 == (1 : Int)) && (r2173.1.1.2.1 == r2166.1.2.2.2.2.1)) then
  some ((decide (((r2167.1.1.length) : Int) ≤ (IntKind.wrap .i64 (((r2166.1.2.2.1.length) : Int) + (1 : Int))))), ())
  else some (false, ()))
  else some (false, ())))
  else (bif r2173.1.2.1 then
  (bif ((r2173.1.1.1 == (1 : Int)) && (r2173.1.1.2.1 == r2166.1.2.2.2.2.1)) then
  some ((decide (((r2167.1.1.length) : Int) ≤ (IntKind.wrap .i64 (((r2166.1.2.2.1.length) : Int) + (1 : Int))))), ())
  else some (false, ()))
  else some (false, ())))
  else (bif r2173.1.2.1 then
  (bif ((r2173.1.1.1 == (1 : Int)) && (r2173.1.1.2.1 == r2166.1.2.2.2.2.1)) then
  some ((decide (((r2167.1.1.length) : Int) ≤ (IntKind.wrap .i64 (((r2166.1.2.2.1.length) : Int) + (1 : Int))))), ())
  else some (false, ()))
  else some (false, ()))))
  else (bif r2173.1.2.1 then
  (bif ((r2173.1.1.1 == (1 : Int)) && (r2173.1.1.2.1 == r2166.1.2.2.2.2.1)) then
  some ((decide (((r2167.1.1.length) : Int) ≤ (IntKind.wrap .i64 (((r2166.1.2.2.1.length) : Int) + (1 : Int))))), ())
  else some (false, ()))
  else some (false, ()))))))
  else some (false, ())))))))
noncomputable def F8e (n : Nat) : Ent G := ⟨8, (.cons (.imm 1) .nil), [], .bool, [], fun x y => F8 n x.1⟩
theorem F8_eq (n : Nat) (x : ShL.den G (.cons (.imm 1) .nil)) (y : denO G []) : (F8e n).F x y = runFn prog G (ro G (tabOf (E95 n)) (frOf []) _) Go.Proofs.Try.f8 .no [(0, .fz)] (ShL.enc G (.cons (.imm 1) .nil) x) (encO G [] y) (decR .bool []) := by kernel_rfl
theorem F8_ok (n : Nat) : EntOK prog G (F8e n) :=
  ent_ok (fr := frOf []) (ann := .no) (frm := [(0, .fz)]) laws fnok (E95_ok n).tab (e := F8e n) (fn := Go.Proofs.Try.f8) (by kernel_rfl) (AllF.ofB (cd := F8c) (l := []) (by kernel_rfl) (by kernel_rfl) AllF.nil) (F8_eq n)
noncomputable def E96 (n : Nat) : List (Ent G) := F8e n :: E95 n
theorem E96_ok (n : Nat) : AllE prog G (E96 n) := AllE.cons (F8_ok n) (E95_ok n)
-- 9 loop.example/slowworm/laws.FnExactAttrFind
noncomputable def F9c : Code := bodyOf Go.Proofs.Try.f9
noncomputable def F9 (n : Nat) (a2199 : List Cls) (a2200 : Int) (a2201 : ByteArray) : Option (Bool × Unit) :=
  (bif (decide (((a2201.size) : Int) > (1048576 : Int))) then
  some (true, ())
  else (andThen (F13 n a2199 (1048576 : Int)) fun r2204 =>
  (bif (decide (r2204.1 < (0 : Int))) then
  some (true, ())
  else (andThen (F14 n a2199) fun r2206 =>
  (andThen (F18 n r2206.1 a2200 a2201) fun r2207 =>
  (andThen (F14 n a2199) fun r2208 =>
  (andThen (F17 n r2208.1 a2200 a2201) fun r2209 =>
  (andThen (F30 n r2209.1.1.1 r2209.1.1.2.1 r2209.1.1.2.2.1 r2207.1.1.1 r2207.1.1.2.1 r2207.1.1.2.2.1) fun r2210 =>
  (bif (!r2210.1) then
  some (false, ())
  else (bif (r2209.1.2.1 != r2207.1.2.1) then
  some (false, ())
  else (bif (!(r2209.1.2.2.1 == r2207.1.2.2.1)) then
  some (false, ())
  else (andThen (F14 n a2199) fun r2214 =>
  (andThen (F15 n r2208.1 r2214.1) fun r2215 =>
  (bif (!r2215.1) then
  some (false, ())
  else some (true, ())))))))))))))))
noncomputable def F9e (n : Nat) : Ent G := ⟨9, (.cons (.imm 6) (.cons (.int .i64) (.cons .str .nil))), [], .bool, [], fun x y => F9 n x.1 x.2.1 x.2.2.1⟩
theorem F9_eq (n : Nat) (x : ShL.den G (.cons (.imm 6) (.cons (.int .i64) (.cons .str .nil)))) (y : denO G []) : (F9e n).F x y = runFn prog G (ro G (tabOf (E96 n)) (frOf []) _) Go.Proofs.Try.f9 .no [(0, .fz)] (ShL.enc G (.cons (.imm 6) (.cons (.int .i64) (.cons .str .nil))) x) (encO G [] y) (decR .bool []) := by kernel_rfl
theorem F9_ok (n : Nat) : EntOK prog G (F9e n) :=
  ent_ok (fr := frOf []) (ann := .no) (frm := [(0, .fz)]) laws fnok (E96_ok n).tab (e := F9e n) (fn := Go.Proofs.Try.f9) (by kernel_rfl) (AllF.ofB (cd := F9c) (l := []) (by kernel_rfl) (by kernel_rfl) AllF.nil) (F9_eq n)
noncomputable def E97 (n : Nat) : List (Ent G) := F9e n :: E96 n
theorem E97_ok (n : Nat) : AllE prog G (E97 n) := AllE.cons (F9_ok n) (E96_ok n)
end Go.Proofs.Ytehcejlbfngfdaa.Am
