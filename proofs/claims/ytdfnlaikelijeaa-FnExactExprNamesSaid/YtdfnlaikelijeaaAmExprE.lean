/- The functions of the seat of expressions, printed. -/
import Derived.Test.YtdfnlaikelijeaaAmExprSig
namespace Go.Proofs.Ytdfnlaikelijeaa.Am
open Go Go.Proofs.Try
set_option autoImplicit false
set_option linter.unusedVariables false
set_option maxRecDepth 100000
noncomputable def E0 (n : Nat) : List (Ent G) := []
theorem E0_ok (n : Nat) : AllE prog G (E0 n) := AllE.nil
-- 7 loop.example/slowworm/laws.FnExactExprNames
noncomputable def F7c : Code := bodyOf Go.Proofs.Try.f7
-- 29 loop.example/slowworm/laws.szStringS
noncomputable def F29c : Code := bodyOf Go.Proofs.Try.f29
noncomputable def F29_0x0 : SSh := ⟨28, [(4, (.int .i64))], []⟩
noncomputable def F29_0x1 : SSh := ⟨28, [(1, (.int .i64))], []⟩
noncomputable def F29_0s : SSh := ⟨28, [(0, (.imm 2)), (1, (.int .i64)), (5, (.int .i64))], []⟩
noncomputable def F29_0_step {R : Type} (n : Nat) (k0 : Int → Option R) (k1 : Int → Option R) (rec : List ByteArray → Int → Int → Option R) (x17 : List ByteArray) (x18 : Int) (x19 : Int) : Option R :=
  (bif (decide (x19 < ((x17.length) : Int))) then
  (bif (decide ((0 : Int) ≤ x19)) then
  (bif (decide (x19 < ((x17.length) : Int))) then
  let v25 := (IntKind.wrap .i64 (x18 - (((x17.getD (x19.toNat) ({ data := #[] } : ByteArray)).size) : Int)))
  (bif (decide (v25 < (0 : Int))) then
  (k0 (-1 : Int))
  else (rec x17 v25 (IntKind.wrap .i64 (x19 + (1 : Int)))))
  else none)
  else none)
  else (k1 x18))
noncomputable def F29_0_it {R : Type} (n : Nat) (k0 : Int → Option R) (k1 : Int → Option R) : Nat → List ByteArray → Int → Int → Option R
  | 0, _, _, _ => none
  | k + 1, x17, x18, x19 => F29_0_step n k0 k1 (F29_0_it n k0 k1 k) x17 x18 x19
noncomputable def F29_0 {R : Type} (n : Nat) (x17 : List ByteArray) (x18 : Int) (x19 : Int) (k0 : Int → Option R) (k1 : Int → Option R) : Option R := F29_0_it n k0 k1 n x17 x18 x19
noncomputable def F29_0z (n : Nat) : Sm G := inZ G 0 ⟨[0, 1, 5], []⟩ F29_0s fun R x K => F29_0_it n (fun u0 => K .ret (SSh.enc G F29_0x0 ((u0, ()), ()))) (fun u0 => K (.exit 0) (SSh.enc G F29_0x1 ((u0, ()), ()))) n x.1.1 x.1.2.1 x.1.2.2.1
theorem F29_0_eq (n : Nat) (R : Type) (rec : SSh.den G F29_0s → Option R) (x : SSh.den G F29_0s) (K : AE → St G → Option R) :
  F29_0_step n (fun u0 => K .ret (SSh.enc G F29_0x0 ((u0, ()), ()))) (fun u0 => K (.exit 0) (SSh.enc G F29_0x1 ((u0, ()), ()))) (fun x17 x18 x19 => rec ((x17, (x18, (x19, ()))), ())) x.1.1 x.1.2.1 x.1.2.2.1 = exec prog G (ro G (tabOf (E0 n)) (frOf []) R) 0 (codeAt F29c [1, 1, 1, 0, 1, 0, 0]) .no (SSh.enc G F29_0s x) (kLoop G (ro G (tabOf (E0 n)) (frOf []) R) 0 ⟨[0, 1, 5], []⟩ F29_0s ⟨⟨[1], []⟩, ⟨[4], []⟩, [(0, ⟨[1], []⟩)]⟩ rec K) := by kernel_rfl
theorem F29_0_ok (n : Nat) : FragOK prog G 0 (codeAt F29c [1, 1, 1, 0, 1, 0]) (F29_0z n) :=
  frag_loop (Z := fun R k (x : SSh.den G F29_0s) K => F29_0_it n (fun u0 => K .ret (SSh.enc G F29_0x0 ((u0, ()), ()))) (fun u0 => K (.exit 0) (SSh.enc G F29_0x1 ((u0, ()), ()))) k x.1.1 x.1.2.1 x.1.2.2.1) laws fnok (E0_ok n).tab (AllF.of (l := []) (by kernel_rfl) AllF.nil) (fun _ _ _ => rfl) (fun R k y K => F29_0_eq n R (fun (x : SSh.den G F29_0s) => F29_0_it n (fun u0 => K .ret (SSh.enc G F29_0x0 ((u0, ()), ()))) (fun u0 => K (.exit 0) (SSh.enc G F29_0x1 ((u0, ()), ()))) k x.1.1 x.1.2.1 x.1.2.2.1) y K) n
noncomputable def F29 (n : Nat) (a12 : List ByteArray) (a13 : Int) : Option (Int × Unit) :=
  let v15 := (IntKind.wrap .i64 (a13 - ((a12.length) : Int)))
  (bif (decide (v15 < (0 : Int))) then
  some ((-1 : Int), ())
  else (F29_0 n a12 v15 (0 : Int) (fun z28 =>
  some (z28, ())) (fun z29 =>
  some (z29, ()))))
noncomputable def F29e (n : Nat) : Ent G := ⟨29, (.cons (.imm 2) (.cons (.int .i64) .nil)), [], (.int .i64), [], fun x y => F29 n x.1 x.2.1⟩
theorem F29_eq (n : Nat) (x : ShL.den G (.cons (.imm 2) (.cons (.int .i64) .nil))) (y : denO G []) : (F29e n).F x y = runFn prog G (ro G (tabOf (E0 n)) (frOf [F29_0z n]) _) Go.Proofs.Try.f29 (.nd .no (.nd .no (.nd .no (.nd (.nd .no (.nd (.use 0) .no)) .no)))) [(0, .fz)] (ShL.enc G (.cons (.imm 2) (.cons (.int .i64) .nil)) x) (encO G [] y) (decR (.int .i64) []) := by kernel_rfl
theorem F29_ok (n : Nat) : EntOK prog G (F29e n) :=
  ent_ok (fr := frOf [F29_0z n]) (ann := (.nd .no (.nd .no (.nd .no (.nd (.nd .no (.nd (.use 0) .no)) .no))))) (frm := [(0, .fz)]) laws fnok (E0_ok n).tab (e := F29e n) (fn := Go.Proofs.Try.f29) (by kernel_rfl) (AllF.ofB (cd := F29c) (l := [(0, codeAt F29c [1, 1, 1, 0, 1, 0])]) (by kernel_rfl) (by kernel_rfl) (AllF.cons (F29_0_ok n) AllF.nil)) (F29_eq n)
noncomputable def E1 (n : Nat) : List (Ent G) := F29e n :: E0 n
theorem E1_ok (n : Nat) : AllE prog G (E1 n) := AllE.cons (F29_ok n) (E0_ok n)
abbrev Q9RC : Type := (Int → ByteArray → List ByteArray → List Ex → Int → Option (Int × Unit)) × (List Ex → Int → Option (Int × Unit)) × Unit
noncomputable def Q9L (n : Nat) (rc : Q9RC) : List (Ent G) := ⟨9, (.cons (.agg (.cons (.int .i64) (.cons .str (.cons (.imm 2) (.cons (.imm 4) .nil))))) (.cons (.int .i64) .nil)), [], (.int .i64), [], fun x y => rc.1 x.1.1 x.1.2.1 x.1.2.2.1 x.1.2.2.2.1 x.2.1⟩ :: ⟨30, (.cons (.imm 4) (.cons (.int .i64) .nil)), [], (.int .i64), [], fun x y => rc.2.1 x.1 x.2.1⟩ :: E1 n
-- 9 loop.example/slowworm/laws.szExpr
noncomputable def F9bc : Code := bodyOf Go.Proofs.Try.f9
noncomputable def F9b (n : Nat) (rc : Q9RC) (a79 : Int) (a80 : ByteArray) (a81 : List ByteArray) (a82 : List Ex) (a83 : Int) : Option (Int × Unit) :=
  let v85 := (IntKind.wrap .i64 (a83 - ((a80.size) : Int)))
  (bif (decide (v85 < (0 : Int))) then
  some ((-1 : Int), ())
  else (andThen (F29 n a81 v85) fun r87 =>
  (bif (decide (r87.1 < (0 : Int))) then
  some ((-1 : Int), ())
  else (andThen (rc.2.1 a82 r87.1) fun r89 =>
  (bif (decide (r89.1 < (0 : Int))) then
  some ((-1 : Int), ())
  else some (r89.1, ()))))))
noncomputable def F9be (n : Nat) (rc : Q9RC) : Ent G := ⟨9, (.cons (.agg (.cons (.int .i64) (.cons .str (.cons (.imm 2) (.cons (.imm 4) .nil))))) (.cons (.int .i64) .nil)), [], (.int .i64), [], fun x y => F9b n rc x.1.1 x.1.2.1 x.1.2.2.1 x.1.2.2.2.1 x.2.1⟩
theorem F9b_eq (n : Nat) (rc : Q9RC) (x : ShL.den G (.cons (.agg (.cons (.int .i64) (.cons .str (.cons (.imm 2) (.cons (.imm 4) .nil))))) (.cons (.int .i64) .nil))) (y : denO G []) : (F9be n rc).F x y = runFn prog G (ro G (tabOf (Q9L n rc)) (frOf []) _) Go.Proofs.Try.f9 .no [(0, .fz)] (ShL.enc G (.cons (.agg (.cons (.int .i64) (.cons .str (.cons (.imm 2) (.cons (.imm 4) .nil))))) (.cons (.int .i64) .nil)) x) (encO G [] y) (decR (.int .i64) []) := by kernel_rfl
theorem F9b_ok (n : Nat) (rc : Q9RC) (h : AllE prog G (Q9L n rc)) : EntOK prog G (F9be n rc) :=
  ent_ok (fr := frOf []) (ann := .no) (frm := [(0, .fz)]) laws fnok h.tab (e := F9be n rc) (fn := Go.Proofs.Try.f9) (by kernel_rfl) (AllF.ofB (cd := F9bc) (l := []) (by kernel_rfl) (by kernel_rfl) AllF.nil) (F9b_eq n rc)
-- 30 loop.example/slowworm/laws.szExprS
noncomputable def F30bc : Code := bodyOf Go.Proofs.Try.f30
noncomputable def F30b_0x0 : SSh := ⟨27, [(4, (.int .i64))], []⟩
noncomputable def F30b_0x1 : SSh := ⟨27, [(1, (.int .i64))], []⟩
noncomputable def F30b_0s : SSh := ⟨27, [(0, (.imm 4)), (1, (.int .i64)), (5, (.int .i64))], []⟩
noncomputable def F30b_0_step {R : Type} (n : Nat) (rc : Q9RC) (k0 : Int → Option R) (k1 : Int → Option R) (rec : List Ex → Int → Int → Option R) (x96 : List Ex) (x97 : Int) (x98 : Int) : Option R :=
  (bif (decide (x98 < ((x96.length) : Int))) then
  (bif (decide ((0 : Int) ≤ x98)) then
  (bif (decide (x98 < ((x96.length) : Int))) then
  let v101 := (x96.getD (x98.toNat) (Ex.mk (0 : Int) ({ data := #[] } : ByteArray) [] []))
  (andThen (rc.1 v101.kind v101.text v101.names v101.kids x97) fun r106 =>
  (bif (decide (r106.1 < (0 : Int))) then
  (k0 (-1 : Int))
  else (rec x96 r106.1 (IntKind.wrap .i64 (x98 + (1 : Int))))))
  else none)
  else none)
  else (k1 x97))
noncomputable def F30b_0_it {R : Type} (n : Nat) (rc : Q9RC) (k0 : Int → Option R) (k1 : Int → Option R) : Nat → List Ex → Int → Int → Option R
  | 0, _, _, _ => none
  | k + 1, x96, x97, x98 => F30b_0_step n rc k0 k1 (F30b_0_it n rc k0 k1 k) x96 x97 x98
noncomputable def F30b_0 {R : Type} (n : Nat) (rc : Q9RC) (x96 : List Ex) (x97 : Int) (x98 : Int) (k0 : Int → Option R) (k1 : Int → Option R) : Option R := F30b_0_it n rc k0 k1 n x96 x97 x98
noncomputable def F30b_0z (n : Nat) (rc : Q9RC) : Sm G := inZ G 0 ⟨[0, 1, 5], []⟩ F30b_0s fun R x K => F30b_0_it n rc (fun u0 => K .ret (SSh.enc G F30b_0x0 ((u0, ()), ()))) (fun u0 => K (.exit 0) (SSh.enc G F30b_0x1 ((u0, ()), ()))) n x.1.1 x.1.2.1 x.1.2.2.1
theorem F30b_0_eq (n : Nat) (rc : Q9RC) (R : Type) (rec : SSh.den G F30b_0s → Option R) (x : SSh.den G F30b_0s) (K : AE → St G → Option R) :
  F30b_0_step n rc (fun u0 => K .ret (SSh.enc G F30b_0x0 ((u0, ()), ()))) (fun u0 => K (.exit 0) (SSh.enc G F30b_0x1 ((u0, ()), ()))) (fun x96 x97 x98 => rec ((x96, (x97, (x98, ()))), ())) x.1.1 x.1.2.1 x.1.2.2.1 = exec prog G (ro G (tabOf (Q9L n rc)) (frOf []) R) 0 (codeAt F30bc [1, 1, 1, 0, 1, 0, 0]) .no (SSh.enc G F30b_0s x) (kLoop G (ro G (tabOf (Q9L n rc)) (frOf []) R) 0 ⟨[0, 1, 5], []⟩ F30b_0s ⟨⟨[1], []⟩, ⟨[4], []⟩, [(0, ⟨[1], []⟩)]⟩ rec K) := by kernel_rfl
theorem F30b_0_ok (n : Nat) (rc : Q9RC) (h : AllE prog G (Q9L n rc)) : FragOK prog G 0 (codeAt F30bc [1, 1, 1, 0, 1, 0]) (F30b_0z n rc) :=
  frag_loop (Z := fun R k (x : SSh.den G F30b_0s) K => F30b_0_it n rc (fun u0 => K .ret (SSh.enc G F30b_0x0 ((u0, ()), ()))) (fun u0 => K (.exit 0) (SSh.enc G F30b_0x1 ((u0, ()), ()))) k x.1.1 x.1.2.1 x.1.2.2.1) laws fnok h.tab (AllF.of (l := []) (by kernel_rfl) AllF.nil) (fun _ _ _ => rfl) (fun R k y K => F30b_0_eq n rc R (fun (x : SSh.den G F30b_0s) => F30b_0_it n rc (fun u0 => K .ret (SSh.enc G F30b_0x0 ((u0, ()), ()))) (fun u0 => K (.exit 0) (SSh.enc G F30b_0x1 ((u0, ()), ()))) k x.1.1 x.1.2.1 x.1.2.2.1) y K) n
noncomputable def F30b (n : Nat) (rc : Q9RC) (a91 : List Ex) (a92 : Int) : Option (Int × Unit) :=
  let v94 := (IntKind.wrap .i64 (a92 - ((a91.length) : Int)))
  (bif (decide (v94 < (0 : Int))) then
  some ((-1 : Int), ())
  else (F30b_0 n rc a91 v94 (0 : Int) (fun z109 =>
  some (z109, ())) (fun z110 =>
  some (z110, ()))))
noncomputable def F30be (n : Nat) (rc : Q9RC) : Ent G := ⟨30, (.cons (.imm 4) (.cons (.int .i64) .nil)), [], (.int .i64), [], fun x y => F30b n rc x.1 x.2.1⟩
theorem F30b_eq (n : Nat) (rc : Q9RC) (x : ShL.den G (.cons (.imm 4) (.cons (.int .i64) .nil))) (y : denO G []) : (F30be n rc).F x y = runFn prog G (ro G (tabOf (Q9L n rc)) (frOf [F30b_0z n rc]) _) Go.Proofs.Try.f30 (.nd .no (.nd .no (.nd .no (.nd (.nd .no (.nd (.use 0) .no)) .no)))) [(0, .fz)] (ShL.enc G (.cons (.imm 4) (.cons (.int .i64) .nil)) x) (encO G [] y) (decR (.int .i64) []) := by kernel_rfl
theorem F30b_ok (n : Nat) (rc : Q9RC) (h : AllE prog G (Q9L n rc)) : EntOK prog G (F30be n rc) :=
  ent_ok (fr := frOf [F30b_0z n rc]) (ann := (.nd .no (.nd .no (.nd .no (.nd (.nd .no (.nd (.use 0) .no)) .no))))) (frm := [(0, .fz)]) laws fnok h.tab (e := F30be n rc) (fn := Go.Proofs.Try.f30) (by kernel_rfl) (AllF.ofB (cd := F30bc) (l := [(0, codeAt F30bc [1, 1, 1, 0, 1, 0])]) (by kernel_rfl) (by kernel_rfl) (AllF.cons (F30b_0_ok n rc h) AllF.nil)) (F30b_eq n rc)
noncomputable def Q9it (n : Nat) : Nat → Q9RC
  | 0 => (fun _ _ _ _ _ => none, fun _ _ => none, ())
  | k + 1 => (F9b n (Q9it n k), F30b n (Q9it n k), ())
theorem Q9it_ok (n : Nat) : ∀ k, AllE prog G (Q9L n (Q9it n k))
  | 0 => (AllE.cons (EntOK.none fun _ _ => rfl) (AllE.cons (EntOK.none fun _ _ => rfl) (E1_ok n)))
  | k + 1 => (AllE.cons (F9b_ok n _ (Q9it_ok n k)) (AllE.cons (F30b_ok n _ (Q9it_ok n k)) (E1_ok n)))
noncomputable def F9 (n : Nat) (a0 : Int) (a1 : ByteArray) (a2 : List ByteArray) (a3 : List Ex) (a4 : Int) : Option (Int × Unit) := (Q9it n n).1 a0 a1 a2 a3 a4
noncomputable def F9e (n : Nat) : Ent G := ⟨9, (.cons (.agg (.cons (.int .i64) (.cons .str (.cons (.imm 2) (.cons (.imm 4) .nil))))) (.cons (.int .i64) .nil)), [], (.int .i64), [], fun x y => F9 n x.1.1 x.1.2.1 x.1.2.2.1 x.1.2.2.2.1 x.2.1⟩
noncomputable def F30 (n : Nat) (a0 : List Ex) (a1 : Int) : Option (Int × Unit) := (Q9it n n).2.1 a0 a1
noncomputable def F30e (n : Nat) : Ent G := ⟨30, (.cons (.imm 4) (.cons (.int .i64) .nil)), [], (.int .i64), [], fun x y => F30 n x.1 x.2.1⟩
noncomputable def E2 (n : Nat) : List (Ent G) := F9e n :: F30e n :: E1 n
theorem E2_ok (n : Nat) : AllE prog G (E2 n) := Q9it_ok n n
-- 32 loop.example/slowworm/laws.toStringS
noncomputable def F32c : Code := bodyOf Go.Proofs.Try.f32
noncomputable def F32_0x0 : SSh := ⟨22, [(3, (.own 0))], [(.arr 2 true)]⟩
noncomputable def F32_0s : SSh := ⟨22, [(0, (.old 2)), (3, (.own 0)), (4, (.int .i64))], [(.arr 2 true)]⟩
noncomputable def F32_0_step {R : Type} (n : Nat) (k0 : List ByteArray → Option R) (rec : List ByteArray → Int → List ByteArray → Option R) (x120 : List ByteArray) (x121 : Int) (x122 : List ByteArray) : Option R :=
  (bif (decide (x121 < ((x120.length) : Int))) then
  (bif (decide ((0 : Int) ≤ x121)) then
  (bif (decide (x121 < ((x120.length) : Int))) then
  (bif (decide ((0 : Int) ≤ x121)) then
  (bif (decide (x121 < ((x122.length) : Int))) then
  (rec x120 (IntKind.wrap .i64 (x121 + (1 : Int))) (x122.set (x121.toNat) (x120.getD (x121.toNat) ({ data := #[] } : ByteArray))))
  else none)
  else none)
  else none)
  else none)
  else (k0 x122))
noncomputable def F32_0_it {R : Type} (n : Nat) (k0 : List ByteArray → Option R) : Nat → List ByteArray → Int → List ByteArray → Option R
  | 0, _, _, _ => none
  | k + 1, x120, x121, x122 => F32_0_step n k0 (F32_0_it n k0 k) x120 x121 x122
noncomputable def F32_0 {R : Type} (n : Nat) (x120 : List ByteArray) (x121 : Int) (x122 : List ByteArray) (k0 : List ByteArray → Option R) : Option R := F32_0_it n k0 n x120 x121 x122
noncomputable def F32_0z (n : Nat) : Sm G := inZ G 0 ⟨[0, 3, 4], []⟩ F32_0s fun R x K => F32_0_it n (fun u0 => K (.exit 0) (SSh.enc G F32_0x0 (((), ()), (u0, ())))) n x.1.1 x.1.2.2.1 x.2.1
theorem F32_0_eq (n : Nat) (R : Type) (rec : SSh.den G F32_0s → Option R) (x : SSh.den G F32_0s) (K : AE → St G → Option R) :
  F32_0_step n (fun u0 => K (.exit 0) (SSh.enc G F32_0x0 (((), ()), (u0, ())))) (fun x120 x121 x122 => rec ((x120, ((), (x121, ()))), (x122, ()))) x.1.1 x.1.2.2.1 x.2.1 = exec prog G (ro G (tabOf (E2 n)) (frOf []) R) 0 (codeAt F32c [1, 1, 0, 1, 0, 0]) .no (SSh.enc G F32_0s x) (kLoop G (ro G (tabOf (E2 n)) (frOf []) R) 0 ⟨[0, 3, 4], []⟩ F32_0s ⟨⟨[3], []⟩, ⟨[2], []⟩, [(0, ⟨[3], []⟩)]⟩ rec K) := by kernel_rfl
theorem F32_0_ok (n : Nat) : FragOK prog G 0 (codeAt F32c [1, 1, 0, 1, 0]) (F32_0z n) :=
  frag_loop (Z := fun R k (x : SSh.den G F32_0s) K => F32_0_it n (fun u0 => K (.exit 0) (SSh.enc G F32_0x0 (((), ()), (u0, ())))) k x.1.1 x.1.2.2.1 x.2.1) laws fnok (E2_ok n).tab (AllF.of (l := []) (by kernel_rfl) AllF.nil) (fun _ _ _ => rfl) (fun R k y K => F32_0_eq n R (fun (x : SSh.den G F32_0s) => F32_0_it n (fun u0 => K (.exit 0) (SSh.enc G F32_0x0 (((), ()), (u0, ())))) k x.1.1 x.1.2.2.1 x.2.1) y K) n
noncomputable def F32 (n : Nat) (a117 : List ByteArray) : Option (List ByteArray × Unit) :=
  let v118 := ((a117.length) : Int)
  (bif (decide ((0 : Int) ≤ v118)) then
  (bif (decide (v118 ≤ v118)) then
  (bif (decide (v118 ≤ ((68719476736 : Nat) : Int))) then
  (F32_0 n a117 (0 : Int) (List.replicate (v118.toNat) ({ data := #[] } : ByteArray)) (fun z130 =>
  some (z130, ())))
  else none)
  else none)
  else none)
noncomputable def F32e (n : Nat) : Ent G := ⟨32, (.cons (.old 2) .nil), [], (.imm 2), [], fun x y => F32 n x.1⟩
theorem F32_eq (n : Nat) (x : ShL.den G (.cons (.old 2) .nil)) (y : denO G []) : (F32e n).F x y = runFn prog G (ro G (tabOf (E2 n)) (frOf [F32_0z n]) _) Go.Proofs.Try.f32 (.nd .no (.nd .no (.nd (.nd .no (.nd (.use 0) .no)) .no))) [(0, .fz)] (ShL.enc G (.cons (.old 2) .nil) x) (encO G [] y) (decR (.imm 2) []) := by kernel_rfl
theorem F32_ok (n : Nat) : EntOK prog G (F32e n) :=
  ent_ok (fr := frOf [F32_0z n]) (ann := (.nd .no (.nd .no (.nd (.nd .no (.nd (.use 0) .no)) .no)))) (frm := [(0, .fz)]) laws fnok (E2_ok n).tab (e := F32e n) (fn := Go.Proofs.Try.f32) (by kernel_rfl) (AllF.ofB (cd := F32c) (l := [(0, codeAt F32c [1, 1, 0, 1, 0])]) (by kernel_rfl) (by kernel_rfl) (AllF.cons (F32_0_ok n) AllF.nil)) (F32_eq n)
noncomputable def E3 (n : Nat) : List (Ent G) := F32e n :: E2 n
theorem E3_ok (n : Nat) : AllE prog G (E3 n) := AllE.cons (F32_ok n) (E2_ok n)
abbrev Q11RC : Type := (Int → ByteArray → List ByteArray → List Ex → Option ((Int × (ByteArray × (List ByteArray × (List Ex × Unit)))) × Unit)) × (List Ex → Option (List Ex × Unit)) × Unit
noncomputable def Q11L (n : Nat) (rc : Q11RC) : List (Ent G) := ⟨11, (.cons (.agg (.cons (.int .i64) (.cons .str (.cons (.old 2) (.cons (.old 4) .nil))))) .nil), [], (.agg (.cons (.int .i64) (.cons .str (.cons (.imm 2) (.cons (.imm 3) .nil))))), [], fun x y => rc.1 x.1.1 x.1.2.1 x.1.2.2.1 x.1.2.2.2.1⟩ :: ⟨33, (.cons (.old 4) .nil), [], (.imm 3), [], fun x y => rc.2.1 x.1⟩ :: E3 n
-- 11 loop.example/slowworm/laws.toExpr
noncomputable def F11bc : Code := bodyOf Go.Proofs.Try.f11
noncomputable def F11b (n : Nat) (rc : Q11RC) (a170 : Int) (a171 : ByteArray) (a172 : List ByteArray) (a173 : List Ex) : Option ((Int × (ByteArray × (List ByteArray × (List Ex × Unit)))) × Unit) :=
  (andThen (F32 n a172) fun r174 =>
  (andThen (rc.2.1 a173) fun r175 =>
  some ((a170, (a171, (r174.1, (r175.1, ())))), ())))
noncomputable def F11be (n : Nat) (rc : Q11RC) : Ent G := ⟨11, (.cons (.agg (.cons (.int .i64) (.cons .str (.cons (.old 2) (.cons (.old 4) .nil))))) .nil), [], (.agg (.cons (.int .i64) (.cons .str (.cons (.imm 2) (.cons (.imm 3) .nil))))), [], fun x y => F11b n rc x.1.1 x.1.2.1 x.1.2.2.1 x.1.2.2.2.1⟩
theorem F11b_eq (n : Nat) (rc : Q11RC) (x : ShL.den G (.cons (.agg (.cons (.int .i64) (.cons .str (.cons (.old 2) (.cons (.old 4) .nil))))) .nil)) (y : denO G []) : (F11be n rc).F x y = runFn prog G (ro G (tabOf (Q11L n rc)) (frOf []) _) Go.Proofs.Try.f11 .no [(0, .fz)] (ShL.enc G (.cons (.agg (.cons (.int .i64) (.cons .str (.cons (.old 2) (.cons (.old 4) .nil))))) .nil) x) (encO G [] y) (decR (.agg (.cons (.int .i64) (.cons .str (.cons (.imm 2) (.cons (.imm 3) .nil))))) []) := by kernel_rfl
theorem F11b_ok (n : Nat) (rc : Q11RC) (h : AllE prog G (Q11L n rc)) : EntOK prog G (F11be n rc) :=
  ent_ok (fr := frOf []) (ann := .no) (frm := [(0, .fz)]) laws fnok h.tab (e := F11be n rc) (fn := Go.Proofs.Try.f11) (by kernel_rfl) (AllF.ofB (cd := F11bc) (l := []) (by kernel_rfl) (by kernel_rfl) AllF.nil) (F11b_eq n rc)
-- 33 loop.example/slowworm/laws.toExprS
noncomputable def F33bc : Code := bodyOf Go.Proofs.Try.f33
noncomputable def F33b_0x0 : SSh := ⟨23, [(3, (.own 0))], [(.arr 3 true)]⟩
noncomputable def F33b_0s : SSh := ⟨23, [(0, (.old 4)), (3, (.own 0)), (4, (.int .i64))], [(.arr 3 true)]⟩
noncomputable def F33b_0_step {R : Type} (n : Nat) (rc : Q11RC) (k0 : List Ex → Option R) (rec : List Ex → Int → List Ex → Option R) (x179 : List Ex) (x180 : Int) (x181 : List Ex) : Option R :=
  (bif (decide (x180 < ((x179.length) : Int))) then
  (bif (decide ((0 : Int) ≤ x180)) then
  (bif (decide (x180 < ((x179.length) : Int))) then
  let v184 := (x179.getD (x180.toNat) (Ex.mk (0 : Int) ({ data := #[] } : ByteArray) [] []))
  (andThen (rc.1 v184.kind v184.text v184.names v184.kids) fun r189 =>
  let v190 := (r189.1.2.2.1, (r189.1.2.2.2.1, ()))
  (bif (decide ((0 : Int) ≤ x180)) then
  (bif (decide (x180 < ((x181.length) : Int))) then
  (rec x179 (IntKind.wrap .i64 (x180 + (1 : Int))) (x181.set (x180.toNat) (Ex.mk r189.1.1 r189.1.2.1 v190.1 v190.2.1)))
  else none)
  else none))
  else none)
  else none)
  else (k0 x181))
noncomputable def F33b_0_it {R : Type} (n : Nat) (rc : Q11RC) (k0 : List Ex → Option R) : Nat → List Ex → Int → List Ex → Option R
  | 0, _, _, _ => none
  | k + 1, x179, x180, x181 => F33b_0_step n rc k0 (F33b_0_it n rc k0 k) x179 x180 x181
noncomputable def F33b_0 {R : Type} (n : Nat) (rc : Q11RC) (x179 : List Ex) (x180 : Int) (x181 : List Ex) (k0 : List Ex → Option R) : Option R := F33b_0_it n rc k0 n x179 x180 x181
noncomputable def F33b_0z (n : Nat) (rc : Q11RC) : Sm G := inZ G 0 ⟨[0, 3, 4], []⟩ F33b_0s fun R x K => F33b_0_it n rc (fun u0 => K (.exit 0) (SSh.enc G F33b_0x0 (((), ()), (u0, ())))) n x.1.1 x.1.2.2.1 x.2.1
theorem F33b_0_eq (n : Nat) (rc : Q11RC) (R : Type) (rec : SSh.den G F33b_0s → Option R) (x : SSh.den G F33b_0s) (K : AE → St G → Option R) :
  F33b_0_step n rc (fun u0 => K (.exit 0) (SSh.enc G F33b_0x0 (((), ()), (u0, ())))) (fun x179 x180 x181 => rec ((x179, ((), (x180, ()))), (x181, ()))) x.1.1 x.1.2.2.1 x.2.1 = exec prog G (ro G (tabOf (Q11L n rc)) (frOf []) R) 0 (codeAt F33bc [1, 1, 0, 1, 0, 0]) .no (SSh.enc G F33b_0s x) (kLoop G (ro G (tabOf (Q11L n rc)) (frOf []) R) 0 ⟨[0, 3, 4], []⟩ F33b_0s ⟨⟨[3], []⟩, ⟨[2], []⟩, [(0, ⟨[3], []⟩)]⟩ rec K) := by kernel_rfl
theorem F33b_0_ok (n : Nat) (rc : Q11RC) (h : AllE prog G (Q11L n rc)) : FragOK prog G 0 (codeAt F33bc [1, 1, 0, 1, 0]) (F33b_0z n rc) :=
  frag_loop (Z := fun R k (x : SSh.den G F33b_0s) K => F33b_0_it n rc (fun u0 => K (.exit 0) (SSh.enc G F33b_0x0 (((), ()), (u0, ())))) k x.1.1 x.1.2.2.1 x.2.1) laws fnok h.tab (AllF.of (l := []) (by kernel_rfl) AllF.nil) (fun _ _ _ => rfl) (fun R k y K => F33b_0_eq n rc R (fun (x : SSh.den G F33b_0s) => F33b_0_it n rc (fun u0 => K (.exit 0) (SSh.enc G F33b_0x0 (((), ()), (u0, ())))) k x.1.1 x.1.2.2.1 x.2.1) y K) n
noncomputable def F33b (n : Nat) (rc : Q11RC) (a176 : List Ex) : Option (List Ex × Unit) :=
  let v177 := ((a176.length) : Int)
  (bif (decide ((0 : Int) ≤ v177)) then
  (bif (decide (v177 ≤ v177)) then
  (bif (decide (v177 ≤ ((68719476736 : Nat) : Int))) then
  (F33b_0 n rc a176 (0 : Int) (List.replicate (v177.toNat) (Ex.mk (0 : Int) ({ data := #[] } : ByteArray) [] [])) (fun z194 =>
  some (z194, ())))
  else none)
  else none)
  else none)
noncomputable def F33be (n : Nat) (rc : Q11RC) : Ent G := ⟨33, (.cons (.old 4) .nil), [], (.imm 3), [], fun x y => F33b n rc x.1⟩
theorem F33b_eq (n : Nat) (rc : Q11RC) (x : ShL.den G (.cons (.old 4) .nil)) (y : denO G []) : (F33be n rc).F x y = runFn prog G (ro G (tabOf (Q11L n rc)) (frOf [F33b_0z n rc]) _) Go.Proofs.Try.f33 (.nd .no (.nd .no (.nd (.nd .no (.nd (.use 0) .no)) .no))) [(0, .fz)] (ShL.enc G (.cons (.old 4) .nil) x) (encO G [] y) (decR (.imm 3) []) := by kernel_rfl
theorem F33b_ok (n : Nat) (rc : Q11RC) (h : AllE prog G (Q11L n rc)) : EntOK prog G (F33be n rc) :=
  ent_ok (fr := frOf [F33b_0z n rc]) (ann := (.nd .no (.nd .no (.nd (.nd .no (.nd (.use 0) .no)) .no)))) (frm := [(0, .fz)]) laws fnok h.tab (e := F33be n rc) (fn := Go.Proofs.Try.f33) (by kernel_rfl) (AllF.ofB (cd := F33bc) (l := [(0, codeAt F33bc [1, 1, 0, 1, 0])]) (by kernel_rfl) (by kernel_rfl) (AllF.cons (F33b_0_ok n rc h) AllF.nil)) (F33b_eq n rc)
noncomputable def Q11it (n : Nat) : Nat → Q11RC
  | 0 => (fun _ _ _ _ => none, fun _ => none, ())
  | k + 1 => (F11b n (Q11it n k), F33b n (Q11it n k), ())
theorem Q11it_ok (n : Nat) : ∀ k, AllE prog G (Q11L n (Q11it n k))
  | 0 => (AllE.cons (EntOK.none fun _ _ => rfl) (AllE.cons (EntOK.none fun _ _ => rfl) (E3_ok n)))
  | k + 1 => (AllE.cons (F11b_ok n _ (Q11it_ok n k)) (AllE.cons (F33b_ok n _ (Q11it_ok n k)) (E3_ok n)))
noncomputable def F11 (n : Nat) (a0 : Int) (a1 : ByteArray) (a2 : List ByteArray) (a3 : List Ex) : Option ((Int × (ByteArray × (List ByteArray × (List Ex × Unit)))) × Unit) := (Q11it n n).1 a0 a1 a2 a3
noncomputable def F11e (n : Nat) : Ent G := ⟨11, (.cons (.agg (.cons (.int .i64) (.cons .str (.cons (.old 2) (.cons (.old 4) .nil))))) .nil), [], (.agg (.cons (.int .i64) (.cons .str (.cons (.imm 2) (.cons (.imm 3) .nil))))), [], fun x y => F11 n x.1.1 x.1.2.1 x.1.2.2.1 x.1.2.2.2.1⟩
noncomputable def F33 (n : Nat) (a0 : List Ex) : Option (List Ex × Unit) := (Q11it n n).2.1 a0
noncomputable def F33e (n : Nat) : Ent G := ⟨33, (.cons (.old 4) .nil), [], (.imm 3), [], fun x y => F33 n x.1⟩
noncomputable def E4 (n : Nat) : List (Ent G) := F11e n :: F33e n :: E3 n
theorem E4_ok (n : Nat) : AllE prog G (E4 n) := Q11it_ok n n
-- 53 loop.example/slowworm/spec.plainExpr
noncomputable def F53c : Code := bodyOf Go.Proofs.Try.f53
noncomputable def F53_0x0 : SSh := ⟨208, [(1, (.ptr 0 0)), (3, (.int .i64)), (25, (.int .i64)), (26, .bool)], [(.box 30 (.cons (.int .i64) (.cons .str (.cons (.imm 2) (.cons (.imm 3) .nil)))))]⟩
noncomputable def F53_0s : SSh := ⟨208, [(1, (.ptr 0 0)), (3, (.int .i64)), (25, (.int .i64))], [(.box 30 (.cons (.int .i64) (.cons .str (.cons (.imm 2) (.cons (.imm 3) .nil)))))]⟩
noncomputable def F53_0 {R : Type} (n : Nat) (x218 : Int) (x219 : Int) (x220 : Int) (x221 : ByteArray) (x222 : List ByteArray) (x223 : List Ex) (k0 : Int → Int → Bool → Int → ByteArray → List ByteArray → List Ex → Option R) : Option R :=
  (bif (x219 == (1 : Int)) then
  (k0 x218 x219 true x220 x221 x222 x223)
  else (bif (x219 == (2 : Int)) then
  (k0 x218 x219 true x220 x221 x222 x223)
  else (k0 x218 x219 (x219 == (3 : Int)) x220 x221 x222 x223)))
noncomputable def F53_0z (n : Nat) : Sm G := inZ G 0 ⟨[1, 3, 25], []⟩ F53_0s fun R x K => F53_0 n x.1.2.1 x.1.2.2.1 x.2.1.1 x.2.1.2.1 x.2.1.2.2.1 x.2.1.2.2.2.1 (fun u0 u1 u2 u3 u4 u5 u6 => K .normal (SSh.enc G F53_0x0 (((), (u0, (u1, (u2, ())))), ((u3, (u4, (u5, (u6, ())))), ()))))
theorem F53_0_eq (n : Nat) (R : Type) (x : SSh.den G F53_0s) (K : AE → St G → Option R) :
  F53_0 n x.1.2.1 x.1.2.2.1 x.2.1.1 x.2.1.2.1 x.2.1.2.2.1 x.2.1.2.2.2.1 (fun u0 u1 u2 u3 u4 u5 u6 => K .normal (SSh.enc G F53_0x0 (((), (u0, (u1, (u2, ())))), ((u3, (u4, (u5, (u6, ())))), ())))) = exec prog G (ro G (tabOf (E4 n)) (frOf []) R) 0 (codeAt F53c [1, 1, 1, 1, 0, 1, 0, 0]) .no (SSh.enc G F53_0s x) (kNrm G (ro G (tabOf (E4 n)) (frOf []) R) 0 ⟨⟨[1, 3, 25, 26], []⟩, ⟨[2], []⟩, [(0, ⟨[], []⟩)]⟩ K) := by kernel_rfl
theorem F53_0_ok (n : Nat) : FragOK prog G 0 (codeAt F53c [1, 1, 1, 1, 0, 1, 0, 0]) (F53_0z n) :=
  frag_plain laws fnok (E4_ok n).tab (AllF.of (l := []) (by kernel_rfl) AllF.nil) (F53_0_eq n)
-- 66 loop.example/slowworm/spec.validInt
noncomputable def F66c : Code := bodyOf Go.Proofs.Try.f66
noncomputable def F66_0x0 : SSh := ⟨44, [(0, .str), (3, .str)], []⟩
noncomputable def F66_0s : SSh := ⟨44, [(0, .str), (3, .str)], []⟩
noncomputable def F66_0 {R : Type} (n : Nat) (x239 : ByteArray) (x240 : ByteArray) (k0 : ByteArray → ByteArray → Option R) : Option R :=
  (bif (decide (((x240.size) : Int) > (0 : Int))) then
  (bif (decide ((0 : Int) < ((x240.size) : Int))) then
  (bif ((strOf x240 (0 : Nat)) == (45 : Int)) then
  (bif (decide ((1 : Int) ≤ ((x240.size) : Int))) then
  (bif (decide (((x240.size) : Int) ≤ ((x240.size) : Int))) then
  (k0 x239 (x240.extract (1 : Nat) (((x240.size) : Int).toNat)))
  else none)
  else none)
  else (k0 x239 x240))
  else none)
  else (k0 x239 x240))
noncomputable def F66_0z (n : Nat) : Sm G := inZ G 0 ⟨[0, 3], []⟩ F66_0s fun R x K => F66_0 n x.1.1 x.1.2.1 (fun u0 u1 => K .normal (SSh.enc G F66_0x0 ((u0, (u1, ())), ())))
theorem F66_0_eq (n : Nat) (R : Type) (x : SSh.den G F66_0s) (K : AE → St G → Option R) :
  F66_0 n x.1.1 x.1.2.1 (fun u0 u1 => K .normal (SSh.enc G F66_0x0 ((u0, (u1, ())), ()))) = exec prog G (ro G (tabOf (E4 n)) (frOf []) R) 0 (codeAt F66c [1, 1, 0]) .no (SSh.enc G F66_0s x) (kNrm G (ro G (tabOf (E4 n)) (frOf []) R) 0 ⟨⟨[0, 3], []⟩, ⟨[2], []⟩, []⟩ K) := by kernel_rfl
theorem F66_0_ok (n : Nat) : FragOK prog G 0 (codeAt F66c [1, 1, 0]) (F66_0z n) :=
  frag_plain laws fnok (E4_ok n).tab (AllF.of (l := []) (by kernel_rfl) AllF.nil) (F66_0_eq n)
noncomputable def F66_1x0 : SSh := ⟨44, [(2, .bool)], []⟩
noncomputable def F66_1x1 : SSh := ⟨44, [(0, .str), (3, .str)], []⟩
noncomputable def F66_1s : SSh := ⟨44, [(0, .str), (3, .str), (4, (.int .i64))], []⟩
noncomputable def F66_1_step {R : Type} (n : Nat) (k0 : Bool → Option R) (k1 : ByteArray → ByteArray → Option R) (rec : ByteArray → ByteArray → Int → Option R) (x248 : ByteArray) (x249 : ByteArray) (x250 : Int) : Option R :=
  (bif (decide (x250 < ((x249.size) : Int))) then
  (bif (decide ((0 : Int) ≤ x250)) then
  (bif (decide (x250 < ((x249.size) : Int))) then
  (bif (decide ((strOf x249 (x250.toNat)) < (48 : Int))) then
  (k0 false)
  else (bif (decide ((0 : Int) ≤ x250)) then
  (bif (decide (x250 < ((x249.size) : Int))) then
  (bif (decide ((strOf x249 (x250.toNat)) > (57 : Int))) then
  (k0 false)
  else (rec x248 x249 (IntKind.wrap .i64 (x250 + (1 : Int)))))
  else none)
  else none))
  else none)
  else none)
  else (k1 x248 x249))
noncomputable def F66_1_it {R : Type} (n : Nat) (k0 : Bool → Option R) (k1 : ByteArray → ByteArray → Option R) : Nat → ByteArray → ByteArray → Int → Option R
  | 0, _, _, _ => none
  | k + 1, x248, x249, x250 => F66_1_step n k0 k1 (F66_1_it n k0 k1 k) x248 x249 x250
noncomputable def F66_1 {R : Type} (n : Nat) (x248 : ByteArray) (x249 : ByteArray) (x250 : Int) (k0 : Bool → Option R) (k1 : ByteArray → ByteArray → Option R) : Option R := F66_1_it n k0 k1 n x248 x249 x250
noncomputable def F66_1z (n : Nat) : Sm G := inZ G 0 ⟨[0, 3, 4], []⟩ F66_1s fun R x K => F66_1_it n (fun u0 => K .ret (SSh.enc G F66_1x0 ((u0, ()), ()))) (fun u0 u1 => K (.exit 0) (SSh.enc G F66_1x1 ((u0, (u1, ())), ()))) n x.1.1 x.1.2.1 x.1.2.2.1
theorem F66_1_eq (n : Nat) (R : Type) (rec : SSh.den G F66_1s → Option R) (x : SSh.den G F66_1s) (K : AE → St G → Option R) :
  F66_1_step n (fun u0 => K .ret (SSh.enc G F66_1x0 ((u0, ()), ()))) (fun u0 u1 => K (.exit 0) (SSh.enc G F66_1x1 ((u0, (u1, ())), ()))) (fun x248 x249 x250 => rec ((x248, (x249, (x250, ()))), ())) x.1.1 x.1.2.1 x.1.2.2.1 = exec prog G (ro G (tabOf (E4 n)) (frOf [F66_0z n]) R) 0 (codeAt F66c [1, 1, 1, 0, 1, 0, 0]) .no (SSh.enc G F66_1s x) (kLoop G (ro G (tabOf (E4 n)) (frOf [F66_0z n]) R) 0 ⟨[0, 3, 4], []⟩ F66_1s ⟨⟨[0, 3], []⟩, ⟨[2], []⟩, [(0, ⟨[0, 3], []⟩)]⟩ rec K) := by kernel_rfl
theorem F66_1_ok (n : Nat) : FragOK prog G 0 (codeAt F66c [1, 1, 1, 0, 1, 0]) (F66_1z n) :=
  frag_loop (Z := fun R k (x : SSh.den G F66_1s) K => F66_1_it n (fun u0 => K .ret (SSh.enc G F66_1x0 ((u0, ()), ()))) (fun u0 u1 => K (.exit 0) (SSh.enc G F66_1x1 ((u0, (u1, ())), ()))) k x.1.1 x.1.2.1 x.1.2.2.1) laws fnok (E4_ok n).tab (AllF.of (l := []) (by kernel_rfl) AllF.nil) (fun _ _ _ => rfl) (fun R k y K => F66_1_eq n R (fun (x : SSh.den G F66_1s) => F66_1_it n (fun u0 => K .ret (SSh.enc G F66_1x0 ((u0, ()), ()))) (fun u0 u1 => K (.exit 0) (SSh.enc G F66_1x1 ((u0, (u1, ())), ()))) k x.1.1 x.1.2.1 x.1.2.2.1) y K) n
-- 70 loop.example/slowworm/spec.inRange
noncomputable def F70c : Code := bodyOf Go.Proofs.Try.f70
noncomputable def F70 (n : Nat) (a262 : Int) (a263 : Int) (a264 : Int) : Option (Bool × Unit) :=
  (bif (decide (a262 ≥ a263)) then
  some ((decide (a262 ≤ a264)), ())
  else some (false, ()))
noncomputable def F70e (n : Nat) : Ent G := ⟨70, (.cons (.int .i64) (.cons (.int .i64) (.cons (.int .i64) .nil))), [], .bool, [], fun x y => F70 n x.1 x.2.1 x.2.2.1⟩
theorem F70_eq (n : Nat) (x : ShL.den G (.cons (.int .i64) (.cons (.int .i64) (.cons (.int .i64) .nil)))) (y : denO G []) : (F70e n).F x y = runFn prog G (ro G (tabOf (E4 n)) (frOf []) _) Go.Proofs.Try.f70 .no [(0, .fz)] (ShL.enc G (.cons (.int .i64) (.cons (.int .i64) (.cons (.int .i64) .nil))) x) (encO G [] y) (decR .bool []) := by kernel_rfl
theorem F70_ok (n : Nat) : EntOK prog G (F70e n) :=
  ent_ok (fr := frOf []) (ann := .no) (frm := [(0, .fz)]) laws fnok (E4_ok n).tab (e := F70e n) (fn := Go.Proofs.Try.f70) (by kernel_rfl) (AllF.ofB (cd := F70c) (l := []) (by kernel_rfl) (by kernel_rfl) AllF.nil) (F70_eq n)
noncomputable def E5 (n : Nat) : List (Ent G) := F70e n :: E4 n
theorem E5_ok (n : Nat) : AllE prog G (E5 n) := AllE.cons (F70_ok n) (E4_ok n)
noncomputable def F66 (n : Nat) (a238 : ByteArray) : Option (Bool × Unit) :=
  (F66_0 n a238 a238 (fun z246 z247 =>
  (F66_1 n z246 z247 (0 : Int) (fun z258 =>
  some (z258, ())) (fun z259 z260 =>
  (andThen (F70 n ((z260.size) : Int) (1 : Int) (40 : Int)) fun r267 =>
  (bif r267.1 then
  (bif (decide ((0 : Int) < ((z260.size) : Int))) then
  (bif ((strOf z260 (0 : Nat)) != (48 : Int)) then
  some (true, ())
  else some (((z259.toList) == (({ data := #[48] } : ByteArray).toList)), ()))
  else none)
  else some (false, ())))))))
noncomputable def F66e (n : Nat) : Ent G := ⟨66, (.cons .str .nil), [], .bool, [], fun x y => F66 n x.1⟩
theorem F66_eq (n : Nat) (x : ShL.den G (.cons .str .nil)) (y : denO G []) : (F66e n).F x y = runFn prog G (ro G (tabOf (E5 n)) (frOf [F66_0z n, F66_1z n]) _) Go.Proofs.Try.f66 (.nd .no (.nd .no (.nd (.use 0) (.nd (.nd .no (.nd (.use 1) .no)) .no)))) [(0, .fz)] (ShL.enc G (.cons .str .nil) x) (encO G [] y) (decR .bool []) := by kernel_rfl
theorem F66_ok (n : Nat) : EntOK prog G (F66e n) :=
  ent_ok (fr := frOf [F66_0z n, F66_1z n]) (ann := (.nd .no (.nd .no (.nd (.use 0) (.nd (.nd .no (.nd (.use 1) .no)) .no))))) (frm := [(0, .fz)]) laws fnok (E5_ok n).tab (e := F66e n) (fn := Go.Proofs.Try.f66) (by kernel_rfl) (AllF.ofB (cd := F66c) (l := [(0, codeAt F66c [1, 1, 0]), (1, codeAt F66c [1, 1, 1, 0, 1, 0])]) (by kernel_rfl) (by kernel_rfl) (AllF.cons (F66_0_ok n) (AllF.cons (F66_1_ok n) AllF.nil))) (F66_eq n)
noncomputable def E6 (n : Nat) : List (Ent G) := F66e n :: E5 n
theorem E6_ok (n : Nat) : AllE prog G (E6 n) := AllE.cons (F66_ok n) (E5_ok n)
-- 67 loop.example/slowworm/spec.validText
noncomputable def F67c : Code := bodyOf Go.Proofs.Try.f67
noncomputable def F67 (n : Nat) (a276 : ByteArray) : Option (Bool × Unit) :=
  some ((decide (((a276.size) : Int) ≤ (400 : Int))), ())
noncomputable def F67e (n : Nat) : Ent G := ⟨67, (.cons .str .nil), [], .bool, [], fun x y => F67 n x.1⟩
theorem F67_eq (n : Nat) (x : ShL.den G (.cons .str .nil)) (y : denO G []) : (F67e n).F x y = runFn prog G (ro G (tabOf (E6 n)) (frOf []) _) Go.Proofs.Try.f67 .no [(0, .fz)] (ShL.enc G (.cons .str .nil) x) (encO G [] y) (decR .bool []) := by kernel_rfl
theorem F67_ok (n : Nat) : EntOK prog G (F67e n) :=
  ent_ok (fr := frOf []) (ann := .no) (frm := [(0, .fz)]) laws fnok (E6_ok n).tab (e := F67e n) (fn := Go.Proofs.Try.f67) (by kernel_rfl) (AllF.ofB (cd := F67c) (l := []) (by kernel_rfl) (by kernel_rfl) AllF.nil) (F67_eq n)
noncomputable def E7 (n : Nat) : List (Ent G) := F67e n :: E6 n
theorem E7_ok (n : Nat) : AllE prog G (E7 n) := AllE.cons (F67_ok n) (E6_ok n)
-- 68 loop.example/slowworm/spec.validName
noncomputable def F68c : Code := bodyOf Go.Proofs.Try.f68
-- 85 loop.example/slowworm/spec.letter
noncomputable def F85c : Code := bodyOf Go.Proofs.Try.f85
noncomputable def F85 (n : Nat) (a288 : Int) : Option (Bool × Unit) :=
  (bif (decide (a288 ≥ (97 : Int))) then
  (bif (decide (a288 ≤ (122 : Int))) then
  some (true, ())
  else (bif (decide (a288 ≥ (65 : Int))) then
  (bif (decide (a288 ≤ (90 : Int))) then
  some (true, ())
  else some ((a288 == (95 : Int)), ()))
  else some ((a288 == (95 : Int)), ())))
  else (bif (decide (a288 ≥ (65 : Int))) then
  (bif (decide (a288 ≤ (90 : Int))) then
  some (true, ())
  else some ((a288 == (95 : Int)), ()))
  else some ((a288 == (95 : Int)), ())))
noncomputable def F85e (n : Nat) : Ent G := ⟨85, (.cons (.int .u8) .nil), [], .bool, [], fun x y => F85 n x.1⟩
theorem F85_eq (n : Nat) (x : ShL.den G (.cons (.int .u8) .nil)) (y : denO G []) : (F85e n).F x y = runFn prog G (ro G (tabOf (E7 n)) (frOf []) _) Go.Proofs.Try.f85 .no [(0, .fz)] (ShL.enc G (.cons (.int .u8) .nil) x) (encO G [] y) (decR .bool []) := by kernel_rfl
theorem F85_ok (n : Nat) : EntOK prog G (F85e n) :=
  ent_ok (fr := frOf []) (ann := .no) (frm := [(0, .fz)]) laws fnok (E7_ok n).tab (e := F85e n) (fn := Go.Proofs.Try.f85) (by kernel_rfl) (AllF.ofB (cd := F85c) (l := []) (by kernel_rfl) (by kernel_rfl) AllF.nil) (F85_eq n)
noncomputable def E8 (n : Nat) : List (Ent G) := F85e n :: E7 n
theorem E8_ok (n : Nat) : AllE prog G (E8 n) := AllE.cons (F85_ok n) (E7_ok n)
-- 86 loop.example/slowworm/spec.digit
noncomputable def F86c : Code := bodyOf Go.Proofs.Try.f86
noncomputable def F86 (n : Nat) (a303 : Int) : Option (Bool × Unit) :=
  (bif (decide (a303 ≥ (48 : Int))) then
  some ((decide (a303 ≤ (57 : Int))), ())
  else some (false, ()))
noncomputable def F86e (n : Nat) : Ent G := ⟨86, (.cons (.int .u8) .nil), [], .bool, [], fun x y => F86 n x.1⟩
theorem F86_eq (n : Nat) (x : ShL.den G (.cons (.int .u8) .nil)) (y : denO G []) : (F86e n).F x y = runFn prog G (ro G (tabOf (E8 n)) (frOf []) _) Go.Proofs.Try.f86 .no [(0, .fz)] (ShL.enc G (.cons (.int .u8) .nil) x) (encO G [] y) (decR .bool []) := by kernel_rfl
theorem F86_ok (n : Nat) : EntOK prog G (F86e n) :=
  ent_ok (fr := frOf []) (ann := .no) (frm := [(0, .fz)]) laws fnok (E8_ok n).tab (e := F86e n) (fn := Go.Proofs.Try.f86) (by kernel_rfl) (AllF.ofB (cd := F86c) (l := []) (by kernel_rfl) (by kernel_rfl) AllF.nil) (F86_eq n)
noncomputable def E9 (n : Nat) : List (Ent G) := F86e n :: E8 n
theorem E9_ok (n : Nat) : AllE prog G (E9 n) := AllE.cons (F86_ok n) (E8_ok n)
noncomputable def F68_0x0 : SSh := ⟨34, [(2, .bool)], []⟩
noncomputable def F68_0x1 : SSh := ⟨34, [(0, .str)], []⟩
noncomputable def F68_0s : SSh := ⟨34, [(0, .str), (3, (.int .i64))], []⟩
noncomputable def F68_0_step {R : Type} (n : Nat) (k0 : Bool → Option R) (k1 : ByteArray → Option R) (rec : ByteArray → Int → Option R) (x283 : ByteArray) (x284 : Int) : Option R :=
  (bif (decide (x284 < ((x283.size) : Int))) then
  (bif (decide ((0 : Int) ≤ x284)) then
  (bif (decide (x284 < ((x283.size) : Int))) then
  (andThen (F85 n (strOf x283 (x284.toNat))) fun r299 =>
  (bif (!r299.1) then
  (bif (x284 == (0 : Int)) then
  (k0 false)
  else (bif (decide ((0 : Int) ≤ x284)) then
  (bif (decide (x284 < ((x283.size) : Int))) then
  (andThen (F86 n (strOf x283 (x284.toNat))) fun r306 =>
  (bif (!r306.1) then
  (k0 false)
  else (rec x283 (IntKind.wrap .i64 (x284 + (1 : Int))))))
  else none)
  else none))
  else (rec x283 (IntKind.wrap .i64 (x284 + (1 : Int))))))
  else none)
  else none)
  else (k1 x283))
noncomputable def F68_0_it {R : Type} (n : Nat) (k0 : Bool → Option R) (k1 : ByteArray → Option R) : Nat → ByteArray → Int → Option R
  | 0, _, _ => none
  | k + 1, x283, x284 => F68_0_step n k0 k1 (F68_0_it n k0 k1 k) x283 x284
noncomputable def F68_0 {R : Type} (n : Nat) (x283 : ByteArray) (x284 : Int) (k0 : Bool → Option R) (k1 : ByteArray → Option R) : Option R := F68_0_it n k0 k1 n x283 x284
noncomputable def F68_0z (n : Nat) : Sm G := inZ G 0 ⟨[0, 3], []⟩ F68_0s fun R x K => F68_0_it n (fun u0 => K .ret (SSh.enc G F68_0x0 ((u0, ()), ()))) (fun u0 => K (.exit 0) (SSh.enc G F68_0x1 ((u0, ()), ()))) n x.1.1 x.1.2.1
theorem F68_0_eq (n : Nat) (R : Type) (rec : SSh.den G F68_0s → Option R) (x : SSh.den G F68_0s) (K : AE → St G → Option R) :
  F68_0_step n (fun u0 => K .ret (SSh.enc G F68_0x0 ((u0, ()), ()))) (fun u0 => K (.exit 0) (SSh.enc G F68_0x1 ((u0, ()), ()))) (fun x283 x284 => rec ((x283, (x284, ())), ())) x.1.1 x.1.2.1 = exec prog G (ro G (tabOf (E9 n)) (frOf []) R) 0 (codeAt F68c [1, 0, 1, 0, 0]) .no (SSh.enc G F68_0s x) (kLoop G (ro G (tabOf (E9 n)) (frOf []) R) 0 ⟨[0, 3], []⟩ F68_0s ⟨⟨[0], []⟩, ⟨[2], []⟩, [(0, ⟨[0], []⟩)]⟩ rec K) := by kernel_rfl
theorem F68_0_ok (n : Nat) : FragOK prog G 0 (codeAt F68c [1, 0, 1, 0]) (F68_0z n) :=
  frag_loop (Z := fun R k (x : SSh.den G F68_0s) K => F68_0_it n (fun u0 => K .ret (SSh.enc G F68_0x0 ((u0, ()), ()))) (fun u0 => K (.exit 0) (SSh.enc G F68_0x1 ((u0, ()), ()))) k x.1.1 x.1.2.1) laws fnok (E9_ok n).tab (AllF.of (l := []) (by kernel_rfl) AllF.nil) (fun _ _ _ => rfl) (fun R k y K => F68_0_eq n R (fun (x : SSh.den G F68_0s) => F68_0_it n (fun u0 => K .ret (SSh.enc G F68_0x0 ((u0, ()), ()))) (fun u0 => K (.exit 0) (SSh.enc G F68_0x1 ((u0, ()), ()))) k x.1.1 x.1.2.1) y K) n
-- 87 loop.example/slowworm/spec.isKeyword
noncomputable def F87c : Code := bodyOf Go.Proofs.Try.f87
-- 90 loop.example/slowworm/spec.keywords
noncomputable def F90c : Code := bodyOf Go.Proofs.Try.f90
noncomputable def F90 (n : Nat)  : Option (List ByteArray × Unit) :=
  some ((({ data := #[78, 111, 110, 101] } : ByteArray) :: (({ data := #[84, 114, 117, 101] } : ByteArray) :: (({ data := #[70, 97, 108, 115, 101] } : ByteArray) :: (({ data := #[97, 110, 100] } : ByteArray) :: (({ data := #[111, 114] } : ByteArray) :: (({ data := #[110, 111, 116] } : ByteArray) :: (({ data := #[105, 110] } : ByteArray) :: (({ data := #[105, 115] } : ByteArray) :: (({ data := #[105, 102] } : ByteArray) :: (({ data := #[101, 108, 105, 102] } : ByteArray) :: (({ data := #[101, 108, 115, 101] } : ByteArray) :: (({ data := #[119, 104, 105, 108, 101] } : ByteArray) :: (({ data := #[102, 111, 114] } : ByteArray) :: (({ data := #[98, 114, 101, 97, 107] } : ByteArray) :: (({ data := #[99, 111, 110, 116, 105, 110, 117, 101] } : ByteArray) :: (({ data := #[112, 97, 115, 115] } : ByteArray) :: (({ data := #[100, 101, 102] } : ByteArray) :: (({ data := #[114, 101, 116, 117, 114, 110] } : ByteArray) :: (({ data := #[108, 97, 109, 98, 100, 97] } : ByteArray) :: (({ data := #[99, 108, 97, 115, 115] } : ByteArray) :: (({ data := #[116, 114, 121] } : ByteArray) :: (({ data := #[101, 120, 99, 101, 112, 116] } : ByteArray) :: (({ data := #[102, 105, 110, 97, 108, 108, 121] } : ByteArray) :: (({ data := #[114, 97, 105, 115, 101] } : ByteArray) :: (({ data := #[97, 115] } : ByteArray) :: (({ data := #[103, 108, 111, 98, 97, 108] } : ByteArray) :: (({ data := #[110, 111, 110, 108, 111, 99, 97, 108] } : ByteArray) :: (({ data := #[121, 105, 101, 108, 100] } : ByteArray) :: (({ data := #[105, 109, 112, 111, 114, 116] } : ByteArray) :: (({ data := #[100, 101, 108] } : ByteArray) :: (({ data := #[97, 115, 115, 101, 114, 116] } : ByteArray) :: []))))))))))))))))))))))))))))))), ())
noncomputable def F90e (n : Nat) : Ent G := ⟨90, .nil, [], (.imm 2), [], fun x y => F90 n⟩
theorem F90_eq (n : Nat) (x : ShL.den G .nil) (y : denO G []) : (F90e n).F x y = runFn prog G (ro G (tabOf (E9 n)) (frOf []) _) Go.Proofs.Try.f90 .no [(0, .fz)] (ShL.enc G .nil x) (encO G [] y) (decR (.imm 2) []) := by kernel_rfl
theorem F90_ok (n : Nat) : EntOK prog G (F90e n) :=
  ent_ok (fr := frOf []) (ann := .no) (frm := [(0, .fz)]) laws fnok (E9_ok n).tab (e := F90e n) (fn := Go.Proofs.Try.f90) (by kernel_rfl) (AllF.ofB (cd := F90c) (l := []) (by kernel_rfl) (by kernel_rfl) AllF.nil) (F90_eq n)
noncomputable def E10 (n : Nat) : List (Ent G) := F90e n :: E9 n
theorem E10_ok (n : Nat) : AllE prog G (E10 n) := AllE.cons (F90_ok n) (E9_ok n)
-- 52 loop.example/slowworm/spec.isOne
noncomputable def F52c : Code := bodyOf Go.Proofs.Try.f52
noncomputable def F52_0x0 : SSh := ⟨18, [(4, .bool)], []⟩
noncomputable def F52_0x1 : SSh := ⟨18, [], []⟩
noncomputable def F52_0s : SSh := ⟨18, [(0, (.imm 2)), (1, .str), (5, (.int .i64))], []⟩
noncomputable def F52_0_step {R : Type} (n : Nat) (k0 : Bool → Option R) (k1 : Option R) (rec : List ByteArray → ByteArray → Int → Option R) (x319 : List ByteArray) (x320 : ByteArray) (x321 : Int) : Option R :=
  (bif (decide (x321 < ((x319.length) : Int))) then
  (bif (decide ((0 : Int) ≤ x321)) then
  (bif (decide (x321 < ((x319.length) : Int))) then
  (bif (((x319.getD (x321.toNat) ({ data := #[] } : ByteArray)).toList) == (x320.toList)) then
  (k0 true)
  else (rec x319 x320 (IntKind.wrap .i64 (x321 + (1 : Int)))))
  else none)
  else none)
  else k1)
noncomputable def F52_0_it {R : Type} (n : Nat) (k0 : Bool → Option R) (k1 : Option R) : Nat → List ByteArray → ByteArray → Int → Option R
  | 0, _, _, _ => none
  | k + 1, x319, x320, x321 => F52_0_step n k0 k1 (F52_0_it n k0 k1 k) x319 x320 x321
noncomputable def F52_0 {R : Type} (n : Nat) (x319 : List ByteArray) (x320 : ByteArray) (x321 : Int) (k0 : Bool → Option R) (k1 : Option R) : Option R := F52_0_it n k0 k1 n x319 x320 x321
noncomputable def F52_0z (n : Nat) : Sm G := inZ G 0 ⟨[0, 1, 5], []⟩ F52_0s fun R x K => F52_0_it n (fun u0 => K .ret (SSh.enc G F52_0x0 ((u0, ()), ()))) (K (.exit 0) (SSh.enc G F52_0x1 ((), ()))) n x.1.1 x.1.2.1 x.1.2.2.1
theorem F52_0_eq (n : Nat) (R : Type) (rec : SSh.den G F52_0s → Option R) (x : SSh.den G F52_0s) (K : AE → St G → Option R) :
  F52_0_step n (fun u0 => K .ret (SSh.enc G F52_0x0 ((u0, ()), ()))) (K (.exit 0) (SSh.enc G F52_0x1 ((), ()))) (fun x319 x320 x321 => rec ((x319, (x320, (x321, ()))), ())) x.1.1 x.1.2.1 x.1.2.2.1 = exec prog G (ro G (tabOf (E10 n)) (frOf []) R) 0 (codeAt F52c [1, 0, 1, 0, 0]) .no (SSh.enc G F52_0s x) (kLoop G (ro G (tabOf (E10 n)) (frOf []) R) 0 ⟨[0, 1, 5], []⟩ F52_0s ⟨⟨[], []⟩, ⟨[4], []⟩, [(0, ⟨[], []⟩)]⟩ rec K) := by kernel_rfl
theorem F52_0_ok (n : Nat) : FragOK prog G 0 (codeAt F52c [1, 0, 1, 0]) (F52_0z n) :=
  frag_loop (Z := fun R k (x : SSh.den G F52_0s) K => F52_0_it n (fun u0 => K .ret (SSh.enc G F52_0x0 ((u0, ()), ()))) (K (.exit 0) (SSh.enc G F52_0x1 ((), ()))) k x.1.1 x.1.2.1 x.1.2.2.1) laws fnok (E10_ok n).tab (AllF.of (l := []) (by kernel_rfl) AllF.nil) (fun _ _ _ => rfl) (fun R k y K => F52_0_eq n R (fun (x : SSh.den G F52_0s) => F52_0_it n (fun u0 => K .ret (SSh.enc G F52_0x0 ((u0, ()), ()))) (K (.exit 0) (SSh.enc G F52_0x1 ((), ()))) k x.1.1 x.1.2.1 x.1.2.2.1) y K) n
noncomputable def F52 (n : Nat) (a317 : List ByteArray) (a318 : ByteArray) : Option (Bool × Unit) :=
  (F52_0 n a317 a318 (0 : Int) (fun z328 =>
  some (z328, ())) (
  some (false, ())))
noncomputable def F52e (n : Nat) : Ent G := ⟨52, (.cons (.imm 2) (.cons .str .nil)), [], .bool, [], fun x y => F52 n x.1 x.2.1⟩
theorem F52_eq (n : Nat) (x : ShL.den G (.cons (.imm 2) (.cons .str .nil))) (y : denO G []) : (F52e n).F x y = runFn prog G (ro G (tabOf (E10 n)) (frOf [F52_0z n]) _) Go.Proofs.Try.f52 (.nd .no (.nd (.nd .no (.nd (.use 0) .no)) .no)) [(0, .fz)] (ShL.enc G (.cons (.imm 2) (.cons .str .nil)) x) (encO G [] y) (decR .bool []) := by kernel_rfl
theorem F52_ok (n : Nat) : EntOK prog G (F52e n) :=
  ent_ok (fr := frOf [F52_0z n]) (ann := (.nd .no (.nd (.nd .no (.nd (.use 0) .no)) .no))) (frm := [(0, .fz)]) laws fnok (E10_ok n).tab (e := F52e n) (fn := Go.Proofs.Try.f52) (by kernel_rfl) (AllF.ofB (cd := F52c) (l := [(0, codeAt F52c [1, 0, 1, 0])]) (by kernel_rfl) (by kernel_rfl) (AllF.cons (F52_0_ok n) AllF.nil)) (F52_eq n)
noncomputable def E11 (n : Nat) : List (Ent G) := F52e n :: E10 n
theorem E11_ok (n : Nat) : AllE prog G (E11 n) := AllE.cons (F52_ok n) (E10_ok n)
noncomputable def F87 (n : Nat) (a314 : ByteArray) : Option (Bool × Unit) :=
  (andThen (F90 n) fun r316 =>
  (andThen (F52 n r316.1 a314) fun r329 =>
  some (r329.1, ())))
noncomputable def F87e (n : Nat) : Ent G := ⟨87, (.cons .str .nil), [], .bool, [], fun x y => F87 n x.1⟩
theorem F87_eq (n : Nat) (x : ShL.den G (.cons .str .nil)) (y : denO G []) : (F87e n).F x y = runFn prog G (ro G (tabOf (E11 n)) (frOf []) _) Go.Proofs.Try.f87 .no [(0, .fz)] (ShL.enc G (.cons .str .nil) x) (encO G [] y) (decR .bool []) := by kernel_rfl
theorem F87_ok (n : Nat) : EntOK prog G (F87e n) :=
  ent_ok (fr := frOf []) (ann := .no) (frm := [(0, .fz)]) laws fnok (E11_ok n).tab (e := F87e n) (fn := Go.Proofs.Try.f87) (by kernel_rfl) (AllF.ofB (cd := F87c) (l := []) (by kernel_rfl) (by kernel_rfl) AllF.nil) (F87_eq n)
noncomputable def E12 (n : Nat) : List (Ent G) := F87e n :: E11 n
theorem E12_ok (n : Nat) : AllE prog G (E12 n) := AllE.cons (F87_ok n) (E11_ok n)
noncomputable def F68 (n : Nat) (a282 : ByteArray) : Option (Bool × Unit) :=
  (F68_0 n a282 (0 : Int) (fun z310 =>
  some (z310, ())) (fun z311 =>
  (andThen (F70 n ((z311.size) : Int) (1 : Int) (12 : Int)) fun r313 =>
  (bif r313.1 then
  (andThen (F87 n z311) fun r330 =>
  some ((!r330.1), ()))
  else some (false, ())))))
noncomputable def F68e (n : Nat) : Ent G := ⟨68, (.cons .str .nil), [], .bool, [], fun x y => F68 n x.1⟩
theorem F68_eq (n : Nat) (x : ShL.den G (.cons .str .nil)) (y : denO G []) : (F68e n).F x y = runFn prog G (ro G (tabOf (E12 n)) (frOf [F68_0z n]) _) Go.Proofs.Try.f68 (.nd .no (.nd (.nd .no (.nd (.use 0) .no)) .no)) [(0, .fz)] (ShL.enc G (.cons .str .nil) x) (encO G [] y) (decR .bool []) := by kernel_rfl
theorem F68_ok (n : Nat) : EntOK prog G (F68e n) :=
  ent_ok (fr := frOf [F68_0z n]) (ann := (.nd .no (.nd (.nd .no (.nd (.use 0) .no)) .no))) (frm := [(0, .fz)]) laws fnok (E12_ok n).tab (e := F68e n) (fn := Go.Proofs.Try.f68) (by kernel_rfl) (AllF.ofB (cd := F68c) (l := [(0, codeAt F68c [1, 0, 1, 0])]) (by kernel_rfl) (by kernel_rfl) (AllF.cons (F68_0_ok n) AllF.nil)) (F68_eq n)
noncomputable def E13 (n : Nat) : List (Ent G) := F68e n :: E12 n
theorem E13_ok (n : Nat) : AllE prog G (E13 n) := AllE.cons (F68_ok n) (E12_ok n)
-- 69 loop.example/slowworm/spec.opLevel
noncomputable def F69c : Code := bodyOf Go.Proofs.Try.f69
noncomputable def F69 (n : Nat) (a347 : ByteArray) : Option (Int × Unit) :=
  (andThen (F52 n (({ data := #[60] } : ByteArray) :: (({ data := #[60, 61] } : ByteArray) :: (({ data := #[62] } : ByteArray) :: (({ data := #[62, 61] } : ByteArray) :: (({ data := #[61, 61] } : ByteArray) :: (({ data := #[33, 61] } : ByteArray) :: (({ data := #[105, 110] } : ByteArray) :: (({ data := #[105, 115] } : ByteArray) :: [])))))))) a347) fun r349 =>
  (bif r349.1 then
  some ((5 : Int), ())
  else (bif ((a347.toList) == (({ data := #[43] } : ByteArray).toList)) then
  some ((6 : Int), ())
  else (bif ((a347.toList) == (({ data := #[45] } : ByteArray).toList)) then
  some ((6 : Int), ())
  else (bif ((a347.toList) == (({ data := #[42] } : ByteArray).toList)) then
  some ((7 : Int), ())
  else (bif ((a347.toList) == (({ data := #[47, 47] } : ByteArray).toList)) then
  some ((7 : Int), ())
  else (bif ((a347.toList) == (({ data := #[37] } : ByteArray).toList)) then
  some ((7 : Int), ())
  else (bif ((a347.toList) == (({ data := #[42, 42] } : ByteArray).toList)) then
  some ((9 : Int), ())
  else some ((-1 : Int), ())))))))))
noncomputable def F69e (n : Nat) : Ent G := ⟨69, (.cons .str .nil), [], (.int .i64), [], fun x y => F69 n x.1⟩
theorem F69_eq (n : Nat) (x : ShL.den G (.cons .str .nil)) (y : denO G []) : (F69e n).F x y = runFn prog G (ro G (tabOf (E13 n)) (frOf []) _) Go.Proofs.Try.f69 .no [(0, .fz)] (ShL.enc G (.cons .str .nil) x) (encO G [] y) (decR (.int .i64) []) := by kernel_rfl
theorem F69_ok (n : Nat) : EntOK prog G (F69e n) :=
  ent_ok (fr := frOf []) (ann := .no) (frm := [(0, .fz)]) laws fnok (E13_ok n).tab (e := F69e n) (fn := Go.Proofs.Try.f69) (by kernel_rfl) (AllF.ofB (cd := F69c) (l := []) (by kernel_rfl) (by kernel_rfl) AllF.nil) (F69_eq n)
noncomputable def E14 (n : Nat) : List (Ent G) := F69e n :: E13 n
theorem E14_ok (n : Nat) : AllE prog G (E14 n) := AllE.cons (F69_ok n) (E13_ok n)
-- 71 loop.example/slowworm/spec.onceEach
noncomputable def F71c : Code := bodyOf Go.Proofs.Try.f71
noncomputable def F71_0x0 : SSh := ⟨26, [(2, .bool)], []⟩
noncomputable def F71_0x1 : SSh := ⟨26, [], []⟩
noncomputable def F71_0s : SSh := ⟨26, [(0, (.imm 2)), (3, (.int .i64))], []⟩
noncomputable def F71_0_step {R : Type} (n : Nat) (k0 : Bool → Option R) (k1 : Option R) (rec : List ByteArray → Int → Option R) (x370 : List ByteArray) (x371 : Int) : Option R :=
  (bif (decide (x371 < ((x370.length) : Int))) then
  (bif (decide ((0 : Int) ≤ x371)) then
  (bif (decide (x371 < ((x370.length) : Int))) then
  (andThen (F68 n (x370.getD (x371.toNat) ({ data := #[] } : ByteArray))) fun r376 =>
  (bif (!r376.1) then
  (k0 false)
  else (bif (decide ((0 : Int) ≤ x371)) then
  (bif (decide (x371 ≤ ((x370.length) : Int))) then
  (bif (decide ((0 : Int) ≤ x371)) then
  (bif (decide (x371 < ((x370.length) : Int))) then
  (andThen (F52 n ((x370.take (x371.toNat)).drop (0 : Nat)) (x370.getD (x371.toNat) ({ data := #[] } : ByteArray))) fun r381 =>
  (bif r381.1 then
  (k0 false)
  else (rec x370 (IntKind.wrap .i64 (x371 + (1 : Int))))))
  else none)
  else none)
  else none)
  else none)))
  else none)
  else none)
  else k1)
noncomputable def F71_0_it {R : Type} (n : Nat) (k0 : Bool → Option R) (k1 : Option R) : Nat → List ByteArray → Int → Option R
  | 0, _, _ => none
  | k + 1, x370, x371 => F71_0_step n k0 k1 (F71_0_it n k0 k1 k) x370 x371
noncomputable def F71_0 {R : Type} (n : Nat) (x370 : List ByteArray) (x371 : Int) (k0 : Bool → Option R) (k1 : Option R) : Option R := F71_0_it n k0 k1 n x370 x371
noncomputable def F71_0z (n : Nat) : Sm G := inZ G 0 ⟨[0, 3], []⟩ F71_0s fun R x K => F71_0_it n (fun u0 => K .ret (SSh.enc G F71_0x0 ((u0, ()), ()))) (K (.exit 0) (SSh.enc G F71_0x1 ((), ()))) n x.1.1 x.1.2.1
theorem F71_0_eq (n : Nat) (R : Type) (rec : SSh.den G F71_0s → Option R) (x : SSh.den G F71_0s) (K : AE → St G → Option R) :
  F71_0_step n (fun u0 => K .ret (SSh.enc G F71_0x0 ((u0, ()), ()))) (K (.exit 0) (SSh.enc G F71_0x1 ((), ()))) (fun x370 x371 => rec ((x370, (x371, ())), ())) x.1.1 x.1.2.1 = exec prog G (ro G (tabOf (E14 n)) (frOf []) R) 0 (codeAt F71c [1, 0, 1, 0, 0]) .no (SSh.enc G F71_0s x) (kLoop G (ro G (tabOf (E14 n)) (frOf []) R) 0 ⟨[0, 3], []⟩ F71_0s ⟨⟨[], []⟩, ⟨[2], []⟩, [(0, ⟨[], []⟩)]⟩ rec K) := by kernel_rfl
theorem F71_0_ok (n : Nat) : FragOK prog G 0 (codeAt F71c [1, 0, 1, 0]) (F71_0z n) :=
  frag_loop (Z := fun R k (x : SSh.den G F71_0s) K => F71_0_it n (fun u0 => K .ret (SSh.enc G F71_0x0 ((u0, ()), ()))) (K (.exit 0) (SSh.enc G F71_0x1 ((), ()))) k x.1.1 x.1.2.1) laws fnok (E14_ok n).tab (AllF.of (l := []) (by kernel_rfl) AllF.nil) (fun _ _ _ => rfl) (fun R k y K => F71_0_eq n R (fun (x : SSh.den G F71_0s) => F71_0_it n (fun u0 => K .ret (SSh.enc G F71_0x0 ((u0, ()), ()))) (K (.exit 0) (SSh.enc G F71_0x1 ((), ()))) k x.1.1 x.1.2.1) y K) n
noncomputable def F71 (n : Nat) (a369 : List ByteArray) : Option (Bool × Unit) :=
  (F71_0 n a369 (0 : Int) (fun z383 =>
  some (z383, ())) (
  some (true, ())))
noncomputable def F71e (n : Nat) : Ent G := ⟨71, (.cons (.imm 2) .nil), [], .bool, [], fun x y => F71 n x.1⟩
theorem F71_eq (n : Nat) (x : ShL.den G (.cons (.imm 2) .nil)) (y : denO G []) : (F71e n).F x y = runFn prog G (ro G (tabOf (E14 n)) (frOf [F71_0z n]) _) Go.Proofs.Try.f71 (.nd .no (.nd (.nd .no (.nd (.use 0) .no)) .no)) [(0, .fz)] (ShL.enc G (.cons (.imm 2) .nil) x) (encO G [] y) (decR .bool []) := by kernel_rfl
theorem F71_ok (n : Nat) : EntOK prog G (F71e n) :=
  ent_ok (fr := frOf [F71_0z n]) (ann := (.nd .no (.nd (.nd .no (.nd (.use 0) .no)) .no))) (frm := [(0, .fz)]) laws fnok (E14_ok n).tab (e := F71e n) (fn := Go.Proofs.Try.f71) (by kernel_rfl) (AllF.ofB (cd := F71c) (l := [(0, codeAt F71c [1, 0, 1, 0])]) (by kernel_rfl) (by kernel_rfl) (AllF.cons (F71_0_ok n) AllF.nil)) (F71_eq n)
noncomputable def E15 (n : Nat) : List (Ent G) := F71e n :: E14 n
theorem E15_ok (n : Nat) : AllE prog G (E15 n) := AllE.cons (F71_ok n) (E14_ok n)
noncomputable def F53_1x0 : SSh := ⟨208, [(2, .bool)], []⟩
noncomputable def F53_1x1 : SSh := ⟨208, [], []⟩
noncomputable def F53_1s : SSh := ⟨208, [(1, (.ptr 0 0)), (3, (.int .i64))], [(.box 30 (.cons (.int .i64) (.cons .str (.cons (.imm 2) (.cons (.imm 3) .nil)))))]⟩
noncomputable def F53_1 {R : Type} (n : Nat) (x213 : Int) (x214 : Int) (x215 : ByteArray) (x216 : List ByteArray) (x217 : List Ex) (k0 : Bool → Option R) (k1 : Option R) : Option R :=
  (F53_0 n x213 x214 x214 x215 x216 x217 (fun z227 z228 z229 z230 z231 z232 z233 =>
  (bif z229 then
  (bif (z227 == (0 : Int)) then
  (k0 ((z231.toList) == (({ data := #[] } : ByteArray).toList)))
  else (k0 false))
  else (bif (z228 == (4 : Int)) then
  (bif (z227 == (0 : Int)) then
  (andThen (F66 n z231) fun r271 =>
  (bif r271.1 then
  (bif (decide ((0 : Int) < ((z231.size) : Int))) then
  (k0 ((strOf z231 (0 : Nat)) != (45 : Int)))
  else none)
  else (k0 false)))
  else (k0 false))
  else (bif (z228 == (5 : Int)) then
  (bif (z227 == (0 : Int)) then
  (andThen (F67 n z231) fun r279 =>
  (k0 r279.1))
  else (k0 false))
  else (bif (z228 == (6 : Int)) then
  (bif (z227 == (0 : Int)) then
  (andThen (F68 n z231) fun r332 =>
  (k0 r332.1))
  else (k0 false))
  else (bif (z228 == (7 : Int)) then
  (bif (decide (z227 ≤ (6 : Int))) then
  (k0 ((z231.toList) == (({ data := #[] } : ByteArray).toList)))
  else (k0 false))
  else (bif (z228 == (8 : Int)) then
  (bif (decide (z227 ≤ (12 : Int))) then
  (bif ((z227.tmod (2 : Int)) == (0 : Int)) then
  (k0 ((z231.toList) == (({ data := #[] } : ByteArray).toList)))
  else (k0 false))
  else (k0 false))
  else (bif (z228 == (9 : Int)) then
  (bif (z227 == (1 : Int)) then
  (bif ((z231.toList) == (({ data := #[45] } : ByteArray).toList)) then
  (k0 true)
  else (k0 ((z231.toList) == (({ data := #[110, 111, 116] } : ByteArray).toList))))
  else (k0 false))
  else (bif (z228 == (10 : Int)) then
  (bif (z227 == (2 : Int)) then
  (andThen (F69 n z231) fun r356 =>
  (k0 (decide (r356.1 ≥ (0 : Int)))))
  else (k0 false))
  else (bif (z228 == (11 : Int)) then
  (bif (z227 == (2 : Int)) then
  (bif ((z231.toList) == (({ data := #[97, 110, 100] } : ByteArray).toList)) then
  (k0 true)
  else (k0 ((z231.toList) == (({ data := #[111, 114] } : ByteArray).toList))))
  else (k0 false))
  else (bif (z228 == (12 : Int)) then
  (bif (z227 == (3 : Int)) then
  (k0 ((z231.toList) == (({ data := #[] } : ByteArray).toList)))
  else (k0 false))
  else (bif (z228 == (13 : Int)) then
  (andThen (F70 n z227 (1 : Int) (7 : Int)) fun r366 =>
  (bif r366.1 then
  (bif (decide (((z232.length) : Int) < z227)) then
  (andThen (F71 n z232) fun r384 =>
  (bif r384.1 then
  (k0 ((z231.toList) == (({ data := #[] } : ByteArray).toList)))
  else (k0 false)))
  else (k0 false))
  else (k0 false)))
  else (bif (z228 == (14 : Int)) then
  (bif (z227 == (2 : Int)) then
  (k0 ((z231.toList) == (({ data := #[] } : ByteArray).toList)))
  else (k0 false))
  else (bif (z228 == (15 : Int)) then
  (bif (z227 == (1 : Int)) then
  (andThen (F68 n z231) fun r391 =>
  (k0 r391.1))
  else (k0 false))
  else (bif (z228 == (16 : Int)) then
  (bif (z227 == (1 : Int)) then
  (bif (decide (((z232.length) : Int) ≤ (6 : Int))) then
  (andThen (F71 n z232) fun r396 =>
  (bif r396.1 then
  (k0 ((z231.toList) == (({ data := #[] } : ByteArray).toList)))
  else (k0 false)))
  else (k0 false))
  else (k0 false))
  else (bif (z228 == (17 : Int)) then
  (bif (z227 == (1 : Int)) then
  (k0 ((z231.toList) == (({ data := #[] } : ByteArray).toList)))
  else (k0 false))
  else k1)))))))))))))))))
noncomputable def F53_1z (n : Nat) : Sm G := inZ G 0 ⟨[1, 3], []⟩ F53_1s fun R x K => F53_1 n x.1.2.1 x.2.1.1 x.2.1.2.1 x.2.1.2.2.1 x.2.1.2.2.2.1 (fun u0 => K .ret (SSh.enc G F53_1x0 ((u0, ()), ()))) (K .normal (SSh.enc G F53_1x1 ((), ())))
theorem F53_1_eq (n : Nat) (R : Type) (x : SSh.den G F53_1s) (K : AE → St G → Option R) :
  F53_1 n x.1.2.1 x.2.1.1 x.2.1.2.1 x.2.1.2.2.1 x.2.1.2.2.2.1 (fun u0 => K .ret (SSh.enc G F53_1x0 ((u0, ()), ()))) (K .normal (SSh.enc G F53_1x1 ((), ()))) = exec prog G (ro G (tabOf (E15 n)) (frOf [F53_0z n]) R) 0 (codeAt F53c [1, 1, 1, 1, 0]) (.nd .no (.nd (.nd (.use 0) .no) .no)) (SSh.enc G F53_1s x) (kNrm G (ro G (tabOf (E15 n)) (frOf [F53_0z n]) R) 0 ⟨⟨[], []⟩, ⟨[2], []⟩, []⟩ K) := by kernel_rfl
theorem F53_1_ok (n : Nat) : FragOK prog G 0 (codeAt F53c [1, 1, 1, 1, 0]) (F53_1z n) :=
  frag_plain laws fnok (E15_ok n).tab (AllF.of (l := [(0, codeAt F53c [1, 1, 1, 1, 0, 1, 0, 0])]) (by kernel_rfl) (AllF.cons (F53_0_ok n) AllF.nil)) (F53_1_eq n)
noncomputable def F53 (n : Nat) (a207 : Int) (a208 : ByteArray) (a209 : List ByteArray) (a210 : List Ex) : Option (Bool × Unit) :=
  let v211 := ((a210.length) : Int)
  (bif (a207 == (13 : Int)) then
  (F53_1 n v211 a207 a208 a209 a210 (fun z401 =>
  some (z401, ())) (
  some (false, ())))
  else (bif (!(a207 == (16 : Int))) then
  (bif (decide (((a209.length) : Int) > (0 : Int))) then
  some (false, ())
  else (F53_1 n v211 a207 a208 a209 a210 (fun z406 =>
  some (z406, ())) (
  some (false, ()))))
  else (F53_1 n v211 a207 a208 a209 a210 (fun z407 =>
  some (z407, ())) (
  some (false, ())))))
noncomputable def F53e (n : Nat) : Ent G := ⟨53, (.cons (.agg (.cons (.int .i64) (.cons .str (.cons (.imm 2) (.cons (.imm 3) .nil))))) .nil), [], .bool, [], fun x y => F53 n x.1.1 x.1.2.1 x.1.2.2.1 x.1.2.2.2.1⟩
theorem F53_eq (n : Nat) (x : ShL.den G (.cons (.agg (.cons (.int .i64) (.cons .str (.cons (.imm 2) (.cons (.imm 3) .nil))))) .nil)) (y : denO G []) : (F53e n).F x y = runFn prog G (ro G (tabOf (E15 n)) (frOf [F53_0z n, F53_1z n]) _) Go.Proofs.Try.f53 (.nd .no (.nd .no (.nd .no (.nd .no (.nd (.use 1) .no))))) [(0, .fz)] (ShL.enc G (.cons (.agg (.cons (.int .i64) (.cons .str (.cons (.imm 2) (.cons (.imm 3) .nil))))) .nil) x) (encO G [] y) (decR .bool []) := by kernel_rfl
theorem F53_ok (n : Nat) : EntOK prog G (F53e n) :=
  ent_ok (fr := frOf [F53_0z n, F53_1z n]) (ann := (.nd .no (.nd .no (.nd .no (.nd .no (.nd (.use 1) .no)))))) (frm := [(0, .fz)]) laws fnok (E15_ok n).tab (e := F53e n) (fn := Go.Proofs.Try.f53) (by kernel_rfl) (AllF.ofB (cd := F53c) (l := [(1, codeAt F53c [1, 1, 1, 1, 0])]) (by kernel_rfl) (by kernel_rfl) (AllF.cons (F53_1_ok n) AllF.nil)) (F53_eq n)
noncomputable def E16 (n : Nat) : List (Ent G) := F53e n :: E15 n
theorem E16_ok (n : Nat) : AllE prog G (E16 n) := AllE.cons (F53_ok n) (E15_ok n)
abbrev Q31RC : Type := (Int → ByteArray → List ByteArray → List Ex → Int → Option (Bool × Unit)) × Unit
noncomputable def Q31L (n : Nat) (rc : Q31RC) : List (Ent G) := ⟨31, (.cons (.agg (.cons (.int .i64) (.cons .str (.cons (.imm 2) (.cons (.imm 3) .nil))))) (.cons (.int .i64) .nil)), [], .bool, [], fun x y => rc.1 x.1.1 x.1.2.1 x.1.2.2.1 x.1.2.2.2.1 x.2.1⟩ :: E16 n
-- 31 loop.example/slowworm/spec.validExpr
noncomputable def F31bc : Code := bodyOf Go.Proofs.Try.f31
noncomputable def F31b_0x0 : SSh := ⟨29, [(4, .bool)], []⟩
noncomputable def F31b_0x1 : SSh := ⟨29, [], []⟩
noncomputable def F31b_0s : SSh := ⟨29, [(1, (.int .i64)), (2, (.ptr 0 0)), (5, (.int .i64))], [(.box 30 (.cons (.int .i64) (.cons .str (.cons (.imm 2) (.cons (.imm 3) .nil)))))]⟩
noncomputable def F31b_0_step {R : Type} (n : Nat) (rc : Q31RC) (k0 : Bool → Option R) (k1 : Option R) (rec : Int → Int → Int → ByteArray → List ByteArray → List Ex → Option R) (x458 : Int) (x459 : Int) (x460 : Int) (x461 : ByteArray) (x462 : List ByteArray) (x463 : List Ex) : Option R :=
  (bif (decide (x459 < ((x463.length) : Int))) then
  (bif (decide ((0 : Int) ≤ x459)) then
  (bif (decide (x459 < ((x463.length) : Int))) then
  let v466 := (x463.getD (x459.toNat) (Ex.mk (0 : Int) ({ data := #[] } : ByteArray) [] []))
  (andThen (rc.1 v466.kind v466.text v466.names v466.kids (IntKind.wrap .i64 (x458 - (1 : Int)))) fun r472 =>
  (bif (!r472.1) then
  (k0 false)
  else (rec x458 (IntKind.wrap .i64 (x459 + (1 : Int))) x460 x461 x462 x463)))
  else none)
  else none)
  else k1)
noncomputable def F31b_0_it {R : Type} (n : Nat) (rc : Q31RC) (k0 : Bool → Option R) (k1 : Option R) : Nat → Int → Int → Int → ByteArray → List ByteArray → List Ex → Option R
  | 0, _, _, _, _, _, _ => none
  | k + 1, x458, x459, x460, x461, x462, x463 => F31b_0_step n rc k0 k1 (F31b_0_it n rc k0 k1 k) x458 x459 x460 x461 x462 x463
noncomputable def F31b_0 {R : Type} (n : Nat) (rc : Q31RC) (x458 : Int) (x459 : Int) (x460 : Int) (x461 : ByteArray) (x462 : List ByteArray) (x463 : List Ex) (k0 : Bool → Option R) (k1 : Option R) : Option R := F31b_0_it n rc k0 k1 n x458 x459 x460 x461 x462 x463
noncomputable def F31b_0z (n : Nat) (rc : Q31RC) : Sm G := inZ G 0 ⟨[1, 2, 5], []⟩ F31b_0s fun R x K => F31b_0_it n rc (fun u0 => K .ret (SSh.enc G F31b_0x0 ((u0, ()), ()))) (K (.exit 0) (SSh.enc G F31b_0x1 ((), ()))) n x.1.1 x.1.2.2.1 x.2.1.1 x.2.1.2.1 x.2.1.2.2.1 x.2.1.2.2.2.1
theorem F31b_0_eq (n : Nat) (rc : Q31RC) (R : Type) (rec : SSh.den G F31b_0s → Option R) (x : SSh.den G F31b_0s) (K : AE → St G → Option R) :
  F31b_0_step n rc (fun u0 => K .ret (SSh.enc G F31b_0x0 ((u0, ()), ()))) (K (.exit 0) (SSh.enc G F31b_0x1 ((), ()))) (fun x458 x459 x460 x461 x462 x463 => rec ((x458, ((), (x459, ()))), ((x460, (x461, (x462, (x463, ())))), ()))) x.1.1 x.1.2.2.1 x.2.1.1 x.2.1.2.1 x.2.1.2.2.1 x.2.1.2.2.2.1 = exec prog G (ro G (tabOf (Q31L n rc)) (frOf []) R) 0 (codeAt F31bc [1, 1, 0, 1, 0, 0]) .no (SSh.enc G F31b_0s x) (kLoop G (ro G (tabOf (Q31L n rc)) (frOf []) R) 0 ⟨[1, 2, 5], []⟩ F31b_0s ⟨⟨[], []⟩, ⟨[4], []⟩, [(0, ⟨[], []⟩)]⟩ rec K) := by kernel_rfl
theorem F31b_0_ok (n : Nat) (rc : Q31RC) (h : AllE prog G (Q31L n rc)) : FragOK prog G 0 (codeAt F31bc [1, 1, 0, 1, 0]) (F31b_0z n rc) :=
  frag_loop (Z := fun R k (x : SSh.den G F31b_0s) K => F31b_0_it n rc (fun u0 => K .ret (SSh.enc G F31b_0x0 ((u0, ()), ()))) (K (.exit 0) (SSh.enc G F31b_0x1 ((), ()))) k x.1.1 x.1.2.2.1 x.2.1.1 x.2.1.2.1 x.2.1.2.2.1 x.2.1.2.2.2.1) laws fnok h.tab (AllF.of (l := []) (by kernel_rfl) AllF.nil) (fun _ _ _ => rfl) (fun R k y K => F31b_0_eq n rc R (fun (x : SSh.den G F31b_0s) => F31b_0_it n rc (fun u0 => K .ret (SSh.enc G F31b_0x0 ((u0, ()), ()))) (K (.exit 0) (SSh.enc G F31b_0x1 ((), ()))) k x.1.1 x.1.2.2.1 x.2.1.1 x.2.1.2.1 x.2.1.2.2.1 x.2.1.2.2.2.1) y K) n
noncomputable def F31b (n : Nat) (rc : Q31RC) (a450 : Int) (a451 : ByteArray) (a452 : List ByteArray) (a453 : List Ex) (a454 : Int) : Option (Bool × Unit) :=
  (bif (decide (a454 < (1 : Int))) then
  some (false, ())
  else (andThen (F53 n a450 a451 a452 a453) fun r456 =>
  (bif (!r456.1) then
  some (false, ())
  else (F31b_0 n rc a454 (0 : Int) a450 a451 a452 a453 (fun z475 =>
  some (z475, ())) (
  some (true, ()))))))
noncomputable def F31be (n : Nat) (rc : Q31RC) : Ent G := ⟨31, (.cons (.agg (.cons (.int .i64) (.cons .str (.cons (.imm 2) (.cons (.imm 3) .nil))))) (.cons (.int .i64) .nil)), [], .bool, [], fun x y => F31b n rc x.1.1 x.1.2.1 x.1.2.2.1 x.1.2.2.2.1 x.2.1⟩
theorem F31b_eq (n : Nat) (rc : Q31RC) (x : ShL.den G (.cons (.agg (.cons (.int .i64) (.cons .str (.cons (.imm 2) (.cons (.imm 3) .nil))))) (.cons (.int .i64) .nil))) (y : denO G []) : (F31be n rc).F x y = runFn prog G (ro G (tabOf (Q31L n rc)) (frOf [F31b_0z n rc]) _) Go.Proofs.Try.f31 (.nd .no (.nd .no (.nd (.nd .no (.nd (.use 0) .no)) .no))) [(0, .fz)] (ShL.enc G (.cons (.agg (.cons (.int .i64) (.cons .str (.cons (.imm 2) (.cons (.imm 3) .nil))))) (.cons (.int .i64) .nil)) x) (encO G [] y) (decR .bool []) := by kernel_rfl
theorem F31b_ok (n : Nat) (rc : Q31RC) (h : AllE prog G (Q31L n rc)) : EntOK prog G (F31be n rc) :=
  ent_ok (fr := frOf [F31b_0z n rc]) (ann := (.nd .no (.nd .no (.nd (.nd .no (.nd (.use 0) .no)) .no)))) (frm := [(0, .fz)]) laws fnok h.tab (e := F31be n rc) (fn := Go.Proofs.Try.f31) (by kernel_rfl) (AllF.ofB (cd := F31bc) (l := [(0, codeAt F31bc [1, 1, 0, 1, 0])]) (by kernel_rfl) (by kernel_rfl) (AllF.cons (F31b_0_ok n rc h) AllF.nil)) (F31b_eq n rc)
noncomputable def Q31it (n : Nat) : Nat → Q31RC
  | 0 => (fun _ _ _ _ _ => none, ())
  | k + 1 => (F31b n (Q31it n k), ())
theorem Q31it_ok (n : Nat) : ∀ k, AllE prog G (Q31L n (Q31it n k))
  | 0 => (AllE.cons (EntOK.none fun _ _ => rfl) (E16_ok n))
  | k + 1 => (AllE.cons (F31b_ok n _ (Q31it_ok n k)) (E16_ok n))
noncomputable def F31 (n : Nat) (a0 : Int) (a1 : ByteArray) (a2 : List ByteArray) (a3 : List Ex) (a4 : Int) : Option (Bool × Unit) := (Q31it n n).1 a0 a1 a2 a3 a4
noncomputable def F31e (n : Nat) : Ent G := ⟨31, (.cons (.agg (.cons (.int .i64) (.cons .str (.cons (.imm 2) (.cons (.imm 3) .nil))))) (.cons (.int .i64) .nil)), [], .bool, [], fun x y => F31 n x.1.1 x.1.2.1 x.1.2.2.1 x.1.2.2.2.1 x.2.1⟩
noncomputable def E17 (n : Nat) : List (Ent G) := F31e n :: E16 n
theorem E17_ok (n : Nat) : AllE prog G (E17 n) := Q31it_ok n n
abbrev Q42RC : Type := (Int → ByteArray → List ByteArray → List Ex → List ByteArray → List ByteArray → Option (List ByteArray × Unit)) × Unit
noncomputable def Q42L (n : Nat) (rc : Q42RC) : List (Ent G) := ⟨42, (.cons (.agg (.cons (.int .i64) (.cons .str (.cons (.imm 2) (.cons (.imm 3) .nil))))) (.cons (.imm 2) (.cons (.imm 2) .nil))), [], (.imm 2), [], fun x y => rc.1 x.1.1 x.1.2.1 x.1.2.2.1 x.1.2.2.2.1 x.2.1 x.2.2.1⟩ :: E17 n
-- 42 loop.example/slowworm/spec.readNames
noncomputable def F42bc : Code := bodyOf Go.Proofs.Try.f42
noncomputable def F42b_0x0 : SSh := ⟨57, [(1, (.own 0)), (2, (.imm 2)), (3, (.ptr 1 0))], [(.arr 2 true), (.box 30 (.cons (.int .i64) (.cons .str (.cons (.imm 2) (.cons (.imm 3) .nil)))))]⟩
noncomputable def F42b_0x1 : SSh := ⟨57, [(1, (.imm 2)), (2, (.imm 2)), (3, (.ptr 0 0))], [(.box 30 (.cons (.int .i64) (.cons .str (.cons (.imm 2) (.cons (.imm 3) .nil)))))]⟩
noncomputable def F42b_0s : SSh := ⟨57, [(1, (.imm 2)), (2, (.imm 2)), (3, (.ptr 0 0))], [(.box 30 (.cons (.int .i64) (.cons .str (.cons (.imm 2) (.cons (.imm 3) .nil)))))]⟩
noncomputable def F42b_0 {R : Type} (n : Nat) (rc : Q42RC) (x669 : List ByteArray) (x670 : List ByteArray) (x671 : Int) (x672 : ByteArray) (x673 : List ByteArray) (x674 : List Ex) (k0 : List ByteArray → List ByteArray → Int → ByteArray → List ByteArray → List Ex → Option R) (k1 : List ByteArray → List ByteArray → Int → ByteArray → List ByteArray → List Ex → Option R) : Option R :=
  (bif (x671 == (16 : Int)) then
  let v676 := []
  (bif (decide (((v676.length) + (x669.length)) ≤ (68719476736 : Nat))) then
  let v677 := (v676 ++ x669)
  (bif (decide (((v677.length) + (x673.length)) ≤ (68719476736 : Nat))) then
  (k0 x670 (v677 ++ x673) x671 x672 x673 x674)
  else none)
  else none)
  else (k1 x669 x670 x671 x672 x673 x674))
noncomputable def F42b_0z (n : Nat) (rc : Q42RC) : Sm G := inZ G 0 ⟨[1, 2, 3], []⟩ F42b_0s fun R x K => F42b_0 n rc x.1.1 x.1.2.1 x.2.1.1 x.2.1.2.1 x.2.1.2.2.1 x.2.1.2.2.2.1 (fun u0 u1 u2 u3 u4 u5 => K .normal (SSh.enc G F42b_0x0 (((), (u0, ((), ()))), (u1, ((u2, (u3, (u4, (u5, ())))), ()))))) (fun u0 u1 u2 u3 u4 u5 => K .normal (SSh.enc G F42b_0x1 ((u0, (u1, ((), ()))), ((u2, (u3, (u4, (u5, ())))), ()))))
theorem F42b_0_eq (n : Nat) (rc : Q42RC) (R : Type) (x : SSh.den G F42b_0s) (K : AE → St G → Option R) :
  F42b_0 n rc x.1.1 x.1.2.1 x.2.1.1 x.2.1.2.1 x.2.1.2.2.1 x.2.1.2.2.2.1 (fun u0 u1 u2 u3 u4 u5 => K .normal (SSh.enc G F42b_0x0 (((), (u0, ((), ()))), (u1, ((u2, (u3, (u4, (u5, ())))), ()))))) (fun u0 u1 u2 u3 u4 u5 => K .normal (SSh.enc G F42b_0x1 ((u0, (u1, ((), ()))), ((u2, (u3, (u4, (u5, ())))), ())))) = exec prog G (ro G (tabOf (Q42L n rc)) (frOf []) R) 0 (codeAt F42bc [1, 1, 0]) .no (SSh.enc G F42b_0s x) (kNrm G (ro G (tabOf (Q42L n rc)) (frOf []) R) 0 ⟨⟨[1, 2, 3], []⟩, ⟨[6], []⟩, []⟩ K) := by kernel_rfl
theorem F42b_0_ok (n : Nat) (rc : Q42RC) (h : AllE prog G (Q42L n rc)) : FragOK prog G 0 (codeAt F42bc [1, 1, 0]) (F42b_0z n rc) :=
  frag_plain laws fnok h.tab (AllF.of (l := []) (by kernel_rfl) AllF.nil) (F42b_0_eq n rc)
noncomputable def F42b_1x0 : SSh := ⟨57, [(2, (.imm 2))], []⟩
noncomputable def F42b_1s : SSh := ⟨57, [(1, (.imm 2)), (2, (.imm 2)), (3, (.ptr 0 0)), (7, (.int .i64))], [(.box 30 (.cons (.int .i64) (.cons .str (.cons (.imm 2) (.cons (.imm 3) .nil)))))]⟩
noncomputable def F42b_1_step {R : Type} (n : Nat) (rc : Q42RC) (k0 : List ByteArray → Option R) (rec : List ByteArray → List ByteArray → Int → Int → ByteArray → List ByteArray → List Ex → Option R) (x685 : List ByteArray) (x686 : List ByteArray) (x687 : Int) (x688 : Int) (x689 : ByteArray) (x690 : List ByteArray) (x691 : List Ex) : Option R :=
  (bif (decide (x687 < ((x691.length) : Int))) then
  (bif (decide ((0 : Int) ≤ x687)) then
  (bif (decide (x687 < ((x691.length) : Int))) then
  let v694 := (x691.getD (x687.toNat) (Ex.mk (0 : Int) ({ data := #[] } : ByteArray) [] []))
  (andThen (rc.1 v694.kind v694.text v694.names v694.kids x685 x686) fun r699 =>
  (rec x685 r699.1 (IntKind.wrap .i64 (x687 + (1 : Int))) x688 x689 x690 x691))
  else none)
  else none)
  else (k0 x686))
noncomputable def F42b_1_it {R : Type} (n : Nat) (rc : Q42RC) (k0 : List ByteArray → Option R) : Nat → List ByteArray → List ByteArray → Int → Int → ByteArray → List ByteArray → List Ex → Option R
  | 0, _, _, _, _, _, _, _ => none
  | k + 1, x685, x686, x687, x688, x689, x690, x691 => F42b_1_step n rc k0 (F42b_1_it n rc k0 k) x685 x686 x687 x688 x689 x690 x691
noncomputable def F42b_1 {R : Type} (n : Nat) (rc : Q42RC) (x685 : List ByteArray) (x686 : List ByteArray) (x687 : Int) (x688 : Int) (x689 : ByteArray) (x690 : List ByteArray) (x691 : List Ex) (k0 : List ByteArray → Option R) : Option R := F42b_1_it n rc k0 n x685 x686 x687 x688 x689 x690 x691
noncomputable def F42b_1z (n : Nat) (rc : Q42RC) : Sm G := inZ G 0 ⟨[1, 2, 3, 7], [(1, .fz)]⟩ F42b_1s fun R x K => F42b_1_it n rc (fun u0 => K (.exit 0) (SSh.enc G F42b_1x0 ((u0, ()), ()))) n x.1.1 x.1.2.1 x.1.2.2.2.1 x.2.1.1 x.2.1.2.1 x.2.1.2.2.1 x.2.1.2.2.2.1
theorem F42b_1_eq (n : Nat) (rc : Q42RC) (R : Type) (rec : SSh.den G F42b_1s → Option R) (x : SSh.den G F42b_1s) (K : AE → St G → Option R) :
  F42b_1_step n rc (fun u0 => K (.exit 0) (SSh.enc G F42b_1x0 ((u0, ()), ()))) (fun x685 x686 x687 x688 x689 x690 x691 => rec ((x685, (x686, ((), (x687, ())))), ((x688, (x689, (x690, (x691, ())))), ()))) x.1.1 x.1.2.1 x.1.2.2.2.1 x.2.1.1 x.2.1.2.1 x.2.1.2.2.1 x.2.1.2.2.2.1 = exec prog G (ro G (tabOf (Q42L n rc)) (frOf [F42b_0z n rc]) R) 0 (codeAt F42bc [1, 1, 1, 0, 1, 0, 0]) .no (SSh.enc G F42b_1s x) (kLoop G (ro G (tabOf (Q42L n rc)) (frOf [F42b_0z n rc]) R) 0 ⟨[1, 2, 3, 7], [(1, .fz)]⟩ F42b_1s ⟨⟨[2], []⟩, ⟨[6], []⟩, [(0, ⟨[2], []⟩)]⟩ rec K) := by kernel_rfl
theorem F42b_1_ok (n : Nat) (rc : Q42RC) (h : AllE prog G (Q42L n rc)) : FragOK prog G 0 (codeAt F42bc [1, 1, 1, 0, 1, 0]) (F42b_1z n rc) :=
  frag_loop (Z := fun R k (x : SSh.den G F42b_1s) K => F42b_1_it n rc (fun u0 => K (.exit 0) (SSh.enc G F42b_1x0 ((u0, ()), ()))) k x.1.1 x.1.2.1 x.1.2.2.2.1 x.2.1.1 x.2.1.2.1 x.2.1.2.2.1 x.2.1.2.2.2.1) laws fnok h.tab (AllF.of (l := []) (by kernel_rfl) AllF.nil) (fun _ _ _ => rfl) (fun R k y K => F42b_1_eq n rc R (fun (x : SSh.den G F42b_1s) => F42b_1_it n rc (fun u0 => K (.exit 0) (SSh.enc G F42b_1x0 ((u0, ()), ()))) k x.1.1 x.1.2.1 x.1.2.2.2.1 x.2.1.1 x.2.1.2.1 x.2.1.2.2.1 x.2.1.2.2.2.1) y K) n
noncomputable def F42b (n : Nat) (rc : Q42RC) (a654 : Int) (a655 : ByteArray) (a656 : List ByteArray) (a657 : List Ex) (a658 : List ByteArray) (a659 : List ByteArray) : Option (List ByteArray × Unit) :=
  (bif (a654 == (6 : Int)) then
  (andThen (F52 n a658 a655) fun r661 =>
  (bif (!r661.1) then
  (andThen (F52 n a659 a655) fun r663 =>
  (bif (!r663.1) then
  let v665 := []
  (bif (decide (((v665.length) + (a659.length)) ≤ (68719476736 : Nat))) then
  let v666 := (v665 ++ a659)
  let v667 := (a655 :: [])
  (bif (decide (((v666.length) + (v667.length)) ≤ (68719476736 : Nat))) then
  some ((v666 ++ v667), ())
  else none)
  else none)
  else (F42b_0 n rc a658 a659 a654 a655 a656 a657 (fun z679 z680 z681 z682 z683 z684 =>
  (F42b_1 n rc z680 z679 (0 : Int) z681 z682 z683 z684 (fun z701 =>
  some (z701, ())))) (fun z702 z703 z704 z705 z706 z707 =>
  (F42b_1 n rc z702 z703 (0 : Int) z704 z705 z706 z707 (fun z708 =>
  some (z708, ())))))))
  else (F42b_0 n rc a658 a659 a654 a655 a656 a657 (fun z709 z710 z711 z712 z713 z714 =>
  (F42b_1 n rc z710 z709 (0 : Int) z711 z712 z713 z714 (fun z715 =>
  some (z715, ())))) (fun z716 z717 z718 z719 z720 z721 =>
  (F42b_1 n rc z716 z717 (0 : Int) z718 z719 z720 z721 (fun z722 =>
  some (z722, ())))))))
  else (F42b_0 n rc a658 a659 a654 a655 a656 a657 (fun z723 z724 z725 z726 z727 z728 =>
  (F42b_1 n rc z724 z723 (0 : Int) z725 z726 z727 z728 (fun z729 =>
  some (z729, ())))) (fun z730 z731 z732 z733 z734 z735 =>
  (F42b_1 n rc z730 z731 (0 : Int) z732 z733 z734 z735 (fun z736 =>
  some (z736, ()))))))
noncomputable def F42be (n : Nat) (rc : Q42RC) : Ent G := ⟨42, (.cons (.agg (.cons (.int .i64) (.cons .str (.cons (.imm 2) (.cons (.imm 3) .nil))))) (.cons (.imm 2) (.cons (.imm 2) .nil))), [], (.imm 2), [], fun x y => F42b n rc x.1.1 x.1.2.1 x.1.2.2.1 x.1.2.2.2.1 x.2.1 x.2.2.1⟩
theorem F42b_eq (n : Nat) (rc : Q42RC) (x : ShL.den G (.cons (.agg (.cons (.int .i64) (.cons .str (.cons (.imm 2) (.cons (.imm 3) .nil))))) (.cons (.imm 2) (.cons (.imm 2) .nil)))) (y : denO G []) : (F42be n rc).F x y = runFn prog G (ro G (tabOf (Q42L n rc)) (frOf [F42b_0z n rc, F42b_1z n rc]) _) Go.Proofs.Try.f42 (.nd .no (.nd .no (.nd (.use 0) (.nd (.nd .no (.nd (.use 1) .no)) .no)))) [(0, .fz)] (ShL.enc G (.cons (.agg (.cons (.int .i64) (.cons .str (.cons (.imm 2) (.cons (.imm 3) .nil))))) (.cons (.imm 2) (.cons (.imm 2) .nil))) x) (encO G [] y) (decR (.imm 2) []) := by kernel_rfl
theorem F42b_ok (n : Nat) (rc : Q42RC) (h : AllE prog G (Q42L n rc)) : EntOK prog G (F42be n rc) :=
  ent_ok (fr := frOf [F42b_0z n rc, F42b_1z n rc]) (ann := (.nd .no (.nd .no (.nd (.use 0) (.nd (.nd .no (.nd (.use 1) .no)) .no))))) (frm := [(0, .fz)]) laws fnok h.tab (e := F42be n rc) (fn := Go.Proofs.Try.f42) (by kernel_rfl) (AllF.ofB (cd := F42bc) (l := [(0, codeAt F42bc [1, 1, 0]), (1, codeAt F42bc [1, 1, 1, 0, 1, 0])]) (by kernel_rfl) (by kernel_rfl) (AllF.cons (F42b_0_ok n rc h) (AllF.cons (F42b_1_ok n rc h) AllF.nil))) (F42b_eq n rc)
noncomputable def Q42it (n : Nat) : Nat → Q42RC
  | 0 => (fun _ _ _ _ _ _ => none, ())
  | k + 1 => (F42b n (Q42it n k), ())
theorem Q42it_ok (n : Nat) : ∀ k, AllE prog G (Q42L n (Q42it n k))
  | 0 => (AllE.cons (EntOK.none fun _ _ => rfl) (E17_ok n))
  | k + 1 => (AllE.cons (F42b_ok n _ (Q42it_ok n k)) (E17_ok n))
noncomputable def F42 (n : Nat) (a0 : Int) (a1 : ByteArray) (a2 : List ByteArray) (a3 : List Ex) (a4 : List ByteArray) (a5 : List ByteArray) : Option (List ByteArray × Unit) := (Q42it n n).1 a0 a1 a2 a3 a4 a5
noncomputable def F42e (n : Nat) : Ent G := ⟨42, (.cons (.agg (.cons (.int .i64) (.cons .str (.cons (.imm 2) (.cons (.imm 3) .nil))))) (.cons (.imm 2) (.cons (.imm 2) .nil))), [], (.imm 2), [], fun x y => F42 n x.1.1 x.1.2.1 x.1.2.2.1 x.1.2.2.2.1 x.2.1 x.2.2.1⟩
noncomputable def E18 (n : Nat) : List (Ent G) := F42e n :: E17 n
theorem E18_ok (n : Nat) : AllE prog G (E18 n) := Q42it_ok n n
-- 19 loop.example/slowworm/spec.ExprNames
noncomputable def F19c : Code := bodyOf Go.Proofs.Try.f19
noncomputable def F19 (n : Nat) (a738 : Int) (a739 : ByteArray) (a740 : List ByteArray) (a741 : List Ex) : Option (List ByteArray × Unit) :=
  (andThen (F31 n a738 a739 a740 a741 (7 : Int)) fun r742 =>
  (bif (!r742.1) then
  some ([], ())
  else (andThen (F42 n a738 a739 a740 a741 [] []) fun r745 =>
  some (r745.1, ()))))
noncomputable def F19e (n : Nat) : Ent G := ⟨19, (.cons (.agg (.cons (.int .i64) (.cons .str (.cons (.imm 2) (.cons (.imm 3) .nil))))) .nil), [], (.imm 2), [], fun x y => F19 n x.1.1 x.1.2.1 x.1.2.2.1 x.1.2.2.2.1⟩
theorem F19_eq (n : Nat) (x : ShL.den G (.cons (.agg (.cons (.int .i64) (.cons .str (.cons (.imm 2) (.cons (.imm 3) .nil))))) .nil)) (y : denO G []) : (F19e n).F x y = runFn prog G (ro G (tabOf (E18 n)) (frOf []) _) Go.Proofs.Try.f19 .no [(0, .fz)] (ShL.enc G (.cons (.agg (.cons (.int .i64) (.cons .str (.cons (.imm 2) (.cons (.imm 3) .nil))))) .nil) x) (encO G [] y) (decR (.imm 2) []) := by kernel_rfl
theorem F19_ok (n : Nat) : EntOK prog G (F19e n) :=
  ent_ok (fr := frOf []) (ann := .no) (frm := [(0, .fz)]) laws fnok (E18_ok n).tab (e := F19e n) (fn := Go.Proofs.Try.f19) (by kernel_rfl) (AllF.ofB (cd := F19c) (l := []) (by kernel_rfl) (by kernel_rfl) AllF.nil) (F19_eq n)
noncomputable def E19 (n : Nat) : List (Ent G) := F19e n :: E18 n
theorem E19_ok (n : Nat) : AllE prog G (E19 n) := AllE.cons (F19_ok n) (E18_ok n)
-- 20 loop.example/slowworm/impl.ExprNames
noncomputable def F20c : Code := bodyOf Go.Proofs.Try.f20
-- 12 loop.example/slowworm/impl.ExprOk
noncomputable def F12c : Code := bodyOf Go.Proofs.Try.f12
-- 54 (loop.example/slowworm/impl.Expr).shapeOk
noncomputable def F54c : Code := bodyOf Go.Proofs.Try.f54
noncomputable def F54_0x0 : SSh := ⟨175, [(1, (.ptr 0 0)), (3, (.ptr 1 0)), (4, (.ptr 2 0)), (5, (.int .i64)), (6, (.clo 72 (.cons (.ptr 1 0) (.cons (.ptr 2 0) .nil)))), (29, (.int .i64)), (30, .bool)], [(.box 30 (.cons (.int .i64) (.cons .str (.cons (.imm 2) (.cons (.imm 3) .nil))))), (.box 3 (.cons (.int .i64) .nil)), (.box 9 (.cons .str .nil))]⟩
noncomputable def F54_0s : SSh := ⟨175, [(1, (.ptr 0 0)), (3, (.ptr 1 0)), (4, (.ptr 2 0)), (5, (.int .i64)), (6, (.clo 72 (.cons (.ptr 1 0) (.cons (.ptr 2 0) .nil)))), (29, (.int .i64))], [(.box 30 (.cons (.int .i64) (.cons .str (.cons (.imm 2) (.cons (.imm 3) .nil))))), (.box 3 (.cons (.int .i64) .nil)), (.box 9 (.cons .str .nil))]⟩
noncomputable def F54_0 {R : Type} (n : Nat) (x779 : Int) (x780 : Int) (x781 : Int) (x782 : ByteArray) (x783 : List ByteArray) (x784 : List Ex) (x785 : Int) (x786 : ByteArray) (k0 : Int → Int → Bool → Int → ByteArray → List ByteArray → List Ex → Int → ByteArray → Option R) : Option R :=
  (bif (x780 == (1 : Int)) then
  (k0 x779 x780 true x781 x782 x783 x784 x785 x786)
  else (bif (x780 == (2 : Int)) then
  (k0 x779 x780 true x781 x782 x783 x784 x785 x786)
  else (k0 x779 x780 (x780 == (3 : Int)) x781 x782 x783 x784 x785 x786)))
noncomputable def F54_0z (n : Nat) : Sm G := inZ G 0 ⟨[1, 3, 4, 5, 6, 29], []⟩ F54_0s fun R x K => F54_0 n x.1.2.2.2.1 x.1.2.2.2.2.2.1 x.2.1.1 x.2.1.2.1 x.2.1.2.2.1 x.2.1.2.2.2.1 x.2.2.1.1 x.2.2.2.1.1 (fun u0 u1 u2 u3 u4 u5 u6 u7 u8 => K .normal (SSh.enc G F54_0x0 (((), ((), ((), (u0, (((), ((), ())), (u1, (u2, ()))))))), ((u3, (u4, (u5, (u6, ())))), ((u7, ()), ((u8, ()), ()))))))
theorem F54_0_eq (n : Nat) (R : Type) (x : SSh.den G F54_0s) (K : AE → St G → Option R) :
  F54_0 n x.1.2.2.2.1 x.1.2.2.2.2.2.1 x.2.1.1 x.2.1.2.1 x.2.1.2.2.1 x.2.1.2.2.2.1 x.2.2.1.1 x.2.2.2.1.1 (fun u0 u1 u2 u3 u4 u5 u6 u7 u8 => K .normal (SSh.enc G F54_0x0 (((), ((), ((), (u0, (((), ((), ())), (u1, (u2, ()))))))), ((u3, (u4, (u5, (u6, ())))), ((u7, ()), ((u8, ()), ())))))) = exec prog G (ro G (tabOf (E19 n)) (frOf []) R) 0 (codeAt F54c [1, 1, 1, 1, 0, 1, 0, 0]) .no (SSh.enc G F54_0s x) (kNrm G (ro G (tabOf (E19 n)) (frOf []) R) 0 ⟨⟨[1, 3, 4, 5, 6, 29, 30], []⟩, ⟨[2], []⟩, [(0, ⟨[], []⟩)]⟩ K) := by kernel_rfl
theorem F54_0_ok (n : Nat) : FragOK prog G 0 (codeAt F54c [1, 1, 1, 1, 0, 1, 0, 0]) (F54_0z n) :=
  frag_plain laws fnok (E19_ok n).tab (AllF.of (l := []) (by kernel_rfl) AllF.nil) (F54_0_eq n)
-- 72 (loop.example/slowworm/impl.Expr).shapeOk$1
noncomputable def F72c : Code := bodyOf Go.Proofs.Try.f72
noncomputable def F72 (n : Nat) (a799 : Int) (a800 : Int) (a801 : ByteArray) : Option (Bool × ((Int × Unit) × ((ByteArray × Unit) × Unit))) :=
  (bif (a800 == a799) then
  some (((a801.toList) == (({ data := #[] } : ByteArray).toList)), ((a800, ()), ((a801, ()), ())))
  else some (false, ((a800, ()), ((a801, ()), ()))))
noncomputable def F72e (n : Nat) : Ent G := ⟨72, (.cons (.int .i64) (.cons (.ptr 0 0) (.cons (.ptr 1 0) .nil))), [(.box 3 (.cons (.int .i64) .nil)), (.box 9 (.cons .str .nil))], .bool, [(.box 3 (.cons (.int .i64) .nil)), (.box 9 (.cons .str .nil))], fun x y => F72 n x.1 y.1.1 y.2.1.1⟩
theorem F72_eq (n : Nat) (x : ShL.den G (.cons (.int .i64) (.cons (.ptr 0 0) (.cons (.ptr 1 0) .nil)))) (y : denO G [(.box 3 (.cons (.int .i64) .nil)), (.box 9 (.cons .str .nil))]) : (F72e n).F x y = runFn prog G (ro G (tabOf (E19 n)) (frOf []) _) Go.Proofs.Try.f72 .no [(0, .fz)] (ShL.enc G (.cons (.int .i64) (.cons (.ptr 0 0) (.cons (.ptr 1 0) .nil))) x) (encO G [(.box 3 (.cons (.int .i64) .nil)), (.box 9 (.cons .str .nil))] y) (decR .bool [(.box 3 (.cons (.int .i64) .nil)), (.box 9 (.cons .str .nil))]) := by kernel_rfl
theorem F72_ok (n : Nat) : EntOK prog G (F72e n) :=
  ent_ok (fr := frOf []) (ann := .no) (frm := [(0, .fz)]) laws fnok (E19_ok n).tab (e := F72e n) (fn := Go.Proofs.Try.f72) (by kernel_rfl) (AllF.ofB (cd := F72c) (l := []) (by kernel_rfl) (by kernel_rfl) AllF.nil) (F72_eq n)
noncomputable def E20 (n : Nat) : List (Ent G) := F72e n :: E19 n
theorem E20_ok (n : Nat) : AllE prog G (E20 n) := AllE.cons (F72_ok n) (E19_ok n)
-- 73 loop.example/slowworm/impl.IntOk
noncomputable def F73c : Code := bodyOf Go.Proofs.Try.f73
-- 91 strings.CutPrefix
noncomputable def F91c : Code := bodyOf Go.Proofs.Try.f91
-- 94 internal/stringslite.CutPrefix
noncomputable def F94c : Code := bodyOf Go.Proofs.Try.f94
-- 95 internal/stringslite.HasPrefix
noncomputable def F95c : Code := bodyOf Go.Proofs.Try.f95
noncomputable def F95 (n : Nat) (a813 : ByteArray) (a814 : ByteArray) : Option (Bool × Unit) :=
  (bif (decide (((a813.size) : Int) ≥ ((a814.size) : Int))) then
  let v818 := ((a814.size) : Int)
  (bif (decide ((0 : Int) ≤ v818)) then
  (bif (decide (v818 ≤ ((a813.size) : Int))) then
  some ((((a813.extract (0 : Nat) (v818.toNat)).toList) == (a814.toList)), ())
  else none)
  else none)
  else some (false, ()))
noncomputable def F95e (n : Nat) : Ent G := ⟨95, (.cons .str (.cons .str .nil)), [], .bool, [], fun x y => F95 n x.1 x.2.1⟩
theorem F95_eq (n : Nat) (x : ShL.den G (.cons .str (.cons .str .nil))) (y : denO G []) : (F95e n).F x y = runFn prog G (ro G (tabOf (E20 n)) (frOf []) _) Go.Proofs.Try.f95 .no [(0, .fz)] (ShL.enc G (.cons .str (.cons .str .nil)) x) (encO G [] y) (decR .bool []) := by kernel_rfl
theorem F95_ok (n : Nat) : EntOK prog G (F95e n) :=
  ent_ok (fr := frOf []) (ann := .no) (frm := [(0, .fz)]) laws fnok (E20_ok n).tab (e := F95e n) (fn := Go.Proofs.Try.f95) (by kernel_rfl) (AllF.ofB (cd := F95c) (l := []) (by kernel_rfl) (by kernel_rfl) AllF.nil) (F95_eq n)
noncomputable def E21 (n : Nat) : List (Ent G) := F95e n :: E20 n
theorem E21_ok (n : Nat) : AllE prog G (E21 n) := AllE.cons (F95_ok n) (E20_ok n)
noncomputable def F94 (n : Nat) (a811 : ByteArray) (a812 : ByteArray) : Option ((ByteArray × (Bool × Unit)) × Unit) :=
  (andThen (F95 n a811 a812) fun r821 =>
  (bif (!r821.1) then
  some ((a811, (false, ())), ())
  else let v823 := ((a812.size) : Int)
  (bif (decide ((0 : Int) ≤ v823)) then
  (bif (decide (v823 ≤ ((a811.size) : Int))) then
  (bif (decide (((a811.size) : Int) ≤ ((a811.size) : Int))) then
  some (((a811.extract (v823.toNat) (((a811.size) : Int).toNat)), (true, ())), ())
  else none)
  else none)
  else none)))
noncomputable def F94e (n : Nat) : Ent G := ⟨94, (.cons .str (.cons .str .nil)), [], (.tup (.cons .str (.cons .bool .nil))), [], fun x y => F94 n x.1 x.2.1⟩
theorem F94_eq (n : Nat) (x : ShL.den G (.cons .str (.cons .str .nil))) (y : denO G []) : (F94e n).F x y = runFn prog G (ro G (tabOf (E21 n)) (frOf []) _) Go.Proofs.Try.f94 .no [(0, .fz), (1, .fz)] (ShL.enc G (.cons .str (.cons .str .nil)) x) (encO G [] y) (decR (.tup (.cons .str (.cons .bool .nil))) []) := by kernel_rfl
theorem F94_ok (n : Nat) : EntOK prog G (F94e n) :=
  ent_ok (fr := frOf []) (ann := .no) (frm := [(0, .fz), (1, .fz)]) laws fnok (E21_ok n).tab (e := F94e n) (fn := Go.Proofs.Try.f94) (by kernel_rfl) (AllF.ofB (cd := F94c) (l := []) (by kernel_rfl) (by kernel_rfl) AllF.nil) (F94_eq n)
noncomputable def E22 (n : Nat) : List (Ent G) := F94e n :: E21 n
theorem E22_ok (n : Nat) : AllE prog G (E22 n) := AllE.cons (F94_ok n) (E21_ok n)
noncomputable def F91 (n : Nat) (a809 : ByteArray) (a810 : ByteArray) : Option ((ByteArray × (Bool × Unit)) × Unit) :=
  (andThen (F94 n a809 a810) fun r825 =>
  some ((r825.1.1, (r825.1.2.1, ())), ()))
noncomputable def F91e (n : Nat) : Ent G := ⟨91, (.cons .str (.cons .str .nil)), [], (.tup (.cons .str (.cons .bool .nil))), [], fun x y => F91 n x.1 x.2.1⟩
theorem F91_eq (n : Nat) (x : ShL.den G (.cons .str (.cons .str .nil))) (y : denO G []) : (F91e n).F x y = runFn prog G (ro G (tabOf (E22 n)) (frOf []) _) Go.Proofs.Try.f91 .no [(0, .fz), (1, .fz)] (ShL.enc G (.cons .str (.cons .str .nil)) x) (encO G [] y) (decR (.tup (.cons .str (.cons .bool .nil))) []) := by kernel_rfl
theorem F91_ok (n : Nat) : EntOK prog G (F91e n) :=
  ent_ok (fr := frOf []) (ann := .no) (frm := [(0, .fz), (1, .fz)]) laws fnok (E22_ok n).tab (e := F91e n) (fn := Go.Proofs.Try.f91) (by kernel_rfl) (AllF.ofB (cd := F91c) (l := []) (by kernel_rfl) (by kernel_rfl) AllF.nil) (F91_eq n)
noncomputable def E23 (n : Nat) : List (Ent G) := F91e n :: E22 n
theorem E23_ok (n : Nat) : AllE prog G (E23 n) := AllE.cons (F91_ok n) (E22_ok n)
-- 92 loop.example/slowworm/impl.trimmed
noncomputable def F92c : Code := bodyOf Go.Proofs.Try.f92
noncomputable def F92_0x0 : SSh := ⟨21, [(0, (.imm 0))], []⟩
noncomputable def F92_0s : SSh := ⟨21, [(0, (.imm 0))], []⟩
noncomputable def F92_0_step {R : Type} (n : Nat) (k0 : List Int → Option R) (rec : List Int → Option R) (x886 : List Int) : Option R :=
  (bif (decide (((x886.length) : Int) > (0 : Int))) then
  let v890 := (IntKind.wrap .i64 (((x886.length) : Int) - (1 : Int)))
  (bif (decide ((0 : Int) ≤ v890)) then
  (bif (decide (v890 < ((x886.length) : Int))) then
  (bif ((x886.getD (v890.toNat) (0 : Int)) == (0 : Int)) then
  let v895 := (IntKind.wrap .i64 (((x886.length) : Int) - (1 : Int)))
  (bif (decide ((0 : Int) ≤ v895)) then
  (bif (decide (v895 ≤ ((x886.length) : Int))) then
  (rec ((x886.take (v895.toNat)).drop (0 : Nat)))
  else none)
  else none)
  else (k0 x886))
  else none)
  else none)
  else (k0 x886))
noncomputable def F92_0_it {R : Type} (n : Nat) (k0 : List Int → Option R) : Nat → List Int → Option R
  | 0, _ => none
  | k + 1, x886 => F92_0_step n k0 (F92_0_it n k0 k) x886
noncomputable def F92_0 {R : Type} (n : Nat) (x886 : List Int) (k0 : List Int → Option R) : Option R := F92_0_it n k0 n x886
noncomputable def F92_0z (n : Nat) : Sm G := inZ G 0 ⟨[0], []⟩ F92_0s fun R x K => F92_0_it n (fun u0 => K (.exit 0) (SSh.enc G F92_0x0 ((u0, ()), ()))) n x.1.1
theorem F92_0_eq (n : Nat) (R : Type) (rec : SSh.den G F92_0s → Option R) (x : SSh.den G F92_0s) (K : AE → St G → Option R) :
  F92_0_step n (fun u0 => K (.exit 0) (SSh.enc G F92_0x0 ((u0, ()), ()))) (fun x886 => rec ((x886, ()), ())) x.1.1 = exec prog G (ro G (tabOf (E23 n)) (frOf []) R) 0 (codeAt F92c [1, 0, 0, 0]) .no (SSh.enc G F92_0s x) (kLoop G (ro G (tabOf (E23 n)) (frOf []) R) 0 ⟨[0], []⟩ F92_0s ⟨⟨[0], []⟩, ⟨[2], []⟩, [(0, ⟨[0], []⟩)]⟩ rec K) := by kernel_rfl
theorem F92_0_ok (n : Nat) : FragOK prog G 0 (codeAt F92c [1, 0, 0]) (F92_0z n) :=
  frag_loop (Z := fun R k (x : SSh.den G F92_0s) K => F92_0_it n (fun u0 => K (.exit 0) (SSh.enc G F92_0x0 ((u0, ()), ()))) k x.1.1) laws fnok (E23_ok n).tab (AllF.of (l := []) (by kernel_rfl) AllF.nil) (fun _ _ _ => rfl) (fun R k y K => F92_0_eq n R (fun (x : SSh.den G F92_0s) => F92_0_it n (fun u0 => K (.exit 0) (SSh.enc G F92_0x0 ((u0, ()), ()))) k x.1.1) y K) n
noncomputable def F92 (n : Nat) (a885 : List Int) : Option (List Int × Unit) :=
  (F92_0 n a885 (fun z897 =>
  some (z897, ())))
noncomputable def F92e (n : Nat) : Ent G := ⟨92, (.cons (.imm 0) .nil), [], (.imm 0), [], fun x y => F92 n x.1⟩
theorem F92_eq (n : Nat) (x : ShL.den G (.cons (.imm 0) .nil)) (y : denO G []) : (F92e n).F x y = runFn prog G (ro G (tabOf (E23 n)) (frOf [F92_0z n]) _) Go.Proofs.Try.f92 (.nd .no (.nd (.nd (.use 0) .no) .no)) [(0, .fz)] (ShL.enc G (.cons (.imm 0) .nil) x) (encO G [] y) (decR (.imm 0) []) := by kernel_rfl
theorem F92_ok (n : Nat) : EntOK prog G (F92e n) :=
  ent_ok (fr := frOf [F92_0z n]) (ann := (.nd .no (.nd (.nd (.use 0) .no) .no))) (frm := [(0, .fz)]) laws fnok (E23_ok n).tab (e := F92e n) (fn := Go.Proofs.Try.f92) (by kernel_rfl) (AllF.ofB (cd := F92c) (l := [(0, codeAt F92c [1, 0, 0])]) (by kernel_rfl) (by kernel_rfl) (AllF.cons (F92_0_ok n) AllF.nil)) (F92_eq n)
noncomputable def E24 (n : Nat) : List (Ent G) := F92e n :: E23 n
theorem E24_ok (n : Nat) : AllE prog G (E24 n) := AllE.cons (F92_ok n) (E23_ok n)
-- 88 loop.example/slowworm/impl.parseNumber
noncomputable def F88c : Code := bodyOf Go.Proofs.Try.f88
noncomputable def F88_0x0 : SSh := ⟨70, [(2, (.ptr 0 0)), (3, .bool)], [(.box 82 (.cons .bool (.cons .nil0 .nil)))]⟩
noncomputable def F88_0x1 : SSh := ⟨70, [(2, (.ptr 0 0)), (6, (.ptr 1 0))], [(.box 82 (.cons .bool (.cons .nil0 .nil))), (.box 82 (.cons .bool (.cons (.own 2) .nil))), (.arr 0 true)]⟩
noncomputable def F88_0s : SSh := ⟨70, [(2, (.ptr 0 0)), (4, .str), (6, (.ptr 1 0)), (7, (.int .i64))], [(.box 82 (.cons .bool (.cons .nil0 .nil))), (.box 82 (.cons .bool (.cons (.own 2) .nil))), (.arr 0 true)]⟩
noncomputable def F88_0_step {R : Type} (n : Nat) (k0 : Bool → Bool → Option R) (k1 : Bool → Bool → List Int → Option R) (rec : ByteArray → Int → Bool → Bool → List Int → Option R) (x911 : ByteArray) (x912 : Int) (x913 : Bool) (x914 : Bool) (x915 : List Int) : Option R :=
  (bif (decide (x912 ≥ (0 : Int))) then
  (bif (decide ((0 : Int) ≤ x912)) then
  (bif (decide (x912 < ((x911.size) : Int))) then
  (bif (decide ((strOf x911 (x912.toNat)) < (48 : Int))) then
  (k0 false false)
  else (bif (decide ((0 : Int) ≤ x912)) then
  (bif (decide (x912 < ((x911.size) : Int))) then
  (bif (decide ((strOf x911 (x912.toNat)) > (57 : Int))) then
  (k0 false false)
  else (bif (decide ((0 : Int) ≤ x912)) then
  (bif (decide (x912 < ((x911.size) : Int))) then
  let v924 := ((IntKind.wrap .i64 (IntKind.wrap .u8 ((strOf x911 (x912.toNat)) - (48 : Int)))) :: [])
  (bif (decide (((x915.length) + (v924.length)) ≤ (68719476736 : Nat))) then
  (rec x911 (IntKind.wrap .i64 (x912 - (1 : Int))) x913 x914 (x915 ++ v924))
  else none)
  else none)
  else none))
  else none)
  else none))
  else none)
  else none)
  else (k1 x913 x914 x915))
noncomputable def F88_0_it {R : Type} (n : Nat) (k0 : Bool → Bool → Option R) (k1 : Bool → Bool → List Int → Option R) : Nat → ByteArray → Int → Bool → Bool → List Int → Option R
  | 0, _, _, _, _, _ => none
  | k + 1, x911, x912, x913, x914, x915 => F88_0_step n k0 k1 (F88_0_it n k0 k1 k) x911 x912 x913 x914 x915
noncomputable def F88_0 {R : Type} (n : Nat) (x911 : ByteArray) (x912 : Int) (x913 : Bool) (x914 : Bool) (x915 : List Int) (k0 : Bool → Bool → Option R) (k1 : Bool → Bool → List Int → Option R) : Option R := F88_0_it n k0 k1 n x911 x912 x913 x914 x915
noncomputable def F88_0z (n : Nat) : Sm G := inZ G 0 ⟨[2, 4, 6, 7], [(6, (.cell 1 (.own 0)))]⟩ F88_0s fun R x K => F88_0_it n (fun u0 u1 => K .ret (SSh.enc G F88_0x0 (((), (u0, ())), ((u1, ((), ())), ())))) (fun u0 u1 u2 => K (.exit 0) (SSh.enc G F88_0x1 (((), ((), ())), ((u0, ((), ())), ((u1, ((), ())), (u2, ())))))) n x.1.2.1 x.1.2.2.2.1 x.2.1.1 x.2.2.1.1 x.2.2.2.1
theorem F88_0_eq (n : Nat) (R : Type) (rec : SSh.den G F88_0s → Option R) (x : SSh.den G F88_0s) (K : AE → St G → Option R) :
  F88_0_step n (fun u0 u1 => K .ret (SSh.enc G F88_0x0 (((), (u0, ())), ((u1, ((), ())), ())))) (fun u0 u1 u2 => K (.exit 0) (SSh.enc G F88_0x1 (((), ((), ())), ((u0, ((), ())), ((u1, ((), ())), (u2, ())))))) (fun x911 x912 x913 x914 x915 => rec (((), (x911, ((), (x912, ())))), ((x913, ((), ())), ((x914, ((), ())), (x915, ()))))) x.1.2.1 x.1.2.2.2.1 x.2.1.1 x.2.2.1.1 x.2.2.2.1 = exec prog G (ro G (tabOf (E24 n)) (frOf []) R) 0 (codeAt F88c [1, 1, 1, 1, 0, 1, 0, 0]) .no (SSh.enc G F88_0s x) (kLoop G (ro G (tabOf (E24 n)) (frOf []) R) 0 ⟨[2, 4, 6, 7], [(6, (.cell 1 (.own 0)))]⟩ F88_0s ⟨⟨[2, 6], []⟩, ⟨[2, 3], []⟩, [(0, ⟨[2, 6], []⟩)]⟩ rec K) := by kernel_rfl
theorem F88_0_ok (n : Nat) : FragOK prog G 0 (codeAt F88c [1, 1, 1, 1, 0, 1, 0]) (F88_0z n) :=
  frag_loop (Z := fun R k (x : SSh.den G F88_0s) K => F88_0_it n (fun u0 u1 => K .ret (SSh.enc G F88_0x0 (((), (u0, ())), ((u1, ((), ())), ())))) (fun u0 u1 u2 => K (.exit 0) (SSh.enc G F88_0x1 (((), ((), ())), ((u0, ((), ())), ((u1, ((), ())), (u2, ())))))) k x.1.2.1 x.1.2.2.2.1 x.2.1.1 x.2.2.1.1 x.2.2.2.1) laws fnok (E24_ok n).tab (AllF.of (l := []) (by kernel_rfl) AllF.nil) (fun _ _ _ => rfl) (fun R k y K => F88_0_eq n R (fun (x : SSh.den G F88_0s) => F88_0_it n (fun u0 u1 => K .ret (SSh.enc G F88_0x0 (((), (u0, ())), ((u1, ((), ())), ())))) (fun u0 u1 u2 => K (.exit 0) (SSh.enc G F88_0x1 (((), ((), ())), ((u0, ((), ())), ((u1, ((), ())), (u2, ())))))) k x.1.2.1 x.1.2.2.2.1 x.2.1.1 x.2.2.1.1 x.2.2.2.1) y K) n
noncomputable def F88 (n : Nat) (a899 : ByteArray) : Option (((Bool × (List Int × Unit)) × (Bool × Unit)) × Unit) :=
  (andThen (F91 n a899 ({ data := #[45] } : ByteArray)) fun r900 =>
  (bif (decide (((r900.1.1.size) : Int) < (1 : Int))) then
  some (((false, ([], ())), (false, ())), ())
  else (bif (decide (((r900.1.1.size) : Int) > (40 : Int))) then
  some (((false, ([], ())), (false, ())), ())
  else (bif (decide ((0 : Int) < ((r900.1.1.size) : Int))) then
  (bif ((strOf r900.1.1 (0 : Nat)) == (48 : Int)) then
  (bif (decide (((r900.1.1.size) : Int) > (1 : Int))) then
  some (((false, ([], ())), (false, ())), ())
  else (bif r900.1.2.1 then
  some (((false, ([], ())), (false, ())), ())
  else (F88_0 n r900.1.1 (IntKind.wrap .i64 (((r900.1.1.size) : Int) - (1 : Int))) false r900.1.2.1 [] (fun z927 z928 =>
  some (((z928, ([], ())), (z927, ())), ())) (fun z929 z930 z931 =>
  (andThen (F92 n z931) fun r932 =>
  some (((z930, (r932.1, ())), (true, ())), ()))))))
  else (F88_0 n r900.1.1 (IntKind.wrap .i64 (((r900.1.1.size) : Int) - (1 : Int))) false r900.1.2.1 [] (fun z935 z936 =>
  some (((z936, ([], ())), (z935, ())), ())) (fun z937 z938 z939 =>
  (andThen (F92 n z939) fun r940 =>
  some (((z938, (r940.1, ())), (true, ())), ())))))
  else none))))
noncomputable def F88e (n : Nat) : Ent G := ⟨88, (.cons .str .nil), [], (.tup (.cons (.agg (.cons .bool (.cons (.imm 0) .nil))) (.cons .bool .nil))), [], fun x y => F88 n x.1⟩
theorem F88_eq (n : Nat) (x : ShL.den G (.cons .str .nil)) (y : denO G []) : (F88e n).F x y = runFn prog G (ro G (tabOf (E24 n)) (frOf [F88_0z n]) _) Go.Proofs.Try.f88 (.nd .no (.nd .no (.nd .no (.nd .no (.nd (.nd .no (.nd (.use 0) .no)) .no))))) [(0, .fz), (1, .fz)] (ShL.enc G (.cons .str .nil) x) (encO G [] y) (decR (.tup (.cons (.agg (.cons .bool (.cons (.imm 0) .nil))) (.cons .bool .nil))) []) := by kernel_rfl
theorem F88_ok (n : Nat) : EntOK prog G (F88e n) :=
  ent_ok (fr := frOf [F88_0z n]) (ann := (.nd .no (.nd .no (.nd .no (.nd .no (.nd (.nd .no (.nd (.use 0) .no)) .no)))))) (frm := [(0, .fz), (1, .fz)]) laws fnok (E24_ok n).tab (e := F88e n) (fn := Go.Proofs.Try.f88) (by kernel_rfl) (AllF.ofB (cd := F88c) (l := [(0, codeAt F88c [1, 1, 1, 1, 0, 1, 0])]) (by kernel_rfl) (by kernel_rfl) (AllF.cons (F88_0_ok n) AllF.nil)) (F88_eq n)
noncomputable def E25 (n : Nat) : List (Ent G) := F88e n :: E24 n
theorem E25_ok (n : Nat) : AllE prog G (E25 n) := AllE.cons (F88_ok n) (E24_ok n)
noncomputable def F73 (n : Nat) (a807 : ByteArray) : Option (Bool × Unit) :=
  (andThen (F88 n a807) fun r941 =>
  some (r941.1.2.1, ()))
noncomputable def F73e (n : Nat) : Ent G := ⟨73, (.cons .str .nil), [], .bool, [], fun x y => F73 n x.1⟩
theorem F73_eq (n : Nat) (x : ShL.den G (.cons .str .nil)) (y : denO G []) : (F73e n).F x y = runFn prog G (ro G (tabOf (E25 n)) (frOf []) _) Go.Proofs.Try.f73 .no [(0, .fz)] (ShL.enc G (.cons .str .nil) x) (encO G [] y) (decR .bool []) := by kernel_rfl
theorem F73_ok (n : Nat) : EntOK prog G (F73e n) :=
  ent_ok (fr := frOf []) (ann := .no) (frm := [(0, .fz)]) laws fnok (E25_ok n).tab (e := F73e n) (fn := Go.Proofs.Try.f73) (by kernel_rfl) (AllF.ofB (cd := F73c) (l := []) (by kernel_rfl) (by kernel_rfl) AllF.nil) (F73_eq n)
noncomputable def E26 (n : Nat) : List (Ent G) := F73e n :: E25 n
theorem E26_ok (n : Nat) : AllE prog G (E26 n) := AllE.cons (F73_ok n) (E25_ok n)
-- 27 loop.example/slowworm/impl.NameOk
noncomputable def F27c : Code := bodyOf Go.Proofs.Try.f27
-- 49 loop.example/slowworm/impl.isDigit
noncomputable def F49c : Code := bodyOf Go.Proofs.Try.f49
noncomputable def F49 (n : Nat) (a957 : Int) : Option (Bool × Unit) :=
  (bif (decide (a957 ≥ (48 : Int))) then
  some ((decide (a957 ≤ (57 : Int))), ())
  else some (false, ()))
noncomputable def F49e (n : Nat) : Ent G := ⟨49, (.cons (.int .u8) .nil), [], .bool, [], fun x y => F49 n x.1⟩
theorem F49_eq (n : Nat) (x : ShL.den G (.cons (.int .u8) .nil)) (y : denO G []) : (F49e n).F x y = runFn prog G (ro G (tabOf (E26 n)) (frOf []) _) Go.Proofs.Try.f49 .no [(0, .fz)] (ShL.enc G (.cons (.int .u8) .nil) x) (encO G [] y) (decR .bool []) := by kernel_rfl
theorem F49_ok (n : Nat) : EntOK prog G (F49e n) :=
  ent_ok (fr := frOf []) (ann := .no) (frm := [(0, .fz)]) laws fnok (E26_ok n).tab (e := F49e n) (fn := Go.Proofs.Try.f49) (by kernel_rfl) (AllF.ofB (cd := F49c) (l := []) (by kernel_rfl) (by kernel_rfl) AllF.nil) (F49_eq n)
noncomputable def E27 (n : Nat) : List (Ent G) := F49e n :: E26 n
theorem E27_ok (n : Nat) : AllE prog G (E27 n) := AllE.cons (F49_ok n) (E26_ok n)
-- 50 loop.example/slowworm/impl.IsKeyword
noncomputable def F50c : Code := bodyOf Go.Proofs.Try.f50
-- 65 loop.example/slowworm/impl.keywords
noncomputable def F65c : Code := bodyOf Go.Proofs.Try.f65
noncomputable def F65 (n : Nat)  : Option (List ByteArray × Unit) :=
  some ((({ data := #[78, 111, 110, 101] } : ByteArray) :: (({ data := #[84, 114, 117, 101] } : ByteArray) :: (({ data := #[70, 97, 108, 115, 101] } : ByteArray) :: (({ data := #[97, 110, 100] } : ByteArray) :: (({ data := #[111, 114] } : ByteArray) :: (({ data := #[110, 111, 116] } : ByteArray) :: (({ data := #[105, 110] } : ByteArray) :: (({ data := #[105, 115] } : ByteArray) :: (({ data := #[105, 102] } : ByteArray) :: (({ data := #[101, 108, 105, 102] } : ByteArray) :: (({ data := #[101, 108, 115, 101] } : ByteArray) :: (({ data := #[119, 104, 105, 108, 101] } : ByteArray) :: (({ data := #[102, 111, 114] } : ByteArray) :: (({ data := #[98, 114, 101, 97, 107] } : ByteArray) :: (({ data := #[99, 111, 110, 116, 105, 110, 117, 101] } : ByteArray) :: (({ data := #[112, 97, 115, 115] } : ByteArray) :: (({ data := #[100, 101, 102] } : ByteArray) :: (({ data := #[114, 101, 116, 117, 114, 110] } : ByteArray) :: (({ data := #[108, 97, 109, 98, 100, 97] } : ByteArray) :: (({ data := #[99, 108, 97, 115, 115] } : ByteArray) :: (({ data := #[116, 114, 121] } : ByteArray) :: (({ data := #[101, 120, 99, 101, 112, 116] } : ByteArray) :: (({ data := #[102, 105, 110, 97, 108, 108, 121] } : ByteArray) :: (({ data := #[114, 97, 105, 115, 101] } : ByteArray) :: (({ data := #[97, 115] } : ByteArray) :: (({ data := #[103, 108, 111, 98, 97, 108] } : ByteArray) :: (({ data := #[110, 111, 110, 108, 111, 99, 97, 108] } : ByteArray) :: (({ data := #[121, 105, 101, 108, 100] } : ByteArray) :: (({ data := #[105, 109, 112, 111, 114, 116] } : ByteArray) :: (({ data := #[100, 101, 108] } : ByteArray) :: (({ data := #[97, 115, 115, 101, 114, 116] } : ByteArray) :: []))))))))))))))))))))))))))))))), ())
noncomputable def F65e (n : Nat) : Ent G := ⟨65, .nil, [], (.imm 2), [], fun x y => F65 n⟩
theorem F65_eq (n : Nat) (x : ShL.den G .nil) (y : denO G []) : (F65e n).F x y = runFn prog G (ro G (tabOf (E27 n)) (frOf []) _) Go.Proofs.Try.f65 .no [(0, .fz)] (ShL.enc G .nil x) (encO G [] y) (decR (.imm 2) []) := by kernel_rfl
theorem F65_ok (n : Nat) : EntOK prog G (F65e n) :=
  ent_ok (fr := frOf []) (ann := .no) (frm := [(0, .fz)]) laws fnok (E27_ok n).tab (e := F65e n) (fn := Go.Proofs.Try.f65) (by kernel_rfl) (AllF.ofB (cd := F65c) (l := []) (by kernel_rfl) (by kernel_rfl) AllF.nil) (F65_eq n)
noncomputable def E28 (n : Nat) : List (Ent G) := F65e n :: E27 n
theorem E28_ok (n : Nat) : AllE prog G (E28 n) := AllE.cons (F65_ok n) (E27_ok n)
-- 45 slices.Contains[[]string,string]
end Go.Proofs.Ytdfnlaikelijeaa.Am
