/- The functions of the seat of dictionaries, printed. -/
import Derived.Test.YtfpgihjociacnaaAmDictSig
namespace Go.Proofs.Ytfpgihjociacnaa.Am
open Go Go.Proofs.Try
set_option autoImplicit false
set_option linter.unusedVariables false
set_option maxRecDepth 100000
noncomputable def E0 (n : Nat) : List (Ent G) := []
theorem E0_ok (n : Nat) : AllE prog G (E0 n) := AllE.nil
-- 3 loop.example/slowworm/laws.FnExactDictKeys
noncomputable def F3c : Code := bodyOf Go.Proofs.Try.f3
-- 7 loop.example/slowworm/laws.szDict
noncomputable def F7c : Code := bodyOf Go.Proofs.Try.f7
-- 23 loop.example/slowworm/laws.szIntS
noncomputable def F23c : Code := bodyOf Go.Proofs.Try.f23
noncomputable def F23 (n : Nat) (a5 : List Int) (a6 : Int) : Option (Int × Unit) :=
  let v8 := (IntKind.wrap .i64 (a6 - ((a5.length) : Int)))
  (bif (decide (v8 < (0 : Int))) then
  some ((-1 : Int), ())
  else some (v8, ()))
noncomputable def F23e (n : Nat) : Ent G := ⟨23, (.cons (.imm 0) (.cons (.int .i64) .nil)), [], (.int .i64), [], fun x y => F23 n x.1 x.2.1⟩
theorem F23_eq (n : Nat) (x : ShL.den G (.cons (.imm 0) (.cons (.int .i64) .nil))) (y : denO G []) : (F23e n).F x y = runFn prog G (ro G (tabOf (E0 n)) (frOf []) _) Go.Proofs.Try.f23 .no [(0, .fz)] (ShL.enc G (.cons (.imm 0) (.cons (.int .i64) .nil)) x) (encO G [] y) (decR (.int .i64) []) := by kernel_rfl
theorem F23_ok (n : Nat) : EntOK prog G (F23e n) :=
  ent_ok (fr := frOf []) (ann := .no) (frm := [(0, .fz)]) laws fnok (E0_ok n).tab (e := F23e n) (fn := Go.Proofs.Try.f23) (by kernel_rfl) (AllF.ofB (cd := F23c) (l := []) (by kernel_rfl) (by kernel_rfl) AllF.nil) (F23_eq n)
noncomputable def E1 (n : Nat) : List (Ent G) := F23e n :: E0 n
theorem E1_ok (n : Nat) : AllE prog G (E1 n) := AllE.cons (F23_ok n) (E0_ok n)
-- 24 loop.example/slowworm/laws.szEntryS
noncomputable def F24c : Code := bodyOf Go.Proofs.Try.f24
-- 51 loop.example/slowworm/laws.szEntry
noncomputable def F51c : Code := bodyOf Go.Proofs.Try.f51
noncomputable def F51 (n : Nat) (a27 : ByteArray) (a28 : Int) (a29 : Int) (a30 : Bool) (a31 : Int) : Option (Int × Unit) :=
  let v33 := (IntKind.wrap .i64 (a31 - ((a27.size) : Int)))
  (bif (decide (v33 < (0 : Int))) then
  some ((-1 : Int), ())
  else some (v33, ()))
noncomputable def F51e (n : Nat) : Ent G := ⟨51, (.cons (.agg (.cons .str (.cons (.int .i64) (.cons (.int .i64) (.cons .bool .nil))))) (.cons (.int .i64) .nil)), [], (.int .i64), [], fun x y => F51 n x.1.1 x.1.2.1 x.1.2.2.1 x.1.2.2.2.1 x.2.1⟩
theorem F51_eq (n : Nat) (x : ShL.den G (.cons (.agg (.cons .str (.cons (.int .i64) (.cons (.int .i64) (.cons .bool .nil))))) (.cons (.int .i64) .nil))) (y : denO G []) : (F51e n).F x y = runFn prog G (ro G (tabOf (E1 n)) (frOf []) _) Go.Proofs.Try.f51 .no [(0, .fz)] (ShL.enc G (.cons (.agg (.cons .str (.cons (.int .i64) (.cons (.int .i64) (.cons .bool .nil))))) (.cons (.int .i64) .nil)) x) (encO G [] y) (decR (.int .i64) []) := by kernel_rfl
theorem F51_ok (n : Nat) : EntOK prog G (F51e n) :=
  ent_ok (fr := frOf []) (ann := .no) (frm := [(0, .fz)]) laws fnok (E1_ok n).tab (e := F51e n) (fn := Go.Proofs.Try.f51) (by kernel_rfl) (AllF.ofB (cd := F51c) (l := []) (by kernel_rfl) (by kernel_rfl) AllF.nil) (F51_eq n)
noncomputable def E2 (n : Nat) : List (Ent G) := F51e n :: E1 n
theorem E2_ok (n : Nat) : AllE prog G (E2 n) := AllE.cons (F51_ok n) (E1_ok n)
noncomputable def F24_0x0 : SSh := ⟨27, [(4, (.int .i64))], []⟩
noncomputable def F24_0x1 : SSh := ⟨27, [(1, (.int .i64))], []⟩
noncomputable def F24_0s : SSh := ⟨27, [(0, (.imm 5)), (1, (.int .i64)), (5, (.int .i64))], []⟩
noncomputable def F24_0_step {R : Type} (n : Nat) (k0 : Int → Option R) (k1 : Int → Option R) (rec : List Ety → Int → Int → Option R) (x17 : List Ety) (x18 : Int) (x19 : Int) : Option R :=
  (bif (decide (x19 < ((x17.length) : Int))) then
  (bif (decide ((0 : Int) ≤ x19)) then
  (bif (decide (x19 < ((x17.length) : Int))) then
  let v22 := (x17.getD (x19.toNat) (Ety.mk ({ data := #[] } : ByteArray) (0 : Int) (0 : Int) false))
  (andThen (F51 n v22.key v22.hash v22.val v22.live x18) fun r35 =>
  (bif (decide (r35.1 < (0 : Int))) then
  (k0 (-1 : Int))
  else (rec x17 r35.1 (IntKind.wrap .i64 (x19 + (1 : Int))))))
  else none)
  else none)
  else (k1 x18))
noncomputable def F24_0_it {R : Type} (n : Nat) (k0 : Int → Option R) (k1 : Int → Option R) : Nat → List Ety → Int → Int → Option R
  | 0, _, _, _ => none
  | k + 1, x17, x18, x19 => F24_0_step n k0 k1 (F24_0_it n k0 k1 k) x17 x18 x19
noncomputable def F24_0 {R : Type} (n : Nat) (x17 : List Ety) (x18 : Int) (x19 : Int) (k0 : Int → Option R) (k1 : Int → Option R) : Option R := F24_0_it n k0 k1 n x17 x18 x19
noncomputable def F24_0z (n : Nat) : Sm G := inZ G 0 ⟨[0, 1, 5], []⟩ F24_0s fun R x K => F24_0_it n (fun u0 => K .ret (SSh.enc G F24_0x0 ((u0, ()), ()))) (fun u0 => K (.exit 0) (SSh.enc G F24_0x1 ((u0, ()), ()))) n x.1.1 x.1.2.1 x.1.2.2.1
theorem F24_0_eq (n : Nat) (R : Type) (rec : SSh.den G F24_0s → Option R) (x : SSh.den G F24_0s) (K : AE → St G → Option R) :
  F24_0_step n (fun u0 => K .ret (SSh.enc G F24_0x0 ((u0, ()), ()))) (fun u0 => K (.exit 0) (SSh.enc G F24_0x1 ((u0, ()), ()))) (fun x17 x18 x19 => rec ((x17, (x18, (x19, ()))), ())) x.1.1 x.1.2.1 x.1.2.2.1 = exec prog G (ro G (tabOf (E2 n)) (frOf []) R) 0 (codeAt F24c [1, 1, 1, 0, 1, 0, 0]) .no (SSh.enc G F24_0s x) (kLoop G (ro G (tabOf (E2 n)) (frOf []) R) 0 ⟨[0, 1, 5], []⟩ F24_0s ⟨⟨[1], []⟩, ⟨[4], []⟩, [(0, ⟨[1], []⟩)]⟩ rec K) := by kernel_rfl
theorem F24_0_ok (n : Nat) : FragOK prog G 0 (codeAt F24c [1, 1, 1, 0, 1, 0]) (F24_0z n) :=
  frag_loop (Z := fun R k (x : SSh.den G F24_0s) K => F24_0_it n (fun u0 => K .ret (SSh.enc G F24_0x0 ((u0, ()), ()))) (fun u0 => K (.exit 0) (SSh.enc G F24_0x1 ((u0, ()), ()))) k x.1.1 x.1.2.1 x.1.2.2.1) laws fnok (E2_ok n).tab (AllF.of (l := []) (by kernel_rfl) AllF.nil) (fun _ _ _ => rfl) (fun R k y K => F24_0_eq n R (fun (x : SSh.den G F24_0s) => F24_0_it n (fun u0 => K .ret (SSh.enc G F24_0x0 ((u0, ()), ()))) (fun u0 => K (.exit 0) (SSh.enc G F24_0x1 ((u0, ()), ()))) k x.1.1 x.1.2.1 x.1.2.2.1) y K) n
noncomputable def F24 (n : Nat) (a12 : List Ety) (a13 : Int) : Option (Int × Unit) :=
  let v15 := (IntKind.wrap .i64 (a13 - ((a12.length) : Int)))
  (bif (decide (v15 < (0 : Int))) then
  some ((-1 : Int), ())
  else (F24_0 n a12 v15 (0 : Int) (fun z38 =>
  some (z38, ())) (fun z39 =>
  some (z39, ()))))
noncomputable def F24e (n : Nat) : Ent G := ⟨24, (.cons (.imm 5) (.cons (.int .i64) .nil)), [], (.int .i64), [], fun x y => F24 n x.1 x.2.1⟩
theorem F24_eq (n : Nat) (x : ShL.den G (.cons (.imm 5) (.cons (.int .i64) .nil))) (y : denO G []) : (F24e n).F x y = runFn prog G (ro G (tabOf (E2 n)) (frOf [F24_0z n]) _) Go.Proofs.Try.f24 (.nd .no (.nd .no (.nd .no (.nd (.nd .no (.nd (.use 0) .no)) .no)))) [(0, .fz)] (ShL.enc G (.cons (.imm 5) (.cons (.int .i64) .nil)) x) (encO G [] y) (decR (.int .i64) []) := by kernel_rfl
theorem F24_ok (n : Nat) : EntOK prog G (F24e n) :=
  ent_ok (fr := frOf [F24_0z n]) (ann := (.nd .no (.nd .no (.nd .no (.nd (.nd .no (.nd (.use 0) .no)) .no))))) (frm := [(0, .fz)]) laws fnok (E2_ok n).tab (e := F24e n) (fn := Go.Proofs.Try.f24) (by kernel_rfl) (AllF.ofB (cd := F24c) (l := [(0, codeAt F24c [1, 1, 1, 0, 1, 0])]) (by kernel_rfl) (by kernel_rfl) (AllF.cons (F24_0_ok n) AllF.nil)) (F24_eq n)
noncomputable def E3 (n : Nat) : List (Ent G) := F24e n :: E2 n
theorem E3_ok (n : Nat) : AllE prog G (E3 n) := AllE.cons (F24_ok n) (E2_ok n)
noncomputable def F7 (n : Nat) (a2 : List Int) (a3 : List Ety) (a4 : Int) : Option (Int × Unit) :=
  (andThen (F23 n a2 a4) fun r10 =>
  (bif (decide (r10.1 < (0 : Int))) then
  some ((-1 : Int), ())
  else (andThen (F24 n a3 r10.1) fun r40 =>
  (bif (decide (r40.1 < (0 : Int))) then
  some ((-1 : Int), ())
  else some (r40.1, ())))))
noncomputable def F7e (n : Nat) : Ent G := ⟨7, (.cons (.agg (.cons (.imm 0) (.cons (.imm 5) .nil))) (.cons (.int .i64) .nil)), [], (.int .i64), [], fun x y => F7 n x.1.1 x.1.2.1 x.2.1⟩
theorem F7_eq (n : Nat) (x : ShL.den G (.cons (.agg (.cons (.imm 0) (.cons (.imm 5) .nil))) (.cons (.int .i64) .nil))) (y : denO G []) : (F7e n).F x y = runFn prog G (ro G (tabOf (E3 n)) (frOf []) _) Go.Proofs.Try.f7 .no [(0, .fz)] (ShL.enc G (.cons (.agg (.cons (.imm 0) (.cons (.imm 5) .nil))) (.cons (.int .i64) .nil)) x) (encO G [] y) (decR (.int .i64) []) := by kernel_rfl
theorem F7_ok (n : Nat) : EntOK prog G (F7e n) :=
  ent_ok (fr := frOf []) (ann := .no) (frm := [(0, .fz)]) laws fnok (E3_ok n).tab (e := F7e n) (fn := Go.Proofs.Try.f7) (by kernel_rfl) (AllF.ofB (cd := F7c) (l := []) (by kernel_rfl) (by kernel_rfl) AllF.nil) (F7_eq n)
noncomputable def E4 (n : Nat) : List (Ent G) := F7e n :: E3 n
theorem E4_ok (n : Nat) : AllE prog G (E4 n) := AllE.cons (F7_ok n) (E3_ok n)
-- 9 loop.example/slowworm/laws.toDict
noncomputable def F9c : Code := bodyOf Go.Proofs.Try.f9
-- 26 loop.example/slowworm/laws.toIntS
noncomputable def F26c : Code := bodyOf Go.Proofs.Try.f26
noncomputable def F26_0x0 : SSh := ⟨22, [(3, (.own 0))], [(.arr 0 true)]⟩
noncomputable def F26_0s : SSh := ⟨22, [(0, (.imm 0)), (3, (.own 0)), (4, (.int .i64))], [(.arr 0 true)]⟩
noncomputable def F26_0_step {R : Type} (n : Nat) (k0 : List Int → Option R) (rec : List Int → Int → List Int → Option R) (x49 : List Int) (x50 : Int) (x51 : List Int) : Option R :=
  (bif (decide (x50 < ((x49.length) : Int))) then
  (bif (decide ((0 : Int) ≤ x50)) then
  (bif (decide (x50 < ((x49.length) : Int))) then
  (bif (decide ((0 : Int) ≤ x50)) then
  (bif (decide (x50 < ((x51.length) : Int))) then
  (rec x49 (IntKind.wrap .i64 (x50 + (1 : Int))) (x51.set (x50.toNat) (x49.getD (x50.toNat) (0 : Int))))
  else none)
  else none)
  else none)
  else none)
  else (k0 x51))
noncomputable def F26_0_it {R : Type} (n : Nat) (k0 : List Int → Option R) : Nat → List Int → Int → List Int → Option R
  | 0, _, _, _ => none
  | k + 1, x49, x50, x51 => F26_0_step n k0 (F26_0_it n k0 k) x49 x50 x51
noncomputable def F26_0 {R : Type} (n : Nat) (x49 : List Int) (x50 : Int) (x51 : List Int) (k0 : List Int → Option R) : Option R := F26_0_it n k0 n x49 x50 x51
noncomputable def F26_0z (n : Nat) : Sm G := inZ G 0 ⟨[0, 3, 4], []⟩ F26_0s fun R x K => F26_0_it n (fun u0 => K (.exit 0) (SSh.enc G F26_0x0 (((), ()), (u0, ())))) n x.1.1 x.1.2.2.1 x.2.1
theorem F26_0_eq (n : Nat) (R : Type) (rec : SSh.den G F26_0s → Option R) (x : SSh.den G F26_0s) (K : AE → St G → Option R) :
  F26_0_step n (fun u0 => K (.exit 0) (SSh.enc G F26_0x0 (((), ()), (u0, ())))) (fun x49 x50 x51 => rec ((x49, ((), (x50, ()))), (x51, ()))) x.1.1 x.1.2.2.1 x.2.1 = exec prog G (ro G (tabOf (E4 n)) (frOf []) R) 0 (codeAt F26c [1, 1, 0, 1, 0, 0]) .no (SSh.enc G F26_0s x) (kLoop G (ro G (tabOf (E4 n)) (frOf []) R) 0 ⟨[0, 3, 4], []⟩ F26_0s ⟨⟨[3], []⟩, ⟨[2], []⟩, [(0, ⟨[3], []⟩)]⟩ rec K) := by kernel_rfl
theorem F26_0_ok (n : Nat) : FragOK prog G 0 (codeAt F26c [1, 1, 0, 1, 0]) (F26_0z n) :=
  frag_loop (Z := fun R k (x : SSh.den G F26_0s) K => F26_0_it n (fun u0 => K (.exit 0) (SSh.enc G F26_0x0 (((), ()), (u0, ())))) k x.1.1 x.1.2.2.1 x.2.1) laws fnok (E4_ok n).tab (AllF.of (l := []) (by kernel_rfl) AllF.nil) (fun _ _ _ => rfl) (fun R k y K => F26_0_eq n R (fun (x : SSh.den G F26_0s) => F26_0_it n (fun u0 => K (.exit 0) (SSh.enc G F26_0x0 (((), ()), (u0, ())))) k x.1.1 x.1.2.2.1 x.2.1) y K) n
noncomputable def F26 (n : Nat) (a46 : List Int) : Option (Unit × (List Int × Unit)) :=
  let v47 := ((a46.length) : Int)
  (bif (decide ((0 : Int) ≤ v47)) then
  (bif (decide (v47 ≤ v47)) then
  (bif (decide (v47 ≤ ((68719476736 : Nat) : Int))) then
  (F26_0 n a46 (0 : Int) (List.replicate (v47.toNat) (0 : Int)) (fun z59 =>
  some ((), (z59, ()))))
  else none)
  else none)
  else none)
noncomputable def F26e (n : Nat) : Ent G := ⟨26, (.cons (.imm 0) .nil), [], (.own 0), [(.arr 0 true)], fun x y => F26 n x.1⟩
theorem F26_eq (n : Nat) (x : ShL.den G (.cons (.imm 0) .nil)) (y : denO G []) : (F26e n).F x y = runFn prog G (ro G (tabOf (E4 n)) (frOf [F26_0z n]) _) Go.Proofs.Try.f26 (.nd .no (.nd .no (.nd (.nd .no (.nd (.use 0) .no)) .no))) [] (ShL.enc G (.cons (.imm 0) .nil) x) (encO G [] y) (decR (.own 0) [(.arr 0 true)]) := by kernel_rfl
theorem F26_ok (n : Nat) : EntOK prog G (F26e n) :=
  ent_ok (fr := frOf [F26_0z n]) (ann := (.nd .no (.nd .no (.nd (.nd .no (.nd (.use 0) .no)) .no)))) (frm := []) laws fnok (E4_ok n).tab (e := F26e n) (fn := Go.Proofs.Try.f26) (by kernel_rfl) (AllF.ofB (cd := F26c) (l := [(0, codeAt F26c [1, 1, 0, 1, 0])]) (by kernel_rfl) (by kernel_rfl) (AllF.cons (F26_0_ok n) AllF.nil)) (F26_eq n)
noncomputable def E5 (n : Nat) : List (Ent G) := F26e n :: E4 n
theorem E5_ok (n : Nat) : AllE prog G (E5 n) := AllE.cons (F26_ok n) (E4_ok n)
-- 27 loop.example/slowworm/laws.toEntryS
noncomputable def F27c : Code := bodyOf Go.Proofs.Try.f27
-- 54 loop.example/slowworm/laws.toEntry
noncomputable def F54c : Code := bodyOf Go.Proofs.Try.f54
noncomputable def F54 (n : Nat) (a74 : ByteArray) (a75 : Int) (a76 : Int) (a77 : Bool) : Option ((ByteArray × (Int × (Int × (Bool × Unit)))) × Unit) :=
  some ((a74, (a75, (a76, (a77, ())))), ())
noncomputable def F54e (n : Nat) : Ent G := ⟨54, (.cons (.agg (.cons .str (.cons (.int .i64) (.cons (.int .i64) (.cons .bool .nil))))) .nil), [], (.agg (.cons .str (.cons (.int .i64) (.cons (.int .i64) (.cons .bool .nil))))), [], fun x y => F54 n x.1.1 x.1.2.1 x.1.2.2.1 x.1.2.2.2.1⟩
theorem F54_eq (n : Nat) (x : ShL.den G (.cons (.agg (.cons .str (.cons (.int .i64) (.cons (.int .i64) (.cons .bool .nil))))) .nil)) (y : denO G []) : (F54e n).F x y = runFn prog G (ro G (tabOf (E5 n)) (frOf []) _) Go.Proofs.Try.f54 .no [(0, .fz)] (ShL.enc G (.cons (.agg (.cons .str (.cons (.int .i64) (.cons (.int .i64) (.cons .bool .nil))))) .nil) x) (encO G [] y) (decR (.agg (.cons .str (.cons (.int .i64) (.cons (.int .i64) (.cons .bool .nil))))) []) := by kernel_rfl
theorem F54_ok (n : Nat) : EntOK prog G (F54e n) :=
  ent_ok (fr := frOf []) (ann := .no) (frm := [(0, .fz)]) laws fnok (E5_ok n).tab (e := F54e n) (fn := Go.Proofs.Try.f54) (by kernel_rfl) (AllF.ofB (cd := F54c) (l := []) (by kernel_rfl) (by kernel_rfl) AllF.nil) (F54_eq n)
noncomputable def E6 (n : Nat) : List (Ent G) := F54e n :: E5 n
theorem E6_ok (n : Nat) : AllE prog G (E6 n) := AllE.cons (F54_ok n) (E5_ok n)
noncomputable def F27_0x0 : SSh := ⟨23, [(3, (.own 0))], [(.arr 3 true)]⟩
noncomputable def F27_0s : SSh := ⟨23, [(0, (.imm 5)), (3, (.own 0)), (4, (.int .i64))], [(.arr 3 true)]⟩
noncomputable def F27_0_step {R : Type} (n : Nat) (k0 : List Ety → Option R) (rec : List Ety → Int → List Ety → Option R) (x64 : List Ety) (x65 : Int) (x66 : List Ety) : Option R :=
  (bif (decide (x65 < ((x64.length) : Int))) then
  (bif (decide ((0 : Int) ≤ x65)) then
  (bif (decide (x65 < ((x64.length) : Int))) then
  let v69 := (x64.getD (x65.toNat) (Ety.mk ({ data := #[] } : ByteArray) (0 : Int) (0 : Int) false))
  (andThen (F54 n v69.key v69.hash v69.val v69.live) fun r78 =>
  (bif (decide ((0 : Int) ≤ x65)) then
  (bif (decide (x65 < ((x66.length) : Int))) then
  (rec x64 (IntKind.wrap .i64 (x65 + (1 : Int))) (x66.set (x65.toNat) (Ety.mk r78.1.1 r78.1.2.1 r78.1.2.2.1 r78.1.2.2.2.1)))
  else none)
  else none))
  else none)
  else none)
  else (k0 x66))
noncomputable def F27_0_it {R : Type} (n : Nat) (k0 : List Ety → Option R) : Nat → List Ety → Int → List Ety → Option R
  | 0, _, _, _ => none
  | k + 1, x64, x65, x66 => F27_0_step n k0 (F27_0_it n k0 k) x64 x65 x66
noncomputable def F27_0 {R : Type} (n : Nat) (x64 : List Ety) (x65 : Int) (x66 : List Ety) (k0 : List Ety → Option R) : Option R := F27_0_it n k0 n x64 x65 x66
noncomputable def F27_0z (n : Nat) : Sm G := inZ G 0 ⟨[0, 3, 4], []⟩ F27_0s fun R x K => F27_0_it n (fun u0 => K (.exit 0) (SSh.enc G F27_0x0 (((), ()), (u0, ())))) n x.1.1 x.1.2.2.1 x.2.1
theorem F27_0_eq (n : Nat) (R : Type) (rec : SSh.den G F27_0s → Option R) (x : SSh.den G F27_0s) (K : AE → St G → Option R) :
  F27_0_step n (fun u0 => K (.exit 0) (SSh.enc G F27_0x0 (((), ()), (u0, ())))) (fun x64 x65 x66 => rec ((x64, ((), (x65, ()))), (x66, ()))) x.1.1 x.1.2.2.1 x.2.1 = exec prog G (ro G (tabOf (E6 n)) (frOf []) R) 0 (codeAt F27c [1, 1, 0, 1, 0, 0]) .no (SSh.enc G F27_0s x) (kLoop G (ro G (tabOf (E6 n)) (frOf []) R) 0 ⟨[0, 3, 4], []⟩ F27_0s ⟨⟨[3], []⟩, ⟨[2], []⟩, [(0, ⟨[3], []⟩)]⟩ rec K) := by kernel_rfl
theorem F27_0_ok (n : Nat) : FragOK prog G 0 (codeAt F27c [1, 1, 0, 1, 0]) (F27_0z n) :=
  frag_loop (Z := fun R k (x : SSh.den G F27_0s) K => F27_0_it n (fun u0 => K (.exit 0) (SSh.enc G F27_0x0 (((), ()), (u0, ())))) k x.1.1 x.1.2.2.1 x.2.1) laws fnok (E6_ok n).tab (AllF.of (l := []) (by kernel_rfl) AllF.nil) (fun _ _ _ => rfl) (fun R k y K => F27_0_eq n R (fun (x : SSh.den G F27_0s) => F27_0_it n (fun u0 => K (.exit 0) (SSh.enc G F27_0x0 (((), ()), (u0, ())))) k x.1.1 x.1.2.2.1 x.2.1) y K) n
noncomputable def F27 (n : Nat) (a61 : List Ety) : Option (Unit × (List Ety × Unit)) :=
  let v62 := ((a61.length) : Int)
  (bif (decide ((0 : Int) ≤ v62)) then
  (bif (decide (v62 ≤ v62)) then
  (bif (decide (v62 ≤ ((68719476736 : Nat) : Int))) then
  (F27_0 n a61 (0 : Int) (List.replicate (v62.toNat) (Ety.mk ({ data := #[] } : ByteArray) (0 : Int) (0 : Int) false)) (fun z82 =>
  some ((), (z82, ()))))
  else none)
  else none)
  else none)
noncomputable def F27e (n : Nat) : Ent G := ⟨27, (.cons (.imm 5) .nil), [], (.own 0), [(.arr 3 true)], fun x y => F27 n x.1⟩
theorem F27_eq (n : Nat) (x : ShL.den G (.cons (.imm 5) .nil)) (y : denO G []) : (F27e n).F x y = runFn prog G (ro G (tabOf (E6 n)) (frOf [F27_0z n]) _) Go.Proofs.Try.f27 (.nd .no (.nd .no (.nd (.nd .no (.nd (.use 0) .no)) .no))) [] (ShL.enc G (.cons (.imm 5) .nil) x) (encO G [] y) (decR (.own 0) [(.arr 3 true)]) := by kernel_rfl
theorem F27_ok (n : Nat) : EntOK prog G (F27e n) :=
  ent_ok (fr := frOf [F27_0z n]) (ann := (.nd .no (.nd .no (.nd (.nd .no (.nd (.use 0) .no)) .no)))) (frm := []) laws fnok (E6_ok n).tab (e := F27e n) (fn := Go.Proofs.Try.f27) (by kernel_rfl) (AllF.ofB (cd := F27c) (l := [(0, codeAt F27c [1, 1, 0, 1, 0])]) (by kernel_rfl) (by kernel_rfl) (AllF.cons (F27_0_ok n) AllF.nil)) (F27_eq n)
noncomputable def E7 (n : Nat) : List (Ent G) := F27e n :: E6 n
theorem E7_ok (n : Nat) : AllE prog G (E7 n) := AllE.cons (F27_ok n) (E6_ok n)
noncomputable def F9 (n : Nat) (a44 : List Int) (a45 : List Ety) : Option ((Unit × (Unit × Unit)) × (List Int × (List Ety × Unit))) :=
  (andThen (F26 n a44) fun r60 =>
  (andThen (F27 n a45) fun r83 =>
  some (((), ((), ())), (r60.2.1, (r83.2.1, ())))))
noncomputable def F9e (n : Nat) : Ent G := ⟨9, (.cons (.agg (.cons (.imm 0) (.cons (.imm 5) .nil))) .nil), [], (.agg (.cons (.own 0) (.cons (.own 1) .nil))), [(.arr 0 true), (.arr 3 true)], fun x y => F9 n x.1.1 x.1.2.1⟩
theorem F9_eq (n : Nat) (x : ShL.den G (.cons (.agg (.cons (.imm 0) (.cons (.imm 5) .nil))) .nil)) (y : denO G []) : (F9e n).F x y = runFn prog G (ro G (tabOf (E7 n)) (frOf []) _) Go.Proofs.Try.f9 .no [] (ShL.enc G (.cons (.agg (.cons (.imm 0) (.cons (.imm 5) .nil))) .nil) x) (encO G [] y) (decR (.agg (.cons (.own 0) (.cons (.own 1) .nil))) [(.arr 0 true), (.arr 3 true)]) := by kernel_rfl
theorem F9_ok (n : Nat) : EntOK prog G (F9e n) :=
  ent_ok (fr := frOf []) (ann := .no) (frm := []) laws fnok (E7_ok n).tab (e := F9e n) (fn := Go.Proofs.Try.f9) (by kernel_rfl) (AllF.ofB (cd := F9c) (l := []) (by kernel_rfl) (by kernel_rfl) AllF.nil) (F9_eq n)
noncomputable def E8 (n : Nat) : List (Ent G) := F9e n :: E7 n
theorem E8_ok (n : Nat) : AllE prog G (E8 n) := AllE.cons (F9_ok n) (E7_ok n)
-- 25 loop.example/slowworm/spec.validDict
noncomputable def F25c : Code := bodyOf Go.Proofs.Try.f25
-- 43 loop.example/slowworm/spec.liveEntries
noncomputable def F43c : Code := bodyOf Go.Proofs.Try.f43
noncomputable def F43_0x0 : SSh := ⟨21, [(1, (.ptr 0 0)), (3, (.int .i64)), (4, (.int .i64))], [(.box 31 (.cons (.imm 0) (.cons (.imm 3) .nil)))]⟩
noncomputable def F43_0s : SSh := ⟨21, [(1, (.ptr 0 0)), (3, (.int .i64)), (4, (.int .i64))], [(.box 31 (.cons (.imm 0) (.cons (.imm 3) .nil)))]⟩
noncomputable def F43_0 {R : Type} (n : Nat) (x107 : Int) (x108 : Int) (x109 : List Int) (x110 : List Ety) (k0 : Int → Int → List Int → List Ety → Option R) : Option R :=
  (bif (decide ((0 : Int) ≤ x108)) then
  (bif (decide (x108 < ((x110.length) : Int))) then
  (bif (x110.getD (x108.toNat) (Ety.mk ({ data := #[] } : ByteArray) (0 : Int) (0 : Int) false)).live then
  (k0 (IntKind.wrap .i64 (x107 + (1 : Int))) x108 x109 x110)
  else (k0 x107 x108 x109 x110))
  else none)
  else none)
noncomputable def F43_0z (n : Nat) : Sm G := inZ G 0 ⟨[1, 3, 4], []⟩ F43_0s fun R x K => F43_0 n x.1.2.1 x.1.2.2.1 x.2.1.1 x.2.1.2.1 (fun u0 u1 u2 u3 => K .normal (SSh.enc G F43_0x0 (((), (u0, (u1, ()))), ((u2, (u3, ())), ()))))
theorem F43_0_eq (n : Nat) (R : Type) (x : SSh.den G F43_0s) (K : AE → St G → Option R) :
  F43_0 n x.1.2.1 x.1.2.2.1 x.2.1.1 x.2.1.2.1 (fun u0 u1 u2 u3 => K .normal (SSh.enc G F43_0x0 (((), (u0, (u1, ()))), ((u2, (u3, ())), ())))) = exec prog G (ro G (tabOf (E8 n)) (frOf []) R) 0 (codeAt F43c [1, 1, 0, 1, 0, 0, 1, 0]) .no (SSh.enc G F43_0s x) (kNrm G (ro G (tabOf (E8 n)) (frOf []) R) 0 ⟨⟨[1, 3, 4], []⟩, ⟨[2], []⟩, [(0, ⟨[3], []⟩)]⟩ K) := by kernel_rfl
theorem F43_0_ok (n : Nat) : FragOK prog G 0 (codeAt F43c [1, 1, 0, 1, 0, 0, 1, 0]) (F43_0z n) :=
  frag_plain laws fnok (E8_ok n).tab (AllF.of (l := []) (by kernel_rfl) AllF.nil) (F43_0_eq n)
noncomputable def F43_1x0 : SSh := ⟨21, [(3, (.int .i64))], []⟩
noncomputable def F43_1s : SSh := ⟨21, [(1, (.ptr 0 0)), (3, (.int .i64)), (4, (.int .i64))], [(.box 31 (.cons (.imm 0) (.cons (.imm 3) .nil)))]⟩
noncomputable def F43_1_step {R : Type} (n : Nat) (k0 : Int → Option R) (rec : Int → Int → List Int → List Ety → Option R) (x101 : Int) (x102 : Int) (x103 : List Int) (x104 : List Ety) : Option R :=
  (bif (decide (x102 < ((x104.length) : Int))) then
  (F43_0 n x101 x102 x103 x104 (fun z114 z115 z116 z117 =>
  (rec z114 (IntKind.wrap .i64 (z115 + (1 : Int))) z116 z117)))
  else (k0 x101))
noncomputable def F43_1_it {R : Type} (n : Nat) (k0 : Int → Option R) : Nat → Int → Int → List Int → List Ety → Option R
  | 0, _, _, _, _ => none
  | k + 1, x101, x102, x103, x104 => F43_1_step n k0 (F43_1_it n k0 k) x101 x102 x103 x104
noncomputable def F43_1 {R : Type} (n : Nat) (x101 : Int) (x102 : Int) (x103 : List Int) (x104 : List Ety) (k0 : Int → Option R) : Option R := F43_1_it n k0 n x101 x102 x103 x104
noncomputable def F43_1z (n : Nat) : Sm G := inZ G 0 ⟨[1, 3, 4], []⟩ F43_1s fun R x K => F43_1_it n (fun u0 => K (.exit 0) (SSh.enc G F43_1x0 ((u0, ()), ()))) n x.1.2.1 x.1.2.2.1 x.2.1.1 x.2.1.2.1
theorem F43_1_eq (n : Nat) (R : Type) (rec : SSh.den G F43_1s → Option R) (x : SSh.den G F43_1s) (K : AE → St G → Option R) :
  F43_1_step n (fun u0 => K (.exit 0) (SSh.enc G F43_1x0 ((u0, ()), ()))) (fun x101 x102 x103 x104 => rec (((), (x101, (x102, ()))), ((x103, (x104, ())), ()))) x.1.2.1 x.1.2.2.1 x.2.1.1 x.2.1.2.1 = exec prog G (ro G (tabOf (E8 n)) (frOf [F43_0z n]) R) 0 (codeAt F43c [1, 1, 0, 1, 0, 0]) (.nd .no (.nd (.use 0) .no)) (SSh.enc G F43_1s x) (kLoop G (ro G (tabOf (E8 n)) (frOf [F43_0z n]) R) 0 ⟨[1, 3, 4], []⟩ F43_1s ⟨⟨[3], []⟩, ⟨[2], []⟩, [(0, ⟨[3], []⟩)]⟩ rec K) := by kernel_rfl
theorem F43_1_ok (n : Nat) : FragOK prog G 0 (codeAt F43c [1, 1, 0, 1, 0]) (F43_1z n) :=
  frag_loop (Z := fun R k (x : SSh.den G F43_1s) K => F43_1_it n (fun u0 => K (.exit 0) (SSh.enc G F43_1x0 ((u0, ()), ()))) k x.1.2.1 x.1.2.2.1 x.2.1.1 x.2.1.2.1) laws fnok (E8_ok n).tab (AllF.of (l := [(0, codeAt F43c [1, 1, 0, 1, 0, 0, 1, 0])]) (by kernel_rfl) (AllF.cons (F43_0_ok n) AllF.nil)) (fun _ _ _ => rfl) (fun R k y K => F43_1_eq n R (fun (x : SSh.den G F43_1s) => F43_1_it n (fun u0 => K (.exit 0) (SSh.enc G F43_1x0 ((u0, ()), ()))) k x.1.2.1 x.1.2.2.1 x.2.1.1 x.2.1.2.1) y K) n
noncomputable def F43 (n : Nat) (a99 : List Int) (a100 : List Ety) : Option (Int × Unit) :=
  (F43_1 n (0 : Int) (0 : Int) a99 a100 (fun z119 =>
  some (z119, ())))
noncomputable def F43e (n : Nat) : Ent G := ⟨43, (.cons (.agg (.cons (.imm 0) (.cons (.imm 3) .nil))) .nil), [], (.int .i64), [], fun x y => F43 n x.1.1 x.1.2.1⟩
theorem F43_eq (n : Nat) (x : ShL.den G (.cons (.agg (.cons (.imm 0) (.cons (.imm 3) .nil))) .nil)) (y : denO G []) : (F43e n).F x y = runFn prog G (ro G (tabOf (E8 n)) (frOf [F43_0z n, F43_1z n]) _) Go.Proofs.Try.f43 (.nd .no (.nd .no (.nd (.nd .no (.nd (.use 1) .no)) .no))) [(0, .fz)] (ShL.enc G (.cons (.agg (.cons (.imm 0) (.cons (.imm 3) .nil))) .nil) x) (encO G [] y) (decR (.int .i64) []) := by kernel_rfl
theorem F43_ok (n : Nat) : EntOK prog G (F43e n) :=
  ent_ok (fr := frOf [F43_0z n, F43_1z n]) (ann := (.nd .no (.nd .no (.nd (.nd .no (.nd (.use 1) .no)) .no)))) (frm := [(0, .fz)]) laws fnok (E8_ok n).tab (e := F43e n) (fn := Go.Proofs.Try.f43) (by kernel_rfl) (AllF.ofB (cd := F43c) (l := [(1, codeAt F43c [1, 1, 0, 1, 0])]) (by kernel_rfl) (by kernel_rfl) (AllF.cons (F43_1_ok n) AllF.nil)) (F43_eq n)
noncomputable def E9 (n : Nat) : List (Ent G) := F43e n :: E8 n
theorem E9_ok (n : Nat) : AllE prog G (E9 n) := AllE.cons (F43_ok n) (E8_ok n)
-- 34 loop.example/slowworm/spec.validKey
noncomputable def F34c : Code := bodyOf Go.Proofs.Try.f34
noncomputable def F34 (n : Nat) (a134 : ByteArray) : Option (Bool × Unit) :=
  some ((decide (((a134.size) : Int) ≤ (20 : Int))), ())
noncomputable def F34e (n : Nat) : Ent G := ⟨34, (.cons .str .nil), [], .bool, [], fun x y => F34 n x.1⟩
theorem F34_eq (n : Nat) (x : ShL.den G (.cons .str .nil)) (y : denO G []) : (F34e n).F x y = runFn prog G (ro G (tabOf (E9 n)) (frOf []) _) Go.Proofs.Try.f34 .no [(0, .fz)] (ShL.enc G (.cons .str .nil) x) (encO G [] y) (decR .bool []) := by kernel_rfl
theorem F34_ok (n : Nat) : EntOK prog G (F34e n) :=
  ent_ok (fr := frOf []) (ann := .no) (frm := [(0, .fz)]) laws fnok (E9_ok n).tab (e := F34e n) (fn := Go.Proofs.Try.f34) (by kernel_rfl) (AllF.ofB (cd := F34c) (l := []) (by kernel_rfl) (by kernel_rfl) AllF.nil) (F34_eq n)
noncomputable def E10 (n : Nat) : List (Ent G) := F34e n :: E9 n
theorem E10_ok (n : Nat) : AllE prog G (E10 n) := AllE.cons (F34_ok n) (E9_ok n)
-- 52 loop.example/slowworm/spec.hashOf
noncomputable def F52c : Code := bodyOf Go.Proofs.Try.f52
noncomputable def F52_0x0 : SSh := ⟨20, [(3, (.int .i64))], []⟩
noncomputable def F52_0s : SSh := ⟨20, [(0, .str), (3, (.int .i64)), (4, (.int .i64))], []⟩
noncomputable def F52_0_step {R : Type} (n : Nat) (k0 : Int → Option R) (rec : ByteArray → Int → Int → Option R) (x140 : ByteArray) (x141 : Int) (x142 : Int) : Option R :=
  (bif (decide (x142 < ((x140.size) : Int))) then
  (bif (decide ((0 : Int) ≤ x142)) then
  (bif (decide (x142 < ((x140.size) : Int))) then
  (rec x140 ((IntKind.wrap .i64 ((IntKind.wrap .i64 (x141 * (31 : Int))) + (IntKind.wrap .i64 (strOf x140 (x142.toNat))))).tmod (65536 : Int)) (IntKind.wrap .i64 (x142 + (1 : Int))))
  else none)
  else none)
  else (k0 x141))
noncomputable def F52_0_it {R : Type} (n : Nat) (k0 : Int → Option R) : Nat → ByteArray → Int → Int → Option R
  | 0, _, _, _ => none
  | k + 1, x140, x141, x142 => F52_0_step n k0 (F52_0_it n k0 k) x140 x141 x142
noncomputable def F52_0 {R : Type} (n : Nat) (x140 : ByteArray) (x141 : Int) (x142 : Int) (k0 : Int → Option R) : Option R := F52_0_it n k0 n x140 x141 x142
noncomputable def F52_0z (n : Nat) : Sm G := inZ G 0 ⟨[0, 3, 4], []⟩ F52_0s fun R x K => F52_0_it n (fun u0 => K (.exit 0) (SSh.enc G F52_0x0 ((u0, ()), ()))) n x.1.1 x.1.2.1 x.1.2.2.1
theorem F52_0_eq (n : Nat) (R : Type) (rec : SSh.den G F52_0s → Option R) (x : SSh.den G F52_0s) (K : AE → St G → Option R) :
  F52_0_step n (fun u0 => K (.exit 0) (SSh.enc G F52_0x0 ((u0, ()), ()))) (fun x140 x141 x142 => rec ((x140, (x141, (x142, ()))), ())) x.1.1 x.1.2.1 x.1.2.2.1 = exec prog G (ro G (tabOf (E10 n)) (frOf []) R) 0 (codeAt F52c [1, 1, 0, 1, 0, 0]) .no (SSh.enc G F52_0s x) (kLoop G (ro G (tabOf (E10 n)) (frOf []) R) 0 ⟨[0, 3, 4], []⟩ F52_0s ⟨⟨[3], []⟩, ⟨[2], []⟩, [(0, ⟨[3], []⟩)]⟩ rec K) := by kernel_rfl
theorem F52_0_ok (n : Nat) : FragOK prog G 0 (codeAt F52c [1, 1, 0, 1, 0]) (F52_0z n) :=
  frag_loop (Z := fun R k (x : SSh.den G F52_0s) K => F52_0_it n (fun u0 => K (.exit 0) (SSh.enc G F52_0x0 ((u0, ()), ()))) k x.1.1 x.1.2.1 x.1.2.2.1) laws fnok (E10_ok n).tab (AllF.of (l := []) (by kernel_rfl) AllF.nil) (fun _ _ _ => rfl) (fun R k y K => F52_0_eq n R (fun (x : SSh.den G F52_0s) => F52_0_it n (fun u0 => K (.exit 0) (SSh.enc G F52_0x0 ((u0, ()), ()))) k x.1.1 x.1.2.1 x.1.2.2.1) y K) n
noncomputable def F52 (n : Nat) (a139 : ByteArray) : Option (Int × Unit) :=
  (F52_0 n a139 (7 : Int) (0 : Int) (fun z151 =>
  some (z151, ())))
noncomputable def F52e (n : Nat) : Ent G := ⟨52, (.cons .str .nil), [], (.int .i64), [], fun x y => F52 n x.1⟩
theorem F52_eq (n : Nat) (x : ShL.den G (.cons .str .nil)) (y : denO G []) : (F52e n).F x y = runFn prog G (ro G (tabOf (E10 n)) (frOf [F52_0z n]) _) Go.Proofs.Try.f52 (.nd .no (.nd .no (.nd (.nd .no (.nd (.use 0) .no)) .no))) [(0, .fz)] (ShL.enc G (.cons .str .nil) x) (encO G [] y) (decR (.int .i64) []) := by kernel_rfl
theorem F52_ok (n : Nat) : EntOK prog G (F52e n) :=
  ent_ok (fr := frOf [F52_0z n]) (ann := (.nd .no (.nd .no (.nd (.nd .no (.nd (.use 0) .no)) .no)))) (frm := [(0, .fz)]) laws fnok (E10_ok n).tab (e := F52e n) (fn := Go.Proofs.Try.f52) (by kernel_rfl) (AllF.ofB (cd := F52c) (l := [(0, codeAt F52c [1, 1, 0, 1, 0])]) (by kernel_rfl) (by kernel_rfl) (AllF.cons (F52_0_ok n) AllF.nil)) (F52_eq n)
noncomputable def E11 (n : Nat) : List (Ent G) := F52e n :: E10 n
theorem E11_ok (n : Nat) : AllE prog G (E11 n) := AllE.cons (F52_ok n) (E10_ok n)
-- 46 loop.example/slowworm/spec.inRange
noncomputable def F46c : Code := bodyOf Go.Proofs.Try.f46
noncomputable def F46 (n : Nat) (a154 : Int) (a155 : Int) (a156 : Int) : Option (Bool × Unit) :=
  (bif (decide (a154 ≥ a155)) then
  some ((decide (a154 ≤ a156)), ())
  else some (false, ()))
noncomputable def F46e (n : Nat) : Ent G := ⟨46, (.cons (.int .i64) (.cons (.int .i64) (.cons (.int .i64) .nil))), [], .bool, [], fun x y => F46 n x.1 x.2.1 x.2.2.1⟩
theorem F46_eq (n : Nat) (x : ShL.den G (.cons (.int .i64) (.cons (.int .i64) (.cons (.int .i64) .nil)))) (y : denO G []) : (F46e n).F x y = runFn prog G (ro G (tabOf (E11 n)) (frOf []) _) Go.Proofs.Try.f46 .no [(0, .fz)] (ShL.enc G (.cons (.int .i64) (.cons (.int .i64) (.cons (.int .i64) .nil))) x) (encO G [] y) (decR .bool []) := by kernel_rfl
theorem F46_ok (n : Nat) : EntOK prog G (F46e n) :=
  ent_ok (fr := frOf []) (ann := .no) (frm := [(0, .fz)]) laws fnok (E11_ok n).tab (e := F46e n) (fn := Go.Proofs.Try.f46) (by kernel_rfl) (AllF.ofB (cd := F46c) (l := []) (by kernel_rfl) (by kernel_rfl) AllF.nil) (F46_eq n)
noncomputable def E12 (n : Nat) : List (Ent G) := F46e n :: E11 n
theorem E12_ok (n : Nat) : AllE prog G (E12 n) := AllE.cons (F46_ok n) (E11_ok n)
noncomputable def F25_0x0 : SSh := ⟨116, [(2, .bool)], []⟩
noncomputable def F25_0x1 : SSh := ⟨116, [(1, (.ptr 0 0))], [(.box 31 (.cons (.imm 0) (.cons (.imm 3) .nil)))]⟩
noncomputable def F25_0s : SSh := ⟨116, [(1, (.ptr 0 0)), (4, (.int .i64))], [(.box 31 (.cons (.imm 0) (.cons (.imm 3) .nil)))]⟩
noncomputable def F25_0_step {R : Type} (n : Nat) (k0 : Bool → Option R) (k1 : List Int → List Ety → Option R) (rec : Int → List Int → List Ety → Option R) (x122 : Int) (x123 : List Int) (x124 : List Ety) : Option R :=
  (bif (decide (x122 < ((x124.length) : Int))) then
  (bif (decide ((0 : Int) ≤ x122)) then
  (bif (decide (x122 < ((x124.length) : Int))) then
  let v127 := (x124.getD (x122.toNat) (Ety.mk ({ data := #[] } : ByteArray) (0 : Int) (0 : Int) false))
  let v128 := v127.key
  let v129 := v127.hash
  let v130 := v127.val
  let v131 := v127.live
  (bif (!v131) then
  (bif (!((v128 == ({ data := #[] } : ByteArray)) && ((v129 == (0 : Int)) && ((v130 == (0 : Int)) && (v131 == false))))) then
  (k0 false)
  else (andThen (F34 n v128) fun r137 =>
  (bif (!r137.1) then
  (k0 false)
  else (bif v131 then
  (andThen (F52 n v128) fun r152 =>
  (bif (v129 != r152.1) then
  (k0 false)
  else (andThen (F46 n v130 (-1000000 : Int) (1000000 : Int)) fun r159 =>
  (bif (!r159.1) then
  (k0 false)
  else (rec (IntKind.wrap .i64 (x122 + (1 : Int))) x123 x124)))))
  else (andThen (F46 n v130 (-1000000 : Int) (1000000 : Int)) fun r162 =>
  (bif (!r162.1) then
  (k0 false)
  else (rec (IntKind.wrap .i64 (x122 + (1 : Int))) x123 x124)))))))
  else (andThen (F34 n v128) fun r165 =>
  (bif (!r165.1) then
  (k0 false)
  else (bif v131 then
  (andThen (F52 n v128) fun r167 =>
  (bif (v129 != r167.1) then
  (k0 false)
  else (andThen (F46 n v130 (-1000000 : Int) (1000000 : Int)) fun r169 =>
  (bif (!r169.1) then
  (k0 false)
  else (rec (IntKind.wrap .i64 (x122 + (1 : Int))) x123 x124)))))
  else (andThen (F46 n v130 (-1000000 : Int) (1000000 : Int)) fun r172 =>
  (bif (!r172.1) then
  (k0 false)
  else (rec (IntKind.wrap .i64 (x122 + (1 : Int))) x123 x124)))))))
  else none)
  else none)
  else (k1 x123 x124))
noncomputable def F25_0_it {R : Type} (n : Nat) (k0 : Bool → Option R) (k1 : List Int → List Ety → Option R) : Nat → Int → List Int → List Ety → Option R
  | 0, _, _, _ => none
  | k + 1, x122, x123, x124 => F25_0_step n k0 k1 (F25_0_it n k0 k1 k) x122 x123 x124
noncomputable def F25_0 {R : Type} (n : Nat) (x122 : Int) (x123 : List Int) (x124 : List Ety) (k0 : Bool → Option R) (k1 : List Int → List Ety → Option R) : Option R := F25_0_it n k0 k1 n x122 x123 x124
noncomputable def F25_0z (n : Nat) : Sm G := inZ G 0 ⟨[1, 4], []⟩ F25_0s fun R x K => F25_0_it n (fun u0 => K .ret (SSh.enc G F25_0x0 ((u0, ()), ()))) (fun u0 u1 => K (.exit 0) (SSh.enc G F25_0x1 (((), ()), ((u0, (u1, ())), ())))) n x.1.2.1 x.2.1.1 x.2.1.2.1
theorem F25_0_eq (n : Nat) (R : Type) (rec : SSh.den G F25_0s → Option R) (x : SSh.den G F25_0s) (K : AE → St G → Option R) :
  F25_0_step n (fun u0 => K .ret (SSh.enc G F25_0x0 ((u0, ()), ()))) (fun u0 u1 => K (.exit 0) (SSh.enc G F25_0x1 (((), ()), ((u0, (u1, ())), ())))) (fun x122 x123 x124 => rec (((), (x122, ())), ((x123, (x124, ())), ()))) x.1.2.1 x.2.1.1 x.2.1.2.1 = exec prog G (ro G (tabOf (E12 n)) (frOf []) R) 0 (codeAt F25c [1, 1, 1, 1, 0, 1, 0, 0]) .no (SSh.enc G F25_0s x) (kLoop G (ro G (tabOf (E12 n)) (frOf []) R) 0 ⟨[1, 4], []⟩ F25_0s ⟨⟨[1], []⟩, ⟨[2], []⟩, [(0, ⟨[1], []⟩)]⟩ rec K) := by kernel_rfl
theorem F25_0_ok (n : Nat) : FragOK prog G 0 (codeAt F25c [1, 1, 1, 1, 0, 1, 0]) (F25_0z n) :=
  frag_loop (Z := fun R k (x : SSh.den G F25_0s) K => F25_0_it n (fun u0 => K .ret (SSh.enc G F25_0x0 ((u0, ()), ()))) (fun u0 u1 => K (.exit 0) (SSh.enc G F25_0x1 (((), ()), ((u0, (u1, ())), ())))) k x.1.2.1 x.2.1.1 x.2.1.2.1) laws fnok (E12_ok n).tab (AllF.of (l := []) (by kernel_rfl) AllF.nil) (fun _ _ _ => rfl) (fun R k y K => F25_0_eq n R (fun (x : SSh.den G F25_0s) => F25_0_it n (fun u0 => K .ret (SSh.enc G F25_0x0 ((u0, ()), ()))) (fun u0 u1 => K (.exit 0) (SSh.enc G F25_0x1 (((), ()), ((u0, (u1, ())), ())))) k x.1.2.1 x.2.1.1 x.2.1.2.1) y K) n
-- 53 loop.example/slowworm/spec.validSlots
noncomputable def F53c : Code := bodyOf Go.Proofs.Try.f53
noncomputable def F53_0x0 : SSh := ⟨86, [(1, (.ptr 0 0)), (3, (.own 1)), (4, (.int .i64)), (5, (.int .i64)), (6, (.int .i64))], [(.box 31 (.cons (.imm 0) (.cons (.imm 3) .nil))), (.arr 4 true)]⟩
noncomputable def F53_0s : SSh := ⟨86, [(1, (.ptr 0 0)), (3, (.own 1)), (4, (.int .i64)), (5, (.int .i64)), (6, (.int .i64))], [(.box 31 (.cons (.imm 0) (.cons (.imm 3) .nil))), (.arr 4 true)]⟩
noncomputable def F53_0 {R : Type} (n : Nat) (x196 : Int) (x197 : Int) (x198 : Int) (x199 : List Int) (x200 : List Ety) (x201 : List Bool) (k0 : Int → Int → Int → List Int → List Ety → List Bool → Option R) : Option R :=
  (bif (x198 == (-2 : Int)) then
  (k0 (IntKind.wrap .i64 (x196 + (1 : Int))) x197 x198 x199 x200 x201)
  else (k0 x196 x197 x198 x199 x200 x201))
noncomputable def F53_0z (n : Nat) : Sm G := inZ G 0 ⟨[1, 3, 4, 5, 6], []⟩ F53_0s fun R x K => F53_0 n x.1.2.2.1 x.1.2.2.2.1 x.1.2.2.2.2.1 x.2.1.1 x.2.1.2.1 x.2.2.1 (fun u0 u1 u2 u3 u4 u5 => K .normal (SSh.enc G F53_0x0 (((), ((), (u0, (u1, (u2, ()))))), ((u3, (u4, ())), (u5, ())))))
theorem F53_0_eq (n : Nat) (R : Type) (x : SSh.den G F53_0s) (K : AE → St G → Option R) :
  F53_0 n x.1.2.2.1 x.1.2.2.2.1 x.1.2.2.2.2.1 x.2.1.1 x.2.1.2.1 x.2.2.1 (fun u0 u1 u2 u3 u4 u5 => K .normal (SSh.enc G F53_0x0 (((), ((), (u0, (u1, (u2, ()))))), ((u3, (u4, ())), (u5, ()))))) = exec prog G (ro G (tabOf (E12 n)) (frOf []) R) 0 (codeAt F53c [1, 1, 1, 0, 1, 0, 0, 1, 0, 0, 1, 0]) .no (SSh.enc G F53_0s x) (kNrm G (ro G (tabOf (E12 n)) (frOf []) R) 0 ⟨⟨[1, 3, 4, 5, 6], []⟩, ⟨[2], []⟩, [(1, ⟨[1, 3, 4, 5], []⟩), (0, ⟨[1, 3, 4], []⟩)]⟩ K) := by kernel_rfl
theorem F53_0_ok (n : Nat) : FragOK prog G 0 (codeAt F53c [1, 1, 1, 0, 1, 0, 0, 1, 0, 0, 1, 0]) (F53_0z n) :=
  frag_plain laws fnok (E12_ok n).tab (AllF.of (l := []) (by kernel_rfl) AllF.nil) (F53_0_eq n)
noncomputable def F53_1x0 : SSh := ⟨86, [(2, .bool)], []⟩
noncomputable def F53_1x1 : SSh := ⟨86, [(1, (.ptr 0 0)), (3, (.own 1)), (4, (.int .i64)), (5, (.int .i64))], [(.box 31 (.cons (.imm 0) (.cons (.imm 3) .nil))), (.arr 4 true)]⟩
noncomputable def F53_1s : SSh := ⟨86, [(1, (.ptr 0 0)), (3, (.own 1)), (4, (.int .i64)), (5, (.int .i64))], [(.box 31 (.cons (.imm 0) (.cons (.imm 3) .nil))), (.arr 4 true)]⟩
noncomputable def F53_1 {R : Type} (n : Nat) (x189 : Int) (x190 : Int) (x191 : List Int) (x192 : List Ety) (x193 : List Bool) (k0 : Bool → Option R) (k1 : Int → Int → List Int → List Ety → List Bool → Option R) : Option R :=
  (bif (decide ((0 : Int) ≤ x190)) then
  (bif (decide (x190 < ((x191.length) : Int))) then
  (F53_0 n x189 x190 (x191.getD (x190.toNat) (0 : Int)) x191 x192 x193 (fun z204 z205 z206 z207 z208 z209 =>
  (bif (decide (z206 < (-2 : Int))) then
  (k0 false)
  else (bif (decide (z206 ≥ ((z208.length) : Int))) then
  (k0 false)
  else (bif (decide (z206 ≥ (0 : Int))) then
  (bif (decide ((0 : Int) ≤ z206)) then
  (bif (decide (z206 < ((z209.length) : Int))) then
  (bif (z209.getD (z206.toNat) false) then
  (k0 false)
  else (bif (decide ((0 : Int) ≤ z206)) then
  (bif (decide (z206 < ((z208.length) : Int))) then
  (bif (!(z208.getD (z206.toNat) (Ety.mk ({ data := #[] } : ByteArray) (0 : Int) (0 : Int) false)).live) then
  (k0 false)
  else (bif (decide (z206 ≥ (0 : Int))) then
  (bif (decide ((0 : Int) ≤ z206)) then
  (bif (decide (z206 < ((z209.length) : Int))) then
  (k1 z204 z205 z207 z208 (z209.set (z206.toNat) true))
  else none)
  else none)
  else (k1 z204 z205 z207 z208 z209)))
  else none)
  else none))
  else none)
  else none)
  else (bif (decide (z206 ≥ (0 : Int))) then
  (bif (decide ((0 : Int) ≤ z206)) then
  (bif (decide (z206 < ((z209.length) : Int))) then
  (k1 z204 z205 z207 z208 (z209.set (z206.toNat) true))
  else none)
  else none)
  else (k1 z204 z205 z207 z208 z209)))))))
  else none)
  else none)
noncomputable def F53_1z (n : Nat) : Sm G := inZ G 0 ⟨[1, 3, 4, 5], []⟩ F53_1s fun R x K => F53_1 n x.1.2.2.1 x.1.2.2.2.1 x.2.1.1 x.2.1.2.1 x.2.2.1 (fun u0 => K .ret (SSh.enc G F53_1x0 ((u0, ()), ()))) (fun u0 u1 u2 u3 u4 => K .normal (SSh.enc G F53_1x1 (((), ((), (u0, (u1, ())))), ((u2, (u3, ())), (u4, ())))))
theorem F53_1_eq (n : Nat) (R : Type) (x : SSh.den G F53_1s) (K : AE → St G → Option R) :
  F53_1 n x.1.2.2.1 x.1.2.2.2.1 x.2.1.1 x.2.1.2.1 x.2.2.1 (fun u0 => K .ret (SSh.enc G F53_1x0 ((u0, ()), ()))) (fun u0 u1 u2 u3 u4 => K .normal (SSh.enc G F53_1x1 (((), ((), (u0, (u1, ())))), ((u2, (u3, ())), (u4, ()))))) = exec prog G (ro G (tabOf (E12 n)) (frOf [F53_0z n]) R) 0 (codeAt F53c [1, 1, 1, 0, 1, 0, 0, 1, 0]) (.nd (.nd .no (.nd (.use 0) .no)) .no) (SSh.enc G F53_1s x) (kNrm G (ro G (tabOf (E12 n)) (frOf [F53_0z n]) R) 0 ⟨⟨[1, 3, 4, 5], []⟩, ⟨[2], []⟩, [(0, ⟨[1, 3, 4], []⟩)]⟩ K) := by kernel_rfl
theorem F53_1_ok (n : Nat) : FragOK prog G 0 (codeAt F53c [1, 1, 1, 0, 1, 0, 0, 1, 0]) (F53_1z n) :=
  frag_plain laws fnok (E12_ok n).tab (AllF.of (l := [(0, codeAt F53c [1, 1, 1, 0, 1, 0, 0, 1, 0, 0, 1, 0])]) (by kernel_rfl) (AllF.cons (F53_0_ok n) AllF.nil)) (F53_1_eq n)
noncomputable def F53_2x0 : SSh := ⟨86, [(2, .bool)], []⟩
noncomputable def F53_2x1 : SSh := ⟨86, [(1, (.ptr 0 0)), (3, (.own 1)), (4, (.int .i64))], [(.box 31 (.cons (.imm 0) (.cons (.imm 3) .nil))), (.arr 4 true)]⟩
noncomputable def F53_2s : SSh := ⟨86, [(1, (.ptr 0 0)), (3, (.own 1)), (4, (.int .i64)), (5, (.int .i64))], [(.box 31 (.cons (.imm 0) (.cons (.imm 3) .nil))), (.arr 4 true)]⟩
noncomputable def F53_2_step {R : Type} (n : Nat) (k0 : Bool → Option R) (k1 : Int → List Int → List Ety → List Bool → Option R) (rec : Int → Int → List Int → List Ety → List Bool → Option R) (x182 : Int) (x183 : Int) (x184 : List Int) (x185 : List Ety) (x186 : List Bool) : Option R :=
  (bif (decide (x183 < ((x184.length) : Int))) then
  (F53_1 n x182 x183 x184 x185 x186 (fun z225 =>
  (k0 z225)) (fun z226 z227 z228 z229 z230 =>
  (rec z226 (IntKind.wrap .i64 (z227 + (1 : Int))) z228 z229 z230)))
  else (k1 x182 x184 x185 x186))
noncomputable def F53_2_it {R : Type} (n : Nat) (k0 : Bool → Option R) (k1 : Int → List Int → List Ety → List Bool → Option R) : Nat → Int → Int → List Int → List Ety → List Bool → Option R
  | 0, _, _, _, _, _ => none
  | k + 1, x182, x183, x184, x185, x186 => F53_2_step n k0 k1 (F53_2_it n k0 k1 k) x182 x183 x184 x185 x186
noncomputable def F53_2 {R : Type} (n : Nat) (x182 : Int) (x183 : Int) (x184 : List Int) (x185 : List Ety) (x186 : List Bool) (k0 : Bool → Option R) (k1 : Int → List Int → List Ety → List Bool → Option R) : Option R := F53_2_it n k0 k1 n x182 x183 x184 x185 x186
noncomputable def F53_2z (n : Nat) : Sm G := inZ G 0 ⟨[1, 3, 4, 5], []⟩ F53_2s fun R x K => F53_2_it n (fun u0 => K .ret (SSh.enc G F53_2x0 ((u0, ()), ()))) (fun u0 u1 u2 u3 => K (.exit 0) (SSh.enc G F53_2x1 (((), ((), (u0, ()))), ((u1, (u2, ())), (u3, ()))))) n x.1.2.2.1 x.1.2.2.2.1 x.2.1.1 x.2.1.2.1 x.2.2.1
theorem F53_2_eq (n : Nat) (R : Type) (rec : SSh.den G F53_2s → Option R) (x : SSh.den G F53_2s) (K : AE → St G → Option R) :
  F53_2_step n (fun u0 => K .ret (SSh.enc G F53_2x0 ((u0, ()), ()))) (fun u0 u1 u2 u3 => K (.exit 0) (SSh.enc G F53_2x1 (((), ((), (u0, ()))), ((u1, (u2, ())), (u3, ()))))) (fun x182 x183 x184 x185 x186 => rec (((), ((), (x182, (x183, ())))), ((x184, (x185, ())), (x186, ())))) x.1.2.2.1 x.1.2.2.2.1 x.2.1.1 x.2.1.2.1 x.2.2.1 = exec prog G (ro G (tabOf (E12 n)) (frOf [F53_0z n, F53_1z n]) R) 0 (codeAt F53c [1, 1, 1, 0, 1, 0, 0]) (.nd .no (.nd (.use 1) .no)) (SSh.enc G F53_2s x) (kLoop G (ro G (tabOf (E12 n)) (frOf [F53_0z n, F53_1z n]) R) 0 ⟨[1, 3, 4, 5], []⟩ F53_2s ⟨⟨[1, 3, 4], []⟩, ⟨[2], []⟩, [(0, ⟨[1, 3, 4], []⟩)]⟩ rec K) := by kernel_rfl
theorem F53_2_ok (n : Nat) : FragOK prog G 0 (codeAt F53c [1, 1, 1, 0, 1, 0]) (F53_2z n) :=
  frag_loop (Z := fun R k (x : SSh.den G F53_2s) K => F53_2_it n (fun u0 => K .ret (SSh.enc G F53_2x0 ((u0, ()), ()))) (fun u0 u1 u2 u3 => K (.exit 0) (SSh.enc G F53_2x1 (((), ((), (u0, ()))), ((u1, (u2, ())), (u3, ()))))) k x.1.2.2.1 x.1.2.2.2.1 x.2.1.1 x.2.1.2.1 x.2.2.1) laws fnok (E12_ok n).tab (AllF.of (l := [(1, codeAt F53c [1, 1, 1, 0, 1, 0, 0, 1, 0])]) (by kernel_rfl) (AllF.cons (F53_1_ok n) AllF.nil)) (fun _ _ _ => rfl) (fun R k y K => F53_2_eq n R (fun (x : SSh.den G F53_2s) => F53_2_it n (fun u0 => K .ret (SSh.enc G F53_2x0 ((u0, ()), ()))) (fun u0 u1 u2 u3 => K (.exit 0) (SSh.enc G F53_2x1 (((), ((), (u0, ()))), ((u1, (u2, ())), (u3, ()))))) k x.1.2.2.1 x.1.2.2.2.1 x.2.1.1 x.2.1.2.1 x.2.2.1) y K) n
noncomputable def F53_3x0 : SSh := ⟨86, [(2, .bool)], []⟩
noncomputable def F53_3x1 : SSh := ⟨86, [(1, (.ptr 0 0)), (4, (.int .i64))], [(.box 31 (.cons (.imm 0) (.cons (.imm 3) .nil)))]⟩
noncomputable def F53_3s : SSh := ⟨86, [(1, (.ptr 0 0)), (3, (.own 1)), (4, (.int .i64)), (7, (.int .i64))], [(.box 31 (.cons (.imm 0) (.cons (.imm 3) .nil))), (.arr 4 true)]⟩
noncomputable def F53_3_step {R : Type} (n : Nat) (k0 : Bool → Option R) (k1 : Int → List Int → List Ety → Option R) (rec : Int → Int → List Int → List Ety → List Bool → Option R) (x237 : Int) (x238 : Int) (x239 : List Int) (x240 : List Ety) (x241 : List Bool) : Option R :=
  (bif (decide (x238 < ((x241.length) : Int))) then
  (bif (decide ((0 : Int) ≤ x238)) then
  (bif (decide (x238 < ((x241.length) : Int))) then
  (bif (decide ((0 : Int) ≤ x238)) then
  (bif (decide (x238 < ((x240.length) : Int))) then
  (bif (!((x241.getD (x238.toNat) false) == (x240.getD (x238.toNat) (Ety.mk ({ data := #[] } : ByteArray) (0 : Int) (0 : Int) false)).live)) then
  (k0 false)
  else (rec x237 (IntKind.wrap .i64 (x238 + (1 : Int))) x239 x240 x241))
  else none)
  else none)
  else none)
  else none)
  else (k1 x237 x239 x240))
noncomputable def F53_3_it {R : Type} (n : Nat) (k0 : Bool → Option R) (k1 : Int → List Int → List Ety → Option R) : Nat → Int → Int → List Int → List Ety → List Bool → Option R
  | 0, _, _, _, _, _ => none
  | k + 1, x237, x238, x239, x240, x241 => F53_3_step n k0 k1 (F53_3_it n k0 k1 k) x237 x238 x239 x240 x241
noncomputable def F53_3 {R : Type} (n : Nat) (x237 : Int) (x238 : Int) (x239 : List Int) (x240 : List Ety) (x241 : List Bool) (k0 : Bool → Option R) (k1 : Int → List Int → List Ety → Option R) : Option R := F53_3_it n k0 k1 n x237 x238 x239 x240 x241
noncomputable def F53_3z (n : Nat) : Sm G := inZ G 0 ⟨[1, 3, 4, 7], []⟩ F53_3s fun R x K => F53_3_it n (fun u0 => K .ret (SSh.enc G F53_3x0 ((u0, ()), ()))) (fun u0 u1 u2 => K (.exit 2) (SSh.enc G F53_3x1 (((), (u0, ())), ((u1, (u2, ())), ())))) n x.1.2.2.1 x.1.2.2.2.1 x.2.1.1 x.2.1.2.1 x.2.2.1
theorem F53_3_eq (n : Nat) (R : Type) (rec : SSh.den G F53_3s → Option R) (x : SSh.den G F53_3s) (K : AE → St G → Option R) :
  F53_3_step n (fun u0 => K .ret (SSh.enc G F53_3x0 ((u0, ()), ()))) (fun u0 u1 u2 => K (.exit 2) (SSh.enc G F53_3x1 (((), (u0, ())), ((u1, (u2, ())), ())))) (fun x237 x238 x239 x240 x241 => rec (((), ((), (x237, (x238, ())))), ((x239, (x240, ())), (x241, ())))) x.1.2.2.1 x.1.2.2.2.1 x.2.1.1 x.2.1.2.1 x.2.2.1 = exec prog G (ro G (tabOf (E12 n)) (frOf [F53_0z n, F53_1z n, F53_2z n]) R) 0 (codeAt F53c [1, 1, 1, 1, 0, 1, 0, 0]) .no (SSh.enc G F53_3s x) (kLoop G (ro G (tabOf (E12 n)) (frOf [F53_0z n, F53_1z n, F53_2z n]) R) 0 ⟨[1, 3, 4, 7], []⟩ F53_3s ⟨⟨[1, 4], []⟩, ⟨[2], []⟩, [(2, ⟨[1, 4], []⟩)]⟩ rec K) := by kernel_rfl
theorem F53_3_ok (n : Nat) : FragOK prog G 0 (codeAt F53c [1, 1, 1, 1, 0, 1, 0]) (F53_3z n) :=
  frag_loop (Z := fun R k (x : SSh.den G F53_3s) K => F53_3_it n (fun u0 => K .ret (SSh.enc G F53_3x0 ((u0, ()), ()))) (fun u0 u1 u2 => K (.exit 2) (SSh.enc G F53_3x1 (((), (u0, ())), ((u1, (u2, ())), ())))) k x.1.2.2.1 x.1.2.2.2.1 x.2.1.1 x.2.1.2.1 x.2.2.1) laws fnok (E12_ok n).tab (AllF.of (l := []) (by kernel_rfl) AllF.nil) (fun _ _ _ => rfl) (fun R k y K => F53_3_eq n R (fun (x : SSh.den G F53_3s) => F53_3_it n (fun u0 => K .ret (SSh.enc G F53_3x0 ((u0, ()), ()))) (fun u0 u1 u2 => K (.exit 2) (SSh.enc G F53_3x1 (((), (u0, ())), ((u1, (u2, ())), ())))) k x.1.2.2.1 x.1.2.2.2.1 x.2.1.1 x.2.1.2.1 x.2.2.1) y K) n
noncomputable def F53 (n : Nat) (a178 : List Int) (a179 : List Ety) : Option (Bool × Unit) :=
  let v180 := ((a179.length) : Int)
  (bif (decide ((0 : Int) ≤ v180)) then
  (bif (decide (v180 ≤ v180)) then
  (bif (decide (v180 ≤ ((68719476736 : Nat) : Int))) then
  (F53_2 n (0 : Int) (0 : Int) a178 a179 (List.replicate (v180.toNat) false) (fun z232 =>
  some (z232, ())) (fun z233 z234 z235 z236 =>
  (F53_3 n z233 (0 : Int) z234 z235 z236 (fun z250 =>
  some (z250, ())) (fun z251 z252 z253 =>
  (andThen (F43 n z252 z253) fun r255 =>
  some ((z251 == (IntKind.wrap .i64 (((z253.length) : Int) - r255.1))), ()))))))
  else none)
  else none)
  else none)
noncomputable def F53e (n : Nat) : Ent G := ⟨53, (.cons (.agg (.cons (.imm 0) (.cons (.imm 3) .nil))) .nil), [], .bool, [], fun x y => F53 n x.1.1 x.1.2.1⟩
theorem F53_eq (n : Nat) (x : ShL.den G (.cons (.agg (.cons (.imm 0) (.cons (.imm 3) .nil))) .nil)) (y : denO G []) : (F53e n).F x y = runFn prog G (ro G (tabOf (E12 n)) (frOf [F53_0z n, F53_1z n, F53_2z n, F53_3z n]) _) Go.Proofs.Try.f53 (.nd .no (.nd .no (.nd .no (.nd (.nd .no (.nd (.use 2) .no)) (.nd (.nd .no (.nd (.use 3) .no)) .no))))) [(0, .fz)] (ShL.enc G (.cons (.agg (.cons (.imm 0) (.cons (.imm 3) .nil))) .nil) x) (encO G [] y) (decR .bool []) := by kernel_rfl
theorem F53_ok (n : Nat) : EntOK prog G (F53e n) :=
  ent_ok (fr := frOf [F53_0z n, F53_1z n, F53_2z n, F53_3z n]) (ann := (.nd .no (.nd .no (.nd .no (.nd (.nd .no (.nd (.use 2) .no)) (.nd (.nd .no (.nd (.use 3) .no)) .no)))))) (frm := [(0, .fz)]) laws fnok (E12_ok n).tab (e := F53e n) (fn := Go.Proofs.Try.f53) (by kernel_rfl) (AllF.ofB (cd := F53c) (l := [(2, codeAt F53c [1, 1, 1, 0, 1, 0]), (3, codeAt F53c [1, 1, 1, 1, 0, 1, 0])]) (by kernel_rfl) (by kernel_rfl) (AllF.cons (F53_2_ok n) (AllF.cons (F53_3_ok n) AllF.nil))) (F53_eq n)
noncomputable def E13 (n : Nat) : List (Ent G) := F53e n :: E12 n
theorem E13_ok (n : Nat) : AllE prog G (E13 n) := AllE.cons (F53_ok n) (E12_ok n)
-- 36 loop.example/slowworm/spec.slotOf
noncomputable def F36c : Code := bodyOf Go.Proofs.Try.f36
-- 58 loop.example/slowworm/spec.probesOf
noncomputable def F58c : Code := bodyOf Go.Proofs.Try.f58
noncomputable def F58_0x0 : SSh := ⟨54, [(4, (.own 0))], [(.arr 0 true)]⟩
noncomputable def F58_0s : SSh := ⟨54, [(1, .str), (2, (.ptr 0 0)), (5, (.int .i64)), (6, (.int .i64)), (7, (.int .i64)), (8, (.own 1))], [(.box 31 (.cons (.imm 0) (.cons (.imm 3) .nil))), (.arr 0 true)]⟩
noncomputable def F58_0_step {R : Type} (n : Nat) (k0 : List Int → Option R) (rec : ByteArray → Int → Int → Int → List Int → List Ety → List Int → Option R) (x279 : ByteArray) (x280 : Int) (x281 : Int) (x282 : Int) (x283 : List Int) (x284 : List Ety) (x285 : List Int) : Option R :=
  let v286 := (x282 :: [])
  (bif (decide (((x285.length) + (v286.length)) ≤ (68719476736 : Nat))) then
  let v287 := (x285 ++ v286)
  (bif (decide ((0 : Int) ≤ x282)) then
  (bif (decide (x282 < ((x283.length) : Int))) then
  let v289 := (x283.getD (x282.toNat) (0 : Int))
  (bif (v289 == (-1 : Int)) then
  (k0 v287)
  else (bif (decide (v289 ≥ (0 : Int))) then
  (bif (decide ((0 : Int) ≤ v289)) then
  (bif (decide (v289 < ((x284.length) : Int))) then
  (bif (((x284.getD (v289.toNat) (Ety.mk ({ data := #[] } : ByteArray) (0 : Int) (0 : Int) false)).key.toList) == (x279.toList)) then
  (k0 v287)
  else let v295 := (IntKind.wrap .i64 (x281.tdiv (8 : Int)))
  (bif (!(decide (x280 = (0 : Int)))) then
  (rec x279 x280 v295 ((IntKind.wrap .i64 ((IntKind.wrap .i64 ((IntKind.wrap .i64 ((5 : Int) * x282)) + v295)) + (1 : Int))).tmod x280) x283 x284 v287)
  else none))
  else none)
  else none)
  else let v300 := (IntKind.wrap .i64 (x281.tdiv (8 : Int)))
  (bif (!(decide (x280 = (0 : Int)))) then
  (rec x279 x280 v300 ((IntKind.wrap .i64 ((IntKind.wrap .i64 ((IntKind.wrap .i64 ((5 : Int) * x282)) + v300)) + (1 : Int))).tmod x280) x283 x284 v287)
  else none)))
  else none)
  else none)
  else none)
noncomputable def F58_0_it {R : Type} (n : Nat) (k0 : List Int → Option R) : Nat → ByteArray → Int → Int → Int → List Int → List Ety → List Int → Option R
  | 0, _, _, _, _, _, _, _ => none
  | k + 1, x279, x280, x281, x282, x283, x284, x285 => F58_0_step n k0 (F58_0_it n k0 k) x279 x280 x281 x282 x283 x284 x285
noncomputable def F58_0 {R : Type} (n : Nat) (x279 : ByteArray) (x280 : Int) (x281 : Int) (x282 : Int) (x283 : List Int) (x284 : List Ety) (x285 : List Int) (k0 : List Int → Option R) : Option R := F58_0_it n k0 n x279 x280 x281 x282 x283 x284 x285
noncomputable def F58_0z (n : Nat) : Sm G := inZ G 0 ⟨[1, 2, 5, 6, 7, 8], []⟩ F58_0s fun R x K => F58_0_it n (fun u0 => K .ret (SSh.enc G F58_0x0 (((), ()), (u0, ())))) n x.1.1 x.1.2.2.1 x.1.2.2.2.1 x.1.2.2.2.2.1 x.2.1.1 x.2.1.2.1 x.2.2.1
theorem F58_0_eq (n : Nat) (R : Type) (rec : SSh.den G F58_0s → Option R) (x : SSh.den G F58_0s) (K : AE → St G → Option R) :
  F58_0_step n (fun u0 => K .ret (SSh.enc G F58_0x0 (((), ()), (u0, ())))) (fun x279 x280 x281 x282 x283 x284 x285 => rec ((x279, ((), (x280, (x281, (x282, ((), ())))))), ((x283, (x284, ())), (x285, ())))) x.1.1 x.1.2.2.1 x.1.2.2.2.1 x.1.2.2.2.2.1 x.2.1.1 x.2.1.2.1 x.2.2.1 = exec prog G (ro G (tabOf (E13 n)) (frOf []) R) 0 (codeAt F58c [1, 1, 1, 1, 1, 0, 0]) .no (SSh.enc G F58_0s x) (kLoop G (ro G (tabOf (E13 n)) (frOf []) R) 0 ⟨[1, 2, 5, 6, 7, 8], []⟩ F58_0s ⟨⟨[4], []⟩, ⟨[4], []⟩, [(0, ⟨[4], []⟩)]⟩ rec K) := by kernel_rfl
theorem F58_0_ok (n : Nat) : FragOK prog G 0 (codeAt F58c [1, 1, 1, 1, 1, 0]) (F58_0z n) :=
  frag_loop (Z := fun R k (x : SSh.den G F58_0s) K => F58_0_it n (fun u0 => K .ret (SSh.enc G F58_0x0 (((), ()), (u0, ())))) k x.1.1 x.1.2.2.1 x.1.2.2.2.1 x.1.2.2.2.2.1 x.2.1.1 x.2.1.2.1 x.2.2.1) laws fnok (E13_ok n).tab (AllF.of (l := []) (by kernel_rfl) AllF.nil) (fun _ _ _ => rfl) (fun R k y K => F58_0_eq n R (fun (x : SSh.den G F58_0s) => F58_0_it n (fun u0 => K .ret (SSh.enc G F58_0x0 (((), ()), (u0, ())))) k x.1.1 x.1.2.2.1 x.1.2.2.2.1 x.1.2.2.2.2.1 x.2.1.1 x.2.1.2.1 x.2.2.1) y K) n
noncomputable def F58 (n : Nat) (a272 : List Int) (a273 : List Ety) (a274 : ByteArray) : Option (List Int × Unit) :=
  let v275 := ((a272.length) : Int)
  (andThen (F52 n a274) fun r276 =>
  (bif (!(decide (v275 = (0 : Int)))) then
  (F58_0 n a274 v275 r276.1 (r276.1.tmod v275) a272 a273 [] (fun z305 =>
  some (z305, ())))
  else none))
noncomputable def F58e (n : Nat) : Ent G := ⟨58, (.cons (.agg (.cons (.imm 0) (.cons (.imm 3) .nil))) (.cons .str .nil)), [], (.imm 0), [], fun x y => F58 n x.1.1 x.1.2.1 x.2.1⟩
theorem F58_eq (n : Nat) (x : ShL.den G (.cons (.agg (.cons (.imm 0) (.cons (.imm 3) .nil))) (.cons .str .nil))) (y : denO G []) : (F58e n).F x y = runFn prog G (ro G (tabOf (E13 n)) (frOf [F58_0z n]) _) Go.Proofs.Try.f58 (.nd .no (.nd .no (.nd .no (.nd .no (.nd .no (.nd (.use 0) .no)))))) [(0, .fz)] (ShL.enc G (.cons (.agg (.cons (.imm 0) (.cons (.imm 3) .nil))) (.cons .str .nil)) x) (encO G [] y) (decR (.imm 0) []) := by kernel_rfl
theorem F58_ok (n : Nat) : EntOK prog G (F58e n) :=
  ent_ok (fr := frOf [F58_0z n]) (ann := (.nd .no (.nd .no (.nd .no (.nd .no (.nd .no (.nd (.use 0) .no))))))) (frm := [(0, .fz)]) laws fnok (E13_ok n).tab (e := F58e n) (fn := Go.Proofs.Try.f58) (by kernel_rfl) (AllF.ofB (cd := F58c) (l := [(0, codeAt F58c [1, 1, 1, 1, 1, 0])]) (by kernel_rfl) (by kernel_rfl) (AllF.cons (F58_0_ok n) AllF.nil)) (F58_eq n)
noncomputable def E14 (n : Nat) : List (Ent G) := F58e n :: E13 n
theorem E14_ok (n : Nat) : AllE prog G (E14 n) := AllE.cons (F58_ok n) (E13_ok n)
noncomputable def F36 (n : Nat) (a269 : List Int) (a270 : List Ety) (a271 : ByteArray) : Option (Int × Unit) :=
  (andThen (F58 n a269 a270 a271) fun r306 =>
  let v308 := (IntKind.wrap .i64 (((r306.1.length) : Int) - (1 : Int)))
  (bif (decide ((0 : Int) ≤ v308)) then
  (bif (decide (v308 < ((r306.1.length) : Int))) then
  some ((r306.1.getD (v308.toNat) (0 : Int)), ())
  else none)
  else none))
noncomputable def F36e (n : Nat) : Ent G := ⟨36, (.cons (.agg (.cons (.imm 0) (.cons (.imm 3) .nil))) (.cons .str .nil)), [], (.int .i64), [], fun x y => F36 n x.1.1 x.1.2.1 x.2.1⟩
theorem F36_eq (n : Nat) (x : ShL.den G (.cons (.agg (.cons (.imm 0) (.cons (.imm 3) .nil))) (.cons .str .nil))) (y : denO G []) : (F36e n).F x y = runFn prog G (ro G (tabOf (E14 n)) (frOf []) _) Go.Proofs.Try.f36 .no [(0, .fz)] (ShL.enc G (.cons (.agg (.cons (.imm 0) (.cons (.imm 3) .nil))) (.cons .str .nil)) x) (encO G [] y) (decR (.int .i64) []) := by kernel_rfl
theorem F36_ok (n : Nat) : EntOK prog G (F36e n) :=
  ent_ok (fr := frOf []) (ann := .no) (frm := [(0, .fz)]) laws fnok (E14_ok n).tab (e := F36e n) (fn := Go.Proofs.Try.f36) (by kernel_rfl) (AllF.ofB (cd := F36c) (l := []) (by kernel_rfl) (by kernel_rfl) AllF.nil) (F36_eq n)
noncomputable def E15 (n : Nat) : List (Ent G) := F36e n :: E14 n
theorem E15_ok (n : Nat) : AllE prog G (E15 n) := AllE.cons (F36_ok n) (E14_ok n)
noncomputable def F25_1x0 : SSh := ⟨116, [(2, .bool)], []⟩
noncomputable def F25_1x1 : SSh := ⟨116, [], []⟩
noncomputable def F25_1s : SSh := ⟨116, [(1, (.ptr 0 0)), (6, (.int .i64))], [(.box 31 (.cons (.imm 0) (.cons (.imm 3) .nil)))]⟩
noncomputable def F25_1_step {R : Type} (n : Nat) (k0 : Bool → Option R) (k1 : Option R) (rec : Int → List Int → List Ety → Option R) (x260 : Int) (x261 : List Int) (x262 : List Ety) : Option R :=
  (bif (decide (x260 < ((x262.length) : Int))) then
  (bif (decide ((0 : Int) ≤ x260)) then
  (bif (decide (x260 < ((x262.length) : Int))) then
  (bif (x262.getD (x260.toNat) (Ety.mk ({ data := #[] } : ByteArray) (0 : Int) (0 : Int) false)).live then
  (bif (decide ((0 : Int) ≤ x260)) then
  (bif (decide (x260 < ((x262.length) : Int))) then
  (andThen (F36 n x261 x262 (x262.getD (x260.toNat) (Ety.mk ({ data := #[] } : ByteArray) (0 : Int) (0 : Int) false)).key) fun r311 =>
  (bif (decide ((0 : Int) ≤ r311.1)) then
  (bif (decide (r311.1 < ((x261.length) : Int))) then
  (bif ((x261.getD (r311.1.toNat) (0 : Int)) != x260) then
  (k0 false)
  else (rec (IntKind.wrap .i64 (x260 + (1 : Int))) x261 x262))
  else none)
  else none))
  else none)
  else none)
  else (rec (IntKind.wrap .i64 (x260 + (1 : Int))) x261 x262))
  else none)
  else none)
  else k1)
noncomputable def F25_1_it {R : Type} (n : Nat) (k0 : Bool → Option R) (k1 : Option R) : Nat → Int → List Int → List Ety → Option R
  | 0, _, _, _ => none
  | k + 1, x260, x261, x262 => F25_1_step n k0 k1 (F25_1_it n k0 k1 k) x260 x261 x262
noncomputable def F25_1 {R : Type} (n : Nat) (x260 : Int) (x261 : List Int) (x262 : List Ety) (k0 : Bool → Option R) (k1 : Option R) : Option R := F25_1_it n k0 k1 n x260 x261 x262
noncomputable def F25_1z (n : Nat) : Sm G := inZ G 0 ⟨[1, 6], []⟩ F25_1s fun R x K => F25_1_it n (fun u0 => K .ret (SSh.enc G F25_1x0 ((u0, ()), ()))) (K (.exit 2) (SSh.enc G F25_1x1 ((), ()))) n x.1.2.1 x.2.1.1 x.2.1.2.1
theorem F25_1_eq (n : Nat) (R : Type) (rec : SSh.den G F25_1s → Option R) (x : SSh.den G F25_1s) (K : AE → St G → Option R) :
  F25_1_step n (fun u0 => K .ret (SSh.enc G F25_1x0 ((u0, ()), ()))) (K (.exit 2) (SSh.enc G F25_1x1 ((), ()))) (fun x260 x261 x262 => rec (((), (x260, ())), ((x261, (x262, ())), ()))) x.1.2.1 x.2.1.1 x.2.1.2.1 = exec prog G (ro G (tabOf (E15 n)) (frOf [F25_0z n]) R) 0 (codeAt F25c [1, 1, 1, 1, 1, 1, 0, 1, 0, 0]) .no (SSh.enc G F25_1s x) (kLoop G (ro G (tabOf (E15 n)) (frOf [F25_0z n]) R) 0 ⟨[1, 6], []⟩ F25_1s ⟨⟨[], []⟩, ⟨[2], []⟩, [(2, ⟨[], []⟩)]⟩ rec K) := by kernel_rfl
theorem F25_1_ok (n : Nat) : FragOK prog G 0 (codeAt F25c [1, 1, 1, 1, 1, 1, 0, 1, 0]) (F25_1z n) :=
  frag_loop (Z := fun R k (x : SSh.den G F25_1s) K => F25_1_it n (fun u0 => K .ret (SSh.enc G F25_1x0 ((u0, ()), ()))) (K (.exit 2) (SSh.enc G F25_1x1 ((), ()))) k x.1.2.1 x.2.1.1 x.2.1.2.1) laws fnok (E15_ok n).tab (AllF.of (l := []) (by kernel_rfl) AllF.nil) (fun _ _ _ => rfl) (fun R k y K => F25_1_eq n R (fun (x : SSh.den G F25_1s) => F25_1_it n (fun u0 => K .ret (SSh.enc G F25_1x0 ((u0, ()), ()))) (K (.exit 2) (SSh.enc G F25_1x1 ((), ()))) k x.1.2.1 x.2.1.1 x.2.1.2.1) y K) n
noncomputable def F25 (n : Nat) (a87 : List Int) (a88 : List Ety) : Option (Bool × Unit) :=
  let v89 := ((a87.length) : Int)
  (bif (v89 != (8 : Int)) then
  (bif (v89 != (16 : Int)) then
  (bif (v89 != (32 : Int)) then
  (bif (v89 != (64 : Int)) then
  (bif (v89 != (128 : Int)) then
  some (false, ())
  else (bif (decide (((a88.length) : Int) > (IntKind.wrap .i64 ((IntKind.wrap .i64 (v89 * (2 : Int))).tdiv (3 : Int))))) then
  some (false, ())
  else (andThen (F43 n a87 a88) fun r120 =>
  (bif (decide (r120.1 > (40 : Int))) then
  some (false, ())
  else (F25_0 n (0 : Int) a87 a88 (fun z175 =>
  some (z175, ())) (fun z176 z177 =>
  (andThen (F53 n z176 z177) fun r258 =>
  (bif (!r258.1) then
  some (false, ())
  else (F25_1 n (0 : Int) z176 z177 (fun z317 =>
  some (z317, ())) (
  some (true, ())))))))))))
  else (bif (decide (((a88.length) : Int) > (IntKind.wrap .i64 ((IntKind.wrap .i64 (v89 * (2 : Int))).tdiv (3 : Int))))) then
  some (false, ())
  else (andThen (F43 n a87 a88) fun r322 =>
  (bif (decide (r322.1 > (40 : Int))) then
  some (false, ())
  else (F25_0 n (0 : Int) a87 a88 (fun z324 =>
  some (z324, ())) (fun z325 z326 =>
  (andThen (F53 n z325 z326) fun r327 =>
  (bif (!r327.1) then
  some (false, ())
  else (F25_1 n (0 : Int) z325 z326 (fun z329 =>
  some (z329, ())) (
  some (true, ())))))))))))
  else (bif (decide (((a88.length) : Int) > (IntKind.wrap .i64 ((IntKind.wrap .i64 (v89 * (2 : Int))).tdiv (3 : Int))))) then
  some (false, ())
  else (andThen (F43 n a87 a88) fun r334 =>
  (bif (decide (r334.1 > (40 : Int))) then
  some (false, ())
  else (F25_0 n (0 : Int) a87 a88 (fun z336 =>
  some (z336, ())) (fun z337 z338 =>
  (andThen (F53 n z337 z338) fun r339 =>
  (bif (!r339.1) then
  some (false, ())
  else (F25_1 n (0 : Int) z337 z338 (fun z341 =>
  some (z341, ())) (
  some (true, ())))))))))))
  else (bif (decide (((a88.length) : Int) > (IntKind.wrap .i64 ((IntKind.wrap .i64 (v89 * (2 : Int))).tdiv (3 : Int))))) then
  some (false, ())
  else (andThen (F43 n a87 a88) fun r346 =>
  (bif (decide (r346.1 > (40 : Int))) then
  some (false, ())
  else (F25_0 n (0 : Int) a87 a88 (fun z348 =>
  some (z348, ())) (fun z349 z350 =>
  (andThen (F53 n z349 z350) fun r351 =>
  (bif (!r351.1) then
  some (false, ())
  else (F25_1 n (0 : Int) z349 z350 (fun z353 =>
  some (z353, ())) (
  some (true, ())))))))))))
  else (bif (decide (((a88.length) : Int) > (IntKind.wrap .i64 ((IntKind.wrap .i64 (v89 * (2 : Int))).tdiv (3 : Int))))) then
  some (false, ())
  else (andThen (F43 n a87 a88) fun r358 =>
  (bif (decide (r358.1 > (40 : Int))) then
  some (false, ())
  else (F25_0 n (0 : Int) a87 a88 (fun z360 =>
  some (z360, ())) (fun z361 z362 =>
  (andThen (F53 n z361 z362) fun r363 =>
  (bif (!r363.1) then
  some (false, ())
  else (F25_1 n (0 : Int) z361 z362 (fun z365 =>
  some (z365, ())) (
  some (true, ())))))))))))
noncomputable def F25e (n : Nat) : Ent G := ⟨25, (.cons (.agg (.cons (.imm 0) (.cons (.imm 3) .nil))) .nil), [], .bool, [], fun x y => F25 n x.1.1 x.1.2.1⟩
theorem F25_eq (n : Nat) (x : ShL.den G (.cons (.agg (.cons (.imm 0) (.cons (.imm 3) .nil))) .nil)) (y : denO G []) : (F25e n).F x y = runFn prog G (ro G (tabOf (E15 n)) (frOf [F25_0z n, F25_1z n]) _) Go.Proofs.Try.f25 (.nd .no (.nd .no (.nd .no (.nd .no (.nd (.nd .no (.nd (.use 0) .no)) (.nd .no (.nd (.nd .no (.nd (.use 1) .no)) .no))))))) [(0, .fz)] (ShL.enc G (.cons (.agg (.cons (.imm 0) (.cons (.imm 3) .nil))) .nil) x) (encO G [] y) (decR .bool []) := by kernel_rfl
theorem F25_ok (n : Nat) : EntOK prog G (F25e n) :=
  ent_ok (fr := frOf [F25_0z n, F25_1z n]) (ann := (.nd .no (.nd .no (.nd .no (.nd .no (.nd (.nd .no (.nd (.use 0) .no)) (.nd .no (.nd (.nd .no (.nd (.use 1) .no)) .no)))))))) (frm := [(0, .fz)]) laws fnok (E15_ok n).tab (e := F25e n) (fn := Go.Proofs.Try.f25) (by kernel_rfl) (AllF.ofB (cd := F25c) (l := [(0, codeAt F25c [1, 1, 1, 1, 0, 1, 0]), (1, codeAt F25c [1, 1, 1, 1, 1, 1, 0, 1, 0])]) (by kernel_rfl) (by kernel_rfl) (AllF.cons (F25_0_ok n) (AllF.cons (F25_1_ok n) AllF.nil))) (F25_eq n)
noncomputable def E16 (n : Nat) : List (Ent G) := F25e n :: E15 n
theorem E16_ok (n : Nat) : AllE prog G (E16 n) := AllE.cons (F25_ok n) (E15_ok n)
-- 8 loop.example/slowworm/spec.DictKeys
noncomputable def F8c : Code := bodyOf Go.Proofs.Try.f8
noncomputable def F8_0x0 : SSh := ⟨32, [(1, (.ptr 0 0)), (3, (.own 1)), (4, (.int .i64))], [(.box 31 (.cons (.imm 0) (.cons (.imm 3) .nil))), (.arr 2 true)]⟩
noncomputable def F8_0s : SSh := ⟨32, [(1, (.ptr 0 0)), (3, (.own 1)), (4, (.int .i64))], [(.box 31 (.cons (.imm 0) (.cons (.imm 3) .nil))), (.arr 2 true)]⟩
noncomputable def F8_0 {R : Type} (n : Nat) (x402 : Int) (x403 : List Int) (x404 : List Ety) (x405 : List ByteArray) (k0 : Int → List Int → List Ety → List ByteArray → Option R) : Option R :=
  (bif (decide ((0 : Int) ≤ x402)) then
  (bif (decide (x402 < ((x404.length) : Int))) then
  (bif (x404.getD (x402.toNat) (Ety.mk ({ data := #[] } : ByteArray) (0 : Int) (0 : Int) false)).live then
  (bif (decide ((0 : Int) ≤ x402)) then
  (bif (decide (x402 < ((x404.length) : Int))) then
  let v410 := ((x404.getD (x402.toNat) (Ety.mk ({ data := #[] } : ByteArray) (0 : Int) (0 : Int) false)).key :: [])
  (bif (decide (((x405.length) + (v410.length)) ≤ (68719476736 : Nat))) then
  (k0 x402 x403 x404 (x405 ++ v410))
  else none)
  else none)
  else none)
  else (k0 x402 x403 x404 x405))
  else none)
  else none)
noncomputable def F8_0z (n : Nat) : Sm G := inZ G 0 ⟨[1, 3, 4], []⟩ F8_0s fun R x K => F8_0 n x.1.2.2.1 x.2.1.1 x.2.1.2.1 x.2.2.1 (fun u0 u1 u2 u3 => K .normal (SSh.enc G F8_0x0 (((), ((), (u0, ()))), ((u1, (u2, ())), (u3, ())))))
theorem F8_0_eq (n : Nat) (R : Type) (x : SSh.den G F8_0s) (K : AE → St G → Option R) :
  F8_0 n x.1.2.2.1 x.2.1.1 x.2.1.2.1 x.2.2.1 (fun u0 u1 u2 u3 => K .normal (SSh.enc G F8_0x0 (((), ((), (u0, ()))), ((u1, (u2, ())), (u3, ()))))) = exec prog G (ro G (tabOf (E16 n)) (frOf []) R) 0 (codeAt F8c [1, 1, 1, 0, 1, 0, 0, 1, 0]) .no (SSh.enc G F8_0s x) (kNrm G (ro G (tabOf (E16 n)) (frOf []) R) 0 ⟨⟨[1, 3, 4], []⟩, ⟨[2], []⟩, [(0, ⟨[3], []⟩)]⟩ K) := by kernel_rfl
theorem F8_0_ok (n : Nat) : FragOK prog G 0 (codeAt F8c [1, 1, 1, 0, 1, 0, 0, 1, 0]) (F8_0z n) :=
  frag_plain laws fnok (E16_ok n).tab (AllF.of (l := []) (by kernel_rfl) AllF.nil) (F8_0_eq n)
noncomputable def F8_1x0 : SSh := ⟨32, [(3, (.own 0))], [(.arr 2 true)]⟩
noncomputable def F8_1s : SSh := ⟨32, [(1, (.ptr 0 0)), (3, (.own 1)), (4, (.int .i64))], [(.box 31 (.cons (.imm 0) (.cons (.imm 3) .nil))), (.arr 2 true)]⟩
noncomputable def F8_1_step {R : Type} (n : Nat) (k0 : List ByteArray → Option R) (rec : Int → List Int → List Ety → List ByteArray → Option R) (x396 : Int) (x397 : List Int) (x398 : List Ety) (x399 : List ByteArray) : Option R :=
  (bif (decide (x396 < ((x398.length) : Int))) then
  (F8_0 n x396 x397 x398 x399 (fun z412 z413 z414 z415 =>
  (rec (IntKind.wrap .i64 (z412 + (1 : Int))) z413 z414 z415)))
  else (k0 x399))
noncomputable def F8_1_it {R : Type} (n : Nat) (k0 : List ByteArray → Option R) : Nat → Int → List Int → List Ety → List ByteArray → Option R
  | 0, _, _, _, _ => none
  | k + 1, x396, x397, x398, x399 => F8_1_step n k0 (F8_1_it n k0 k) x396 x397 x398 x399
noncomputable def F8_1 {R : Type} (n : Nat) (x396 : Int) (x397 : List Int) (x398 : List Ety) (x399 : List ByteArray) (k0 : List ByteArray → Option R) : Option R := F8_1_it n k0 n x396 x397 x398 x399
noncomputable def F8_1z (n : Nat) : Sm G := inZ G 0 ⟨[1, 3, 4], []⟩ F8_1s fun R x K => F8_1_it n (fun u0 => K (.exit 0) (SSh.enc G F8_1x0 (((), ()), (u0, ())))) n x.1.2.2.1 x.2.1.1 x.2.1.2.1 x.2.2.1
theorem F8_1_eq (n : Nat) (R : Type) (rec : SSh.den G F8_1s → Option R) (x : SSh.den G F8_1s) (K : AE → St G → Option R) :
  F8_1_step n (fun u0 => K (.exit 0) (SSh.enc G F8_1x0 (((), ()), (u0, ())))) (fun x396 x397 x398 x399 => rec (((), ((), (x396, ()))), ((x397, (x398, ())), (x399, ())))) x.1.2.2.1 x.2.1.1 x.2.1.2.1 x.2.2.1 = exec prog G (ro G (tabOf (E16 n)) (frOf [F8_0z n]) R) 0 (codeAt F8c [1, 1, 1, 0, 1, 0, 0]) (.nd .no (.nd (.use 0) .no)) (SSh.enc G F8_1s x) (kLoop G (ro G (tabOf (E16 n)) (frOf [F8_0z n]) R) 0 ⟨[1, 3, 4], []⟩ F8_1s ⟨⟨[3], []⟩, ⟨[2], []⟩, [(0, ⟨[3], []⟩)]⟩ rec K) := by kernel_rfl
theorem F8_1_ok (n : Nat) : FragOK prog G 0 (codeAt F8c [1, 1, 1, 0, 1, 0]) (F8_1z n) :=
  frag_loop (Z := fun R k (x : SSh.den G F8_1s) K => F8_1_it n (fun u0 => K (.exit 0) (SSh.enc G F8_1x0 (((), ()), (u0, ())))) k x.1.2.2.1 x.2.1.1 x.2.1.2.1 x.2.2.1) laws fnok (E16_ok n).tab (AllF.of (l := [(0, codeAt F8c [1, 1, 1, 0, 1, 0, 0, 1, 0])]) (by kernel_rfl) (AllF.cons (F8_0_ok n) AllF.nil)) (fun _ _ _ => rfl) (fun R k y K => F8_1_eq n R (fun (x : SSh.den G F8_1s) => F8_1_it n (fun u0 => K (.exit 0) (SSh.enc G F8_1x0 (((), ()), (u0, ())))) k x.1.2.2.1 x.2.1.1 x.2.1.2.1 x.2.2.1) y K) n
noncomputable def F8 (n : Nat) (a391 : List Int) (a392 : List Ety) : Option (List ByteArray × Unit) :=
  (andThen (F25 n a391 a392) fun r393 =>
  (bif (!r393.1) then
  some ([], ())
  else (F8_1 n (0 : Int) a391 a392 [] (fun z417 =>
  some (z417, ())))))
noncomputable def F8e (n : Nat) : Ent G := ⟨8, (.cons (.agg (.cons (.imm 0) (.cons (.imm 3) .nil))) .nil), [], (.imm 2), [], fun x y => F8 n x.1.1 x.1.2.1⟩
theorem F8_eq (n : Nat) (x : ShL.den G (.cons (.agg (.cons (.imm 0) (.cons (.imm 3) .nil))) .nil)) (y : denO G []) : (F8e n).F x y = runFn prog G (ro G (tabOf (E16 n)) (frOf [F8_0z n, F8_1z n]) _) Go.Proofs.Try.f8 (.nd .no (.nd .no (.nd .no (.nd (.nd .no (.nd (.use 1) .no)) .no)))) [(0, .fz)] (ShL.enc G (.cons (.agg (.cons (.imm 0) (.cons (.imm 3) .nil))) .nil) x) (encO G [] y) (decR (.imm 2) []) := by kernel_rfl
theorem F8_ok (n : Nat) : EntOK prog G (F8e n) :=
  ent_ok (fr := frOf [F8_0z n, F8_1z n]) (ann := (.nd .no (.nd .no (.nd .no (.nd (.nd .no (.nd (.use 1) .no)) .no))))) (frm := [(0, .fz)]) laws fnok (E16_ok n).tab (e := F8e n) (fn := Go.Proofs.Try.f8) (by kernel_rfl) (AllF.ofB (cd := F8c) (l := [(1, codeAt F8c [1, 1, 1, 0, 1, 0])]) (by kernel_rfl) (by kernel_rfl) (AllF.cons (F8_1_ok n) AllF.nil)) (F8_eq n)
noncomputable def E17 (n : Nat) : List (Ent G) := F8e n :: E16 n
theorem E17_ok (n : Nat) : AllE prog G (E17 n) := AllE.cons (F8_ok n) (E16_ok n)
-- 28 loop.example/slowworm/impl.DictOk
noncomputable def F28c : Code := bodyOf Go.Proofs.Try.f28
-- 55 slices.Contains[[]int,int]
noncomputable def F55c : Code := bodyOf Go.Proofs.Try.f55
-- 63 slices.Index[[]int,int]
noncomputable def F63c : Code := bodyOf Go.Proofs.Try.f63
noncomputable def F63_0x0 : SSh := ⟨19, [(4, (.int .i64))], []⟩
noncomputable def F63_0x1 : SSh := ⟨19, [], []⟩
noncomputable def F63_0s : SSh := ⟨19, [(0, (.imm 0)), (1, (.int .i64)), (7, (.int .i64)), (8, (.int .i64))], []⟩
noncomputable def F63_0_step {R : Type} (n : Nat) (k0 : Int → Option R) (k1 : Option R) (rec : List Int → Int → Int → Int → Option R) (x431 : List Int) (x432 : Int) (x433 : Int) (x434 : Int) : Option R :=
  (bif (decide (x434 < x433)) then
  (bif (decide ((0 : Int) ≤ x434)) then
  (bif (decide (x434 < ((x431.length) : Int))) then
  (bif (x432 == (x431.getD (x434.toNat) (0 : Int))) then
  (k0 x434)
  else (rec x431 x432 x433 (IntKind.wrap .i64 (x434 + (1 : Int)))))
  else none)
  else none)
  else k1)
noncomputable def F63_0_it {R : Type} (n : Nat) (k0 : Int → Option R) (k1 : Option R) : Nat → List Int → Int → Int → Int → Option R
  | 0, _, _, _, _ => none
  | k + 1, x431, x432, x433, x434 => F63_0_step n k0 k1 (F63_0_it n k0 k1 k) x431 x432 x433 x434
noncomputable def F63_0 {R : Type} (n : Nat) (x431 : List Int) (x432 : Int) (x433 : Int) (x434 : Int) (k0 : Int → Option R) (k1 : Option R) : Option R := F63_0_it n k0 k1 n x431 x432 x433 x434
noncomputable def F63_0z (n : Nat) : Sm G := inZ G 0 ⟨[0, 1, 7, 8], []⟩ F63_0s fun R x K => F63_0_it n (fun u0 => K .ret (SSh.enc G F63_0x0 ((u0, ()), ()))) (K (.exit 0) (SSh.enc G F63_0x1 ((), ()))) n x.1.1 x.1.2.1 x.1.2.2.1 x.1.2.2.2.1
theorem F63_0_eq (n : Nat) (R : Type) (rec : SSh.den G F63_0s → Option R) (x : SSh.den G F63_0s) (K : AE → St G → Option R) :
  F63_0_step n (fun u0 => K .ret (SSh.enc G F63_0x0 ((u0, ()), ()))) (K (.exit 0) (SSh.enc G F63_0x1 ((), ()))) (fun x431 x432 x433 x434 => rec ((x431, (x432, (x433, (x434, ())))), ())) x.1.1 x.1.2.1 x.1.2.2.1 x.1.2.2.2.1 = exec prog G (ro G (tabOf (E17 n)) (frOf []) R) 0 (codeAt F63c [1, 0, 1, 0, 0]) .no (SSh.enc G F63_0s x) (kLoop G (ro G (tabOf (E17 n)) (frOf []) R) 0 ⟨[0, 1, 7, 8], []⟩ F63_0s ⟨⟨[], []⟩, ⟨[4], []⟩, [(0, ⟨[], []⟩)]⟩ rec K) := by kernel_rfl
theorem F63_0_ok (n : Nat) : FragOK prog G 0 (codeAt F63c [1, 0, 1, 0]) (F63_0z n) :=
  frag_loop (Z := fun R k (x : SSh.den G F63_0s) K => F63_0_it n (fun u0 => K .ret (SSh.enc G F63_0x0 ((u0, ()), ()))) (K (.exit 0) (SSh.enc G F63_0x1 ((), ()))) k x.1.1 x.1.2.1 x.1.2.2.1 x.1.2.2.2.1) laws fnok (E17_ok n).tab (AllF.of (l := []) (by kernel_rfl) AllF.nil) (fun _ _ _ => rfl) (fun R k y K => F63_0_eq n R (fun (x : SSh.den G F63_0s) => F63_0_it n (fun u0 => K .ret (SSh.enc G F63_0x0 ((u0, ()), ()))) (K (.exit 0) (SSh.enc G F63_0x1 ((), ()))) k x.1.1 x.1.2.1 x.1.2.2.1 x.1.2.2.2.1) y K) n
noncomputable def F63 (n : Nat) (a428 : List Int) (a429 : Int) : Option (Int × Unit) :=
  (F63_0 n a428 a429 ((a428.length) : Int) (0 : Int) (fun z440 =>
  some (z440, ())) (
  some ((-1 : Int), ())))
noncomputable def F63e (n : Nat) : Ent G := ⟨63, (.cons (.imm 0) (.cons (.int .i64) .nil)), [], (.int .i64), [], fun x y => F63 n x.1 x.2.1⟩
theorem F63_eq (n : Nat) (x : ShL.den G (.cons (.imm 0) (.cons (.int .i64) .nil))) (y : denO G []) : (F63e n).F x y = runFn prog G (ro G (tabOf (E17 n)) (frOf [F63_0z n]) _) Go.Proofs.Try.f63 (.nd .no (.nd (.nd .no (.nd (.use 0) .no)) .no)) [(0, .fz)] (ShL.enc G (.cons (.imm 0) (.cons (.int .i64) .nil)) x) (encO G [] y) (decR (.int .i64) []) := by kernel_rfl
theorem F63_ok (n : Nat) : EntOK prog G (F63e n) :=
  ent_ok (fr := frOf [F63_0z n]) (ann := (.nd .no (.nd (.nd .no (.nd (.use 0) .no)) .no))) (frm := [(0, .fz)]) laws fnok (E17_ok n).tab (e := F63e n) (fn := Go.Proofs.Try.f63) (by kernel_rfl) (AllF.ofB (cd := F63c) (l := [(0, codeAt F63c [1, 0, 1, 0])]) (by kernel_rfl) (by kernel_rfl) (AllF.cons (F63_0_ok n) AllF.nil)) (F63_eq n)
noncomputable def E18 (n : Nat) : List (Ent G) := F63e n :: E17 n
theorem E18_ok (n : Nat) : AllE prog G (E18 n) := AllE.cons (F63_ok n) (E17_ok n)
noncomputable def F55 (n : Nat) (a426 : List Int) (a427 : Int) : Option (Bool × Unit) :=
  (andThen (F63 n a426 a427) fun r441 =>
  some ((decide (r441.1 ≥ (0 : Int))), ()))
noncomputable def F55e (n : Nat) : Ent G := ⟨55, (.cons (.imm 0) (.cons (.int .i64) .nil)), [], .bool, [], fun x y => F55 n x.1 x.2.1⟩
theorem F55_eq (n : Nat) (x : ShL.den G (.cons (.imm 0) (.cons (.int .i64) .nil))) (y : denO G []) : (F55e n).F x y = runFn prog G (ro G (tabOf (E18 n)) (frOf []) _) Go.Proofs.Try.f55 .no [(0, .fz)] (ShL.enc G (.cons (.imm 0) (.cons (.int .i64) .nil)) x) (encO G [] y) (decR .bool []) := by kernel_rfl
theorem F55_ok (n : Nat) : EntOK prog G (F55e n) :=
  ent_ok (fr := frOf []) (ann := .no) (frm := [(0, .fz)]) laws fnok (E18_ok n).tab (e := F55e n) (fn := Go.Proofs.Try.f55) (by kernel_rfl) (AllF.ofB (cd := F55c) (l := []) (by kernel_rfl) (by kernel_rfl) AllF.nil) (F55_eq n)
noncomputable def E19 (n : Nat) : List (Ent G) := F55e n :: E18 n
theorem E19_ok (n : Nat) : AllE prog G (E19 n) := AllE.cons (F55_ok n) (E18_ok n)
-- 45 (loop.example/slowworm/impl.Dict).live
noncomputable def F45c : Code := bodyOf Go.Proofs.Try.f45
noncomputable def F45_0x0 : SSh := ⟨19, [(3, (.int .i64)), (7, (.imm 3)), (8, (.int .i64)), (9, (.int .i64))], []⟩
noncomputable def F45_0s : SSh := ⟨19, [(3, (.int .i64)), (7, (.imm 3)), (8, (.int .i64)), (9, (.int .i64))], []⟩
noncomputable def F45_0 {R : Type} (n : Nat) (x458 : Int) (x459 : List Ety) (x460 : Int) (x461 : Int) (k0 : Int → List Ety → Int → Int → Option R) : Option R :=
  (bif (decide ((0 : Int) ≤ x461)) then
  (bif (decide (x461 < ((x459.length) : Int))) then
  (bif (x459.getD (x461.toNat) (Ety.mk ({ data := #[] } : ByteArray) (0 : Int) (0 : Int) false)).live then
  (k0 (IntKind.wrap .i64 (x458 + (1 : Int))) x459 x460 x461)
  else (k0 x458 x459 x460 x461))
  else none)
  else none)
noncomputable def F45_0z (n : Nat) : Sm G := inZ G 0 ⟨[3, 7, 8, 9], []⟩ F45_0s fun R x K => F45_0 n x.1.1 x.1.2.1 x.1.2.2.1 x.1.2.2.2.1 (fun u0 u1 u2 u3 => K .normal (SSh.enc G F45_0x0 ((u0, (u1, (u2, (u3, ())))), ())))
theorem F45_0_eq (n : Nat) (R : Type) (x : SSh.den G F45_0s) (K : AE → St G → Option R) :
  F45_0 n x.1.1 x.1.2.1 x.1.2.2.1 x.1.2.2.2.1 (fun u0 u1 u2 u3 => K .normal (SSh.enc G F45_0x0 ((u0, (u1, (u2, (u3, ())))), ()))) = exec prog G (ro G (tabOf (E19 n)) (frOf []) R) 0 (codeAt F45c [1, 1, 0, 1, 0, 0, 1, 1, 0]) .no (SSh.enc G F45_0s x) (kNrm G (ro G (tabOf (E19 n)) (frOf []) R) 0 ⟨⟨[3, 7, 8, 9], []⟩, ⟨[2], []⟩, [(0, ⟨[3], []⟩)]⟩ K) := by kernel_rfl
theorem F45_0_ok (n : Nat) : FragOK prog G 0 (codeAt F45c [1, 1, 0, 1, 0, 0, 1, 1, 0]) (F45_0z n) :=
  frag_plain laws fnok (E19_ok n).tab (AllF.of (l := []) (by kernel_rfl) AllF.nil) (F45_0_eq n)
noncomputable def F45_1x0 : SSh := ⟨19, [(3, (.int .i64))], []⟩
noncomputable def F45_1s : SSh := ⟨19, [(3, (.int .i64)), (7, (.imm 3)), (8, (.int .i64)), (9, (.int .i64))], []⟩
noncomputable def F45_1_step {R : Type} (n : Nat) (k0 : Int → Option R) (rec : Int → List Ety → Int → Int → Option R) (x453 : Int) (x454 : List Ety) (x455 : Int) (x456 : Int) : Option R :=
  (bif (decide (x456 < x455)) then
  (F45_0 n x453 x454 x455 x456 (fun z468 z469 z470 z471 =>
  (rec z468 z469 z470 (IntKind.wrap .i64 (z471 + (1 : Int))))))
  else (k0 x453))
noncomputable def F45_1_it {R : Type} (n : Nat) (k0 : Int → Option R) : Nat → Int → List Ety → Int → Int → Option R
  | 0, _, _, _, _ => none
  | k + 1, x453, x454, x455, x456 => F45_1_step n k0 (F45_1_it n k0 k) x453 x454 x455 x456
noncomputable def F45_1 {R : Type} (n : Nat) (x453 : Int) (x454 : List Ety) (x455 : Int) (x456 : Int) (k0 : Int → Option R) : Option R := F45_1_it n k0 n x453 x454 x455 x456
noncomputable def F45_1z (n : Nat) : Sm G := inZ G 0 ⟨[3, 7, 8, 9], []⟩ F45_1s fun R x K => F45_1_it n (fun u0 => K (.exit 0) (SSh.enc G F45_1x0 ((u0, ()), ()))) n x.1.1 x.1.2.1 x.1.2.2.1 x.1.2.2.2.1
theorem F45_1_eq (n : Nat) (R : Type) (rec : SSh.den G F45_1s → Option R) (x : SSh.den G F45_1s) (K : AE → St G → Option R) :
  F45_1_step n (fun u0 => K (.exit 0) (SSh.enc G F45_1x0 ((u0, ()), ()))) (fun x453 x454 x455 x456 => rec ((x453, (x454, (x455, (x456, ())))), ())) x.1.1 x.1.2.1 x.1.2.2.1 x.1.2.2.2.1 = exec prog G (ro G (tabOf (E19 n)) (frOf [F45_0z n]) R) 0 (codeAt F45c [1, 1, 0, 1, 0, 0]) (.nd .no (.nd .no (.nd (.use 0) .no))) (SSh.enc G F45_1s x) (kLoop G (ro G (tabOf (E19 n)) (frOf [F45_0z n]) R) 0 ⟨[3, 7, 8, 9], []⟩ F45_1s ⟨⟨[3], []⟩, ⟨[2], []⟩, [(0, ⟨[3], []⟩)]⟩ rec K) := by kernel_rfl
theorem F45_1_ok (n : Nat) : FragOK prog G 0 (codeAt F45c [1, 1, 0, 1, 0]) (F45_1z n) :=
  frag_loop (Z := fun R k (x : SSh.den G F45_1s) K => F45_1_it n (fun u0 => K (.exit 0) (SSh.enc G F45_1x0 ((u0, ()), ()))) k x.1.1 x.1.2.1 x.1.2.2.1 x.1.2.2.2.1) laws fnok (E19_ok n).tab (AllF.of (l := [(0, codeAt F45c [1, 1, 0, 1, 0, 0, 1, 1, 0])]) (by kernel_rfl) (AllF.cons (F45_0_ok n) AllF.nil)) (fun _ _ _ => rfl) (fun R k y K => F45_1_eq n R (fun (x : SSh.den G F45_1s) => F45_1_it n (fun u0 => K (.exit 0) (SSh.enc G F45_1x0 ((u0, ()), ()))) k x.1.1 x.1.2.1 x.1.2.2.1 x.1.2.2.2.1) y K) n
noncomputable def F45 (n : Nat) (a450 : List Int) (a451 : List Ety) : Option (Int × Unit) :=
  (F45_1 n (0 : Int) a451 ((a451.length) : Int) (0 : Int) (fun z473 =>
  some (z473, ())))
noncomputable def F45e (n : Nat) : Ent G := ⟨45, (.cons (.agg (.cons (.imm 0) (.cons (.imm 3) .nil))) .nil), [], (.int .i64), [], fun x y => F45 n x.1.1 x.1.2.1⟩
theorem F45_eq (n : Nat) (x : ShL.den G (.cons (.agg (.cons (.imm 0) (.cons (.imm 3) .nil))) .nil)) (y : denO G []) : (F45e n).F x y = runFn prog G (ro G (tabOf (E19 n)) (frOf [F45_0z n, F45_1z n]) _) Go.Proofs.Try.f45 (.nd .no (.nd .no (.nd (.nd .no (.nd (.use 1) .no)) .no))) [(0, .fz)] (ShL.enc G (.cons (.agg (.cons (.imm 0) (.cons (.imm 3) .nil))) .nil) x) (encO G [] y) (decR (.int .i64) []) := by kernel_rfl
theorem F45_ok (n : Nat) : EntOK prog G (F45e n) :=
  ent_ok (fr := frOf [F45_0z n, F45_1z n]) (ann := (.nd .no (.nd .no (.nd (.nd .no (.nd (.use 1) .no)) .no)))) (frm := [(0, .fz)]) laws fnok (E19_ok n).tab (e := F45e n) (fn := Go.Proofs.Try.f45) (by kernel_rfl) (AllF.ofB (cd := F45c) (l := [(1, codeAt F45c [1, 1, 0, 1, 0])]) (by kernel_rfl) (by kernel_rfl) (AllF.cons (F45_1_ok n) AllF.nil)) (F45_eq n)
noncomputable def E20 (n : Nat) : List (Ent G) := F45e n :: E19 n
theorem E20_ok (n : Nat) : AllE prog G (E20 n) := AllE.cons (F45_ok n) (E19_ok n)
noncomputable def F28_0x0 : SSh := ⟨154, [(1, (.ptr 0 0)), (3, (.own 1)), (4, (.int .i64)), (39, (.imm 0)), (40, (.int .i64)), (41, (.int .i64))], [(.box 31 (.cons (.imm 0) (.cons (.imm 3) .nil))), (.arr 0 true)]⟩
noncomputable def F28_0x1 : SSh := ⟨154, [(2, .bool)], []⟩
noncomputable def F28_0s : SSh := ⟨154, [(1, (.ptr 0 0)), (3, (.own 1)), (4, (.int .i64)), (39, (.imm 0)), (40, (.int .i64)), (41, (.int .i64))], [(.box 31 (.cons (.imm 0) (.cons (.imm 3) .nil))), (.arr 0 true)]⟩
noncomputable def F28_0 {R : Type} (n : Nat) (x487 : Int) (x488 : List Int) (x489 : Int) (x490 : Int) (x491 : List Int) (x492 : List Ety) (x493 : List Int) (k0 : Int → List Int → Int → Int → List Int → List Ety → List Int → Option R) (k1 : Bool → Option R) : Option R :=
  (bif (decide ((0 : Int) ≤ x490)) then
  (bif (decide (x490 < ((x488.length) : Int))) then
  let v495 := (x488.getD (x490.toNat) (0 : Int))
  (bif (v495 == (-2 : Int)) then
  (k0 (IntKind.wrap .i64 (x487 + (1 : Int))) x488 x489 x490 x491 x492 x493)
  else (bif (v495 == (-1 : Int)) then
  (k0 x487 x488 x489 x490 x491 x492 x493)
  else (bif (decide (v495 < (0 : Int))) then
  (k1 false)
  else (bif (decide (v495 ≥ ((x492.length) : Int))) then
  (k1 false)
  else (bif (decide ((0 : Int) ≤ v495)) then
  (bif (decide (v495 < ((x492.length) : Int))) then
  (bif (!(x492.getD (v495.toNat) (Ety.mk ({ data := #[] } : ByteArray) (0 : Int) (0 : Int) false)).live) then
  (k1 false)
  else (bif (decide ((0 : Int) ≤ v495)) then
  (bif (decide (v495 < ((x493.length) : Int))) then
  (bif (decide ((0 : Int) ≤ v495)) then
  (bif (decide (v495 < ((x493.length) : Int))) then
  (k0 x487 x488 x489 x490 x491 x492 (x493.set (v495.toNat) (IntKind.wrap .i64 ((x493.getD (v495.toNat) (0 : Int)) + (1 : Int)))))
  else none)
  else none)
  else none)
  else none))
  else none)
  else none)))))
  else none)
  else none)
noncomputable def F28_0z (n : Nat) : Sm G := inZ G 0 ⟨[1, 3, 4, 39, 40, 41], []⟩ F28_0s fun R x K => F28_0 n x.1.2.2.1 x.1.2.2.2.1 x.1.2.2.2.2.1 x.1.2.2.2.2.2.1 x.2.1.1 x.2.1.2.1 x.2.2.1 (fun u0 u1 u2 u3 u4 u5 u6 => K .normal (SSh.enc G F28_0x0 (((), ((), (u0, (u1, (u2, (u3, ())))))), ((u4, (u5, ())), (u6, ()))))) (fun u0 => K .ret (SSh.enc G F28_0x1 ((u0, ()), ())))
theorem F28_0_eq (n : Nat) (R : Type) (x : SSh.den G F28_0s) (K : AE → St G → Option R) :
  F28_0 n x.1.2.2.1 x.1.2.2.2.1 x.1.2.2.2.2.1 x.1.2.2.2.2.2.1 x.2.1.1 x.2.1.2.1 x.2.2.1 (fun u0 u1 u2 u3 u4 u5 u6 => K .normal (SSh.enc G F28_0x0 (((), ((), (u0, (u1, (u2, (u3, ())))))), ((u4, (u5, ())), (u6, ()))))) (fun u0 => K .ret (SSh.enc G F28_0x1 ((u0, ()), ()))) = exec prog G (ro G (tabOf (E20 n)) (frOf []) R) 0 (codeAt F28c [1, 1, 1, 1, 0, 1, 0, 0, 1, 1, 0]) .no (SSh.enc G F28_0s x) (kNrm G (ro G (tabOf (E20 n)) (frOf []) R) 0 ⟨⟨[1, 3, 4, 39, 40, 41], []⟩, ⟨[2], []⟩, [(0, ⟨[1, 3, 4], []⟩)]⟩ K) := by kernel_rfl
theorem F28_0_ok (n : Nat) : FragOK prog G 0 (codeAt F28c [1, 1, 1, 1, 0, 1, 0, 0, 1, 1, 0]) (F28_0z n) :=
  frag_plain laws fnok (E20_ok n).tab (AllF.of (l := []) (by kernel_rfl) AllF.nil) (F28_0_eq n)
noncomputable def F28_1x0 : SSh := ⟨154, [(2, .bool)], []⟩
noncomputable def F28_1x1 : SSh := ⟨154, [(1, (.ptr 0 0)), (3, (.own 1)), (4, (.int .i64))], [(.box 31 (.cons (.imm 0) (.cons (.imm 3) .nil))), (.arr 0 true)]⟩
noncomputable def F28_1s : SSh := ⟨154, [(1, (.ptr 0 0)), (3, (.own 1)), (4, (.int .i64)), (39, (.imm 0)), (40, (.int .i64)), (41, (.int .i64))], [(.box 31 (.cons (.imm 0) (.cons (.imm 3) .nil))), (.arr 0 true)]⟩
noncomputable def F28_1_step {R : Type} (n : Nat) (k0 : Bool → Option R) (k1 : Int → List Int → List Ety → List Int → Option R) (rec : Int → List Int → Int → Int → List Int → List Ety → List Int → Option R) (x479 : Int) (x480 : List Int) (x481 : Int) (x482 : Int) (x483 : List Int) (x484 : List Ety) (x485 : List Int) : Option R :=
  (bif (decide (x482 < x481)) then
  (F28_0 n x479 x480 x481 x482 x483 x484 x485 (fun z510 z511 z512 z513 z514 z515 z516 =>
  (rec z510 z511 z512 (IntKind.wrap .i64 (z513 + (1 : Int))) z514 z515 z516)) (fun z518 =>
  (k0 z518)))
  else (k1 x479 x483 x484 x485))
noncomputable def F28_1_it {R : Type} (n : Nat) (k0 : Bool → Option R) (k1 : Int → List Int → List Ety → List Int → Option R) : Nat → Int → List Int → Int → Int → List Int → List Ety → List Int → Option R
  | 0, _, _, _, _, _, _, _ => none
  | k + 1, x479, x480, x481, x482, x483, x484, x485 => F28_1_step n k0 k1 (F28_1_it n k0 k1 k) x479 x480 x481 x482 x483 x484 x485
noncomputable def F28_1 {R : Type} (n : Nat) (x479 : Int) (x480 : List Int) (x481 : Int) (x482 : Int) (x483 : List Int) (x484 : List Ety) (x485 : List Int) (k0 : Bool → Option R) (k1 : Int → List Int → List Ety → List Int → Option R) : Option R := F28_1_it n k0 k1 n x479 x480 x481 x482 x483 x484 x485
noncomputable def F28_1z (n : Nat) : Sm G := inZ G 0 ⟨[1, 3, 4, 39, 40, 41], []⟩ F28_1s fun R x K => F28_1_it n (fun u0 => K .ret (SSh.enc G F28_1x0 ((u0, ()), ()))) (fun u0 u1 u2 u3 => K (.exit 0) (SSh.enc G F28_1x1 (((), ((), (u0, ()))), ((u1, (u2, ())), (u3, ()))))) n x.1.2.2.1 x.1.2.2.2.1 x.1.2.2.2.2.1 x.1.2.2.2.2.2.1 x.2.1.1 x.2.1.2.1 x.2.2.1
theorem F28_1_eq (n : Nat) (R : Type) (rec : SSh.den G F28_1s → Option R) (x : SSh.den G F28_1s) (K : AE → St G → Option R) :
  F28_1_step n (fun u0 => K .ret (SSh.enc G F28_1x0 ((u0, ()), ()))) (fun u0 u1 u2 u3 => K (.exit 0) (SSh.enc G F28_1x1 (((), ((), (u0, ()))), ((u1, (u2, ())), (u3, ()))))) (fun x479 x480 x481 x482 x483 x484 x485 => rec (((), ((), (x479, (x480, (x481, (x482, ())))))), ((x483, (x484, ())), (x485, ())))) x.1.2.2.1 x.1.2.2.2.1 x.1.2.2.2.2.1 x.1.2.2.2.2.2.1 x.2.1.1 x.2.1.2.1 x.2.2.1 = exec prog G (ro G (tabOf (E20 n)) (frOf [F28_0z n]) R) 0 (codeAt F28c [1, 1, 1, 1, 0, 1, 0, 0]) (.nd .no (.nd .no (.nd (.use 0) .no))) (SSh.enc G F28_1s x) (kLoop G (ro G (tabOf (E20 n)) (frOf [F28_0z n]) R) 0 ⟨[1, 3, 4, 39, 40, 41], []⟩ F28_1s ⟨⟨[1, 3, 4], []⟩, ⟨[2], []⟩, [(0, ⟨[1, 3, 4], []⟩)]⟩ rec K) := by kernel_rfl
theorem F28_1_ok (n : Nat) : FragOK prog G 0 (codeAt F28c [1, 1, 1, 1, 0, 1, 0]) (F28_1z n) :=
  frag_loop (Z := fun R k (x : SSh.den G F28_1s) K => F28_1_it n (fun u0 => K .ret (SSh.enc G F28_1x0 ((u0, ()), ()))) (fun u0 u1 u2 u3 => K (.exit 0) (SSh.enc G F28_1x1 (((), ((), (u0, ()))), ((u1, (u2, ())), (u3, ()))))) k x.1.2.2.1 x.1.2.2.2.1 x.1.2.2.2.2.1 x.1.2.2.2.2.2.1 x.2.1.1 x.2.1.2.1 x.2.2.1) laws fnok (E20_ok n).tab (AllF.of (l := [(0, codeAt F28c [1, 1, 1, 1, 0, 1, 0, 0, 1, 1, 0])]) (by kernel_rfl) (AllF.cons (F28_0_ok n) AllF.nil)) (fun _ _ _ => rfl) (fun R k y K => F28_1_eq n R (fun (x : SSh.den G F28_1s) => F28_1_it n (fun u0 => K .ret (SSh.enc G F28_1x0 ((u0, ()), ()))) (fun u0 u1 u2 u3 => K (.exit 0) (SSh.enc G F28_1x1 (((), ((), (u0, ()))), ((u1, (u2, ())), (u3, ()))))) k x.1.2.2.1 x.1.2.2.2.1 x.1.2.2.2.2.1 x.1.2.2.2.2.2.1 x.2.1.1 x.2.1.2.1 x.2.2.1) y K) n
-- 56 loop.example/slowworm/impl.DictHash
noncomputable def F56c : Code := bodyOf Go.Proofs.Try.f56
noncomputable def F56_0x0 : SSh := ⟨23, [(3, (.int .i64))], []⟩
noncomputable def F56_0s : SSh := ⟨23, [(0, .str), (3, (.int .i64)), (9, (.int .i64)), (10, (.int .i64))], []⟩
noncomputable def F56_0_step {R : Type} (n : Nat) (k0 : Int → Option R) (rec : ByteArray → Int → Int → Int → Option R) (x558 : ByteArray) (x559 : Int) (x560 : Int) (x561 : Int) : Option R :=
  (bif (decide (x561 < x560)) then
  (bif (decide ((0 : Int) ≤ x561)) then
  (bif (decide (x561 < ((x558.size) : Int))) then
  (rec x558 ((IntKind.wrap .i64 ((IntKind.wrap .i64 (x559 * (31 : Int))) + (IntKind.wrap .i64 (strOf x558 (x561.toNat))))).tmod (65536 : Int)) x560 (IntKind.wrap .i64 (x561 + (1 : Int))))
  else none)
  else none)
  else (k0 x559))
noncomputable def F56_0_it {R : Type} (n : Nat) (k0 : Int → Option R) : Nat → ByteArray → Int → Int → Int → Option R
  | 0, _, _, _, _ => none
  | k + 1, x558, x559, x560, x561 => F56_0_step n k0 (F56_0_it n k0 k) x558 x559 x560 x561
noncomputable def F56_0 {R : Type} (n : Nat) (x558 : ByteArray) (x559 : Int) (x560 : Int) (x561 : Int) (k0 : Int → Option R) : Option R := F56_0_it n k0 n x558 x559 x560 x561
noncomputable def F56_0z (n : Nat) : Sm G := inZ G 0 ⟨[0, 3, 9, 10], []⟩ F56_0s fun R x K => F56_0_it n (fun u0 => K (.exit 0) (SSh.enc G F56_0x0 ((u0, ()), ()))) n x.1.1 x.1.2.1 x.1.2.2.1 x.1.2.2.2.1
theorem F56_0_eq (n : Nat) (R : Type) (rec : SSh.den G F56_0s → Option R) (x : SSh.den G F56_0s) (K : AE → St G → Option R) :
  F56_0_step n (fun u0 => K (.exit 0) (SSh.enc G F56_0x0 ((u0, ()), ()))) (fun x558 x559 x560 x561 => rec ((x558, (x559, (x560, (x561, ())))), ())) x.1.1 x.1.2.1 x.1.2.2.1 x.1.2.2.2.1 = exec prog G (ro G (tabOf (E20 n)) (frOf []) R) 0 (codeAt F56c [1, 1, 1, 0, 1, 0, 0]) .no (SSh.enc G F56_0s x) (kLoop G (ro G (tabOf (E20 n)) (frOf []) R) 0 ⟨[0, 3, 9, 10], []⟩ F56_0s ⟨⟨[3], []⟩, ⟨[2], []⟩, [(0, ⟨[3], []⟩)]⟩ rec K) := by kernel_rfl
theorem F56_0_ok (n : Nat) : FragOK prog G 0 (codeAt F56c [1, 1, 1, 0, 1, 0]) (F56_0z n) :=
  frag_loop (Z := fun R k (x : SSh.den G F56_0s) K => F56_0_it n (fun u0 => K (.exit 0) (SSh.enc G F56_0x0 ((u0, ()), ()))) k x.1.1 x.1.2.1 x.1.2.2.1 x.1.2.2.2.1) laws fnok (E20_ok n).tab (AllF.of (l := []) (by kernel_rfl) AllF.nil) (fun _ _ _ => rfl) (fun R k y K => F56_0_eq n R (fun (x : SSh.den G F56_0s) => F56_0_it n (fun u0 => K (.exit 0) (SSh.enc G F56_0x0 ((u0, ()), ()))) k x.1.1 x.1.2.1 x.1.2.2.1 x.1.2.2.2.1) y K) n
noncomputable def F56 (n : Nat) (a554 : ByteArray) : Option (Int × Unit) :=
  (bif (decide (((a554.size) : Int) > (20 : Int))) then
  some ((-1 : Int), ())
  else (F56_0 n a554 (7 : Int) ((a554.size) : Int) (0 : Int) (fun z569 =>
  some (z569, ()))))
noncomputable def F56e (n : Nat) : Ent G := ⟨56, (.cons .str .nil), [], (.int .i64), [], fun x y => F56 n x.1⟩
theorem F56_eq (n : Nat) (x : ShL.den G (.cons .str .nil)) (y : denO G []) : (F56e n).F x y = runFn prog G (ro G (tabOf (E20 n)) (frOf [F56_0z n]) _) Go.Proofs.Try.f56 (.nd .no (.nd .no (.nd .no (.nd (.nd .no (.nd (.use 0) .no)) .no)))) [(0, .fz)] (ShL.enc G (.cons .str .nil) x) (encO G [] y) (decR (.int .i64) []) := by kernel_rfl
theorem F56_ok (n : Nat) : EntOK prog G (F56e n) :=
  ent_ok (fr := frOf [F56_0z n]) (ann := (.nd .no (.nd .no (.nd .no (.nd (.nd .no (.nd (.use 0) .no)) .no))))) (frm := [(0, .fz)]) laws fnok (E20_ok n).tab (e := F56e n) (fn := Go.Proofs.Try.f56) (by kernel_rfl) (AllF.ofB (cd := F56c) (l := [(0, codeAt F56c [1, 1, 1, 0, 1, 0])]) (by kernel_rfl) (by kernel_rfl) (AllF.cons (F56_0_ok n) AllF.nil)) (F56_eq n)
noncomputable def E21 (n : Nat) : List (Ent G) := F56e n :: E20 n
theorem E21_ok (n : Nat) : AllE prog G (E21 n) := AllE.cons (F56_ok n) (E20_ok n)
-- 48 loop.example/slowworm/impl.within
noncomputable def F48c : Code := bodyOf Go.Proofs.Try.f48
noncomputable def F48 (n : Nat) (a572 : Int) (a573 : Int) (a574 : Int) : Option (Bool × Unit) :=
  (bif (decide (a572 ≥ a573)) then
  some ((decide (a572 ≤ a574)), ())
  else some (false, ()))
noncomputable def F48e (n : Nat) : Ent G := ⟨48, (.cons (.int .i64) (.cons (.int .i64) (.cons (.int .i64) .nil))), [], .bool, [], fun x y => F48 n x.1 x.2.1 x.2.2.1⟩
theorem F48_eq (n : Nat) (x : ShL.den G (.cons (.int .i64) (.cons (.int .i64) (.cons (.int .i64) .nil)))) (y : denO G []) : (F48e n).F x y = runFn prog G (ro G (tabOf (E21 n)) (frOf []) _) Go.Proofs.Try.f48 .no [(0, .fz)] (ShL.enc G (.cons (.int .i64) (.cons (.int .i64) (.cons (.int .i64) .nil))) x) (encO G [] y) (decR .bool []) := by kernel_rfl
theorem F48_ok (n : Nat) : EntOK prog G (F48e n) :=
  ent_ok (fr := frOf []) (ann := .no) (frm := [(0, .fz)]) laws fnok (E21_ok n).tab (e := F48e n) (fn := Go.Proofs.Try.f48) (by kernel_rfl) (AllF.ofB (cd := F48c) (l := []) (by kernel_rfl) (by kernel_rfl) AllF.nil) (F48_eq n)
noncomputable def E22 (n : Nat) : List (Ent G) := F48e n :: E21 n
theorem E22_ok (n : Nat) : AllE prog G (E22 n) := AllE.cons (F48_ok n) (E21_ok n)
noncomputable def F28_2x0 : SSh := ⟨154, [(2, .bool)], []⟩
noncomputable def F28_2x1 : SSh := ⟨154, [(1, (.ptr 0 0)), (3, (.own 1)), (88, (.imm 3)), (89, (.int .i64)), (90, (.int .i64))], [(.box 31 (.cons (.imm 0) (.cons (.imm 3) .nil))), (.arr 0 true)]⟩
noncomputable def F28_2s : SSh := ⟨154, [(1, (.ptr 0 0)), (3, (.own 1)), (88, (.imm 3)), (89, (.int .i64)), (90, (.int .i64))], [(.box 31 (.cons (.imm 0) (.cons (.imm 3) .nil))), (.arr 0 true)]⟩
noncomputable def F28_2 {R : Type} (n : Nat) (x536 : List Ety) (x537 : Int) (x538 : Int) (x539 : List Int) (x540 : List Ety) (x541 : List Int) (k0 : Bool → Option R) (k1 : List Ety → Int → Int → List Int → List Ety → List Int → Option R) : Option R :=
  (bif (decide ((0 : Int) ≤ x538)) then
  (bif (decide (x538 < ((x536.length) : Int))) then
  let v542 := (x536.getD (x538.toNat) (Ety.mk ({ data := #[] } : ByteArray) (0 : Int) (0 : Int) false))
  let v543 := v542.key
  let v544 := v542.hash
  let v545 := v542.val
  let v546 := v542.live
  (bif (!v546) then
  (bif (!((v543 == ({ data := #[] } : ByteArray)) && ((v544 == (0 : Int)) && ((v545 == (0 : Int)) && (v546 == false))))) then
  (k0 false)
  else (k1 x536 x537 x538 x539 x540 x541))
  else (bif (decide ((0 : Int) ≤ x538)) then
  (bif (decide (x538 < ((x541.length) : Int))) then
  (bif ((x541.getD (x538.toNat) (0 : Int)) != (1 : Int)) then
  (k0 false)
  else (bif (decide (((v543.size) : Int) > (20 : Int))) then
  (k0 false)
  else (andThen (F56 n v543) fun r570 =>
  (bif (v544 != r570.1) then
  (k0 false)
  else (andThen (F48 n v545 (-1000000 : Int) (1000000 : Int)) fun r577 =>
  (bif (!r577.1) then
  (k0 false)
  else (k1 x536 x537 x538 x539 x540 x541)))))))
  else none)
  else none))
  else none)
  else none)
noncomputable def F28_2z (n : Nat) : Sm G := inZ G 0 ⟨[1, 3, 88, 89, 90], []⟩ F28_2s fun R x K => F28_2 n x.1.2.2.1 x.1.2.2.2.1 x.1.2.2.2.2.1 x.2.1.1 x.2.1.2.1 x.2.2.1 (fun u0 => K .ret (SSh.enc G F28_2x0 ((u0, ()), ()))) (fun u0 u1 u2 u3 u4 u5 => K .normal (SSh.enc G F28_2x1 (((), ((), (u0, (u1, (u2, ()))))), ((u3, (u4, ())), (u5, ())))))
theorem F28_2_eq (n : Nat) (R : Type) (x : SSh.den G F28_2s) (K : AE → St G → Option R) :
  F28_2 n x.1.2.2.1 x.1.2.2.2.1 x.1.2.2.2.2.1 x.2.1.1 x.2.1.2.1 x.2.2.1 (fun u0 => K .ret (SSh.enc G F28_2x0 ((u0, ()), ()))) (fun u0 u1 u2 u3 u4 u5 => K .normal (SSh.enc G F28_2x1 (((), ((), (u0, (u1, (u2, ()))))), ((u3, (u4, ())), (u5, ()))))) = exec prog G (ro G (tabOf (E22 n)) (frOf [F28_0z n, F28_1z n]) R) 0 (codeAt F28c [1, 1, 1, 1, 1, 1, 0, 1, 0, 0, 1, 1, 0]) .no (SSh.enc G F28_2s x) (kNrm G (ro G (tabOf (E22 n)) (frOf [F28_0z n, F28_1z n]) R) 0 ⟨⟨[1, 3, 88, 89, 90], []⟩, ⟨[2], []⟩, [(3, ⟨[1], []⟩)]⟩ K) := by kernel_rfl
theorem F28_2_ok (n : Nat) : FragOK prog G 0 (codeAt F28c [1, 1, 1, 1, 1, 1, 0, 1, 0, 0, 1, 1, 0]) (F28_2z n) :=
  frag_plain laws fnok (E22_ok n).tab (AllF.of (l := []) (by kernel_rfl) AllF.nil) (F28_2_eq n)
noncomputable def F28_3x0 : SSh := ⟨154, [(2, .bool)], []⟩
noncomputable def F28_3x1 : SSh := ⟨154, [(1, (.ptr 0 0))], [(.box 31 (.cons (.imm 0) (.cons (.imm 3) .nil)))]⟩
noncomputable def F28_3s : SSh := ⟨154, [(1, (.ptr 0 0)), (3, (.own 1)), (88, (.imm 3)), (89, (.int .i64)), (90, (.int .i64))], [(.box 31 (.cons (.imm 0) (.cons (.imm 3) .nil))), (.arr 0 true)]⟩
noncomputable def F28_3_step {R : Type} (n : Nat) (k0 : Bool → Option R) (k1 : List Int → List Ety → Option R) (rec : List Ety → Int → Int → List Int → List Ety → List Int → Option R) (x529 : List Ety) (x530 : Int) (x531 : Int) (x532 : List Int) (x533 : List Ety) (x534 : List Int) : Option R :=
  (bif (decide (x531 < x530)) then
  (F28_2 n x529 x530 x531 x532 x533 x534 (fun z579 =>
  (k0 z579)) (fun z580 z581 z582 z583 z584 z585 =>
  (rec z580 z581 (IntKind.wrap .i64 (z582 + (1 : Int))) z583 z584 z585)))
  else (k1 x532 x533))
noncomputable def F28_3_it {R : Type} (n : Nat) (k0 : Bool → Option R) (k1 : List Int → List Ety → Option R) : Nat → List Ety → Int → Int → List Int → List Ety → List Int → Option R
  | 0, _, _, _, _, _, _ => none
  | k + 1, x529, x530, x531, x532, x533, x534 => F28_3_step n k0 k1 (F28_3_it n k0 k1 k) x529 x530 x531 x532 x533 x534
noncomputable def F28_3 {R : Type} (n : Nat) (x529 : List Ety) (x530 : Int) (x531 : Int) (x532 : List Int) (x533 : List Ety) (x534 : List Int) (k0 : Bool → Option R) (k1 : List Int → List Ety → Option R) : Option R := F28_3_it n k0 k1 n x529 x530 x531 x532 x533 x534
noncomputable def F28_3z (n : Nat) : Sm G := inZ G 0 ⟨[1, 3, 88, 89, 90], []⟩ F28_3s fun R x K => F28_3_it n (fun u0 => K .ret (SSh.enc G F28_3x0 ((u0, ()), ()))) (fun u0 u1 => K (.exit 3) (SSh.enc G F28_3x1 (((), ()), ((u0, (u1, ())), ())))) n x.1.2.2.1 x.1.2.2.2.1 x.1.2.2.2.2.1 x.2.1.1 x.2.1.2.1 x.2.2.1
theorem F28_3_eq (n : Nat) (R : Type) (rec : SSh.den G F28_3s → Option R) (x : SSh.den G F28_3s) (K : AE → St G → Option R) :
  F28_3_step n (fun u0 => K .ret (SSh.enc G F28_3x0 ((u0, ()), ()))) (fun u0 u1 => K (.exit 3) (SSh.enc G F28_3x1 (((), ()), ((u0, (u1, ())), ())))) (fun x529 x530 x531 x532 x533 x534 => rec (((), ((), (x529, (x530, (x531, ()))))), ((x532, (x533, ())), (x534, ())))) x.1.2.2.1 x.1.2.2.2.1 x.1.2.2.2.2.1 x.2.1.1 x.2.1.2.1 x.2.2.1 = exec prog G (ro G (tabOf (E22 n)) (frOf [F28_0z n, F28_1z n, F28_2z n]) R) 0 (codeAt F28c [1, 1, 1, 1, 1, 1, 0, 1, 0, 0]) (.nd .no (.nd .no (.nd (.use 2) .no))) (SSh.enc G F28_3s x) (kLoop G (ro G (tabOf (E22 n)) (frOf [F28_0z n, F28_1z n, F28_2z n]) R) 0 ⟨[1, 3, 88, 89, 90], []⟩ F28_3s ⟨⟨[1], []⟩, ⟨[2], []⟩, [(3, ⟨[1], []⟩)]⟩ rec K) := by kernel_rfl
theorem F28_3_ok (n : Nat) : FragOK prog G 0 (codeAt F28c [1, 1, 1, 1, 1, 1, 0, 1, 0]) (F28_3z n) :=
  frag_loop (Z := fun R k (x : SSh.den G F28_3s) K => F28_3_it n (fun u0 => K .ret (SSh.enc G F28_3x0 ((u0, ()), ()))) (fun u0 u1 => K (.exit 3) (SSh.enc G F28_3x1 (((), ()), ((u0, (u1, ())), ())))) k x.1.2.2.1 x.1.2.2.2.1 x.1.2.2.2.2.1 x.2.1.1 x.2.1.2.1 x.2.2.1) laws fnok (E22_ok n).tab (AllF.of (l := [(2, codeAt F28c [1, 1, 1, 1, 1, 1, 0, 1, 0, 0, 1, 1, 0])]) (by kernel_rfl) (AllF.cons (F28_2_ok n) AllF.nil)) (fun _ _ _ => rfl) (fun R k y K => F28_3_eq n R (fun (x : SSh.den G F28_3s) => F28_3_it n (fun u0 => K .ret (SSh.enc G F28_3x0 ((u0, ()), ()))) (fun u0 u1 => K (.exit 3) (SSh.enc G F28_3x1 (((), ()), ((u0, (u1, ())), ())))) k x.1.2.2.1 x.1.2.2.2.1 x.1.2.2.2.2.1 x.2.1.1 x.2.1.2.1 x.2.2.1) y K) n
-- 38 (loop.example/slowworm/impl.Dict).probe
noncomputable def F38c : Code := bodyOf Go.Proofs.Try.f38
noncomputable def F38_0x0 : SSh := ⟨62, [(4, (.own 0))], [(.arr 0 true)]⟩
noncomputable def F38_0x1 : SSh := ⟨62, [(9, (.own 0))], [(.arr 0 true)]⟩
noncomputable def F38_0s : SSh := ⟨62, [(1, .str), (2, (.ptr 0 0)), (6, (.int .i64)), (7, (.int .i64)), (8, (.int .i64)), (9, (.own 1)), (22, (.int .i64)), (23, (.int .i64))], [(.box 31 (.cons (.imm 0) (.cons (.imm 3) .nil))), (.arr 0 true)]⟩
noncomputable def F38_0_step {R : Type} (n : Nat) (k0 : List Int → Option R) (k1 : List Int → Option R) (rec : ByteArray → Int → Int → Int → Int → Int → List Int → List Ety → List Int → Option R) (x647 : ByteArray) (x648 : Int) (x649 : Int) (x650 : Int) (x651 : Int) (x652 : Int) (x653 : List Int) (x654 : List Ety) (x655 : List Int) : Option R :=
  (bif (decide (x652 < x651)) then
  let v657 := (x649 :: [])
  (bif (decide (((x655.length) + (v657.length)) ≤ (68719476736 : Nat))) then
  let v658 := (x655 ++ v657)
  (bif (decide ((0 : Int) ≤ x649)) then
  (bif (decide (x649 < ((x653.length) : Int))) then
  let v660 := (x653.getD (x649.toNat) (0 : Int))
  (bif (v660 == (-1 : Int)) then
  (k0 v658)
  else (bif (decide (v660 ≥ (0 : Int))) then
  (bif (decide ((0 : Int) ≤ v660)) then
  (bif (decide (v660 < ((x654.length) : Int))) then
  (bif (((x654.getD (v660.toNat) (Ety.mk ({ data := #[] } : ByteArray) (0 : Int) (0 : Int) false)).key.toList) == (x647.toList)) then
  (k0 v658)
  else let v666 := (IntKind.wrap .i64 (x650.tdiv (8 : Int)))
  (bif (!(decide (x648 = (0 : Int)))) then
  (rec x647 x648 ((IntKind.wrap .i64 ((IntKind.wrap .i64 ((IntKind.wrap .i64 ((5 : Int) * x649)) + v666)) + (1 : Int))).tmod x648) v666 x651 (IntKind.wrap .i64 (x652 + (1 : Int))) x653 x654 v658)
  else none))
  else none)
  else none)
  else let v672 := (IntKind.wrap .i64 (x650.tdiv (8 : Int)))
  (bif (!(decide (x648 = (0 : Int)))) then
  (rec x647 x648 ((IntKind.wrap .i64 ((IntKind.wrap .i64 ((IntKind.wrap .i64 ((5 : Int) * x649)) + v672)) + (1 : Int))).tmod x648) v672 x651 (IntKind.wrap .i64 (x652 + (1 : Int))) x653 x654 v658)
  else none)))
  else none)
  else none)
  else none)
  else (k1 x655))
noncomputable def F38_0_it {R : Type} (n : Nat) (k0 : List Int → Option R) (k1 : List Int → Option R) : Nat → ByteArray → Int → Int → Int → Int → Int → List Int → List Ety → List Int → Option R
  | 0, _, _, _, _, _, _, _, _, _ => none
  | k + 1, x647, x648, x649, x650, x651, x652, x653, x654, x655 => F38_0_step n k0 k1 (F38_0_it n k0 k1 k) x647 x648 x649 x650 x651 x652 x653 x654 x655
noncomputable def F38_0 {R : Type} (n : Nat) (x647 : ByteArray) (x648 : Int) (x649 : Int) (x650 : Int) (x651 : Int) (x652 : Int) (x653 : List Int) (x654 : List Ety) (x655 : List Int) (k0 : List Int → Option R) (k1 : List Int → Option R) : Option R := F38_0_it n k0 k1 n x647 x648 x649 x650 x651 x652 x653 x654 x655
noncomputable def F38_0z (n : Nat) : Sm G := inZ G 0 ⟨[1, 2, 6, 7, 8, 9, 22, 23], [(9, (.own 0))]⟩ F38_0s fun R x K => F38_0_it n (fun u0 => K .ret (SSh.enc G F38_0x0 (((), ()), (u0, ())))) (fun u0 => K (.exit 0) (SSh.enc G F38_0x1 (((), ()), (u0, ())))) n x.1.1 x.1.2.2.1 x.1.2.2.2.1 x.1.2.2.2.2.1 x.1.2.2.2.2.2.2.1 x.1.2.2.2.2.2.2.2.1 x.2.1.1 x.2.1.2.1 x.2.2.1
theorem F38_0_eq (n : Nat) (R : Type) (rec : SSh.den G F38_0s → Option R) (x : SSh.den G F38_0s) (K : AE → St G → Option R) :
  F38_0_step n (fun u0 => K .ret (SSh.enc G F38_0x0 (((), ()), (u0, ())))) (fun u0 => K (.exit 0) (SSh.enc G F38_0x1 (((), ()), (u0, ())))) (fun x647 x648 x649 x650 x651 x652 x653 x654 x655 => rec ((x647, ((), (x648, (x649, (x650, ((), (x651, (x652, ())))))))), ((x653, (x654, ())), (x655, ())))) x.1.1 x.1.2.2.1 x.1.2.2.2.1 x.1.2.2.2.2.1 x.1.2.2.2.2.2.2.1 x.1.2.2.2.2.2.2.2.1 x.2.1.1 x.2.1.2.1 x.2.2.1 = exec prog G (ro G (tabOf (E22 n)) (frOf []) R) 0 (codeAt F38c [1, 1, 1, 1, 1, 0, 1, 0, 0]) .no (SSh.enc G F38_0s x) (kLoop G (ro G (tabOf (E22 n)) (frOf []) R) 0 ⟨[1, 2, 6, 7, 8, 9, 22, 23], [(9, (.own 0))]⟩ F38_0s ⟨⟨[9], []⟩, ⟨[4], []⟩, [(0, ⟨[9], []⟩)]⟩ rec K) := by kernel_rfl
theorem F38_0_ok (n : Nat) : FragOK prog G 0 (codeAt F38c [1, 1, 1, 1, 1, 0, 1, 0]) (F38_0z n) :=
  frag_loop (Z := fun R k (x : SSh.den G F38_0s) K => F38_0_it n (fun u0 => K .ret (SSh.enc G F38_0x0 (((), ()), (u0, ())))) (fun u0 => K (.exit 0) (SSh.enc G F38_0x1 (((), ()), (u0, ())))) k x.1.1 x.1.2.2.1 x.1.2.2.2.1 x.1.2.2.2.2.1 x.1.2.2.2.2.2.2.1 x.1.2.2.2.2.2.2.2.1 x.2.1.1 x.2.1.2.1 x.2.2.1) laws fnok (E22_ok n).tab (AllF.of (l := []) (by kernel_rfl) AllF.nil) (fun _ _ _ => rfl) (fun R k y K => F38_0_eq n R (fun (x : SSh.den G F38_0s) => F38_0_it n (fun u0 => K .ret (SSh.enc G F38_0x0 (((), ()), (u0, ())))) (fun u0 => K (.exit 0) (SSh.enc G F38_0x1 (((), ()), (u0, ())))) k x.1.1 x.1.2.2.1 x.1.2.2.2.1 x.1.2.2.2.2.1 x.1.2.2.2.2.2.2.1 x.1.2.2.2.2.2.2.2.1 x.2.1.1 x.2.1.2.1 x.2.2.1) y K) n
noncomputable def F38 (n : Nat) (a639 : List Int) (a640 : List Ety) (a641 : ByteArray) : Option (List Int × Unit) :=
  (andThen (F56 n a641) fun r642 =>
  let v643 := ((a639.length) : Int)
  (bif (!(decide (v643 = (0 : Int)))) then
  (F38_0 n a641 v643 (r642.1.tmod v643) r642.1 (IntKind.wrap .i64 ((65536 : Int) + (IntKind.wrap .i64 ((2 : Int) * v643)))) (0 : Int) a639 a640 [] (fun z678 =>
  some (z678, ())) (fun z679 =>
  some (z679, ())))
  else none))
noncomputable def F38e (n : Nat) : Ent G := ⟨38, (.cons (.agg (.cons (.imm 0) (.cons (.imm 3) .nil))) (.cons .str .nil)), [], (.imm 0), [], fun x y => F38 n x.1.1 x.1.2.1 x.2.1⟩
theorem F38_eq (n : Nat) (x : ShL.den G (.cons (.agg (.cons (.imm 0) (.cons (.imm 3) .nil))) (.cons .str .nil))) (y : denO G []) : (F38e n).F x y = runFn prog G (ro G (tabOf (E22 n)) (frOf [F38_0z n]) _) Go.Proofs.Try.f38 (.nd .no (.nd .no (.nd .no (.nd .no (.nd .no (.nd (.nd .no (.nd (.use 0) .no)) .no)))))) [(0, .fz)] (ShL.enc G (.cons (.agg (.cons (.imm 0) (.cons (.imm 3) .nil))) (.cons .str .nil)) x) (encO G [] y) (decR (.imm 0) []) := by kernel_rfl
theorem F38_ok (n : Nat) : EntOK prog G (F38e n) :=
  ent_ok (fr := frOf [F38_0z n]) (ann := (.nd .no (.nd .no (.nd .no (.nd .no (.nd .no (.nd (.nd .no (.nd (.use 0) .no)) .no))))))) (frm := [(0, .fz)]) laws fnok (E22_ok n).tab (e := F38e n) (fn := Go.Proofs.Try.f38) (by kernel_rfl) (AllF.ofB (cd := F38c) (l := [(0, codeAt F38c [1, 1, 1, 1, 1, 0, 1, 0])]) (by kernel_rfl) (by kernel_rfl) (AllF.cons (F38_0_ok n) AllF.nil)) (F38_eq n)
noncomputable def E23 (n : Nat) : List (Ent G) := F38e n :: E22 n
theorem E23_ok (n : Nat) : AllE prog G (E23 n) := AllE.cons (F38_ok n) (E22_ok n)
noncomputable def F28_4x0 : SSh := ⟨154, [(2, .bool)], []⟩
noncomputable def F28_4x1 : SSh := ⟨154, [(1, (.ptr 0 0)), (128, (.imm 3)), (129, (.int .i64)), (130, (.int .i64))], [(.box 31 (.cons (.imm 0) (.cons (.imm 3) .nil)))]⟩
noncomputable def F28_4s : SSh := ⟨154, [(1, (.ptr 0 0)), (128, (.imm 3)), (129, (.int .i64)), (130, (.int .i64))], [(.box 31 (.cons (.imm 0) (.cons (.imm 3) .nil)))]⟩
noncomputable def F28_4 {R : Type} (n : Nat) (x597 : List Ety) (x598 : Int) (x599 : Int) (x600 : List Int) (x601 : List Ety) (k0 : Bool → Option R) (k1 : List Ety → Int → Int → List Int → List Ety → Option R) : Option R :=
  (bif (decide ((0 : Int) ≤ x599)) then
  (bif (decide (x599 < ((x597.length) : Int))) then
  let v602 := (x597.getD (x599.toNat) (Ety.mk ({ data := #[] } : ByteArray) (0 : Int) (0 : Int) false))
  (bif v602.live then
  (andThen (F38 n x600 x601 v602.key) fun r680 =>
  let v682 := (IntKind.wrap .i64 (((r680.1.length) : Int) - (1 : Int)))
  (bif (decide ((0 : Int) ≤ v682)) then
  (bif (decide (v682 < ((r680.1.length) : Int))) then
  let v684 := (r680.1.getD (v682.toNat) (0 : Int))
  (bif (decide ((0 : Int) ≤ v684)) then
  (bif (decide (v684 < ((x600.length) : Int))) then
  (bif ((x600.getD (v684.toNat) (0 : Int)) != x599) then
  (k0 false)
  else (k1 x597 x598 x599 x600 x601))
  else none)
  else none)
  else none)
  else none))
  else (k1 x597 x598 x599 x600 x601))
  else none)
  else none)
noncomputable def F28_4z (n : Nat) : Sm G := inZ G 0 ⟨[1, 128, 129, 130], []⟩ F28_4s fun R x K => F28_4 n x.1.2.1 x.1.2.2.1 x.1.2.2.2.1 x.2.1.1 x.2.1.2.1 (fun u0 => K .ret (SSh.enc G F28_4x0 ((u0, ()), ()))) (fun u0 u1 u2 u3 u4 => K .normal (SSh.enc G F28_4x1 (((), (u0, (u1, (u2, ())))), ((u3, (u4, ())), ()))))
theorem F28_4_eq (n : Nat) (R : Type) (x : SSh.den G F28_4s) (K : AE → St G → Option R) :
  F28_4 n x.1.2.1 x.1.2.2.1 x.1.2.2.2.1 x.2.1.1 x.2.1.2.1 (fun u0 => K .ret (SSh.enc G F28_4x0 ((u0, ()), ()))) (fun u0 u1 u2 u3 u4 => K .normal (SSh.enc G F28_4x1 (((), (u0, (u1, (u2, ())))), ((u3, (u4, ())), ())))) = exec prog G (ro G (tabOf (E23 n)) (frOf [F28_0z n, F28_1z n, F28_2z n, F28_3z n]) R) 0 (codeAt F28c [1, 1, 1, 1, 1, 1, 1, 0, 1, 0, 0, 1, 1, 0]) .no (SSh.enc G F28_4s x) (kNrm G (ro G (tabOf (E23 n)) (frOf [F28_0z n, F28_1z n, F28_2z n, F28_3z n]) R) 0 ⟨⟨[1, 128, 129, 130], []⟩, ⟨[2], []⟩, [(5, ⟨[], []⟩)]⟩ K) := by kernel_rfl
theorem F28_4_ok (n : Nat) : FragOK prog G 0 (codeAt F28c [1, 1, 1, 1, 1, 1, 1, 0, 1, 0, 0, 1, 1, 0]) (F28_4z n) :=
  frag_plain laws fnok (E23_ok n).tab (AllF.of (l := []) (by kernel_rfl) AllF.nil) (F28_4_eq n)
noncomputable def F28_5x0 : SSh := ⟨154, [(2, .bool)], []⟩
noncomputable def F28_5x1 : SSh := ⟨154, [], []⟩
noncomputable def F28_5s : SSh := ⟨154, [(1, (.ptr 0 0)), (128, (.imm 3)), (129, (.int .i64)), (130, (.int .i64))], [(.box 31 (.cons (.imm 0) (.cons (.imm 3) .nil)))]⟩
noncomputable def F28_5_step {R : Type} (n : Nat) (k0 : Bool → Option R) (k1 : Option R) (rec : List Ety → Int → Int → List Int → List Ety → Option R) (x591 : List Ety) (x592 : Int) (x593 : Int) (x594 : List Int) (x595 : List Ety) : Option R :=
  (bif (decide (x593 < x592)) then
  (F28_4 n x591 x592 x593 x594 x595 (fun z688 =>
  (k0 z688)) (fun z689 z690 z691 z692 z693 =>
  (rec z689 z690 (IntKind.wrap .i64 (z691 + (1 : Int))) z692 z693)))
  else k1)
noncomputable def F28_5_it {R : Type} (n : Nat) (k0 : Bool → Option R) (k1 : Option R) : Nat → List Ety → Int → Int → List Int → List Ety → Option R
  | 0, _, _, _, _, _ => none
  | k + 1, x591, x592, x593, x594, x595 => F28_5_step n k0 k1 (F28_5_it n k0 k1 k) x591 x592 x593 x594 x595
noncomputable def F28_5 {R : Type} (n : Nat) (x591 : List Ety) (x592 : Int) (x593 : Int) (x594 : List Int) (x595 : List Ety) (k0 : Bool → Option R) (k1 : Option R) : Option R := F28_5_it n k0 k1 n x591 x592 x593 x594 x595
noncomputable def F28_5z (n : Nat) : Sm G := inZ G 0 ⟨[1, 128, 129, 130], []⟩ F28_5s fun R x K => F28_5_it n (fun u0 => K .ret (SSh.enc G F28_5x0 ((u0, ()), ()))) (K (.exit 5) (SSh.enc G F28_5x1 ((), ()))) n x.1.2.1 x.1.2.2.1 x.1.2.2.2.1 x.2.1.1 x.2.1.2.1
theorem F28_5_eq (n : Nat) (R : Type) (rec : SSh.den G F28_5s → Option R) (x : SSh.den G F28_5s) (K : AE → St G → Option R) :
  F28_5_step n (fun u0 => K .ret (SSh.enc G F28_5x0 ((u0, ()), ()))) (K (.exit 5) (SSh.enc G F28_5x1 ((), ()))) (fun x591 x592 x593 x594 x595 => rec (((), (x591, (x592, (x593, ())))), ((x594, (x595, ())), ()))) x.1.2.1 x.1.2.2.1 x.1.2.2.2.1 x.2.1.1 x.2.1.2.1 = exec prog G (ro G (tabOf (E23 n)) (frOf [F28_0z n, F28_1z n, F28_2z n, F28_3z n, F28_4z n]) R) 0 (codeAt F28c [1, 1, 1, 1, 1, 1, 1, 0, 1, 0, 0]) (.nd .no (.nd .no (.nd (.use 4) .no))) (SSh.enc G F28_5s x) (kLoop G (ro G (tabOf (E23 n)) (frOf [F28_0z n, F28_1z n, F28_2z n, F28_3z n, F28_4z n]) R) 0 ⟨[1, 128, 129, 130], []⟩ F28_5s ⟨⟨[], []⟩, ⟨[2], []⟩, [(5, ⟨[], []⟩)]⟩ rec K) := by kernel_rfl
theorem F28_5_ok (n : Nat) : FragOK prog G 0 (codeAt F28c [1, 1, 1, 1, 1, 1, 1, 0, 1, 0]) (F28_5z n) :=
  frag_loop (Z := fun R k (x : SSh.den G F28_5s) K => F28_5_it n (fun u0 => K .ret (SSh.enc G F28_5x0 ((u0, ()), ()))) (K (.exit 5) (SSh.enc G F28_5x1 ((), ()))) k x.1.2.1 x.1.2.2.1 x.1.2.2.2.1 x.2.1.1 x.2.1.2.1) laws fnok (E23_ok n).tab (AllF.of (l := [(4, codeAt F28c [1, 1, 1, 1, 1, 1, 1, 0, 1, 0, 0, 1, 1, 0])]) (by kernel_rfl) (AllF.cons (F28_4_ok n) AllF.nil)) (fun _ _ _ => rfl) (fun R k y K => F28_5_eq n R (fun (x : SSh.den G F28_5s) => F28_5_it n (fun u0 => K .ret (SSh.enc G F28_5x0 ((u0, ()), ()))) (K (.exit 5) (SSh.enc G F28_5x1 ((), ()))) k x.1.2.1 x.1.2.2.1 x.1.2.2.2.1 x.2.1.1 x.2.1.2.1) y K) n
noncomputable def F28 (n : Nat) (a422 : List Int) (a423 : List Ety) : Option (Bool × Unit) :=
  (andThen (F55 n ((8 : Int) :: ((16 : Int) :: ((32 : Int) :: ((64 : Int) :: ((128 : Int) :: []))))) ((a422.length) : Int)) fun r443 =>
  (bif (!r443.1) then
  some (false, ())
  else (bif (decide (((a423.length) : Int) > (IntKind.wrap .i64 ((IntKind.wrap .i64 ((2 : Int) * ((a422.length) : Int))).tdiv (3 : Int))))) then
  some (false, ())
  else (andThen (F45 n a422 a423) fun r474 =>
  (bif (decide (r474.1 > (40 : Int))) then
  some (false, ())
  else let v476 := ((a423.length) : Int)
  (bif (decide ((0 : Int) ≤ v476)) then
  (bif (decide (v476 ≤ v476)) then
  (bif (decide (v476 ≤ ((68719476736 : Nat) : Int))) then
  (F28_1 n (0 : Int) a422 ((a422.length) : Int) (0 : Int) a422 a423 (List.replicate (v476.toNat) (0 : Int)) (fun z519 =>
  some (z519, ())) (fun z520 z521 z522 z523 =>
  (andThen (F45 n z521 z522) fun r525 =>
  (bif (z520 != (IntKind.wrap .i64 (((z522.length) : Int) - r525.1))) then
  some (false, ())
  else (F28_3 n z522 ((z522.length) : Int) (0 : Int) z521 z522 z523 (fun z587 =>
  some (z587, ())) (fun z588 z589 =>
  (F28_5 n z589 ((z589.length) : Int) (0 : Int) z588 z589 (fun z695 =>
  some (z695, ())) (
  some (true, ())))))))))
  else none)
  else none)
  else none))))))
noncomputable def F28e (n : Nat) : Ent G := ⟨28, (.cons (.agg (.cons (.imm 0) (.cons (.imm 3) .nil))) .nil), [], .bool, [], fun x y => F28 n x.1.1 x.1.2.1⟩
theorem F28_eq (n : Nat) (x : ShL.den G (.cons (.agg (.cons (.imm 0) (.cons (.imm 3) .nil))) .nil)) (y : denO G []) : (F28e n).F x y = runFn prog G (ro G (tabOf (E23 n)) (frOf [F28_0z n, F28_1z n, F28_2z n, F28_3z n, F28_4z n, F28_5z n]) _) Go.Proofs.Try.f28 (.nd .no (.nd .no (.nd .no (.nd .no (.nd (.nd .no (.nd (.use 1) .no)) (.nd .no (.nd (.nd .no (.nd (.use 3) .no)) (.nd (.nd .no (.nd (.use 5) .no)) .no)))))))) [(0, .fz)] (ShL.enc G (.cons (.agg (.cons (.imm 0) (.cons (.imm 3) .nil))) .nil) x) (encO G [] y) (decR .bool []) := by kernel_rfl
theorem F28_ok (n : Nat) : EntOK prog G (F28e n) :=
  ent_ok (fr := frOf [F28_0z n, F28_1z n, F28_2z n, F28_3z n, F28_4z n, F28_5z n]) (ann := (.nd .no (.nd .no (.nd .no (.nd .no (.nd (.nd .no (.nd (.use 1) .no)) (.nd .no (.nd (.nd .no (.nd (.use 3) .no)) (.nd (.nd .no (.nd (.use 5) .no)) .no))))))))) (frm := [(0, .fz)]) laws fnok (E23_ok n).tab (e := F28e n) (fn := Go.Proofs.Try.f28) (by kernel_rfl) (AllF.ofB (cd := F28c) (l := [(1, codeAt F28c [1, 1, 1, 1, 0, 1, 0]), (3, codeAt F28c [1, 1, 1, 1, 1, 1, 0, 1, 0]), (5, codeAt F28c [1, 1, 1, 1, 1, 1, 1, 0, 1, 0])]) (by kernel_rfl) (by kernel_rfl) (AllF.cons (F28_1_ok n) (AllF.cons (F28_3_ok n) (AllF.cons (F28_5_ok n) AllF.nil)))) (F28_eq n)
noncomputable def E24 (n : Nat) : List (Ent G) := F28e n :: E23 n
theorem E24_ok (n : Nat) : AllE prog G (E24 n) := AllE.cons (F28_ok n) (E23_ok n)
-- 10 loop.example/slowworm/impl.DictKeys
noncomputable def F10c : Code := bodyOf Go.Proofs.Try.f10
noncomputable def F10_0x0 : SSh := ⟨25, [(3, (.own 0)), (10, (.imm 3)), (11, (.int .i64)), (12, (.int .i64))], [(.arr 2 true)]⟩
noncomputable def F10_0s : SSh := ⟨25, [(3, (.own 0)), (10, (.imm 3)), (11, (.int .i64)), (12, (.int .i64))], [(.arr 2 true)]⟩
noncomputable def F10_0 {R : Type} (n : Nat) (x728 : List Ety) (x729 : Int) (x730 : Int) (x731 : List ByteArray) (k0 : List Ety → Int → Int → List ByteArray → Option R) : Option R :=
  (bif (decide ((0 : Int) ≤ x730)) then
  (bif (decide (x730 < ((x728.length) : Int))) then
  let v732 := (x728.getD (x730.toNat) (Ety.mk ({ data := #[] } : ByteArray) (0 : Int) (0 : Int) false))
  (bif v732.live then
  let v737 := (v732.key :: [])
  (bif (decide (((x731.length) + (v737.length)) ≤ (68719476736 : Nat))) then
  (k0 x728 x729 x730 (x731 ++ v737))
  else none)
  else (k0 x728 x729 x730 x731))
  else none)
  else none)
noncomputable def F10_0z (n : Nat) : Sm G := inZ G 0 ⟨[3, 10, 11, 12], []⟩ F10_0s fun R x K => F10_0 n x.1.2.1 x.1.2.2.1 x.1.2.2.2.1 x.2.1 (fun u0 u1 u2 u3 => K .normal (SSh.enc G F10_0x0 (((), (u0, (u1, (u2, ())))), (u3, ()))))
theorem F10_0_eq (n : Nat) (R : Type) (x : SSh.den G F10_0s) (K : AE → St G → Option R) :
  F10_0 n x.1.2.1 x.1.2.2.1 x.1.2.2.2.1 x.2.1 (fun u0 u1 u2 u3 => K .normal (SSh.enc G F10_0x0 (((), (u0, (u1, (u2, ())))), (u3, ())))) = exec prog G (ro G (tabOf (E24 n)) (frOf []) R) 0 (codeAt F10c [1, 1, 1, 0, 1, 0, 0, 1, 1, 0]) .no (SSh.enc G F10_0s x) (kNrm G (ro G (tabOf (E24 n)) (frOf []) R) 0 ⟨⟨[3, 10, 11, 12], []⟩, ⟨[2], []⟩, [(0, ⟨[3], []⟩)]⟩ K) := by kernel_rfl
theorem F10_0_ok (n : Nat) : FragOK prog G 0 (codeAt F10c [1, 1, 1, 0, 1, 0, 0, 1, 1, 0]) (F10_0z n) :=
  frag_plain laws fnok (E24_ok n).tab (AllF.of (l := []) (by kernel_rfl) AllF.nil) (F10_0_eq n)
noncomputable def F10_1x0 : SSh := ⟨25, [(3, (.own 0))], [(.arr 2 true)]⟩
noncomputable def F10_1s : SSh := ⟨25, [(3, (.own 0)), (10, (.imm 3)), (11, (.int .i64)), (12, (.int .i64))], [(.arr 2 true)]⟩
noncomputable def F10_1_step {R : Type} (n : Nat) (k0 : List ByteArray → Option R) (rec : List Ety → Int → Int → List ByteArray → Option R) (x723 : List Ety) (x724 : Int) (x725 : Int) (x726 : List ByteArray) : Option R :=
  (bif (decide (x725 < x724)) then
  (F10_0 n x723 x724 x725 x726 (fun z739 z740 z741 z742 =>
  (rec z739 z740 (IntKind.wrap .i64 (z741 + (1 : Int))) z742)))
  else (k0 x726))
noncomputable def F10_1_it {R : Type} (n : Nat) (k0 : List ByteArray → Option R) : Nat → List Ety → Int → Int → List ByteArray → Option R
  | 0, _, _, _, _ => none
  | k + 1, x723, x724, x725, x726 => F10_1_step n k0 (F10_1_it n k0 k) x723 x724 x725 x726
noncomputable def F10_1 {R : Type} (n : Nat) (x723 : List Ety) (x724 : Int) (x725 : Int) (x726 : List ByteArray) (k0 : List ByteArray → Option R) : Option R := F10_1_it n k0 n x723 x724 x725 x726
noncomputable def F10_1z (n : Nat) : Sm G := inZ G 0 ⟨[3, 10, 11, 12], [(3, (.own 2))]⟩ F10_1s fun R x K => F10_1_it n (fun u0 => K (.exit 0) (SSh.enc G F10_1x0 (((), ()), (u0, ())))) n x.1.2.1 x.1.2.2.1 x.1.2.2.2.1 x.2.1
theorem F10_1_eq (n : Nat) (R : Type) (rec : SSh.den G F10_1s → Option R) (x : SSh.den G F10_1s) (K : AE → St G → Option R) :
  F10_1_step n (fun u0 => K (.exit 0) (SSh.enc G F10_1x0 (((), ()), (u0, ())))) (fun x723 x724 x725 x726 => rec (((), (x723, (x724, (x725, ())))), (x726, ()))) x.1.2.1 x.1.2.2.1 x.1.2.2.2.1 x.2.1 = exec prog G (ro G (tabOf (E24 n)) (frOf [F10_0z n]) R) 0 (codeAt F10c [1, 1, 1, 0, 1, 0, 0]) (.nd .no (.nd .no (.nd (.use 0) .no))) (SSh.enc G F10_1s x) (kLoop G (ro G (tabOf (E24 n)) (frOf [F10_0z n]) R) 0 ⟨[3, 10, 11, 12], [(3, (.own 2))]⟩ F10_1s ⟨⟨[3], []⟩, ⟨[2], []⟩, [(0, ⟨[3], []⟩)]⟩ rec K) := by kernel_rfl
theorem F10_1_ok (n : Nat) : FragOK prog G 0 (codeAt F10c [1, 1, 1, 0, 1, 0]) (F10_1z n) :=
  frag_loop (Z := fun R k (x : SSh.den G F10_1s) K => F10_1_it n (fun u0 => K (.exit 0) (SSh.enc G F10_1x0 (((), ()), (u0, ())))) k x.1.2.1 x.1.2.2.1 x.1.2.2.2.1 x.2.1) laws fnok (E24_ok n).tab (AllF.of (l := [(0, codeAt F10c [1, 1, 1, 0, 1, 0, 0, 1, 1, 0])]) (by kernel_rfl) (AllF.cons (F10_0_ok n) AllF.nil)) (fun _ _ _ => rfl) (fun R k y K => F10_1_eq n R (fun (x : SSh.den G F10_1s) => F10_1_it n (fun u0 => K (.exit 0) (SSh.enc G F10_1x0 (((), ()), (u0, ())))) k x.1.2.1 x.1.2.2.1 x.1.2.2.2.1 x.2.1) y K) n
noncomputable def F10 (n : Nat) (a718 : List Int) (a719 : List Ety) : Option (Unit × (List ByteArray × Unit)) :=
  (andThen (F28 n a718 a719) fun r720 =>
  (bif (!r720.1) then
  some ((), ([], ()))
  else (F10_1 n a719 ((a719.length) : Int) (0 : Int) [] (fun z744 =>
  some ((), (z744, ()))))))
noncomputable def F10e (n : Nat) : Ent G := ⟨10, (.cons (.agg (.cons (.imm 0) (.cons (.imm 3) .nil))) .nil), [], (.own 0), [(.arr 2 true)], fun x y => F10 n x.1.1 x.1.2.1⟩
theorem F10_eq (n : Nat) (x : ShL.den G (.cons (.agg (.cons (.imm 0) (.cons (.imm 3) .nil))) .nil)) (y : denO G []) : (F10e n).F x y = runFn prog G (ro G (tabOf (E24 n)) (frOf [F10_0z n, F10_1z n]) _) Go.Proofs.Try.f10 (.nd .no (.nd .no (.nd .no (.nd (.nd .no (.nd (.use 1) .no)) .no)))) [(0, (.own 2))] (ShL.enc G (.cons (.agg (.cons (.imm 0) (.cons (.imm 3) .nil))) .nil) x) (encO G [] y) (decR (.own 0) [(.arr 2 true)]) := by kernel_rfl
theorem F10_ok (n : Nat) : EntOK prog G (F10e n) :=
  ent_ok (fr := frOf [F10_0z n, F10_1z n]) (ann := (.nd .no (.nd .no (.nd .no (.nd (.nd .no (.nd (.use 1) .no)) .no))))) (frm := [(0, (.own 2))]) laws fnok (E24_ok n).tab (e := F10e n) (fn := Go.Proofs.Try.f10) (by kernel_rfl) (AllF.ofB (cd := F10c) (l := [(1, codeAt F10c [1, 1, 1, 0, 1, 0])]) (by kernel_rfl) (by kernel_rfl) (AllF.cons (F10_1_ok n) AllF.nil)) (F10_eq n)
noncomputable def E25 (n : Nat) : List (Ent G) := F10e n :: E24 n
theorem E25_ok (n : Nat) : AllE prog G (E25 n) := AllE.cons (F10_ok n) (E24_ok n)
-- 11 loop.example/slowworm/laws.eqStringS
noncomputable def F11c : Code := bodyOf Go.Proofs.Try.f11
noncomputable def F11_0x0 : SSh := ⟨26, [(4, .bool)], []⟩
noncomputable def F11_0x1 : SSh := ⟨26, [], []⟩
noncomputable def F11_0s : SSh := ⟨26, [(0, (.imm 2)), (1, (.imm 2)), (5, (.int .i64))], []⟩
noncomputable def F11_0_step {R : Type} (n : Nat) (k0 : Bool → Option R) (k1 : Option R) (rec : List ByteArray → List ByteArray → Int → Option R) (x751 : List ByteArray) (x752 : List ByteArray) (x753 : Int) : Option R :=
  (bif (decide (x753 < ((x751.length) : Int))) then
  (bif (decide ((0 : Int) ≤ x753)) then
  (bif (decide (x753 < ((x751.length) : Int))) then
  (bif (decide ((0 : Int) ≤ x753)) then
  (bif (decide (x753 < ((x752.length) : Int))) then
  (bif (!(((x751.getD (x753.toNat) ({ data := #[] } : ByteArray)).toList) == ((x752.getD (x753.toNat) ({ data := #[] } : ByteArray)).toList))) then
  (k0 false)
  else (rec x751 x752 (IntKind.wrap .i64 (x753 + (1 : Int)))))
  else none)
  else none)
  else none)
  else none)
  else k1)
noncomputable def F11_0_it {R : Type} (n : Nat) (k0 : Bool → Option R) (k1 : Option R) : Nat → List ByteArray → List ByteArray → Int → Option R
  | 0, _, _, _ => none
  | k + 1, x751, x752, x753 => F11_0_step n k0 k1 (F11_0_it n k0 k1 k) x751 x752 x753
noncomputable def F11_0 {R : Type} (n : Nat) (x751 : List ByteArray) (x752 : List ByteArray) (x753 : Int) (k0 : Bool → Option R) (k1 : Option R) : Option R := F11_0_it n k0 k1 n x751 x752 x753
noncomputable def F11_0z (n : Nat) : Sm G := inZ G 0 ⟨[0, 1, 5], []⟩ F11_0s fun R x K => F11_0_it n (fun u0 => K .ret (SSh.enc G F11_0x0 ((u0, ()), ()))) (K (.exit 0) (SSh.enc G F11_0x1 ((), ()))) n x.1.1 x.1.2.1 x.1.2.2.1
theorem F11_0_eq (n : Nat) (R : Type) (rec : SSh.den G F11_0s → Option R) (x : SSh.den G F11_0s) (K : AE → St G → Option R) :
  F11_0_step n (fun u0 => K .ret (SSh.enc G F11_0x0 ((u0, ()), ()))) (K (.exit 0) (SSh.enc G F11_0x1 ((), ()))) (fun x751 x752 x753 => rec ((x751, (x752, (x753, ()))), ())) x.1.1 x.1.2.1 x.1.2.2.1 = exec prog G (ro G (tabOf (E25 n)) (frOf []) R) 0 (codeAt F11c [1, 1, 0, 1, 0, 0]) .no (SSh.enc G F11_0s x) (kLoop G (ro G (tabOf (E25 n)) (frOf []) R) 0 ⟨[0, 1, 5], []⟩ F11_0s ⟨⟨[], []⟩, ⟨[4], []⟩, [(0, ⟨[], []⟩)]⟩ rec K) := by kernel_rfl
theorem F11_0_ok (n : Nat) : FragOK prog G 0 (codeAt F11c [1, 1, 0, 1, 0]) (F11_0z n) :=
  frag_loop (Z := fun R k (x : SSh.den G F11_0s) K => F11_0_it n (fun u0 => K .ret (SSh.enc G F11_0x0 ((u0, ()), ()))) (K (.exit 0) (SSh.enc G F11_0x1 ((), ()))) k x.1.1 x.1.2.1 x.1.2.2.1) laws fnok (E25_ok n).tab (AllF.of (l := []) (by kernel_rfl) AllF.nil) (fun _ _ _ => rfl) (fun R k y K => F11_0_eq n R (fun (x : SSh.den G F11_0s) => F11_0_it n (fun u0 => K .ret (SSh.enc G F11_0x0 ((u0, ()), ()))) (K (.exit 0) (SSh.enc G F11_0x1 ((), ()))) k x.1.1 x.1.2.1 x.1.2.2.1) y K) n
noncomputable def F11 (n : Nat) (a746 : List ByteArray) (a747 : List ByteArray) : Option (Bool × Unit) :=
  (bif (((a746.length) : Int) != ((a747.length) : Int)) then
  some (false, ())
  else (F11_0 n a746 a747 (0 : Int) (fun z762 =>
  some (z762, ())) (
  some (true, ()))))
noncomputable def F11e (n : Nat) : Ent G := ⟨11, (.cons (.imm 2) (.cons (.imm 2) .nil)), [], .bool, [], fun x y => F11 n x.1 x.2.1⟩
theorem F11_eq (n : Nat) (x : ShL.den G (.cons (.imm 2) (.cons (.imm 2) .nil))) (y : denO G []) : (F11e n).F x y = runFn prog G (ro G (tabOf (E25 n)) (frOf [F11_0z n]) _) Go.Proofs.Try.f11 (.nd .no (.nd .no (.nd (.nd .no (.nd (.use 0) .no)) .no))) [(0, .fz)] (ShL.enc G (.cons (.imm 2) (.cons (.imm 2) .nil)) x) (encO G [] y) (decR .bool []) := by kernel_rfl
theorem F11_ok (n : Nat) : EntOK prog G (F11e n) :=
  ent_ok (fr := frOf [F11_0z n]) (ann := (.nd .no (.nd .no (.nd (.nd .no (.nd (.use 0) .no)) .no)))) (frm := [(0, .fz)]) laws fnok (E25_ok n).tab (e := F11e n) (fn := Go.Proofs.Try.f11) (by kernel_rfl) (AllF.ofB (cd := F11c) (l := [(0, codeAt F11c [1, 1, 0, 1, 0])]) (by kernel_rfl) (by kernel_rfl) (AllF.cons (F11_0_ok n) AllF.nil)) (F11_eq n)
noncomputable def E26 (n : Nat) : List (Ent G) := F11e n :: E25 n
theorem E26_ok (n : Nat) : AllE prog G (E26 n) := AllE.cons (F11_ok n) (E25_ok n)
-- 12 loop.example/slowworm/laws.eqDict
noncomputable def F12c : Code := bodyOf Go.Proofs.Try.f12
-- 29 loop.example/slowworm/laws.eqIntS
noncomputable def F29c : Code := bodyOf Go.Proofs.Try.f29
noncomputable def F29_0x0 : SSh := ⟨26, [(4, .bool)], []⟩
noncomputable def F29_0x1 : SSh := ⟨26, [], []⟩
noncomputable def F29_0s : SSh := ⟨26, [(0, (.imm 0)), (1, (.imm 0)), (5, (.int .i64))], []⟩
noncomputable def F29_0_step {R : Type} (n : Nat) (k0 : Bool → Option R) (k1 : Option R) (rec : List Int → List Int → Int → Option R) (x775 : List Int) (x776 : List Int) (x777 : Int) : Option R :=
  (bif (decide (x777 < ((x775.length) : Int))) then
  (bif (decide ((0 : Int) ≤ x777)) then
  (bif (decide (x777 < ((x775.length) : Int))) then
  (bif (decide ((0 : Int) ≤ x777)) then
  (bif (decide (x777 < ((x776.length) : Int))) then
  (bif ((x775.getD (x777.toNat) (0 : Int)) != (x776.getD (x777.toNat) (0 : Int))) then
  (k0 false)
  else (rec x775 x776 (IntKind.wrap .i64 (x777 + (1 : Int)))))
  else none)
  else none)
  else none)
  else none)
  else k1)
noncomputable def F29_0_it {R : Type} (n : Nat) (k0 : Bool → Option R) (k1 : Option R) : Nat → List Int → List Int → Int → Option R
  | 0, _, _, _ => none
  | k + 1, x775, x776, x777 => F29_0_step n k0 k1 (F29_0_it n k0 k1 k) x775 x776 x777
noncomputable def F29_0 {R : Type} (n : Nat) (x775 : List Int) (x776 : List Int) (x777 : Int) (k0 : Bool → Option R) (k1 : Option R) : Option R := F29_0_it n k0 k1 n x775 x776 x777
noncomputable def F29_0z (n : Nat) : Sm G := inZ G 0 ⟨[0, 1, 5], []⟩ F29_0s fun R x K => F29_0_it n (fun u0 => K .ret (SSh.enc G F29_0x0 ((u0, ()), ()))) (K (.exit 0) (SSh.enc G F29_0x1 ((), ()))) n x.1.1 x.1.2.1 x.1.2.2.1
theorem F29_0_eq (n : Nat) (R : Type) (rec : SSh.den G F29_0s → Option R) (x : SSh.den G F29_0s) (K : AE → St G → Option R) :
  F29_0_step n (fun u0 => K .ret (SSh.enc G F29_0x0 ((u0, ()), ()))) (K (.exit 0) (SSh.enc G F29_0x1 ((), ()))) (fun x775 x776 x777 => rec ((x775, (x776, (x777, ()))), ())) x.1.1 x.1.2.1 x.1.2.2.1 = exec prog G (ro G (tabOf (E26 n)) (frOf []) R) 0 (codeAt F29c [1, 1, 0, 1, 0, 0]) .no (SSh.enc G F29_0s x) (kLoop G (ro G (tabOf (E26 n)) (frOf []) R) 0 ⟨[0, 1, 5], []⟩ F29_0s ⟨⟨[], []⟩, ⟨[4], []⟩, [(0, ⟨[], []⟩)]⟩ rec K) := by kernel_rfl
theorem F29_0_ok (n : Nat) : FragOK prog G 0 (codeAt F29c [1, 1, 0, 1, 0]) (F29_0z n) :=
  frag_loop (Z := fun R k (x : SSh.den G F29_0s) K => F29_0_it n (fun u0 => K .ret (SSh.enc G F29_0x0 ((u0, ()), ()))) (K (.exit 0) (SSh.enc G F29_0x1 ((), ()))) k x.1.1 x.1.2.1 x.1.2.2.1) laws fnok (E26_ok n).tab (AllF.of (l := []) (by kernel_rfl) AllF.nil) (fun _ _ _ => rfl) (fun R k y K => F29_0_eq n R (fun (x : SSh.den G F29_0s) => F29_0_it n (fun u0 => K .ret (SSh.enc G F29_0x0 ((u0, ()), ()))) (K (.exit 0) (SSh.enc G F29_0x1 ((), ()))) k x.1.1 x.1.2.1 x.1.2.2.1) y K) n
noncomputable def F29 (n : Nat) (a770 : List Int) (a771 : List Int) : Option (Bool × Unit) :=
  (bif (((a770.length) : Int) != ((a771.length) : Int)) then
  some (false, ())
  else (F29_0 n a770 a771 (0 : Int) (fun z786 =>
  some (z786, ())) (
  some (true, ()))))
noncomputable def F29e (n : Nat) : Ent G := ⟨29, (.cons (.imm 0) (.cons (.imm 0) .nil)), [], .bool, [], fun x y => F29 n x.1 x.2.1⟩
theorem F29_eq (n : Nat) (x : ShL.den G (.cons (.imm 0) (.cons (.imm 0) .nil))) (y : denO G []) : (F29e n).F x y = runFn prog G (ro G (tabOf (E26 n)) (frOf [F29_0z n]) _) Go.Proofs.Try.f29 (.nd .no (.nd .no (.nd (.nd .no (.nd (.use 0) .no)) .no))) [(0, .fz)] (ShL.enc G (.cons (.imm 0) (.cons (.imm 0) .nil)) x) (encO G [] y) (decR .bool []) := by kernel_rfl
theorem F29_ok (n : Nat) : EntOK prog G (F29e n) :=
  ent_ok (fr := frOf [F29_0z n]) (ann := (.nd .no (.nd .no (.nd (.nd .no (.nd (.use 0) .no)) .no)))) (frm := [(0, .fz)]) laws fnok (E26_ok n).tab (e := F29e n) (fn := Go.Proofs.Try.f29) (by kernel_rfl) (AllF.ofB (cd := F29c) (l := [(0, codeAt F29c [1, 1, 0, 1, 0])]) (by kernel_rfl) (by kernel_rfl) (AllF.cons (F29_0_ok n) AllF.nil)) (F29_eq n)
noncomputable def E27 (n : Nat) : List (Ent G) := F29e n :: E26 n
theorem E27_ok (n : Nat) : AllE prog G (E27 n) := AllE.cons (F29_ok n) (E26_ok n)
-- 30 loop.example/slowworm/laws.eqEntryS
noncomputable def F30c : Code := bodyOf Go.Proofs.Try.f30
-- 57 loop.example/slowworm/laws.eqEntry
noncomputable def F57c : Code := bodyOf Go.Proofs.Try.f57
noncomputable def F57 (n : Nat) (a809 : ByteArray) (a810 : Int) (a811 : Int) (a812 : Bool) (a813 : ByteArray) (a814 : Int) (a815 : Int) (a816 : Bool) : Option (Bool × Unit) :=
  (bif (!((a809.toList) == (a813.toList))) then
  some (false, ())
  else (bif (a810 != a814) then
  some (false, ())
  else (bif (a811 != a815) then
  some (false, ())
  else (bif (!(a812 == a816)) then
  some (false, ())
  else some (true, ())))))
noncomputable def F57e (n : Nat) : Ent G := ⟨57, (.cons (.agg (.cons .str (.cons (.int .i64) (.cons (.int .i64) (.cons .bool .nil))))) (.cons (.agg (.cons .str (.cons (.int .i64) (.cons (.int .i64) (.cons .bool .nil))))) .nil)), [], .bool, [], fun x y => F57 n x.1.1 x.1.2.1 x.1.2.2.1 x.1.2.2.2.1 x.2.1.1 x.2.1.2.1 x.2.1.2.2.1 x.2.1.2.2.2.1⟩
theorem F57_eq (n : Nat) (x : ShL.den G (.cons (.agg (.cons .str (.cons (.int .i64) (.cons (.int .i64) (.cons .bool .nil))))) (.cons (.agg (.cons .str (.cons (.int .i64) (.cons (.int .i64) (.cons .bool .nil))))) .nil))) (y : denO G []) : (F57e n).F x y = runFn prog G (ro G (tabOf (E27 n)) (frOf []) _) Go.Proofs.Try.f57 .no [(0, .fz)] (ShL.enc G (.cons (.agg (.cons .str (.cons (.int .i64) (.cons (.int .i64) (.cons .bool .nil))))) (.cons (.agg (.cons .str (.cons (.int .i64) (.cons (.int .i64) (.cons .bool .nil))))) .nil)) x) (encO G [] y) (decR .bool []) := by kernel_rfl
theorem F57_ok (n : Nat) : EntOK prog G (F57e n) :=
  ent_ok (fr := frOf []) (ann := .no) (frm := [(0, .fz)]) laws fnok (E27_ok n).tab (e := F57e n) (fn := Go.Proofs.Try.f57) (by kernel_rfl) (AllF.ofB (cd := F57c) (l := []) (by kernel_rfl) (by kernel_rfl) AllF.nil) (F57_eq n)
noncomputable def E28 (n : Nat) : List (Ent G) := F57e n :: E27 n
theorem E28_ok (n : Nat) : AllE prog G (E28 n) := AllE.cons (F57_ok n) (E27_ok n)
noncomputable def F30_0x0 : SSh := ⟨27, [(4, .bool)], []⟩
noncomputable def F30_0x1 : SSh := ⟨27, [], []⟩
noncomputable def F30_0s : SSh := ⟨27, [(0, (.imm 3)), (1, (.imm 3)), (5, (.int .i64))], []⟩
noncomputable def F30_0_step {R : Type} (n : Nat) (k0 : Bool → Option R) (k1 : Option R) (rec : List Ety → List Ety → Int → Option R) (x794 : List Ety) (x795 : List Ety) (x796 : Int) : Option R :=
  (bif (decide (x796 < ((x794.length) : Int))) then
  (bif (decide ((0 : Int) ≤ x796)) then
  (bif (decide (x796 < ((x794.length) : Int))) then
  let v799 := (x794.getD (x796.toNat) (Ety.mk ({ data := #[] } : ByteArray) (0 : Int) (0 : Int) false))
  (bif (decide ((0 : Int) ≤ x796)) then
  (bif (decide (x796 < ((x795.length) : Int))) then
  let v804 := (x795.getD (x796.toNat) (Ety.mk ({ data := #[] } : ByteArray) (0 : Int) (0 : Int) false))
  (andThen (F57 n v799.key v799.hash v799.val v799.live v804.key v804.hash v804.val v804.live) fun r821 =>
  (bif (!r821.1) then
  (k0 false)
  else (rec x794 x795 (IntKind.wrap .i64 (x796 + (1 : Int))))))
  else none)
  else none)
  else none)
  else none)
  else k1)
noncomputable def F30_0_it {R : Type} (n : Nat) (k0 : Bool → Option R) (k1 : Option R) : Nat → List Ety → List Ety → Int → Option R
  | 0, _, _, _ => none
  | k + 1, x794, x795, x796 => F30_0_step n k0 k1 (F30_0_it n k0 k1 k) x794 x795 x796
noncomputable def F30_0 {R : Type} (n : Nat) (x794 : List Ety) (x795 : List Ety) (x796 : Int) (k0 : Bool → Option R) (k1 : Option R) : Option R := F30_0_it n k0 k1 n x794 x795 x796
noncomputable def F30_0z (n : Nat) : Sm G := inZ G 0 ⟨[0, 1, 5], []⟩ F30_0s fun R x K => F30_0_it n (fun u0 => K .ret (SSh.enc G F30_0x0 ((u0, ()), ()))) (K (.exit 0) (SSh.enc G F30_0x1 ((), ()))) n x.1.1 x.1.2.1 x.1.2.2.1
theorem F30_0_eq (n : Nat) (R : Type) (rec : SSh.den G F30_0s → Option R) (x : SSh.den G F30_0s) (K : AE → St G → Option R) :
  F30_0_step n (fun u0 => K .ret (SSh.enc G F30_0x0 ((u0, ()), ()))) (K (.exit 0) (SSh.enc G F30_0x1 ((), ()))) (fun x794 x795 x796 => rec ((x794, (x795, (x796, ()))), ())) x.1.1 x.1.2.1 x.1.2.2.1 = exec prog G (ro G (tabOf (E28 n)) (frOf []) R) 0 (codeAt F30c [1, 1, 0, 1, 0, 0]) .no (SSh.enc G F30_0s x) (kLoop G (ro G (tabOf (E28 n)) (frOf []) R) 0 ⟨[0, 1, 5], []⟩ F30_0s ⟨⟨[], []⟩, ⟨[4], []⟩, [(0, ⟨[], []⟩)]⟩ rec K) := by kernel_rfl
theorem F30_0_ok (n : Nat) : FragOK prog G 0 (codeAt F30c [1, 1, 0, 1, 0]) (F30_0z n) :=
  frag_loop (Z := fun R k (x : SSh.den G F30_0s) K => F30_0_it n (fun u0 => K .ret (SSh.enc G F30_0x0 ((u0, ()), ()))) (K (.exit 0) (SSh.enc G F30_0x1 ((), ()))) k x.1.1 x.1.2.1 x.1.2.2.1) laws fnok (E28_ok n).tab (AllF.of (l := []) (by kernel_rfl) AllF.nil) (fun _ _ _ => rfl) (fun R k y K => F30_0_eq n R (fun (x : SSh.den G F30_0s) => F30_0_it n (fun u0 => K .ret (SSh.enc G F30_0x0 ((u0, ()), ()))) (K (.exit 0) (SSh.enc G F30_0x1 ((), ()))) k x.1.1 x.1.2.1 x.1.2.2.1) y K) n
noncomputable def F30 (n : Nat) (a789 : List Ety) (a790 : List Ety) : Option (Bool × Unit) :=
  (bif (((a789.length) : Int) != ((a790.length) : Int)) then
  some (false, ())
  else (F30_0 n a789 a790 (0 : Int) (fun z824 =>
  some (z824, ())) (
  some (true, ()))))
noncomputable def F30e (n : Nat) : Ent G := ⟨30, (.cons (.imm 3) (.cons (.imm 3) .nil)), [], .bool, [], fun x y => F30 n x.1 x.2.1⟩
theorem F30_eq (n : Nat) (x : ShL.den G (.cons (.imm 3) (.cons (.imm 3) .nil))) (y : denO G []) : (F30e n).F x y = runFn prog G (ro G (tabOf (E28 n)) (frOf [F30_0z n]) _) Go.Proofs.Try.f30 (.nd .no (.nd .no (.nd (.nd .no (.nd (.use 0) .no)) .no))) [(0, .fz)] (ShL.enc G (.cons (.imm 3) (.cons (.imm 3) .nil)) x) (encO G [] y) (decR .bool []) := by kernel_rfl
theorem F30_ok (n : Nat) : EntOK prog G (F30e n) :=
  ent_ok (fr := frOf [F30_0z n]) (ann := (.nd .no (.nd .no (.nd (.nd .no (.nd (.use 0) .no)) .no)))) (frm := [(0, .fz)]) laws fnok (E28_ok n).tab (e := F30e n) (fn := Go.Proofs.Try.f30) (by kernel_rfl) (AllF.ofB (cd := F30c) (l := [(0, codeAt F30c [1, 1, 0, 1, 0])]) (by kernel_rfl) (by kernel_rfl) (AllF.cons (F30_0_ok n) AllF.nil)) (F30_eq n)
noncomputable def E29 (n : Nat) : List (Ent G) := F30e n :: E28 n
theorem E29_ok (n : Nat) : AllE prog G (E29 n) := AllE.cons (F30_ok n) (E28_ok n)
noncomputable def F12 (n : Nat) (a766 : List Int) (a767 : List Ety) (a768 : List Int) (a769 : List Ety) : Option (Bool × Unit) :=
  (andThen (F29 n a766 a768) fun r787 =>
  (bif (!r787.1) then
  some (false, ())
  else (andThen (F30 n a767 a769) fun r825 =>
  (bif (!r825.1) then
  some (false, ())
  else some (true, ())))))
noncomputable def F12e (n : Nat) : Ent G := ⟨12, (.cons (.agg (.cons (.imm 0) (.cons (.imm 3) .nil))) (.cons (.agg (.cons (.imm 0) (.cons (.imm 3) .nil))) .nil)), [], .bool, [], fun x y => F12 n x.1.1 x.1.2.1 x.2.1.1 x.2.1.2.1⟩
theorem F12_eq (n : Nat) (x : ShL.den G (.cons (.agg (.cons (.imm 0) (.cons (.imm 3) .nil))) (.cons (.agg (.cons (.imm 0) (.cons (.imm 3) .nil))) .nil))) (y : denO G []) : (F12e n).F x y = runFn prog G (ro G (tabOf (E29 n)) (frOf []) _) Go.Proofs.Try.f12 .no [(0, .fz)] (ShL.enc G (.cons (.agg (.cons (.imm 0) (.cons (.imm 3) .nil))) (.cons (.agg (.cons (.imm 0) (.cons (.imm 3) .nil))) .nil)) x) (encO G [] y) (decR .bool []) := by kernel_rfl
theorem F12_ok (n : Nat) : EntOK prog G (F12e n) :=
  ent_ok (fr := frOf []) (ann := .no) (frm := [(0, .fz)]) laws fnok (E29_ok n).tab (e := F12e n) (fn := Go.Proofs.Try.f12) (by kernel_rfl) (AllF.ofB (cd := F12c) (l := []) (by kernel_rfl) (by kernel_rfl) AllF.nil) (F12_eq n)
noncomputable def E30 (n : Nat) : List (Ent G) := F12e n :: E29 n
theorem E30_ok (n : Nat) : AllE prog G (E30 n) := AllE.cons (F12_ok n) (E29_ok n)
-- 13 loop.example/slowworm/laws.markDict
end Go.Proofs.Ytfpgihjociacnaa.Am
