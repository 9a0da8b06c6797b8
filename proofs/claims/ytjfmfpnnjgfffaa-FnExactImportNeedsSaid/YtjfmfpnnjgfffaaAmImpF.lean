/- The functions of the seat of imports, printed. -/
import Derived.Test.YtjfmfpnnjgfffaaAmImpSig
namespace Go.Proofs.Ytjfmfpnnjgfffaa.Am
open Go Go.Proofs.Try
set_option autoImplicit false
set_option linter.unusedVariables false
set_option maxRecDepth 100000
noncomputable def E0 (n : Nat) : List (Ent G) := []
theorem E0_ok (n : Nat) : AllE prog G (E0 n) := AllE.nil
-- 33 loop.example/slowworm/impl.importsOf
noncomputable def F33c : Code := bodyOf Go.Proofs.Try.f33
noncomputable def F33_0x0 : SSh := ⟨47, [(3, (.ref 0 0)), (4, (.int .i64)), (11, (.imm 5)), (12, (.int .i64)), (13, (.int .i64)), (19, (.imm 3)), (20, (.int .i64)), (21, (.int .i64))], [(.usr 2)]⟩
noncomputable def F33_0s : SSh := ⟨47, [(3, (.ref 0 0)), (4, (.int .i64)), (11, (.imm 5)), (12, (.int .i64)), (13, (.int .i64)), (19, (.imm 3)), (20, (.int .i64)), (21, (.int .i64))], [(.usr 2)]⟩
noncomputable def F33_0 {R : Type} (n : Nat) (x21 : Int) (x22 : List (List Stp)) (x23 : Int) (x24 : Int) (x25 : List Stp) (x26 : Int) (x27 : Int) (x28 : (Nat × (List (List Int)))) (k0 : Int → List (List Stp) → Int → Int → List Stp → Int → Int → (Nat × (List (List Int))) → Option R) : Option R :=
  (bif (decide ((0 : Int) ≤ x27)) then
  (bif (decide (x27 < ((x25.length) : Int))) then
  let v29 := (x25.getD (x27.toNat) (Stp.mk (0 : Int) (0 : Int) ({ data := #[] } : ByteArray)))
  let v30 := v29.kind
  let v31 := v29.num
  (bif (v30 == (1 : Int)) then
  (bif (decide ((0 : Int) ≤ x21)) then
  (bif (decide (x21 < ((x28.2.length) : Int))) then
  let v34 := (x21.toNat)
  let v36 := (v31 :: [])
  (bif (decide (x28.1 = x28.1)) then
  (bif (decide ((((x28.2.getD v34 []).length) + (v36.length)) ≤ (68719476736 : Nat))) then
  let v37 := ((x28.1 + (1 : Nat)), (x28.2, v34))
  (bif (decide ((0 : Int) ≤ x21)) then
  (bif (decide (x21 < ((v37.2.1.length) : Int))) then
  let v39 := (x21.toNat)
  (bif (decide (v37.2.2 = v39)) then
  (k0 x21 x22 x23 x24 x25 x26 x27 ((v37.1 + (1 : Nat)), (v37.2.1.set v39 ((x28.2.getD v34 []) ++ v36))))
  else none)
  else none)
  else none)
  else none)
  else none)
  else none)
  else none)
  else (bif (v30 == (2 : Int)) then
  (bif (decide ((0 : Int) ≤ x21)) then
  (bif (decide (x21 < ((x28.2.length) : Int))) then
  let v42 := (x21.toNat)
  let v44 := (v31 :: [])
  (bif (decide (x28.1 = x28.1)) then
  (bif (decide ((((x28.2.getD v42 []).length) + (v44.length)) ≤ (68719476736 : Nat))) then
  let v45 := ((x28.1 + (1 : Nat)), (x28.2, v42))
  (bif (decide ((0 : Int) ≤ x21)) then
  (bif (decide (x21 < ((v45.2.1.length) : Int))) then
  let v47 := (x21.toNat)
  (bif (decide (v45.2.2 = v47)) then
  (k0 x21 x22 x23 x24 x25 x26 x27 ((v45.1 + (1 : Nat)), (v45.2.1.set v47 ((x28.2.getD v42 []) ++ v44))))
  else none)
  else none)
  else none)
  else none)
  else none)
  else none)
  else none)
  else (k0 x21 x22 x23 x24 x25 x26 x27 x28)))
  else none)
  else none)
noncomputable def F33_0z (n : Nat) : Sm G := inZ G 0 ⟨[3, 4, 11, 12, 13, 19, 20, 21], []⟩ F33_0s fun R x K => F33_0 n x.1.2.1 x.1.2.2.1 x.1.2.2.2.1 x.1.2.2.2.2.1 x.1.2.2.2.2.2.1 x.1.2.2.2.2.2.2.1 x.1.2.2.2.2.2.2.2.1 x.2.1 (fun u0 u1 u2 u3 u4 u5 u6 u7 => K .normal (SSh.enc G F33_0x0 (((), (u0, (u1, (u2, (u3, (u4, (u5, (u6, ())))))))), (u7, ()))))
theorem F33_0_eq (n : Nat) (R : Type) (x : SSh.den G F33_0s) (K : AE → St G → Option R) :
  F33_0 n x.1.2.1 x.1.2.2.1 x.1.2.2.2.1 x.1.2.2.2.2.1 x.1.2.2.2.2.2.1 x.1.2.2.2.2.2.2.1 x.1.2.2.2.2.2.2.2.1 x.2.1 (fun u0 u1 u2 u3 u4 u5 u6 u7 => K .normal (SSh.enc G F33_0x0 (((), (u0, (u1, (u2, (u3, (u4, (u5, (u6, ())))))))), (u7, ())))) = exec prog G (ro G (tabOf (E0 n)) (frOf []) R) 0 (codeAt F33c [1, 1, 0, 1, 0, 0, 1, 1, 0, 0, 1, 1, 0, 0, 1, 1, 0]) .no (SSh.enc G F33_0s x) (kNrm G (ro G (tabOf (E0 n)) (frOf []) R) 0 ⟨⟨[3, 4, 11, 12, 13, 19, 20, 21], []⟩, ⟨[2], []⟩, [(2, ⟨[3, 11, 12, 13], []⟩), (1, ⟨[3, 11, 12, 13], []⟩), (0, ⟨[3], []⟩)]⟩ K) := by kernel_rfl
theorem F33_0_ok (n : Nat) : FragOK prog G 0 (codeAt F33c [1, 1, 0, 1, 0, 0, 1, 1, 0, 0, 1, 1, 0, 0, 1, 1, 0]) (F33_0z n) :=
  frag_plain laws fnok (E0_ok n).tab (AllF.of (l := []) (by kernel_rfl) AllF.nil) (F33_0_eq n)
noncomputable def F33_1x0 : SSh := ⟨47, [(3, (.ref 0 0)), (11, (.imm 5)), (12, (.int .i64)), (13, (.int .i64))], [(.usr 2)]⟩
noncomputable def F33_1s : SSh := ⟨47, [(3, (.ref 0 0)), (4, (.int .i64)), (11, (.imm 5)), (12, (.int .i64)), (13, (.int .i64)), (19, (.imm 3)), (20, (.int .i64)), (21, (.int .i64))], [(.usr 2)]⟩
noncomputable def F33_1_step {R : Type} (n : Nat) (k0 : List (List Stp) → Int → Int → (Nat × (List (List Int))) → Option R) (rec : Int → List (List Stp) → Int → Int → List Stp → Int → Int → (Nat × (List (List Int))) → Option R) (x12 : Int) (x13 : List (List Stp)) (x14 : Int) (x15 : Int) (x16 : List Stp) (x17 : Int) (x18 : Int) (x19 : (Nat × (List (List Int)))) : Option R :=
  (bif (decide (x18 < x17)) then
  (F33_0 n x12 x13 x14 x15 x16 x17 x18 x19 (fun z49 z50 z51 z52 z53 z54 z55 z56 =>
  (rec z49 z50 z51 z52 z53 z54 (IntKind.wrap .i64 (z55 + (1 : Int))) z56)))
  else (k0 x13 x14 x15 x19))
noncomputable def F33_1_it {R : Type} (n : Nat) (k0 : List (List Stp) → Int → Int → (Nat × (List (List Int))) → Option R) : Nat → Int → List (List Stp) → Int → Int → List Stp → Int → Int → (Nat × (List (List Int))) → Option R
  | 0, _, _, _, _, _, _, _, _ => none
  | k + 1, x12, x13, x14, x15, x16, x17, x18, x19 => F33_1_step n k0 (F33_1_it n k0 k) x12 x13 x14 x15 x16 x17 x18 x19
noncomputable def F33_1 {R : Type} (n : Nat) (x12 : Int) (x13 : List (List Stp)) (x14 : Int) (x15 : Int) (x16 : List Stp) (x17 : Int) (x18 : Int) (x19 : (Nat × (List (List Int)))) (k0 : List (List Stp) → Int → Int → (Nat × (List (List Int))) → Option R) : Option R := F33_1_it n k0 n x12 x13 x14 x15 x16 x17 x18 x19
noncomputable def F33_1z (n : Nat) : Sm G := inZ G 0 ⟨[3, 4, 11, 12, 13, 19, 20, 21], []⟩ F33_1s fun R x K => F33_1_it n (fun u0 u1 u2 u3 => K (.exit 2) (SSh.enc G F33_1x0 (((), (u0, (u1, (u2, ())))), (u3, ())))) n x.1.2.1 x.1.2.2.1 x.1.2.2.2.1 x.1.2.2.2.2.1 x.1.2.2.2.2.2.1 x.1.2.2.2.2.2.2.1 x.1.2.2.2.2.2.2.2.1 x.2.1
theorem F33_1_eq (n : Nat) (R : Type) (rec : SSh.den G F33_1s → Option R) (x : SSh.den G F33_1s) (K : AE → St G → Option R) :
  F33_1_step n (fun u0 u1 u2 u3 => K (.exit 2) (SSh.enc G F33_1x0 (((), (u0, (u1, (u2, ())))), (u3, ())))) (fun x12 x13 x14 x15 x16 x17 x18 x19 => rec (((), (x12, (x13, (x14, (x15, (x16, (x17, (x18, ())))))))), (x19, ()))) x.1.2.1 x.1.2.2.1 x.1.2.2.2.1 x.1.2.2.2.2.1 x.1.2.2.2.2.2.1 x.1.2.2.2.2.2.2.1 x.1.2.2.2.2.2.2.2.1 x.2.1 = exec prog G (ro G (tabOf (E0 n)) (frOf [F33_0z n]) R) 0 (codeAt F33c [1, 1, 0, 1, 0, 0, 1, 1, 0, 0, 1, 1, 0, 0]) (.nd .no (.nd .no (.nd (.use 0) .no))) (SSh.enc G F33_1s x) (kLoop G (ro G (tabOf (E0 n)) (frOf [F33_0z n]) R) 0 ⟨[3, 4, 11, 12, 13, 19, 20, 21], []⟩ F33_1s ⟨⟨[3, 11, 12, 13], []⟩, ⟨[2], []⟩, [(2, ⟨[3, 11, 12, 13], []⟩), (1, ⟨[3, 11, 12, 13], []⟩), (0, ⟨[3], []⟩)]⟩ rec K) := by kernel_rfl
theorem F33_1_ok (n : Nat) : FragOK prog G 0 (codeAt F33c [1, 1, 0, 1, 0, 0, 1, 1, 0, 0, 1, 1, 0]) (F33_1z n) :=
  frag_loop (Z := fun R k (x : SSh.den G F33_1s) K => F33_1_it n (fun u0 u1 u2 u3 => K (.exit 2) (SSh.enc G F33_1x0 (((), (u0, (u1, (u2, ())))), (u3, ())))) k x.1.2.1 x.1.2.2.1 x.1.2.2.2.1 x.1.2.2.2.2.1 x.1.2.2.2.2.2.1 x.1.2.2.2.2.2.2.1 x.1.2.2.2.2.2.2.2.1 x.2.1) laws fnok (E0_ok n).tab (AllF.of (l := [(0, codeAt F33c [1, 1, 0, 1, 0, 0, 1, 1, 0, 0, 1, 1, 0, 0, 1, 1, 0])]) (by kernel_rfl) (AllF.cons (F33_0_ok n) AllF.nil)) (fun _ _ _ => rfl) (fun R k y K => F33_1_eq n R (fun (x : SSh.den G F33_1s) => F33_1_it n (fun u0 u1 u2 u3 => K (.exit 2) (SSh.enc G F33_1x0 (((), (u0, (u1, (u2, ())))), (u3, ())))) k x.1.2.1 x.1.2.2.1 x.1.2.2.2.1 x.1.2.2.2.2.1 x.1.2.2.2.2.2.1 x.1.2.2.2.2.2.2.1 x.1.2.2.2.2.2.2.2.1 x.2.1) y K) n
noncomputable def F33_2x0 : SSh := ⟨47, [(3, (.ref 0 0))], [(.usr 2)]⟩
noncomputable def F33_2s : SSh := ⟨47, [(3, (.ref 0 0)), (11, (.imm 5)), (12, (.int .i64)), (13, (.int .i64))], [(.usr 2)]⟩
noncomputable def F33_2_step {R : Type} (n : Nat) (k0 : (Nat × (List (List Int))) → Option R) (rec : List (List Stp) → Int → Int → (Nat × (List (List Int))) → Option R) (x4 : List (List Stp)) (x5 : Int) (x6 : Int) (x7 : (Nat × (List (List Int)))) : Option R :=
  (bif (decide (x6 < x5)) then
  (bif (decide ((0 : Int) ≤ x6)) then
  (bif (decide (x6 < ((x4.length) : Int))) then
  let v10 := (x4.getD (x6.toNat) [])
  (F33_1 n x6 x4 x5 x6 v10 ((v10.length) : Int) (0 : Int) x7 (fun z58 z59 z60 z61 =>
  (rec z58 z59 (IntKind.wrap .i64 (z60 + (1 : Int))) z61)))
  else none)
  else none)
  else (k0 x7))
noncomputable def F33_2_it {R : Type} (n : Nat) (k0 : (Nat × (List (List Int))) → Option R) : Nat → List (List Stp) → Int → Int → (Nat × (List (List Int))) → Option R
  | 0, _, _, _, _ => none
  | k + 1, x4, x5, x6, x7 => F33_2_step n k0 (F33_2_it n k0 k) x4 x5 x6 x7
noncomputable def F33_2 {R : Type} (n : Nat) (x4 : List (List Stp)) (x5 : Int) (x6 : Int) (x7 : (Nat × (List (List Int)))) (k0 : (Nat × (List (List Int))) → Option R) : Option R := F33_2_it n k0 n x4 x5 x6 x7
noncomputable def F33_2z (n : Nat) : Sm G := inZ G 0 ⟨[3, 11, 12, 13], []⟩ F33_2s fun R x K => F33_2_it n (fun u0 => K (.exit 0) (SSh.enc G F33_2x0 (((), ()), (u0, ())))) n x.1.2.1 x.1.2.2.1 x.1.2.2.2.1 x.2.1
theorem F33_2_eq (n : Nat) (R : Type) (rec : SSh.den G F33_2s → Option R) (x : SSh.den G F33_2s) (K : AE → St G → Option R) :
  F33_2_step n (fun u0 => K (.exit 0) (SSh.enc G F33_2x0 (((), ()), (u0, ())))) (fun x4 x5 x6 x7 => rec (((), (x4, (x5, (x6, ())))), (x7, ()))) x.1.2.1 x.1.2.2.1 x.1.2.2.2.1 x.2.1 = exec prog G (ro G (tabOf (E0 n)) (frOf [F33_0z n, F33_1z n]) R) 0 (codeAt F33c [1, 1, 0, 1, 0, 0]) (.nd .no (.nd .no (.nd (.nd (.nd .no (.nd .no (.nd (.use 1) .no))) .no) .no))) (SSh.enc G F33_2s x) (kLoop G (ro G (tabOf (E0 n)) (frOf [F33_0z n, F33_1z n]) R) 0 ⟨[3, 11, 12, 13], []⟩ F33_2s ⟨⟨[3], []⟩, ⟨[2], []⟩, [(0, ⟨[3], []⟩)]⟩ rec K) := by kernel_rfl
theorem F33_2_ok (n : Nat) : FragOK prog G 0 (codeAt F33c [1, 1, 0, 1, 0]) (F33_2z n) :=
  frag_loop (Z := fun R k (x : SSh.den G F33_2s) K => F33_2_it n (fun u0 => K (.exit 0) (SSh.enc G F33_2x0 (((), ()), (u0, ())))) k x.1.2.1 x.1.2.2.1 x.1.2.2.2.1 x.2.1) laws fnok (E0_ok n).tab (AllF.of (l := [(1, codeAt F33c [1, 1, 0, 1, 0, 0, 1, 1, 0, 0, 1, 1, 0])]) (by kernel_rfl) (AllF.cons (F33_1_ok n) AllF.nil)) (fun _ _ _ => rfl) (fun R k y K => F33_2_eq n R (fun (x : SSh.den G F33_2s) => F33_2_it n (fun u0 => K (.exit 0) (SSh.enc G F33_2x0 (((), ()), (u0, ())))) k x.1.2.1 x.1.2.2.1 x.1.2.2.2.1 x.2.1) y K) n
noncomputable def F33 (n : Nat) (a0 : List (List Stp)) : Option (List (List Int) × Unit) :=
  let v1 := ((a0.length) : Int)
  (bif (decide ((0 : Int) ≤ v1)) then
  (bif (decide (v1 ≤ v1)) then
  (bif (decide (v1 ≤ ((68719476736 : Nat) : Int))) then
  (F33_2 n a0 ((a0.length) : Int) (0 : Int) ((0 : Nat), (List.replicate (v1.toNat) [])) (fun z63 =>
  some (z63.2, ())))
  else none)
  else none)
  else none)
noncomputable def F33e (n : Nat) : Ent G := ⟨33, (.cons (.imm 5) .nil), [], (.imm 2), [], fun x y => F33 n x.1⟩
theorem F33_eq (n : Nat) (x : ShL.den G (.cons (.imm 5) .nil)) (y : denO G []) : (F33e n).F x y = runFn prog G (ro G (tabOf (E0 n)) (frOf [F33_0z n, F33_1z n, F33_2z n]) _) Go.Proofs.Try.f33 (.nd .no (.nd .no (.nd (.nd .no (.nd (.use 2) .no)) .no))) [(0, .fz)] (ShL.enc G (.cons (.imm 5) .nil) x) (encO G [] y) (decR (.imm 2) []) := by kernel_rfl
theorem F33_ok (n : Nat) : EntOK prog G (F33e n) :=
  ent_ok (fr := frOf [F33_0z n, F33_1z n, F33_2z n]) (ann := (.nd .no (.nd .no (.nd (.nd .no (.nd (.use 2) .no)) .no)))) (frm := [(0, .fz)]) laws fnok (E0_ok n).tab (e := F33e n) (fn := Go.Proofs.Try.f33) (by kernel_rfl) (AllF.ofB (cd := F33c) (l := [(2, codeAt F33c [1, 1, 0, 1, 0])]) (by kernel_rfl) (by kernel_rfl) (AllF.cons (F33_2_ok n) AllF.nil)) (F33_eq n)
noncomputable def E1 (n : Nat) : List (Ent G) := F33e n :: E0 n
theorem E1_ok (n : Nat) : AllE prog G (E1 n) := AllE.cons (F33_ok n) (E0_ok n)
-- 51 slices.Clone[[]int,int]
noncomputable def F51c : Code := bodyOf Go.Proofs.Try.f51
noncomputable def F51 (n : Nat) (a69 : List Int) : Option (Unit × (List Int × Unit)) :=
  (bif (decide ((a69.length) ≤ (0 : Nat))) then
  (both
  (some ((), ([], ())))
  (let v71 := []
  (bif (decide (((v71.length) + (a69.length)) ≤ (68719476736 : Nat))) then
  some ((), ((v71 ++ a69), ()))
  else none)))
  else let v73 := []
  (bif (decide (((v73.length) + (a69.length)) ≤ (68719476736 : Nat))) then
  some ((), ((v73 ++ a69), ()))
  else none))
noncomputable def F51e (n : Nat) : Ent G := ⟨51, (.cons (.imm 0) .nil), [], (.own 0), [(.arr 0 true)], fun x y => F51 n x.1⟩
theorem F51_eq (n : Nat) (x : ShL.den G (.cons (.imm 0) .nil)) (y : denO G []) : (F51e n).F x y = runFn prog G (ro G (tabOf (E1 n)) (frOf []) _) Go.Proofs.Try.f51 .no [(0, (.own 0))] (ShL.enc G (.cons (.imm 0) .nil) x) (encO G [] y) (decR (.own 0) [(.arr 0 true)]) := by kernel_rfl
theorem F51_ok (n : Nat) : EntOK prog G (F51e n) :=
  ent_ok (fr := frOf []) (ann := .no) (frm := [(0, (.own 0))]) laws fnok (E1_ok n).tab (e := F51e n) (fn := Go.Proofs.Try.f51) (by kernel_rfl) (AllF.ofB (cd := F51c) (l := []) (by kernel_rfl) (by kernel_rfl) AllF.nil) (F51_eq n)
noncomputable def E2 (n : Nat) : List (Ent G) := F51e n :: E1 n
theorem E2_ok (n : Nat) : AllE prog G (E2 n) := AllE.cons (F51_ok n) (E1_ok n)
-- 32 loop.example/slowworm/impl.reached
noncomputable def F32c : Code := bodyOf Go.Proofs.Try.f32
noncomputable def F32_0x0 : SSh := ⟨42, [(5, (.own 0))], [(.arr 1 true)]⟩
noncomputable def F32_0s : SSh := ⟨42, [(0, (.imm 2)), (5, (.own 0)), (6, (.own 1))], [(.arr 1 true), (.arr 0 true)]⟩
noncomputable def F32_0_step {R : Type} (n : Nat) (k0 : List Bool → Option R) (rec : List (List Int) → List Bool → List Int → Option R) (x101 : List (List Int)) (x102 : List Bool) (x103 : List Int) : Option R :=
  (bif (decide (((x103.length) : Int) > (0 : Int))) then
  let v107 := (IntKind.wrap .i64 (((x103.length) : Int) - (1 : Int)))
  (bif (decide ((0 : Int) ≤ v107)) then
  (bif (decide (v107 < ((x103.length) : Int))) then
  let v109 := (x103.getD (v107.toNat) (0 : Int))
  let v111 := (IntKind.wrap .i64 (((x103.length) : Int) - (1 : Int)))
  (bif (decide ((0 : Int) ≤ v111)) then
  (bif (decide (v111 ≤ ((x103.length) : Int))) then
  let v112 := (v111.toNat)
  (bif (decide ((0 : Int) ≤ v109)) then
  (bif (decide (v109 < ((x102.length) : Int))) then
  (bif (!(x102.getD (v109.toNat) false)) then
  (bif (decide ((0 : Int) ≤ v109)) then
  (bif (decide (v109 < ((x102.length) : Int))) then
  (bif (decide ((0 : Int) ≤ v109)) then
  (bif (decide (v109 < ((x101.length) : Int))) then
  let v119 := (x101.getD (v109.toNat) [])
  (bif (decide ((((x103.take v112).length) + (v119.length)) ≤ (68719476736 : Nat))) then
  (rec x101 (x102.set (v109.toNat) true) ((x103.take v112) ++ v119))
  else none)
  else none)
  else none)
  else none)
  else none)
  else (rec x101 x102 (x103.take v112)))
  else none)
  else none)
  else none)
  else none)
  else none)
  else none)
  else (k0 x102))
noncomputable def F32_0_it {R : Type} (n : Nat) (k0 : List Bool → Option R) : Nat → List (List Int) → List Bool → List Int → Option R
  | 0, _, _, _ => none
  | k + 1, x101, x102, x103 => F32_0_step n k0 (F32_0_it n k0 k) x101 x102 x103
noncomputable def F32_0 {R : Type} (n : Nat) (x101 : List (List Int)) (x102 : List Bool) (x103 : List Int) (k0 : List Bool → Option R) : Option R := F32_0_it n k0 n x101 x102 x103
noncomputable def F32_0z (n : Nat) : Sm G := inZ G 0 ⟨[0, 5, 6], [(6, (.mv 0))]⟩ F32_0s fun R x K => F32_0_it n (fun u0 => K (.exit 0) (SSh.enc G F32_0x0 (((), ()), (u0, ())))) n x.1.1 x.2.1 x.2.2.1
theorem F32_0_eq (n : Nat) (R : Type) (rec : SSh.den G F32_0s → Option R) (x : SSh.den G F32_0s) (K : AE → St G → Option R) :
  F32_0_step n (fun u0 => K (.exit 0) (SSh.enc G F32_0x0 (((), ()), (u0, ())))) (fun x101 x102 x103 => rec ((x101, ((), ((), ()))), (x102, (x103, ())))) x.1.1 x.2.1 x.2.2.1 = exec prog G (ro G (tabOf (E2 n)) (frOf []) R) 0 (codeAt F32c [1, 1, 1, 0, 0, 0]) .no (SSh.enc G F32_0s x) (kLoop G (ro G (tabOf (E2 n)) (frOf []) R) 0 ⟨[0, 5, 6], [(6, (.mv 0))]⟩ F32_0s ⟨⟨[5], []⟩, ⟨[4], []⟩, [(0, ⟨[5], []⟩)]⟩ rec K) := by kernel_rfl
theorem F32_0_ok (n : Nat) : FragOK prog G 0 (codeAt F32c [1, 1, 1, 0, 0]) (F32_0z n) :=
  frag_loop (Z := fun R k (x : SSh.den G F32_0s) K => F32_0_it n (fun u0 => K (.exit 0) (SSh.enc G F32_0x0 (((), ()), (u0, ())))) k x.1.1 x.2.1 x.2.2.1) laws fnok (E2_ok n).tab (AllF.of (l := []) (by kernel_rfl) AllF.nil) (fun _ _ _ => rfl) (fun R k y K => F32_0_eq n R (fun (x : SSh.den G F32_0s) => F32_0_it n (fun u0 => K (.exit 0) (SSh.enc G F32_0x0 (((), ()), (u0, ())))) k x.1.1 x.2.1 x.2.2.1) y K) n
noncomputable def F32 (n : Nat) (a96 : List (List Int)) (a97 : List Int) : Option (Unit × (List Bool × Unit)) :=
  let v98 := ((a96.length) : Int)
  (bif (decide ((0 : Int) ≤ v98)) then
  (bif (decide (v98 ≤ v98)) then
  (bif (decide (v98 ≤ ((68719476736 : Nat) : Int))) then
  (andThen (F51 n a97) fun r100 =>
  (F32_0 n a96 (List.replicate (v98.toNat) false) r100.2.1 (fun z122 =>
  some ((), (z122, ())))))
  else none)
  else none)
  else none)
noncomputable def F32e (n : Nat) : Ent G := ⟨32, (.cons (.imm 2) (.cons (.imm 0) .nil)), [], (.own 0), [(.arr 1 true)], fun x y => F32 n x.1 x.2.1⟩
theorem F32_eq (n : Nat) (x : ShL.den G (.cons (.imm 2) (.cons (.imm 0) .nil))) (y : denO G []) : (F32e n).F x y = runFn prog G (ro G (tabOf (E2 n)) (frOf [F32_0z n]) _) Go.Proofs.Try.f32 (.nd .no (.nd .no (.nd .no (.nd (.nd (.use 0) .no) .no)))) [(0, (.own 1))] (ShL.enc G (.cons (.imm 2) (.cons (.imm 0) .nil)) x) (encO G [] y) (decR (.own 0) [(.arr 1 true)]) := by kernel_rfl
theorem F32_ok (n : Nat) : EntOK prog G (F32e n) :=
  ent_ok (fr := frOf [F32_0z n]) (ann := (.nd .no (.nd .no (.nd .no (.nd (.nd (.use 0) .no) .no))))) (frm := [(0, (.own 1))]) laws fnok (E2_ok n).tab (e := F32e n) (fn := Go.Proofs.Try.f32) (by kernel_rfl) (AllF.ofB (cd := F32c) (l := [(0, codeAt F32c [1, 1, 1, 0, 0])]) (by kernel_rfl) (by kernel_rfl) (AllF.cons (F32_0_ok n) AllF.nil)) (F32_eq n)
noncomputable def E3 (n : Nat) : List (Ent G) := F32e n :: E2 n
theorem E3_ok (n : Nat) : AllE prog G (E3 n) := AllE.cons (F32_ok n) (E2_ok n)
-- 3 loop.example/slowworm/laws.FnExactImportNeeds
noncomputable def F3c : Code := bodyOf Go.Proofs.Try.f3
-- 7 loop.example/slowworm/laws.szModS
noncomputable def F7c : Code := bodyOf Go.Proofs.Try.f7
-- 23 loop.example/slowworm/laws.szMod
noncomputable def F23c : Code := bodyOf Go.Proofs.Try.f23
-- 46 loop.example/slowworm/laws.szModStepS
noncomputable def F46c : Code := bodyOf Go.Proofs.Try.f46
-- 61 loop.example/slowworm/laws.szModStep
noncomputable def F61c : Code := bodyOf Go.Proofs.Try.f61
noncomputable def F61 (n : Nat) (a153 : Int) (a154 : Int) (a155 : ByteArray) (a156 : Int) : Option (Int × Unit) :=
  let v158 := (IntKind.wrap .i64 (a156 - ((a155.size) : Int)))
  (bif (decide (v158 < (0 : Int))) then
  some ((-1 : Int), ())
  else some (v158, ()))
noncomputable def F61e (n : Nat) : Ent G := ⟨61, (.cons (.agg (.cons (.int .i64) (.cons (.int .i64) (.cons .str .nil)))) (.cons (.int .i64) .nil)), [], (.int .i64), [], fun x y => F61 n x.1.1 x.1.2.1 x.1.2.2.1 x.2.1⟩
theorem F61_eq (n : Nat) (x : ShL.den G (.cons (.agg (.cons (.int .i64) (.cons (.int .i64) (.cons .str .nil)))) (.cons (.int .i64) .nil))) (y : denO G []) : (F61e n).F x y = runFn prog G (ro G (tabOf (E3 n)) (frOf []) _) Go.Proofs.Try.f61 .no [(0, .fz)] (ShL.enc G (.cons (.agg (.cons (.int .i64) (.cons (.int .i64) (.cons .str .nil)))) (.cons (.int .i64) .nil)) x) (encO G [] y) (decR (.int .i64) []) := by kernel_rfl
theorem F61_ok (n : Nat) : EntOK prog G (F61e n) :=
  ent_ok (fr := frOf []) (ann := .no) (frm := [(0, .fz)]) laws fnok (E3_ok n).tab (e := F61e n) (fn := Go.Proofs.Try.f61) (by kernel_rfl) (AllF.ofB (cd := F61c) (l := []) (by kernel_rfl) (by kernel_rfl) AllF.nil) (F61_eq n)
noncomputable def E4 (n : Nat) : List (Ent G) := F61e n :: E3 n
theorem E4_ok (n : Nat) : AllE prog G (E4 n) := AllE.cons (F61_ok n) (E3_ok n)
noncomputable def F46_0x0 : SSh := ⟨27, [(4, (.int .i64))], []⟩
noncomputable def F46_0x1 : SSh := ⟨27, [(1, (.int .i64))], []⟩
noncomputable def F46_0s : SSh := ⟨27, [(0, (.imm 4)), (1, (.int .i64)), (5, (.int .i64))], []⟩
noncomputable def F46_0_step {R : Type} (n : Nat) (k0 : Int → Option R) (k1 : Int → Option R) (rec : List Stp → Int → Int → Option R) (x144 : List Stp) (x145 : Int) (x146 : Int) : Option R :=
  (bif (decide (x146 < ((x144.length) : Int))) then
  (bif (decide ((0 : Int) ≤ x146)) then
  (bif (decide (x146 < ((x144.length) : Int))) then
  let v149 := (x144.getD (x146.toNat) (Stp.mk (0 : Int) (0 : Int) ({ data := #[] } : ByteArray)))
  (andThen (F61 n v149.kind v149.num v149.name x145) fun r160 =>
  (bif (decide (r160.1 < (0 : Int))) then
  (k0 (-1 : Int))
  else (rec x144 r160.1 (IntKind.wrap .i64 (x146 + (1 : Int))))))
  else none)
  else none)
  else (k1 x145))
noncomputable def F46_0_it {R : Type} (n : Nat) (k0 : Int → Option R) (k1 : Int → Option R) : Nat → List Stp → Int → Int → Option R
  | 0, _, _, _ => none
  | k + 1, x144, x145, x146 => F46_0_step n k0 k1 (F46_0_it n k0 k1 k) x144 x145 x146
noncomputable def F46_0 {R : Type} (n : Nat) (x144 : List Stp) (x145 : Int) (x146 : Int) (k0 : Int → Option R) (k1 : Int → Option R) : Option R := F46_0_it n k0 k1 n x144 x145 x146
noncomputable def F46_0z (n : Nat) : Sm G := inZ G 0 ⟨[0, 1, 5], []⟩ F46_0s fun R x K => F46_0_it n (fun u0 => K .ret (SSh.enc G F46_0x0 ((u0, ()), ()))) (fun u0 => K (.exit 0) (SSh.enc G F46_0x1 ((u0, ()), ()))) n x.1.1 x.1.2.1 x.1.2.2.1
theorem F46_0_eq (n : Nat) (R : Type) (rec : SSh.den G F46_0s → Option R) (x : SSh.den G F46_0s) (K : AE → St G → Option R) :
  F46_0_step n (fun u0 => K .ret (SSh.enc G F46_0x0 ((u0, ()), ()))) (fun u0 => K (.exit 0) (SSh.enc G F46_0x1 ((u0, ()), ()))) (fun x144 x145 x146 => rec ((x144, (x145, (x146, ()))), ())) x.1.1 x.1.2.1 x.1.2.2.1 = exec prog G (ro G (tabOf (E4 n)) (frOf []) R) 0 (codeAt F46c [1, 1, 1, 0, 1, 0, 0]) .no (SSh.enc G F46_0s x) (kLoop G (ro G (tabOf (E4 n)) (frOf []) R) 0 ⟨[0, 1, 5], []⟩ F46_0s ⟨⟨[1], []⟩, ⟨[4], []⟩, [(0, ⟨[1], []⟩)]⟩ rec K) := by kernel_rfl
theorem F46_0_ok (n : Nat) : FragOK prog G 0 (codeAt F46c [1, 1, 1, 0, 1, 0]) (F46_0z n) :=
  frag_loop (Z := fun R k (x : SSh.den G F46_0s) K => F46_0_it n (fun u0 => K .ret (SSh.enc G F46_0x0 ((u0, ()), ()))) (fun u0 => K (.exit 0) (SSh.enc G F46_0x1 ((u0, ()), ()))) k x.1.1 x.1.2.1 x.1.2.2.1) laws fnok (E4_ok n).tab (AllF.of (l := []) (by kernel_rfl) AllF.nil) (fun _ _ _ => rfl) (fun R k y K => F46_0_eq n R (fun (x : SSh.den G F46_0s) => F46_0_it n (fun u0 => K .ret (SSh.enc G F46_0x0 ((u0, ()), ()))) (fun u0 => K (.exit 0) (SSh.enc G F46_0x1 ((u0, ()), ()))) k x.1.1 x.1.2.1 x.1.2.2.1) y K) n
noncomputable def F46 (n : Nat) (a139 : List Stp) (a140 : Int) : Option (Int × Unit) :=
  let v142 := (IntKind.wrap .i64 (a140 - ((a139.length) : Int)))
  (bif (decide (v142 < (0 : Int))) then
  some ((-1 : Int), ())
  else (F46_0 n a139 v142 (0 : Int) (fun z163 =>
  some (z163, ())) (fun z164 =>
  some (z164, ()))))
noncomputable def F46e (n : Nat) : Ent G := ⟨46, (.cons (.imm 4) (.cons (.int .i64) .nil)), [], (.int .i64), [], fun x y => F46 n x.1 x.2.1⟩
theorem F46_eq (n : Nat) (x : ShL.den G (.cons (.imm 4) (.cons (.int .i64) .nil))) (y : denO G []) : (F46e n).F x y = runFn prog G (ro G (tabOf (E4 n)) (frOf [F46_0z n]) _) Go.Proofs.Try.f46 (.nd .no (.nd .no (.nd .no (.nd (.nd .no (.nd (.use 0) .no)) .no)))) [(0, .fz)] (ShL.enc G (.cons (.imm 4) (.cons (.int .i64) .nil)) x) (encO G [] y) (decR (.int .i64) []) := by kernel_rfl
theorem F46_ok (n : Nat) : EntOK prog G (F46e n) :=
  ent_ok (fr := frOf [F46_0z n]) (ann := (.nd .no (.nd .no (.nd .no (.nd (.nd .no (.nd (.use 0) .no)) .no))))) (frm := [(0, .fz)]) laws fnok (E4_ok n).tab (e := F46e n) (fn := Go.Proofs.Try.f46) (by kernel_rfl) (AllF.ofB (cd := F46c) (l := [(0, codeAt F46c [1, 1, 1, 0, 1, 0])]) (by kernel_rfl) (by kernel_rfl) (AllF.cons (F46_0_ok n) AllF.nil)) (F46_eq n)
noncomputable def E5 (n : Nat) : List (Ent G) := F46e n :: E4 n
theorem E5_ok (n : Nat) : AllE prog G (E5 n) := AllE.cons (F46_ok n) (E4_ok n)
noncomputable def F23 (n : Nat) (a137 : List Stp) (a138 : Int) : Option (Int × Unit) :=
  (andThen (F46 n a137 a138) fun r165 =>
  (bif (decide (r165.1 < (0 : Int))) then
  some ((-1 : Int), ())
  else some (r165.1, ())))
noncomputable def F23e (n : Nat) : Ent G := ⟨23, (.cons (.agg (.cons (.imm 4) .nil)) (.cons (.int .i64) .nil)), [], (.int .i64), [], fun x y => F23 n x.1.1 x.2.1⟩
theorem F23_eq (n : Nat) (x : ShL.den G (.cons (.agg (.cons (.imm 4) .nil)) (.cons (.int .i64) .nil))) (y : denO G []) : (F23e n).F x y = runFn prog G (ro G (tabOf (E5 n)) (frOf []) _) Go.Proofs.Try.f23 .no [(0, .fz)] (ShL.enc G (.cons (.agg (.cons (.imm 4) .nil)) (.cons (.int .i64) .nil)) x) (encO G [] y) (decR (.int .i64) []) := by kernel_rfl
theorem F23_ok (n : Nat) : EntOK prog G (F23e n) :=
  ent_ok (fr := frOf []) (ann := .no) (frm := [(0, .fz)]) laws fnok (E5_ok n).tab (e := F23e n) (fn := Go.Proofs.Try.f23) (by kernel_rfl) (AllF.ofB (cd := F23c) (l := []) (by kernel_rfl) (by kernel_rfl) AllF.nil) (F23_eq n)
noncomputable def E6 (n : Nat) : List (Ent G) := F23e n :: E5 n
theorem E6_ok (n : Nat) : AllE prog G (E6 n) := AllE.cons (F23_ok n) (E5_ok n)
noncomputable def F7_0x0 : SSh := ⟨27, [(4, (.int .i64))], []⟩
noncomputable def F7_0x1 : SSh := ⟨27, [(1, (.int .i64))], []⟩
noncomputable def F7_0s : SSh := ⟨27, [(0, (.imm 6)), (1, (.int .i64)), (5, (.int .i64))], []⟩
noncomputable def F7_0_step {R : Type} (n : Nat) (k0 : Int → Option R) (k1 : Int → Option R) (rec : List (List Stp) → Int → Int → Option R) (x130 : List (List Stp)) (x131 : Int) (x132 : Int) : Option R :=
  (bif (decide (x132 < ((x130.length) : Int))) then
  (bif (decide ((0 : Int) ≤ x132)) then
  (bif (decide (x132 < ((x130.length) : Int))) then
  (andThen (F23 n (x130.getD (x132.toNat) []) x131) fun r167 =>
  (bif (decide (r167.1 < (0 : Int))) then
  (k0 (-1 : Int))
  else (rec x130 r167.1 (IntKind.wrap .i64 (x132 + (1 : Int))))))
  else none)
  else none)
  else (k1 x131))
noncomputable def F7_0_it {R : Type} (n : Nat) (k0 : Int → Option R) (k1 : Int → Option R) : Nat → List (List Stp) → Int → Int → Option R
  | 0, _, _, _ => none
  | k + 1, x130, x131, x132 => F7_0_step n k0 k1 (F7_0_it n k0 k1 k) x130 x131 x132
noncomputable def F7_0 {R : Type} (n : Nat) (x130 : List (List Stp)) (x131 : Int) (x132 : Int) (k0 : Int → Option R) (k1 : Int → Option R) : Option R := F7_0_it n k0 k1 n x130 x131 x132
noncomputable def F7_0z (n : Nat) : Sm G := inZ G 0 ⟨[0, 1, 5], []⟩ F7_0s fun R x K => F7_0_it n (fun u0 => K .ret (SSh.enc G F7_0x0 ((u0, ()), ()))) (fun u0 => K (.exit 0) (SSh.enc G F7_0x1 ((u0, ()), ()))) n x.1.1 x.1.2.1 x.1.2.2.1
theorem F7_0_eq (n : Nat) (R : Type) (rec : SSh.den G F7_0s → Option R) (x : SSh.den G F7_0s) (K : AE → St G → Option R) :
  F7_0_step n (fun u0 => K .ret (SSh.enc G F7_0x0 ((u0, ()), ()))) (fun u0 => K (.exit 0) (SSh.enc G F7_0x1 ((u0, ()), ()))) (fun x130 x131 x132 => rec ((x130, (x131, (x132, ()))), ())) x.1.1 x.1.2.1 x.1.2.2.1 = exec prog G (ro G (tabOf (E6 n)) (frOf []) R) 0 (codeAt F7c [1, 1, 1, 0, 1, 0, 0]) .no (SSh.enc G F7_0s x) (kLoop G (ro G (tabOf (E6 n)) (frOf []) R) 0 ⟨[0, 1, 5], []⟩ F7_0s ⟨⟨[1], []⟩, ⟨[4], []⟩, [(0, ⟨[1], []⟩)]⟩ rec K) := by kernel_rfl
theorem F7_0_ok (n : Nat) : FragOK prog G 0 (codeAt F7c [1, 1, 1, 0, 1, 0]) (F7_0z n) :=
  frag_loop (Z := fun R k (x : SSh.den G F7_0s) K => F7_0_it n (fun u0 => K .ret (SSh.enc G F7_0x0 ((u0, ()), ()))) (fun u0 => K (.exit 0) (SSh.enc G F7_0x1 ((u0, ()), ()))) k x.1.1 x.1.2.1 x.1.2.2.1) laws fnok (E6_ok n).tab (AllF.of (l := []) (by kernel_rfl) AllF.nil) (fun _ _ _ => rfl) (fun R k y K => F7_0_eq n R (fun (x : SSh.den G F7_0s) => F7_0_it n (fun u0 => K .ret (SSh.enc G F7_0x0 ((u0, ()), ()))) (fun u0 => K (.exit 0) (SSh.enc G F7_0x1 ((u0, ()), ()))) k x.1.1 x.1.2.1 x.1.2.2.1) y K) n
noncomputable def F7 (n : Nat) (a125 : List (List Stp)) (a126 : Int) : Option (Int × Unit) :=
  let v128 := (IntKind.wrap .i64 (a126 - ((a125.length) : Int)))
  (bif (decide (v128 < (0 : Int))) then
  some ((-1 : Int), ())
  else (F7_0 n a125 v128 (0 : Int) (fun z170 =>
  some (z170, ())) (fun z171 =>
  some (z171, ()))))
noncomputable def F7e (n : Nat) : Ent G := ⟨7, (.cons (.imm 6) (.cons (.int .i64) .nil)), [], (.int .i64), [], fun x y => F7 n x.1 x.2.1⟩
theorem F7_eq (n : Nat) (x : ShL.den G (.cons (.imm 6) (.cons (.int .i64) .nil))) (y : denO G []) : (F7e n).F x y = runFn prog G (ro G (tabOf (E6 n)) (frOf [F7_0z n]) _) Go.Proofs.Try.f7 (.nd .no (.nd .no (.nd .no (.nd (.nd .no (.nd (.use 0) .no)) .no)))) [(0, .fz)] (ShL.enc G (.cons (.imm 6) (.cons (.int .i64) .nil)) x) (encO G [] y) (decR (.int .i64) []) := by kernel_rfl
theorem F7_ok (n : Nat) : EntOK prog G (F7e n) :=
  ent_ok (fr := frOf [F7_0z n]) (ann := (.nd .no (.nd .no (.nd .no (.nd (.nd .no (.nd (.use 0) .no)) .no))))) (frm := [(0, .fz)]) laws fnok (E6_ok n).tab (e := F7e n) (fn := Go.Proofs.Try.f7) (by kernel_rfl) (AllF.ofB (cd := F7c) (l := [(0, codeAt F7c [1, 1, 1, 0, 1, 0])]) (by kernel_rfl) (by kernel_rfl) (AllF.cons (F7_0_ok n) AllF.nil)) (F7_eq n)
noncomputable def E7 (n : Nat) : List (Ent G) := F7e n :: E6 n
theorem E7_ok (n : Nat) : AllE prog G (E7 n) := AllE.cons (F7_ok n) (E6_ok n)
-- 9 loop.example/slowworm/laws.toModS
noncomputable def F9c : Code := bodyOf Go.Proofs.Try.f9
-- 29 loop.example/slowworm/laws.toMod
noncomputable def F29c : Code := bodyOf Go.Proofs.Try.f29
-- 48 loop.example/slowworm/laws.toModStepS
noncomputable def F48c : Code := bodyOf Go.Proofs.Try.f48
-- 65 loop.example/slowworm/laws.toModStep
noncomputable def F65c : Code := bodyOf Go.Proofs.Try.f65
noncomputable def F65 (n : Nat) (a197 : Int) (a198 : Int) (a199 : ByteArray) : Option ((Int × (Int × (ByteArray × Unit))) × Unit) :=
  some ((a197, (a198, (a199, ()))), ())
noncomputable def F65e (n : Nat) : Ent G := ⟨65, (.cons (.agg (.cons (.int .i64) (.cons (.int .i64) (.cons .str .nil)))) .nil), [], (.agg (.cons (.int .i64) (.cons (.int .i64) (.cons .str .nil)))), [], fun x y => F65 n x.1.1 x.1.2.1 x.1.2.2.1⟩
theorem F65_eq (n : Nat) (x : ShL.den G (.cons (.agg (.cons (.int .i64) (.cons (.int .i64) (.cons .str .nil)))) .nil)) (y : denO G []) : (F65e n).F x y = runFn prog G (ro G (tabOf (E7 n)) (frOf []) _) Go.Proofs.Try.f65 .no [(0, .fz)] (ShL.enc G (.cons (.agg (.cons (.int .i64) (.cons (.int .i64) (.cons .str .nil)))) .nil) x) (encO G [] y) (decR (.agg (.cons (.int .i64) (.cons (.int .i64) (.cons .str .nil)))) []) := by kernel_rfl
theorem F65_ok (n : Nat) : EntOK prog G (F65e n) :=
  ent_ok (fr := frOf []) (ann := .no) (frm := [(0, .fz)]) laws fnok (E7_ok n).tab (e := F65e n) (fn := Go.Proofs.Try.f65) (by kernel_rfl) (AllF.ofB (cd := F65c) (l := []) (by kernel_rfl) (by kernel_rfl) AllF.nil) (F65_eq n)
noncomputable def E8 (n : Nat) : List (Ent G) := F65e n :: E7 n
theorem E8_ok (n : Nat) : AllE prog G (E8 n) := AllE.cons (F65_ok n) (E7_ok n)
noncomputable def F48_0x0 : SSh := ⟨23, [(3, (.own 0))], [(.arr 3 true)]⟩
noncomputable def F48_0s : SSh := ⟨23, [(0, (.old 4)), (3, (.own 0)), (4, (.int .i64))], [(.arr 3 true)]⟩
noncomputable def F48_0_step {R : Type} (n : Nat) (k0 : List Stp → Option R) (rec : List Stp → Int → List Stp → Option R) (x188 : List Stp) (x189 : Int) (x190 : List Stp) : Option R :=
  (bif (decide (x189 < ((x188.length) : Int))) then
  (bif (decide ((0 : Int) ≤ x189)) then
  (bif (decide (x189 < ((x188.length) : Int))) then
  let v193 := (x188.getD (x189.toNat) (Stp.mk (0 : Int) (0 : Int) ({ data := #[] } : ByteArray)))
  (andThen (F65 n v193.kind v193.num v193.name) fun r200 =>
  (bif (decide ((0 : Int) ≤ x189)) then
  (bif (decide (x189 < ((x190.length) : Int))) then
  (rec x188 (IntKind.wrap .i64 (x189 + (1 : Int))) (x190.set (x189.toNat) (Stp.mk r200.1.1 r200.1.2.1 r200.1.2.2.1)))
  else none)
  else none))
  else none)
  else none)
  else (k0 x190))
noncomputable def F48_0_it {R : Type} (n : Nat) (k0 : List Stp → Option R) : Nat → List Stp → Int → List Stp → Option R
  | 0, _, _, _ => none
  | k + 1, x188, x189, x190 => F48_0_step n k0 (F48_0_it n k0 k) x188 x189 x190
noncomputable def F48_0 {R : Type} (n : Nat) (x188 : List Stp) (x189 : Int) (x190 : List Stp) (k0 : List Stp → Option R) : Option R := F48_0_it n k0 n x188 x189 x190
noncomputable def F48_0z (n : Nat) : Sm G := inZ G 0 ⟨[0, 3, 4], []⟩ F48_0s fun R x K => F48_0_it n (fun u0 => K (.exit 0) (SSh.enc G F48_0x0 (((), ()), (u0, ())))) n x.1.1 x.1.2.2.1 x.2.1
theorem F48_0_eq (n : Nat) (R : Type) (rec : SSh.den G F48_0s → Option R) (x : SSh.den G F48_0s) (K : AE → St G → Option R) :
  F48_0_step n (fun u0 => K (.exit 0) (SSh.enc G F48_0x0 (((), ()), (u0, ())))) (fun x188 x189 x190 => rec ((x188, ((), (x189, ()))), (x190, ()))) x.1.1 x.1.2.2.1 x.2.1 = exec prog G (ro G (tabOf (E8 n)) (frOf []) R) 0 (codeAt F48c [1, 1, 0, 1, 0, 0]) .no (SSh.enc G F48_0s x) (kLoop G (ro G (tabOf (E8 n)) (frOf []) R) 0 ⟨[0, 3, 4], []⟩ F48_0s ⟨⟨[3], []⟩, ⟨[2], []⟩, [(0, ⟨[3], []⟩)]⟩ rec K) := by kernel_rfl
theorem F48_0_ok (n : Nat) : FragOK prog G 0 (codeAt F48c [1, 1, 0, 1, 0]) (F48_0z n) :=
  frag_loop (Z := fun R k (x : SSh.den G F48_0s) K => F48_0_it n (fun u0 => K (.exit 0) (SSh.enc G F48_0x0 (((), ()), (u0, ())))) k x.1.1 x.1.2.2.1 x.2.1) laws fnok (E8_ok n).tab (AllF.of (l := []) (by kernel_rfl) AllF.nil) (fun _ _ _ => rfl) (fun R k y K => F48_0_eq n R (fun (x : SSh.den G F48_0s) => F48_0_it n (fun u0 => K (.exit 0) (SSh.enc G F48_0x0 (((), ()), (u0, ())))) k x.1.1 x.1.2.2.1 x.2.1) y K) n
noncomputable def F48 (n : Nat) (a185 : List Stp) : Option (List Stp × Unit) :=
  let v186 := ((a185.length) : Int)
  (bif (decide ((0 : Int) ≤ v186)) then
  (bif (decide (v186 ≤ v186)) then
  (bif (decide (v186 ≤ ((68719476736 : Nat) : Int))) then
  (F48_0 n a185 (0 : Int) (List.replicate (v186.toNat) (Stp.mk (0 : Int) (0 : Int) ({ data := #[] } : ByteArray))) (fun z204 =>
  some (z204, ())))
  else none)
  else none)
  else none)
noncomputable def F48e (n : Nat) : Ent G := ⟨48, (.cons (.old 4) .nil), [], (.imm 3), [], fun x y => F48 n x.1⟩
theorem F48_eq (n : Nat) (x : ShL.den G (.cons (.old 4) .nil)) (y : denO G []) : (F48e n).F x y = runFn prog G (ro G (tabOf (E8 n)) (frOf [F48_0z n]) _) Go.Proofs.Try.f48 (.nd .no (.nd .no (.nd (.nd .no (.nd (.use 0) .no)) .no))) [(0, .fz)] (ShL.enc G (.cons (.old 4) .nil) x) (encO G [] y) (decR (.imm 3) []) := by kernel_rfl
theorem F48_ok (n : Nat) : EntOK prog G (F48e n) :=
  ent_ok (fr := frOf [F48_0z n]) (ann := (.nd .no (.nd .no (.nd (.nd .no (.nd (.use 0) .no)) .no)))) (frm := [(0, .fz)]) laws fnok (E8_ok n).tab (e := F48e n) (fn := Go.Proofs.Try.f48) (by kernel_rfl) (AllF.ofB (cd := F48c) (l := [(0, codeAt F48c [1, 1, 0, 1, 0])]) (by kernel_rfl) (by kernel_rfl) (AllF.cons (F48_0_ok n) AllF.nil)) (F48_eq n)
noncomputable def E9 (n : Nat) : List (Ent G) := F48e n :: E8 n
theorem E9_ok (n : Nat) : AllE prog G (E9 n) := AllE.cons (F48_ok n) (E8_ok n)
noncomputable def F29 (n : Nat) (a184 : List Stp) : Option ((List Stp × Unit) × Unit) :=
  (andThen (F48 n a184) fun r205 =>
  some ((r205.1, ()), ()))
noncomputable def F29e (n : Nat) : Ent G := ⟨29, (.cons (.agg (.cons (.old 4) .nil)) .nil), [], (.agg (.cons (.imm 3) .nil)), [], fun x y => F29 n x.1.1⟩
theorem F29_eq (n : Nat) (x : ShL.den G (.cons (.agg (.cons (.old 4) .nil)) .nil)) (y : denO G []) : (F29e n).F x y = runFn prog G (ro G (tabOf (E9 n)) (frOf []) _) Go.Proofs.Try.f29 .no [(0, .fz)] (ShL.enc G (.cons (.agg (.cons (.old 4) .nil)) .nil) x) (encO G [] y) (decR (.agg (.cons (.imm 3) .nil)) []) := by kernel_rfl
theorem F29_ok (n : Nat) : EntOK prog G (F29e n) :=
  ent_ok (fr := frOf []) (ann := .no) (frm := [(0, .fz)]) laws fnok (E9_ok n).tab (e := F29e n) (fn := Go.Proofs.Try.f29) (by kernel_rfl) (AllF.ofB (cd := F29c) (l := []) (by kernel_rfl) (by kernel_rfl) AllF.nil) (F29_eq n)
noncomputable def E10 (n : Nat) : List (Ent G) := F29e n :: E9 n
theorem E10_ok (n : Nat) : AllE prog G (E10 n) := AllE.cons (F29_ok n) (E9_ok n)
noncomputable def F9_0x0 : SSh := ⟨23, [(3, (.own 0))], [(.arr 5 true)]⟩
noncomputable def F9_0s : SSh := ⟨23, [(0, (.old 6)), (3, (.own 0)), (4, (.int .i64))], [(.arr 5 true)]⟩
noncomputable def F9_0_step {R : Type} (n : Nat) (k0 : List (List Stp) → Option R) (rec : List (List Stp) → Int → List (List Stp) → Option R) (x177 : List (List Stp)) (x178 : Int) (x179 : List (List Stp)) : Option R :=
  (bif (decide (x178 < ((x177.length) : Int))) then
  (bif (decide ((0 : Int) ≤ x178)) then
  (bif (decide (x178 < ((x177.length) : Int))) then
  (andThen (F29 n (x177.getD (x178.toNat) [])) fun r206 =>
  (bif (decide ((0 : Int) ≤ x178)) then
  (bif (decide (x178 < ((x179.length) : Int))) then
  (rec x177 (IntKind.wrap .i64 (x178 + (1 : Int))) (x179.set (x178.toNat) r206.1.1))
  else none)
  else none))
  else none)
  else none)
  else (k0 x179))
noncomputable def F9_0_it {R : Type} (n : Nat) (k0 : List (List Stp) → Option R) : Nat → List (List Stp) → Int → List (List Stp) → Option R
  | 0, _, _, _ => none
  | k + 1, x177, x178, x179 => F9_0_step n k0 (F9_0_it n k0 k) x177 x178 x179
noncomputable def F9_0 {R : Type} (n : Nat) (x177 : List (List Stp)) (x178 : Int) (x179 : List (List Stp)) (k0 : List (List Stp) → Option R) : Option R := F9_0_it n k0 n x177 x178 x179
noncomputable def F9_0z (n : Nat) : Sm G := inZ G 0 ⟨[0, 3, 4], []⟩ F9_0s fun R x K => F9_0_it n (fun u0 => K (.exit 0) (SSh.enc G F9_0x0 (((), ()), (u0, ())))) n x.1.1 x.1.2.2.1 x.2.1
theorem F9_0_eq (n : Nat) (R : Type) (rec : SSh.den G F9_0s → Option R) (x : SSh.den G F9_0s) (K : AE → St G → Option R) :
  F9_0_step n (fun u0 => K (.exit 0) (SSh.enc G F9_0x0 (((), ()), (u0, ())))) (fun x177 x178 x179 => rec ((x177, ((), (x178, ()))), (x179, ()))) x.1.1 x.1.2.2.1 x.2.1 = exec prog G (ro G (tabOf (E10 n)) (frOf []) R) 0 (codeAt F9c [1, 1, 0, 1, 0, 0]) .no (SSh.enc G F9_0s x) (kLoop G (ro G (tabOf (E10 n)) (frOf []) R) 0 ⟨[0, 3, 4], []⟩ F9_0s ⟨⟨[3], []⟩, ⟨[2], []⟩, [(0, ⟨[3], []⟩)]⟩ rec K) := by kernel_rfl
theorem F9_0_ok (n : Nat) : FragOK prog G 0 (codeAt F9c [1, 1, 0, 1, 0]) (F9_0z n) :=
  frag_loop (Z := fun R k (x : SSh.den G F9_0s) K => F9_0_it n (fun u0 => K (.exit 0) (SSh.enc G F9_0x0 (((), ()), (u0, ())))) k x.1.1 x.1.2.2.1 x.2.1) laws fnok (E10_ok n).tab (AllF.of (l := []) (by kernel_rfl) AllF.nil) (fun _ _ _ => rfl) (fun R k y K => F9_0_eq n R (fun (x : SSh.den G F9_0s) => F9_0_it n (fun u0 => K (.exit 0) (SSh.enc G F9_0x0 (((), ()), (u0, ())))) k x.1.1 x.1.2.2.1 x.2.1) y K) n
noncomputable def F9 (n : Nat) (a174 : List (List Stp)) : Option (List (List Stp) × Unit) :=
  let v175 := ((a174.length) : Int)
  (bif (decide ((0 : Int) ≤ v175)) then
  (bif (decide (v175 ≤ v175)) then
  (bif (decide (v175 ≤ ((68719476736 : Nat) : Int))) then
  (F9_0 n a174 (0 : Int) (List.replicate (v175.toNat) []) (fun z210 =>
  some (z210, ())))
  else none)
  else none)
  else none)
noncomputable def F9e (n : Nat) : Ent G := ⟨9, (.cons (.old 6) .nil), [], (.imm 5), [], fun x y => F9 n x.1⟩
theorem F9_eq (n : Nat) (x : ShL.den G (.cons (.old 6) .nil)) (y : denO G []) : (F9e n).F x y = runFn prog G (ro G (tabOf (E10 n)) (frOf [F9_0z n]) _) Go.Proofs.Try.f9 (.nd .no (.nd .no (.nd (.nd .no (.nd (.use 0) .no)) .no))) [(0, .fz)] (ShL.enc G (.cons (.old 6) .nil) x) (encO G [] y) (decR (.imm 5) []) := by kernel_rfl
theorem F9_ok (n : Nat) : EntOK prog G (F9e n) :=
  ent_ok (fr := frOf [F9_0z n]) (ann := (.nd .no (.nd .no (.nd (.nd .no (.nd (.use 0) .no)) .no)))) (frm := [(0, .fz)]) laws fnok (E10_ok n).tab (e := F9e n) (fn := Go.Proofs.Try.f9) (by kernel_rfl) (AllF.ofB (cd := F9c) (l := [(0, codeAt F9c [1, 1, 0, 1, 0])]) (by kernel_rfl) (by kernel_rfl) (AllF.cons (F9_0_ok n) AllF.nil)) (F9_eq n)
noncomputable def E11 (n : Nat) : List (Ent G) := F9e n :: E10 n
theorem E11_ok (n : Nat) : AllE prog G (E11 n) := AllE.cons (F9_ok n) (E10_ok n)
-- 24 loop.example/slowworm/spec.validMods
noncomputable def F24c : Code := bodyOf Go.Proofs.Try.f24
noncomputable def F24_0x0 : SSh := ⟨90, [(0, (.imm 5)), (3, (.int .i64)), (4, (.int .i64)), (5, (.ptr 0 0)), (6, (.int .i64)), (7, (.int .i64))], [(.box 48 (.cons (.int .i64) (.cons (.int .i64) (.cons .str .nil))))]⟩
noncomputable def F24_0s : SSh := ⟨90, [(0, (.imm 5)), (3, (.int .i64)), (4, (.int .i64)), (5, (.ptr 0 0)), (6, (.int .i64)), (7, (.int .i64))], [(.box 48 (.cons (.int .i64) (.cons (.int .i64) (.cons .str .nil))))]⟩
noncomputable def F24_0 {R : Type} (n : Nat) (x238 : List (List Stp)) (x239 : Int) (x240 : Int) (x241 : Int) (x242 : Int) (x243 : Int) (x244 : Int) (x245 : ByteArray) (k0 : List (List Stp) → Int → Int → Int → Int → Int → Int → ByteArray → Option R) : Option R :=
  (bif (x243 == (3 : Int)) then
  (k0 x238 x239 x240 x241 (1000000 : Int) x243 x244 x245)
  else (bif (x243 == (5 : Int)) then
  (k0 x238 x239 x240 x241 (1000000 : Int) x243 x244 x245)
  else (k0 x238 x239 x240 x241 x242 x243 x244 x245)))
noncomputable def F24_0z (n : Nat) : Sm G := inZ G 0 ⟨[0, 3, 4, 5, 6, 7], []⟩ F24_0s fun R x K => F24_0 n x.1.1 x.1.2.1 x.1.2.2.1 x.1.2.2.2.2.1 x.1.2.2.2.2.2.1 x.2.1.1 x.2.1.2.1 x.2.1.2.2.1 (fun u0 u1 u2 u3 u4 u5 u6 u7 => K .normal (SSh.enc G F24_0x0 ((u0, (u1, (u2, ((), (u3, (u4, ())))))), ((u5, (u6, (u7, ()))), ()))))
theorem F24_0_eq (n : Nat) (R : Type) (x : SSh.den G F24_0s) (K : AE → St G → Option R) :
  F24_0 n x.1.1 x.1.2.1 x.1.2.2.1 x.1.2.2.2.2.1 x.1.2.2.2.2.2.1 x.2.1.1 x.2.1.2.1 x.2.1.2.2.1 (fun u0 u1 u2 u3 u4 u5 u6 u7 => K .normal (SSh.enc G F24_0x0 ((u0, (u1, (u2, ((), (u3, (u4, ())))))), ((u5, (u6, (u7, ()))), ())))) = exec prog G (ro G (tabOf (E11 n)) (frOf []) R) 0 (codeAt F24c [1, 0, 1, 0, 0, 1, 0, 0, 0, 1, 0, 0, 1, 0, 0, 1, 1, 1, 0]) .no (SSh.enc G F24_0s x) (kNrm G (ro G (tabOf (E11 n)) (frOf []) R) 0 ⟨⟨[0, 3, 4, 5, 6, 7], []⟩, ⟨[2], []⟩, [(3, ⟨[0, 3, 4], []⟩), (2, ⟨[0, 3], []⟩), (1, ⟨[0, 3], []⟩), (0, ⟨[0], []⟩)]⟩ K) := by kernel_rfl
theorem F24_0_ok (n : Nat) : FragOK prog G 0 (codeAt F24c [1, 0, 1, 0, 0, 1, 0, 0, 0, 1, 0, 0, 1, 0, 0, 1, 1, 1, 0]) (F24_0z n) :=
  frag_plain laws fnok (E11_ok n).tab (AllF.of (l := []) (by kernel_rfl) AllF.nil) (F24_0_eq n)
-- 25 loop.example/slowworm/spec.inRange
noncomputable def F25c : Code := bodyOf Go.Proofs.Try.f25
noncomputable def F25 (n : Nat) (a257 : Int) (a258 : Int) (a259 : Int) : Option (Bool × Unit) :=
  (bif (decide (a257 ≥ a258)) then
  some ((decide (a257 ≤ a259)), ())
  else some (false, ()))
noncomputable def F25e (n : Nat) : Ent G := ⟨25, (.cons (.int .i64) (.cons (.int .i64) (.cons (.int .i64) .nil))), [], .bool, [], fun x y => F25 n x.1 x.2.1 x.2.2.1⟩
theorem F25_eq (n : Nat) (x : ShL.den G (.cons (.int .i64) (.cons (.int .i64) (.cons (.int .i64) .nil)))) (y : denO G []) : (F25e n).F x y = runFn prog G (ro G (tabOf (E11 n)) (frOf []) _) Go.Proofs.Try.f25 .no [(0, .fz)] (ShL.enc G (.cons (.int .i64) (.cons (.int .i64) (.cons (.int .i64) .nil))) x) (encO G [] y) (decR .bool []) := by kernel_rfl
theorem F25_ok (n : Nat) : EntOK prog G (F25e n) :=
  ent_ok (fr := frOf []) (ann := .no) (frm := [(0, .fz)]) laws fnok (E11_ok n).tab (e := F25e n) (fn := Go.Proofs.Try.f25) (by kernel_rfl) (AllF.ofB (cd := F25c) (l := []) (by kernel_rfl) (by kernel_rfl) AllF.nil) (F25_eq n)
noncomputable def E12 (n : Nat) : List (Ent G) := F25e n :: E11 n
theorem E12_ok (n : Nat) : AllE prog G (E12 n) := AllE.cons (F25_ok n) (E11_ok n)
-- 47 loop.example/slowworm/spec.validName
noncomputable def F47c : Code := bodyOf Go.Proofs.Try.f47
-- 62 loop.example/slowworm/spec.letter
noncomputable def F62c : Code := bodyOf Go.Proofs.Try.f62
noncomputable def F62 (n : Nat) (a274 : Int) : Option (Bool × Unit) :=
  (bif (decide (a274 ≥ (97 : Int))) then
  (bif (decide (a274 ≤ (122 : Int))) then
  some (true, ())
  else (bif (decide (a274 ≥ (65 : Int))) then
  (bif (decide (a274 ≤ (90 : Int))) then
  some (true, ())
  else some ((a274 == (95 : Int)), ()))
  else some ((a274 == (95 : Int)), ())))
  else (bif (decide (a274 ≥ (65 : Int))) then
  (bif (decide (a274 ≤ (90 : Int))) then
  some (true, ())
  else some ((a274 == (95 : Int)), ()))
  else some ((a274 == (95 : Int)), ())))
noncomputable def F62e (n : Nat) : Ent G := ⟨62, (.cons (.int .u8) .nil), [], .bool, [], fun x y => F62 n x.1⟩
theorem F62_eq (n : Nat) (x : ShL.den G (.cons (.int .u8) .nil)) (y : denO G []) : (F62e n).F x y = runFn prog G (ro G (tabOf (E12 n)) (frOf []) _) Go.Proofs.Try.f62 .no [(0, .fz)] (ShL.enc G (.cons (.int .u8) .nil) x) (encO G [] y) (decR .bool []) := by kernel_rfl
theorem F62_ok (n : Nat) : EntOK prog G (F62e n) :=
  ent_ok (fr := frOf []) (ann := .no) (frm := [(0, .fz)]) laws fnok (E12_ok n).tab (e := F62e n) (fn := Go.Proofs.Try.f62) (by kernel_rfl) (AllF.ofB (cd := F62c) (l := []) (by kernel_rfl) (by kernel_rfl) AllF.nil) (F62_eq n)
noncomputable def E13 (n : Nat) : List (Ent G) := F62e n :: E12 n
theorem E13_ok (n : Nat) : AllE prog G (E13 n) := AllE.cons (F62_ok n) (E12_ok n)
-- 63 loop.example/slowworm/spec.digit
noncomputable def F63c : Code := bodyOf Go.Proofs.Try.f63
noncomputable def F63 (n : Nat) (a289 : Int) : Option (Bool × Unit) :=
  (bif (decide (a289 ≥ (48 : Int))) then
  some ((decide (a289 ≤ (57 : Int))), ())
  else some (false, ()))
noncomputable def F63e (n : Nat) : Ent G := ⟨63, (.cons (.int .u8) .nil), [], .bool, [], fun x y => F63 n x.1⟩
theorem F63_eq (n : Nat) (x : ShL.den G (.cons (.int .u8) .nil)) (y : denO G []) : (F63e n).F x y = runFn prog G (ro G (tabOf (E13 n)) (frOf []) _) Go.Proofs.Try.f63 .no [(0, .fz)] (ShL.enc G (.cons (.int .u8) .nil) x) (encO G [] y) (decR .bool []) := by kernel_rfl
theorem F63_ok (n : Nat) : EntOK prog G (F63e n) :=
  ent_ok (fr := frOf []) (ann := .no) (frm := [(0, .fz)]) laws fnok (E13_ok n).tab (e := F63e n) (fn := Go.Proofs.Try.f63) (by kernel_rfl) (AllF.ofB (cd := F63c) (l := []) (by kernel_rfl) (by kernel_rfl) AllF.nil) (F63_eq n)
noncomputable def E14 (n : Nat) : List (Ent G) := F63e n :: E13 n
theorem E14_ok (n : Nat) : AllE prog G (E14 n) := AllE.cons (F63_ok n) (E13_ok n)
noncomputable def F47_0x0 : SSh := ⟨34, [(2, .bool)], []⟩
noncomputable def F47_0x1 : SSh := ⟨34, [(0, .str)], []⟩
noncomputable def F47_0s : SSh := ⟨34, [(0, .str), (3, (.int .i64))], []⟩
noncomputable def F47_0_step {R : Type} (n : Nat) (k0 : Bool → Option R) (k1 : ByteArray → Option R) (rec : ByteArray → Int → Option R) (x269 : ByteArray) (x270 : Int) : Option R :=
  (bif (decide (x270 < ((x269.size) : Int))) then
  (bif (decide ((0 : Int) ≤ x270)) then
  (bif (decide (x270 < ((x269.size) : Int))) then
  (andThen (F62 n (strOf x269 (x270.toNat))) fun r285 =>
  (bif (!r285.1) then
  (bif (x270 == (0 : Int)) then
  (k0 false)
  else (bif (decide ((0 : Int) ≤ x270)) then
  (bif (decide (x270 < ((x269.size) : Int))) then
  (andThen (F63 n (strOf x269 (x270.toNat))) fun r292 =>
  (bif (!r292.1) then
  (k0 false)
  else (rec x269 (IntKind.wrap .i64 (x270 + (1 : Int))))))
  else none)
  else none))
  else (rec x269 (IntKind.wrap .i64 (x270 + (1 : Int))))))
  else none)
  else none)
  else (k1 x269))
noncomputable def F47_0_it {R : Type} (n : Nat) (k0 : Bool → Option R) (k1 : ByteArray → Option R) : Nat → ByteArray → Int → Option R
  | 0, _, _ => none
  | k + 1, x269, x270 => F47_0_step n k0 k1 (F47_0_it n k0 k1 k) x269 x270
noncomputable def F47_0 {R : Type} (n : Nat) (x269 : ByteArray) (x270 : Int) (k0 : Bool → Option R) (k1 : ByteArray → Option R) : Option R := F47_0_it n k0 k1 n x269 x270
noncomputable def F47_0z (n : Nat) : Sm G := inZ G 0 ⟨[0, 3], []⟩ F47_0s fun R x K => F47_0_it n (fun u0 => K .ret (SSh.enc G F47_0x0 ((u0, ()), ()))) (fun u0 => K (.exit 0) (SSh.enc G F47_0x1 ((u0, ()), ()))) n x.1.1 x.1.2.1
theorem F47_0_eq (n : Nat) (R : Type) (rec : SSh.den G F47_0s → Option R) (x : SSh.den G F47_0s) (K : AE → St G → Option R) :
  F47_0_step n (fun u0 => K .ret (SSh.enc G F47_0x0 ((u0, ()), ()))) (fun u0 => K (.exit 0) (SSh.enc G F47_0x1 ((u0, ()), ()))) (fun x269 x270 => rec ((x269, (x270, ())), ())) x.1.1 x.1.2.1 = exec prog G (ro G (tabOf (E14 n)) (frOf []) R) 0 (codeAt F47c [1, 0, 1, 0, 0]) .no (SSh.enc G F47_0s x) (kLoop G (ro G (tabOf (E14 n)) (frOf []) R) 0 ⟨[0, 3], []⟩ F47_0s ⟨⟨[0], []⟩, ⟨[2], []⟩, [(0, ⟨[0], []⟩)]⟩ rec K) := by kernel_rfl
theorem F47_0_ok (n : Nat) : FragOK prog G 0 (codeAt F47c [1, 0, 1, 0]) (F47_0z n) :=
  frag_loop (Z := fun R k (x : SSh.den G F47_0s) K => F47_0_it n (fun u0 => K .ret (SSh.enc G F47_0x0 ((u0, ()), ()))) (fun u0 => K (.exit 0) (SSh.enc G F47_0x1 ((u0, ()), ()))) k x.1.1 x.1.2.1) laws fnok (E14_ok n).tab (AllF.of (l := []) (by kernel_rfl) AllF.nil) (fun _ _ _ => rfl) (fun R k y K => F47_0_eq n R (fun (x : SSh.den G F47_0s) => F47_0_it n (fun u0 => K .ret (SSh.enc G F47_0x0 ((u0, ()), ()))) (fun u0 => K (.exit 0) (SSh.enc G F47_0x1 ((u0, ()), ()))) k x.1.1 x.1.2.1) y K) n
-- 64 loop.example/slowworm/spec.isKeyword
noncomputable def F64c : Code := bodyOf Go.Proofs.Try.f64
-- 74 loop.example/slowworm/spec.keywords
noncomputable def F74c : Code := bodyOf Go.Proofs.Try.f74
noncomputable def F74 (n : Nat)  : Option (List ByteArray × Unit) :=
  some ((({ data := #[78, 111, 110, 101] } : ByteArray) :: (({ data := #[84, 114, 117, 101] } : ByteArray) :: (({ data := #[70, 97, 108, 115, 101] } : ByteArray) :: (({ data := #[97, 110, 100] } : ByteArray) :: (({ data := #[111, 114] } : ByteArray) :: (({ data := #[110, 111, 116] } : ByteArray) :: (({ data := #[105, 110] } : ByteArray) :: (({ data := #[105, 115] } : ByteArray) :: (({ data := #[105, 102] } : ByteArray) :: (({ data := #[101, 108, 105, 102] } : ByteArray) :: (({ data := #[101, 108, 115, 101] } : ByteArray) :: (({ data := #[119, 104, 105, 108, 101] } : ByteArray) :: (({ data := #[102, 111, 114] } : ByteArray) :: (({ data := #[98, 114, 101, 97, 107] } : ByteArray) :: (({ data := #[99, 111, 110, 116, 105, 110, 117, 101] } : ByteArray) :: (({ data := #[112, 97, 115, 115] } : ByteArray) :: (({ data := #[100, 101, 102] } : ByteArray) :: (({ data := #[114, 101, 116, 117, 114, 110] } : ByteArray) :: (({ data := #[108, 97, 109, 98, 100, 97] } : ByteArray) :: (({ data := #[99, 108, 97, 115, 115] } : ByteArray) :: (({ data := #[116, 114, 121] } : ByteArray) :: (({ data := #[101, 120, 99, 101, 112, 116] } : ByteArray) :: (({ data := #[102, 105, 110, 97, 108, 108, 121] } : ByteArray) :: (({ data := #[114, 97, 105, 115, 101] } : ByteArray) :: (({ data := #[97, 115] } : ByteArray) :: (({ data := #[103, 108, 111, 98, 97, 108] } : ByteArray) :: (({ data := #[110, 111, 110, 108, 111, 99, 97, 108] } : ByteArray) :: (({ data := #[121, 105, 101, 108, 100] } : ByteArray) :: (({ data := #[105, 109, 112, 111, 114, 116] } : ByteArray) :: (({ data := #[100, 101, 108] } : ByteArray) :: (({ data := #[97, 115, 115, 101, 114, 116] } : ByteArray) :: []))))))))))))))))))))))))))))))), ())
noncomputable def F74e (n : Nat) : Ent G := ⟨74, .nil, [], (.imm 7), [], fun x y => F74 n⟩
theorem F74_eq (n : Nat) (x : ShL.den G .nil) (y : denO G []) : (F74e n).F x y = runFn prog G (ro G (tabOf (E14 n)) (frOf []) _) Go.Proofs.Try.f74 .no [(0, .fz)] (ShL.enc G .nil x) (encO G [] y) (decR (.imm 7) []) := by kernel_rfl
theorem F74_ok (n : Nat) : EntOK prog G (F74e n) :=
  ent_ok (fr := frOf []) (ann := .no) (frm := [(0, .fz)]) laws fnok (E14_ok n).tab (e := F74e n) (fn := Go.Proofs.Try.f74) (by kernel_rfl) (AllF.ofB (cd := F74c) (l := []) (by kernel_rfl) (by kernel_rfl) AllF.nil) (F74_eq n)
noncomputable def E15 (n : Nat) : List (Ent G) := F74e n :: E14 n
theorem E15_ok (n : Nat) : AllE prog G (E15 n) := AllE.cons (F74_ok n) (E14_ok n)
-- 73 loop.example/slowworm/spec.isOne
noncomputable def F73c : Code := bodyOf Go.Proofs.Try.f73
noncomputable def F73_0x0 : SSh := ⟨18, [(4, .bool)], []⟩
noncomputable def F73_0x1 : SSh := ⟨18, [], []⟩
noncomputable def F73_0s : SSh := ⟨18, [(0, (.imm 7)), (1, .str), (5, (.int .i64))], []⟩
noncomputable def F73_0_step {R : Type} (n : Nat) (k0 : Bool → Option R) (k1 : Option R) (rec : List ByteArray → ByteArray → Int → Option R) (x305 : List ByteArray) (x306 : ByteArray) (x307 : Int) : Option R :=
  (bif (decide (x307 < ((x305.length) : Int))) then
  (bif (decide ((0 : Int) ≤ x307)) then
  (bif (decide (x307 < ((x305.length) : Int))) then
  (bif (((x305.getD (x307.toNat) ({ data := #[] } : ByteArray)).toList) == (x306.toList)) then
  (k0 true)
  else (rec x305 x306 (IntKind.wrap .i64 (x307 + (1 : Int)))))
  else none)
  else none)
  else k1)
noncomputable def F73_0_it {R : Type} (n : Nat) (k0 : Bool → Option R) (k1 : Option R) : Nat → List ByteArray → ByteArray → Int → Option R
  | 0, _, _, _ => none
  | k + 1, x305, x306, x307 => F73_0_step n k0 k1 (F73_0_it n k0 k1 k) x305 x306 x307
noncomputable def F73_0 {R : Type} (n : Nat) (x305 : List ByteArray) (x306 : ByteArray) (x307 : Int) (k0 : Bool → Option R) (k1 : Option R) : Option R := F73_0_it n k0 k1 n x305 x306 x307
noncomputable def F73_0z (n : Nat) : Sm G := inZ G 0 ⟨[0, 1, 5], []⟩ F73_0s fun R x K => F73_0_it n (fun u0 => K .ret (SSh.enc G F73_0x0 ((u0, ()), ()))) (K (.exit 0) (SSh.enc G F73_0x1 ((), ()))) n x.1.1 x.1.2.1 x.1.2.2.1
theorem F73_0_eq (n : Nat) (R : Type) (rec : SSh.den G F73_0s → Option R) (x : SSh.den G F73_0s) (K : AE → St G → Option R) :
  F73_0_step n (fun u0 => K .ret (SSh.enc G F73_0x0 ((u0, ()), ()))) (K (.exit 0) (SSh.enc G F73_0x1 ((), ()))) (fun x305 x306 x307 => rec ((x305, (x306, (x307, ()))), ())) x.1.1 x.1.2.1 x.1.2.2.1 = exec prog G (ro G (tabOf (E15 n)) (frOf []) R) 0 (codeAt F73c [1, 0, 1, 0, 0]) .no (SSh.enc G F73_0s x) (kLoop G (ro G (tabOf (E15 n)) (frOf []) R) 0 ⟨[0, 1, 5], []⟩ F73_0s ⟨⟨[], []⟩, ⟨[4], []⟩, [(0, ⟨[], []⟩)]⟩ rec K) := by kernel_rfl
theorem F73_0_ok (n : Nat) : FragOK prog G 0 (codeAt F73c [1, 0, 1, 0]) (F73_0z n) :=
  frag_loop (Z := fun R k (x : SSh.den G F73_0s) K => F73_0_it n (fun u0 => K .ret (SSh.enc G F73_0x0 ((u0, ()), ()))) (K (.exit 0) (SSh.enc G F73_0x1 ((), ()))) k x.1.1 x.1.2.1 x.1.2.2.1) laws fnok (E15_ok n).tab (AllF.of (l := []) (by kernel_rfl) AllF.nil) (fun _ _ _ => rfl) (fun R k y K => F73_0_eq n R (fun (x : SSh.den G F73_0s) => F73_0_it n (fun u0 => K .ret (SSh.enc G F73_0x0 ((u0, ()), ()))) (K (.exit 0) (SSh.enc G F73_0x1 ((), ()))) k x.1.1 x.1.2.1 x.1.2.2.1) y K) n
noncomputable def F73 (n : Nat) (a303 : List ByteArray) (a304 : ByteArray) : Option (Bool × Unit) :=
  (F73_0 n a303 a304 (0 : Int) (fun z314 =>
  some (z314, ())) (
  some (false, ())))
noncomputable def F73e (n : Nat) : Ent G := ⟨73, (.cons (.imm 7) (.cons .str .nil)), [], .bool, [], fun x y => F73 n x.1 x.2.1⟩
theorem F73_eq (n : Nat) (x : ShL.den G (.cons (.imm 7) (.cons .str .nil))) (y : denO G []) : (F73e n).F x y = runFn prog G (ro G (tabOf (E15 n)) (frOf [F73_0z n]) _) Go.Proofs.Try.f73 (.nd .no (.nd (.nd .no (.nd (.use 0) .no)) .no)) [(0, .fz)] (ShL.enc G (.cons (.imm 7) (.cons .str .nil)) x) (encO G [] y) (decR .bool []) := by kernel_rfl
theorem F73_ok (n : Nat) : EntOK prog G (F73e n) :=
  ent_ok (fr := frOf [F73_0z n]) (ann := (.nd .no (.nd (.nd .no (.nd (.use 0) .no)) .no))) (frm := [(0, .fz)]) laws fnok (E15_ok n).tab (e := F73e n) (fn := Go.Proofs.Try.f73) (by kernel_rfl) (AllF.ofB (cd := F73c) (l := [(0, codeAt F73c [1, 0, 1, 0])]) (by kernel_rfl) (by kernel_rfl) (AllF.cons (F73_0_ok n) AllF.nil)) (F73_eq n)
noncomputable def E16 (n : Nat) : List (Ent G) := F73e n :: E15 n
theorem E16_ok (n : Nat) : AllE prog G (E16 n) := AllE.cons (F73_ok n) (E15_ok n)
noncomputable def F64 (n : Nat) (a300 : ByteArray) : Option (Bool × Unit) :=
  (andThen (F74 n) fun r302 =>
  (andThen (F73 n r302.1 a300) fun r315 =>
  some (r315.1, ())))
noncomputable def F64e (n : Nat) : Ent G := ⟨64, (.cons .str .nil), [], .bool, [], fun x y => F64 n x.1⟩
theorem F64_eq (n : Nat) (x : ShL.den G (.cons .str .nil)) (y : denO G []) : (F64e n).F x y = runFn prog G (ro G (tabOf (E16 n)) (frOf []) _) Go.Proofs.Try.f64 .no [(0, .fz)] (ShL.enc G (.cons .str .nil) x) (encO G [] y) (decR .bool []) := by kernel_rfl
theorem F64_ok (n : Nat) : EntOK prog G (F64e n) :=
  ent_ok (fr := frOf []) (ann := .no) (frm := [(0, .fz)]) laws fnok (E16_ok n).tab (e := F64e n) (fn := Go.Proofs.Try.f64) (by kernel_rfl) (AllF.ofB (cd := F64c) (l := []) (by kernel_rfl) (by kernel_rfl) AllF.nil) (F64_eq n)
noncomputable def E17 (n : Nat) : List (Ent G) := F64e n :: E16 n
theorem E17_ok (n : Nat) : AllE prog G (E17 n) := AllE.cons (F64_ok n) (E16_ok n)
noncomputable def F47 (n : Nat) (a268 : ByteArray) : Option (Bool × Unit) :=
  (F47_0 n a268 (0 : Int) (fun z296 =>
  some (z296, ())) (fun z297 =>
  (andThen (F25 n ((z297.size) : Int) (1 : Int) (12 : Int)) fun r299 =>
  (bif r299.1 then
  (andThen (F64 n z297) fun r316 =>
  some ((!r316.1), ()))
  else some (false, ())))))
noncomputable def F47e (n : Nat) : Ent G := ⟨47, (.cons .str .nil), [], .bool, [], fun x y => F47 n x.1⟩
theorem F47_eq (n : Nat) (x : ShL.den G (.cons .str .nil)) (y : denO G []) : (F47e n).F x y = runFn prog G (ro G (tabOf (E17 n)) (frOf [F47_0z n]) _) Go.Proofs.Try.f47 (.nd .no (.nd (.nd .no (.nd (.use 0) .no)) .no)) [(0, .fz)] (ShL.enc G (.cons .str .nil) x) (encO G [] y) (decR .bool []) := by kernel_rfl
theorem F47_ok (n : Nat) : EntOK prog G (F47e n) :=
  ent_ok (fr := frOf [F47_0z n]) (ann := (.nd .no (.nd (.nd .no (.nd (.use 0) .no)) .no))) (frm := [(0, .fz)]) laws fnok (E17_ok n).tab (e := F47e n) (fn := Go.Proofs.Try.f47) (by kernel_rfl) (AllF.ofB (cd := F47c) (l := [(0, codeAt F47c [1, 0, 1, 0])]) (by kernel_rfl) (by kernel_rfl) (AllF.cons (F47_0_ok n) AllF.nil)) (F47_eq n)
noncomputable def E18 (n : Nat) : List (Ent G) := F47e n :: E17 n
theorem E18_ok (n : Nat) : AllE prog G (E18 n) := AllE.cons (F47_ok n) (E17_ok n)
noncomputable def F24_1x0 : SSh := ⟨90, [(2, .bool)], []⟩
noncomputable def F24_1x1 : SSh := ⟨90, [(0, (.imm 5)), (3, (.int .i64)), (4, (.int .i64))], []⟩
noncomputable def F24_1s : SSh := ⟨90, [(0, (.imm 5)), (3, (.int .i64)), (4, (.int .i64))], []⟩
noncomputable def F24_1 {R : Type} (n : Nat) (x227 : List (List Stp)) (x228 : Int) (x229 : Int) (k0 : Bool → Option R) (k1 : List (List Stp) → Int → Int → Option R) : Option R :=
  (bif (decide ((0 : Int) ≤ x228)) then
  (bif (decide (x228 < ((x227.length) : Int))) then
  let v231 := (x227.getD (x228.toNat) [])
  (bif (decide ((0 : Int) ≤ x229)) then
  (bif (decide (x229 < ((v231.length) : Int))) then
  let v232 := (v231.getD (x229.toNat) (Stp.mk (0 : Int) (0 : Int) ({ data := #[] } : ByteArray)))
  (F24_0 n x227 x228 x229 (0 : Int) (IntKind.wrap .i64 (((x227.length) : Int) - (1 : Int))) v232.kind v232.num v232.name (fun z248 z249 z250 z251 z252 z253 z254 z255 =>
  (bif (z253 == (3 : Int)) then
  (andThen (F25 n z253 (1 : Int) (5 : Int)) fun r262 =>
  (bif (!r262.1) then
  (k0 false)
  else (andThen (F25 n z254 z251 z252) fun r264 =>
  (bif (!r264.1) then
  (k0 false)
  else (bif (!(true == (!((z255.toList) == (({ data := #[] } : ByteArray).toList))))) then
  (k0 false)
  else (andThen (F47 n z255) fun r318 =>
  (bif (!r318.1) then
  (k0 false)
  else (k1 z248 z249 z250))))))))
  else let v320 := (z253 == (4 : Int))
  (andThen (F25 n z253 (1 : Int) (5 : Int)) fun r321 =>
  (bif (!r321.1) then
  (k0 false)
  else (andThen (F25 n z254 z251 z252) fun r323 =>
  (bif (!r323.1) then
  (k0 false)
  else (bif (!(v320 == (!((z255.toList) == (({ data := #[] } : ByteArray).toList))))) then
  (k0 false)
  else (bif v320 then
  (andThen (F47 n z255) fun r327 =>
  (bif (!r327.1) then
  (k0 false)
  else (k1 z248 z249 z250)))
  else (k1 z248 z249 z250))))))))))
  else none)
  else none)
  else none)
  else none)
noncomputable def F24_1z (n : Nat) : Sm G := inZ G 0 ⟨[0, 3, 4], []⟩ F24_1s fun R x K => F24_1 n x.1.1 x.1.2.1 x.1.2.2.1 (fun u0 => K .ret (SSh.enc G F24_1x0 ((u0, ()), ()))) (fun u0 u1 u2 => K .normal (SSh.enc G F24_1x1 ((u0, (u1, (u2, ()))), ())))
theorem F24_1_eq (n : Nat) (R : Type) (x : SSh.den G F24_1s) (K : AE → St G → Option R) :
  F24_1 n x.1.1 x.1.2.1 x.1.2.2.1 (fun u0 => K .ret (SSh.enc G F24_1x0 ((u0, ()), ()))) (fun u0 u1 u2 => K .normal (SSh.enc G F24_1x1 ((u0, (u1, (u2, ()))), ()))) = exec prog G (ro G (tabOf (E18 n)) (frOf [F24_0z n]) R) 0 (codeAt F24c [1, 0, 1, 0, 0, 1, 0, 0, 0, 1, 0, 0, 1, 0]) (.nd (.nd .no (.nd .no (.nd .no (.nd (.use 0) .no)))) .no) (SSh.enc G F24_1s x) (kNrm G (ro G (tabOf (E18 n)) (frOf [F24_0z n]) R) 0 ⟨⟨[0, 3, 4], []⟩, ⟨[2], []⟩, [(2, ⟨[0, 3], []⟩), (1, ⟨[0, 3], []⟩), (0, ⟨[0], []⟩)]⟩ K) := by kernel_rfl
theorem F24_1_ok (n : Nat) : FragOK prog G 0 (codeAt F24c [1, 0, 1, 0, 0, 1, 0, 0, 0, 1, 0, 0, 1, 0]) (F24_1z n) :=
  frag_plain laws fnok (E18_ok n).tab (AllF.of (l := [(0, codeAt F24c [1, 0, 1, 0, 0, 1, 0, 0, 0, 1, 0, 0, 1, 0, 0, 1, 1, 1, 0])]) (by kernel_rfl) (AllF.cons (F24_0_ok n) AllF.nil)) (F24_1_eq n)
noncomputable def F24_2x0 : SSh := ⟨90, [(2, .bool)], []⟩
noncomputable def F24_2x1 : SSh := ⟨90, [(0, (.imm 5)), (3, (.int .i64))], []⟩
noncomputable def F24_2s : SSh := ⟨90, [(0, (.imm 5)), (3, (.int .i64)), (4, (.int .i64))], []⟩
noncomputable def F24_2_step {R : Type} (n : Nat) (k0 : Bool → Option R) (k1 : List (List Stp) → Int → Option R) (rec : List (List Stp) → Int → Int → Option R) (x220 : List (List Stp)) (x221 : Int) (x222 : Int) : Option R :=
  (bif (decide ((0 : Int) ≤ x221)) then
  (bif (decide (x221 < ((x220.length) : Int))) then
  (bif (decide (x222 < (((x220.getD (x221.toNat) []).length) : Int))) then
  (F24_1 n x220 x221 x222 (fun z329 =>
  (k0 z329)) (fun z330 z331 z332 =>
  (rec z330 z331 (IntKind.wrap .i64 (z332 + (1 : Int))))))
  else (k1 x220 x221))
  else none)
  else none)
noncomputable def F24_2_it {R : Type} (n : Nat) (k0 : Bool → Option R) (k1 : List (List Stp) → Int → Option R) : Nat → List (List Stp) → Int → Int → Option R
  | 0, _, _, _ => none
  | k + 1, x220, x221, x222 => F24_2_step n k0 k1 (F24_2_it n k0 k1 k) x220 x221 x222
noncomputable def F24_2 {R : Type} (n : Nat) (x220 : List (List Stp)) (x221 : Int) (x222 : Int) (k0 : Bool → Option R) (k1 : List (List Stp) → Int → Option R) : Option R := F24_2_it n k0 k1 n x220 x221 x222
noncomputable def F24_2z (n : Nat) : Sm G := inZ G 0 ⟨[0, 3, 4], []⟩ F24_2s fun R x K => F24_2_it n (fun u0 => K .ret (SSh.enc G F24_2x0 ((u0, ()), ()))) (fun u0 u1 => K (.exit 2) (SSh.enc G F24_2x1 ((u0, (u1, ())), ()))) n x.1.1 x.1.2.1 x.1.2.2.1
theorem F24_2_eq (n : Nat) (R : Type) (rec : SSh.den G F24_2s → Option R) (x : SSh.den G F24_2s) (K : AE → St G → Option R) :
  F24_2_step n (fun u0 => K .ret (SSh.enc G F24_2x0 ((u0, ()), ()))) (fun u0 u1 => K (.exit 2) (SSh.enc G F24_2x1 ((u0, (u1, ())), ()))) (fun x220 x221 x222 => rec ((x220, (x221, (x222, ()))), ())) x.1.1 x.1.2.1 x.1.2.2.1 = exec prog G (ro G (tabOf (E18 n)) (frOf [F24_0z n, F24_1z n]) R) 0 (codeAt F24c [1, 0, 1, 0, 0, 1, 0, 0, 0, 1, 0, 0]) (.nd .no (.nd (.use 1) .no)) (SSh.enc G F24_2s x) (kLoop G (ro G (tabOf (E18 n)) (frOf [F24_0z n, F24_1z n]) R) 0 ⟨[0, 3, 4], []⟩ F24_2s ⟨⟨[0, 3], []⟩, ⟨[2], []⟩, [(2, ⟨[0, 3], []⟩), (1, ⟨[0, 3], []⟩), (0, ⟨[0], []⟩)]⟩ rec K) := by kernel_rfl
theorem F24_2_ok (n : Nat) : FragOK prog G 0 (codeAt F24c [1, 0, 1, 0, 0, 1, 0, 0, 0, 1, 0]) (F24_2z n) :=
  frag_loop (Z := fun R k (x : SSh.den G F24_2s) K => F24_2_it n (fun u0 => K .ret (SSh.enc G F24_2x0 ((u0, ()), ()))) (fun u0 u1 => K (.exit 2) (SSh.enc G F24_2x1 ((u0, (u1, ())), ()))) k x.1.1 x.1.2.1 x.1.2.2.1) laws fnok (E18_ok n).tab (AllF.of (l := [(1, codeAt F24c [1, 0, 1, 0, 0, 1, 0, 0, 0, 1, 0, 0, 1, 0])]) (by kernel_rfl) (AllF.cons (F24_1_ok n) AllF.nil)) (fun _ _ _ => rfl) (fun R k y K => F24_2_eq n R (fun (x : SSh.den G F24_2s) => F24_2_it n (fun u0 => K .ret (SSh.enc G F24_2x0 ((u0, ()), ()))) (fun u0 u1 => K (.exit 2) (SSh.enc G F24_2x1 ((u0, (u1, ())), ()))) k x.1.1 x.1.2.1 x.1.2.2.1) y K) n
noncomputable def F24_3x0 : SSh := ⟨90, [(2, .bool)], []⟩
noncomputable def F24_3x1 : SSh := ⟨90, [(0, (.imm 5))], []⟩
noncomputable def F24_3s : SSh := ⟨90, [(0, (.imm 5)), (3, (.int .i64))], []⟩
noncomputable def F24_3_step {R : Type} (n : Nat) (k0 : Bool → Option R) (k1 : List (List Stp) → Option R) (rec : List (List Stp) → Int → Option R) (x216 : List (List Stp)) (x217 : Int) : Option R :=
  (bif (decide (x217 < ((x216.length) : Int))) then
  (F24_2 n x216 x217 (0 : Int) (fun z334 =>
  (k0 z334)) (fun z335 z336 =>
  (bif (decide ((0 : Int) ≤ z336)) then
  (bif (decide (z336 < ((z335.length) : Int))) then
  (bif (decide ((((z335.getD (z336.toNat) []).length) : Int) > (8 : Int))) then
  (k0 false)
  else (rec z335 (IntKind.wrap .i64 (z336 + (1 : Int)))))
  else none)
  else none)))
  else (k1 x216))
noncomputable def F24_3_it {R : Type} (n : Nat) (k0 : Bool → Option R) (k1 : List (List Stp) → Option R) : Nat → List (List Stp) → Int → Option R
  | 0, _, _ => none
  | k + 1, x216, x217 => F24_3_step n k0 k1 (F24_3_it n k0 k1 k) x216 x217
noncomputable def F24_3 {R : Type} (n : Nat) (x216 : List (List Stp)) (x217 : Int) (k0 : Bool → Option R) (k1 : List (List Stp) → Option R) : Option R := F24_3_it n k0 k1 n x216 x217
noncomputable def F24_3z (n : Nat) : Sm G := inZ G 0 ⟨[0, 3], []⟩ F24_3s fun R x K => F24_3_it n (fun u0 => K .ret (SSh.enc G F24_3x0 ((u0, ()), ()))) (fun u0 => K (.exit 0) (SSh.enc G F24_3x1 ((u0, ()), ()))) n x.1.1 x.1.2.1
theorem F24_3_eq (n : Nat) (R : Type) (rec : SSh.den G F24_3s → Option R) (x : SSh.den G F24_3s) (K : AE → St G → Option R) :
  F24_3_step n (fun u0 => K .ret (SSh.enc G F24_3x0 ((u0, ()), ()))) (fun u0 => K (.exit 0) (SSh.enc G F24_3x1 ((u0, ()), ()))) (fun x216 x217 => rec ((x216, (x217, ())), ())) x.1.1 x.1.2.1 = exec prog G (ro G (tabOf (E18 n)) (frOf [F24_0z n, F24_1z n, F24_2z n]) R) 0 (codeAt F24c [1, 0, 1, 0, 0]) (.nd .no (.nd (.nd (.nd (.nd .no (.nd (.use 2) .no)) .no) .no) .no)) (SSh.enc G F24_3s x) (kLoop G (ro G (tabOf (E18 n)) (frOf [F24_0z n, F24_1z n, F24_2z n]) R) 0 ⟨[0, 3], []⟩ F24_3s ⟨⟨[0], []⟩, ⟨[2], []⟩, [(0, ⟨[0], []⟩)]⟩ rec K) := by kernel_rfl
theorem F24_3_ok (n : Nat) : FragOK prog G 0 (codeAt F24c [1, 0, 1, 0]) (F24_3z n) :=
  frag_loop (Z := fun R k (x : SSh.den G F24_3s) K => F24_3_it n (fun u0 => K .ret (SSh.enc G F24_3x0 ((u0, ()), ()))) (fun u0 => K (.exit 0) (SSh.enc G F24_3x1 ((u0, ()), ()))) k x.1.1 x.1.2.1) laws fnok (E18_ok n).tab (AllF.of (l := [(2, codeAt F24c [1, 0, 1, 0, 0, 1, 0, 0, 0, 1, 0])]) (by kernel_rfl) (AllF.cons (F24_2_ok n) AllF.nil)) (fun _ _ _ => rfl) (fun R k y K => F24_3_eq n R (fun (x : SSh.den G F24_3s) => F24_3_it n (fun u0 => K .ret (SSh.enc G F24_3x0 ((u0, ()), ()))) (fun u0 => K (.exit 0) (SSh.enc G F24_3x1 ((u0, ()), ()))) k x.1.1 x.1.2.1) y K) n
noncomputable def F24 (n : Nat) (a215 : List (List Stp)) : Option (Bool × Unit) :=
  (F24_3 n a215 (0 : Int) (fun z342 =>
  some (z342, ())) (fun z343 =>
  (andThen (F25 n ((z343.length) : Int) (1 : Int) (6 : Int)) fun r345 =>
  some (r345.1, ()))))
noncomputable def F24e (n : Nat) : Ent G := ⟨24, (.cons (.imm 5) .nil), [], .bool, [], fun x y => F24 n x.1⟩
theorem F24_eq (n : Nat) (x : ShL.den G (.cons (.imm 5) .nil)) (y : denO G []) : (F24e n).F x y = runFn prog G (ro G (tabOf (E18 n)) (frOf [F24_0z n, F24_1z n, F24_2z n, F24_3z n]) _) Go.Proofs.Try.f24 (.nd .no (.nd (.nd .no (.nd (.use 3) .no)) .no)) [(0, .fz)] (ShL.enc G (.cons (.imm 5) .nil) x) (encO G [] y) (decR .bool []) := by kernel_rfl
theorem F24_ok (n : Nat) : EntOK prog G (F24e n) :=
  ent_ok (fr := frOf [F24_0z n, F24_1z n, F24_2z n, F24_3z n]) (ann := (.nd .no (.nd (.nd .no (.nd (.use 3) .no)) .no))) (frm := [(0, .fz)]) laws fnok (E18_ok n).tab (e := F24e n) (fn := Go.Proofs.Try.f24) (by kernel_rfl) (AllF.ofB (cd := F24c) (l := [(3, codeAt F24c [1, 0, 1, 0])]) (by kernel_rfl) (by kernel_rfl) (AllF.cons (F24_3_ok n) AllF.nil)) (F24_eq n)
noncomputable def E19 (n : Nat) : List (Ent G) := F24e n :: E18 n
theorem E19_ok (n : Nat) : AllE prog G (E19 n) := AllE.cons (F24_ok n) (E18_ok n)
-- 28 loop.example/slowworm/spec.needsOf
noncomputable def F28c : Code := bodyOf Go.Proofs.Try.f28
noncomputable def F28_0x0 : SSh := ⟨52, [(0, (.imm 5)), (3, (.own 0)), (4, (.int .i64)), (5, (.own 1)), (6, (.int .i64))], [(.arr 2 true), (.arr 0 true)]⟩
noncomputable def F28_0s : SSh := ⟨52, [(0, (.imm 5)), (3, (.own 0)), (4, (.int .i64)), (5, (.own 1)), (6, (.int .i64))], [(.arr 2 true), (.arr 0 true)]⟩
noncomputable def F28_0 {R : Type} (n : Nat) (x369 : List (List Stp)) (x370 : Int) (x371 : Int) (x372 : List (List Int)) (x373 : List Int) (k0 : List (List Stp) → Int → Int → List (List Int) → List Int → Option R) : Option R :=
  (bif (decide ((0 : Int) ≤ x370)) then
  (bif (decide (x370 < ((x369.length) : Int))) then
  let v375 := (x369.getD (x370.toNat) [])
  (bif (decide ((0 : Int) ≤ x371)) then
  (bif (decide (x371 < ((v375.length) : Int))) then
  let v376 := (v375.getD (x371.toNat) (Stp.mk (0 : Int) (0 : Int) ({ data := #[] } : ByteArray)))
  let v377 := v376.kind
  let v378 := v376.num
  (bif (v377 == (1 : Int)) then
  let v381 := (v378 :: [])
  (bif (decide (((x373.length) + (v381.length)) ≤ (68719476736 : Nat))) then
  (k0 x369 x370 x371 x372 (x373 ++ v381))
  else none)
  else (bif (v377 == (2 : Int)) then
  let v384 := (v378 :: [])
  (bif (decide (((x373.length) + (v384.length)) ≤ (68719476736 : Nat))) then
  (k0 x369 x370 x371 x372 (x373 ++ v384))
  else none)
  else (k0 x369 x370 x371 x372 x373)))
  else none)
  else none)
  else none)
  else none)
noncomputable def F28_0z (n : Nat) : Sm G := inZ G 0 ⟨[0, 3, 4, 5, 6], []⟩ F28_0s fun R x K => F28_0 n x.1.1 x.1.2.2.1 x.1.2.2.2.2.1 x.2.1 x.2.2.1 (fun u0 u1 u2 u3 u4 => K .normal (SSh.enc G F28_0x0 ((u0, ((), (u1, ((), (u2, ()))))), (u3, (u4, ())))))
theorem F28_0_eq (n : Nat) (R : Type) (x : SSh.den G F28_0s) (K : AE → St G → Option R) :
  F28_0 n x.1.1 x.1.2.2.1 x.1.2.2.2.2.1 x.2.1 x.2.2.1 (fun u0 u1 u2 u3 u4 => K .normal (SSh.enc G F28_0x0 ((u0, ((), (u1, ((), (u2, ()))))), (u3, (u4, ()))))) = exec prog G (ro G (tabOf (E19 n)) (frOf []) R) 0 (codeAt F28c [1, 1, 0, 1, 0, 0, 1, 0, 0, 1, 0, 1, 0, 0, 1, 0]) .no (SSh.enc G F28_0s x) (kNrm G (ro G (tabOf (E19 n)) (frOf []) R) 0 ⟨⟨[0, 3, 4, 5, 6], []⟩, ⟨[2], []⟩, [(2, ⟨[0, 3, 4, 5], []⟩), (1, ⟨[0, 3, 4], []⟩), (0, ⟨[3], []⟩)]⟩ K) := by kernel_rfl
theorem F28_0_ok (n : Nat) : FragOK prog G 0 (codeAt F28c [1, 1, 0, 1, 0, 0, 1, 0, 0, 1, 0, 1, 0, 0, 1, 0]) (F28_0z n) :=
  frag_plain laws fnok (E19_ok n).tab (AllF.of (l := []) (by kernel_rfl) AllF.nil) (F28_0_eq n)
noncomputable def F28_1x0 : SSh := ⟨52, [(0, (.imm 5)), (3, (.own 0)), (4, (.int .i64)), (5, (.own 1))], [(.arr 2 true), (.arr 0 true)]⟩
noncomputable def F28_1s : SSh := ⟨52, [(0, (.imm 5)), (3, (.own 0)), (4, (.int .i64)), (5, (.own 1)), (6, (.int .i64))], [(.arr 2 true), (.arr 0 true)]⟩
noncomputable def F28_1_step {R : Type} (n : Nat) (k0 : List (List Stp) → Int → List (List Int) → List Int → Option R) (rec : List (List Stp) → Int → Int → List (List Int) → List Int → Option R) (x360 : List (List Stp)) (x361 : Int) (x362 : Int) (x363 : List (List Int)) (x364 : List Int) : Option R :=
  (bif (decide ((0 : Int) ≤ x361)) then
  (bif (decide (x361 < ((x360.length) : Int))) then
  (bif (decide (x362 < (((x360.getD (x361.toNat) []).length) : Int))) then
  (F28_0 n x360 x361 x362 x363 x364 (fun z386 z387 z388 z389 z390 =>
  (rec z386 z387 (IntKind.wrap .i64 (z388 + (1 : Int))) z389 z390)))
  else (k0 x360 x361 x363 x364))
  else none)
  else none)
noncomputable def F28_1_it {R : Type} (n : Nat) (k0 : List (List Stp) → Int → List (List Int) → List Int → Option R) : Nat → List (List Stp) → Int → Int → List (List Int) → List Int → Option R
  | 0, _, _, _, _, _ => none
  | k + 1, x360, x361, x362, x363, x364 => F28_1_step n k0 (F28_1_it n k0 k) x360 x361 x362 x363 x364
noncomputable def F28_1 {R : Type} (n : Nat) (x360 : List (List Stp)) (x361 : Int) (x362 : Int) (x363 : List (List Int)) (x364 : List Int) (k0 : List (List Stp) → Int → List (List Int) → List Int → Option R) : Option R := F28_1_it n k0 n x360 x361 x362 x363 x364
noncomputable def F28_1z (n : Nat) : Sm G := inZ G 0 ⟨[0, 3, 4, 5, 6], []⟩ F28_1s fun R x K => F28_1_it n (fun u0 u1 u2 u3 => K (.exit 2) (SSh.enc G F28_1x0 ((u0, ((), (u1, ((), ())))), (u2, (u3, ()))))) n x.1.1 x.1.2.2.1 x.1.2.2.2.2.1 x.2.1 x.2.2.1
theorem F28_1_eq (n : Nat) (R : Type) (rec : SSh.den G F28_1s → Option R) (x : SSh.den G F28_1s) (K : AE → St G → Option R) :
  F28_1_step n (fun u0 u1 u2 u3 => K (.exit 2) (SSh.enc G F28_1x0 ((u0, ((), (u1, ((), ())))), (u2, (u3, ()))))) (fun x360 x361 x362 x363 x364 => rec ((x360, ((), (x361, ((), (x362, ()))))), (x363, (x364, ())))) x.1.1 x.1.2.2.1 x.1.2.2.2.2.1 x.2.1 x.2.2.1 = exec prog G (ro G (tabOf (E19 n)) (frOf [F28_0z n]) R) 0 (codeAt F28c [1, 1, 0, 1, 0, 0, 1, 0, 0, 1, 0, 1, 0, 0]) (.nd .no (.nd (.use 0) .no)) (SSh.enc G F28_1s x) (kLoop G (ro G (tabOf (E19 n)) (frOf [F28_0z n]) R) 0 ⟨[0, 3, 4, 5, 6], []⟩ F28_1s ⟨⟨[0, 3, 4, 5], []⟩, ⟨[2], []⟩, [(2, ⟨[0, 3, 4, 5], []⟩), (1, ⟨[0, 3, 4], []⟩), (0, ⟨[3], []⟩)]⟩ rec K) := by kernel_rfl
theorem F28_1_ok (n : Nat) : FragOK prog G 0 (codeAt F28c [1, 1, 0, 1, 0, 0, 1, 0, 0, 1, 0, 1, 0]) (F28_1z n) :=
  frag_loop (Z := fun R k (x : SSh.den G F28_1s) K => F28_1_it n (fun u0 u1 u2 u3 => K (.exit 2) (SSh.enc G F28_1x0 ((u0, ((), (u1, ((), ())))), (u2, (u3, ()))))) k x.1.1 x.1.2.2.1 x.1.2.2.2.2.1 x.2.1 x.2.2.1) laws fnok (E19_ok n).tab (AllF.of (l := [(0, codeAt F28c [1, 1, 0, 1, 0, 0, 1, 0, 0, 1, 0, 1, 0, 0, 1, 0])]) (by kernel_rfl) (AllF.cons (F28_0_ok n) AllF.nil)) (fun _ _ _ => rfl) (fun R k y K => F28_1_eq n R (fun (x : SSh.den G F28_1s) => F28_1_it n (fun u0 u1 u2 u3 => K (.exit 2) (SSh.enc G F28_1x0 ((u0, ((), (u1, ((), ())))), (u2, (u3, ()))))) k x.1.1 x.1.2.2.1 x.1.2.2.2.2.1 x.2.1 x.2.2.1) y K) n
noncomputable def F28_2x0 : SSh := ⟨52, [(3, (.own 0))], [(.arr 2 true)]⟩
noncomputable def F28_2s : SSh := ⟨52, [(0, (.imm 5)), (3, (.own 0)), (4, (.int .i64))], [(.arr 2 true)]⟩
noncomputable def F28_2_step {R : Type} (n : Nat) (k0 : List (List Int) → Option R) (rec : List (List Stp) → Int → List (List Int) → Option R) (x354 : List (List Stp)) (x355 : Int) (x356 : List (List Int)) : Option R :=
  (bif (decide (x355 < ((x354.length) : Int))) then
  (F28_1 n x354 x355 (0 : Int) x356 [] (fun z392 z393 z394 z395 =>
  let v396 := (z395 :: [])
  (bif (decide (((z394.length) + (v396.length)) ≤ (68719476736 : Nat))) then
  (rec z392 (IntKind.wrap .i64 (z393 + (1 : Int))) (z394 ++ v396))
  else none)))
  else (k0 x356))
noncomputable def F28_2_it {R : Type} (n : Nat) (k0 : List (List Int) → Option R) : Nat → List (List Stp) → Int → List (List Int) → Option R
  | 0, _, _, _ => none
  | k + 1, x354, x355, x356 => F28_2_step n k0 (F28_2_it n k0 k) x354 x355 x356
noncomputable def F28_2 {R : Type} (n : Nat) (x354 : List (List Stp)) (x355 : Int) (x356 : List (List Int)) (k0 : List (List Int) → Option R) : Option R := F28_2_it n k0 n x354 x355 x356
noncomputable def F28_2z (n : Nat) : Sm G := inZ G 0 ⟨[0, 3, 4], []⟩ F28_2s fun R x K => F28_2_it n (fun u0 => K (.exit 0) (SSh.enc G F28_2x0 (((), ()), (u0, ())))) n x.1.1 x.1.2.2.1 x.2.1
theorem F28_2_eq (n : Nat) (R : Type) (rec : SSh.den G F28_2s → Option R) (x : SSh.den G F28_2s) (K : AE → St G → Option R) :
  F28_2_step n (fun u0 => K (.exit 0) (SSh.enc G F28_2x0 (((), ()), (u0, ())))) (fun x354 x355 x356 => rec ((x354, ((), (x355, ()))), (x356, ()))) x.1.1 x.1.2.2.1 x.2.1 = exec prog G (ro G (tabOf (E19 n)) (frOf [F28_0z n, F28_1z n]) R) 0 (codeAt F28c [1, 1, 0, 1, 0, 0]) (.nd .no (.nd (.nd (.nd .no (.nd (.nd .no (.nd (.use 1) .no)) .no)) .no) .no)) (SSh.enc G F28_2s x) (kLoop G (ro G (tabOf (E19 n)) (frOf [F28_0z n, F28_1z n]) R) 0 ⟨[0, 3, 4], []⟩ F28_2s ⟨⟨[3], []⟩, ⟨[2], []⟩, [(0, ⟨[3], []⟩)]⟩ rec K) := by kernel_rfl
theorem F28_2_ok (n : Nat) : FragOK prog G 0 (codeAt F28c [1, 1, 0, 1, 0]) (F28_2z n) :=
  frag_loop (Z := fun R k (x : SSh.den G F28_2s) K => F28_2_it n (fun u0 => K (.exit 0) (SSh.enc G F28_2x0 (((), ()), (u0, ())))) k x.1.1 x.1.2.2.1 x.2.1) laws fnok (E19_ok n).tab (AllF.of (l := [(1, codeAt F28c [1, 1, 0, 1, 0, 0, 1, 0, 0, 1, 0, 1, 0])]) (by kernel_rfl) (AllF.cons (F28_1_ok n) AllF.nil)) (fun _ _ _ => rfl) (fun R k y K => F28_2_eq n R (fun (x : SSh.den G F28_2s) => F28_2_it n (fun u0 => K (.exit 0) (SSh.enc G F28_2x0 (((), ()), (u0, ())))) k x.1.1 x.1.2.2.1 x.2.1) y K) n
noncomputable def F28 (n : Nat) (a352 : List (List Stp)) : Option (List (List Int) × Unit) :=
  (F28_2 n a352 (0 : Int) [] (fun z399 =>
  some (z399, ())))
noncomputable def F28e (n : Nat) : Ent G := ⟨28, (.cons (.imm 5) .nil), [], (.imm 2), [], fun x y => F28 n x.1⟩
theorem F28_eq (n : Nat) (x : ShL.den G (.cons (.imm 5) .nil)) (y : denO G []) : (F28e n).F x y = runFn prog G (ro G (tabOf (E19 n)) (frOf [F28_0z n, F28_1z n, F28_2z n]) _) Go.Proofs.Try.f28 (.nd .no (.nd .no (.nd (.nd .no (.nd (.use 2) .no)) .no))) [(0, .fz)] (ShL.enc G (.cons (.imm 5) .nil) x) (encO G [] y) (decR (.imm 2) []) := by kernel_rfl
theorem F28_ok (n : Nat) : EntOK prog G (F28e n) :=
  ent_ok (fr := frOf [F28_0z n, F28_1z n, F28_2z n]) (ann := (.nd .no (.nd .no (.nd (.nd .no (.nd (.use 2) .no)) .no)))) (frm := [(0, .fz)]) laws fnok (E19_ok n).tab (e := F28e n) (fn := Go.Proofs.Try.f28) (by kernel_rfl) (AllF.ofB (cd := F28c) (l := [(2, codeAt F28c [1, 1, 0, 1, 0])]) (by kernel_rfl) (by kernel_rfl) (AllF.cons (F28_2_ok n) AllF.nil)) (F28_eq n)
noncomputable def E20 (n : Nat) : List (Ent G) := F28e n :: E19 n
theorem E20_ok (n : Nat) : AllE prog G (E20 n) := AllE.cons (F28_ok n) (E19_ok n)
-- 27 loop.example/slowworm/spec.marked
noncomputable def F27c : Code := bodyOf Go.Proofs.Try.f27
noncomputable def F27_0x0 : SSh := ⟨43, [(0, (.imm 2)), (5, (.own 0)), (6, (.own 1)), (7, (.int .i64))], [(.arr 1 true), (.arr 0 true)]⟩
noncomputable def F27_0s : SSh := ⟨43, [(0, (.imm 2)), (5, (.own 0)), (6, (.own 1)), (7, (.int .i64))], [(.arr 1 true), (.arr 0 true)]⟩
noncomputable def F27_0 {R : Type} (n : Nat) (x414 : List (List Int)) (x415 : Int) (x416 : List Bool) (x417 : List Int) (k0 : List (List Int) → Int → List Bool → List Int → Option R) : Option R :=
  (bif (decide ((0 : Int) ≤ x415)) then
  (bif (decide (x415 < ((x417.length) : Int))) then
  let v419 := (x417.getD (x415.toNat) (0 : Int))
  (bif (decide ((0 : Int) ≤ v419)) then
  (bif (decide (v419 < ((x416.length) : Int))) then
  (bif (x416.getD (v419.toNat) false) then
  (k0 x414 x415 x416 x417)
  else (bif (decide ((0 : Int) ≤ x415)) then
  (bif (decide (x415 < ((x417.length) : Int))) then
  let v423 := (x417.getD (x415.toNat) (0 : Int))
  (bif (decide ((0 : Int) ≤ v423)) then
  (bif (decide (v423 < ((x416.length) : Int))) then
  (bif (decide ((0 : Int) ≤ x415)) then
  (bif (decide (x415 < ((x417.length) : Int))) then
  let v427 := (x417.getD (x415.toNat) (0 : Int))
  (bif (decide ((0 : Int) ≤ v427)) then
  (bif (decide (v427 < ((x414.length) : Int))) then
  let v429 := (x414.getD (v427.toNat) [])
  (bif (decide (((x417.length) + (v429.length)) ≤ (68719476736 : Nat))) then
  (k0 x414 x415 (x416.set (v423.toNat) true) (x417 ++ v429))
  else none)
  else none)
  else none)
  else none)
  else none)
  else none)
  else none)
  else none)
  else none))
  else none)
  else none)
  else none)
  else none)
noncomputable def F27_0z (n : Nat) : Sm G := inZ G 0 ⟨[0, 5, 6, 7], []⟩ F27_0s fun R x K => F27_0 n x.1.1 x.1.2.2.2.1 x.2.1 x.2.2.1 (fun u0 u1 u2 u3 => K .normal (SSh.enc G F27_0x0 ((u0, ((), ((), (u1, ())))), (u2, (u3, ())))))
theorem F27_0_eq (n : Nat) (R : Type) (x : SSh.den G F27_0s) (K : AE → St G → Option R) :
  F27_0 n x.1.1 x.1.2.2.2.1 x.2.1 x.2.2.1 (fun u0 u1 u2 u3 => K .normal (SSh.enc G F27_0x0 ((u0, ((), ((), (u1, ())))), (u2, (u3, ()))))) = exec prog G (ro G (tabOf (E20 n)) (frOf []) R) 0 (codeAt F27c [1, 1, 1, 0, 1, 0, 0, 1, 0]) .no (SSh.enc G F27_0s x) (kNrm G (ro G (tabOf (E20 n)) (frOf []) R) 0 ⟨⟨[0, 5, 6, 7], []⟩, ⟨[4], []⟩, [(0, ⟨[5], []⟩)]⟩ K) := by kernel_rfl
theorem F27_0_ok (n : Nat) : FragOK prog G 0 (codeAt F27c [1, 1, 1, 0, 1, 0, 0, 1, 0]) (F27_0z n) :=
  frag_plain laws fnok (E20_ok n).tab (AllF.of (l := []) (by kernel_rfl) AllF.nil) (F27_0_eq n)
noncomputable def F27_1x0 : SSh := ⟨43, [(5, (.own 0))], [(.arr 1 true)]⟩
noncomputable def F27_1s : SSh := ⟨43, [(0, (.imm 2)), (5, (.own 0)), (6, (.own 1)), (7, (.int .i64))], [(.arr 1 true), (.arr 0 true)]⟩
noncomputable def F27_1_step {R : Type} (n : Nat) (k0 : List Bool → Option R) (rec : List (List Int) → Int → List Bool → List Int → Option R) (x408 : List (List Int)) (x409 : Int) (x410 : List Bool) (x411 : List Int) : Option R :=
  (bif (decide (x409 < ((x411.length) : Int))) then
  (F27_0 n x408 x409 x410 x411 (fun z431 z432 z433 z434 =>
  (rec z431 (IntKind.wrap .i64 (z432 + (1 : Int))) z433 z434)))
  else (k0 x410))
noncomputable def F27_1_it {R : Type} (n : Nat) (k0 : List Bool → Option R) : Nat → List (List Int) → Int → List Bool → List Int → Option R
  | 0, _, _, _, _ => none
  | k + 1, x408, x409, x410, x411 => F27_1_step n k0 (F27_1_it n k0 k) x408 x409 x410 x411
noncomputable def F27_1 {R : Type} (n : Nat) (x408 : List (List Int)) (x409 : Int) (x410 : List Bool) (x411 : List Int) (k0 : List Bool → Option R) : Option R := F27_1_it n k0 n x408 x409 x410 x411
noncomputable def F27_1z (n : Nat) : Sm G := inZ G 0 ⟨[0, 5, 6, 7], []⟩ F27_1s fun R x K => F27_1_it n (fun u0 => K (.exit 0) (SSh.enc G F27_1x0 (((), ()), (u0, ())))) n x.1.1 x.1.2.2.2.1 x.2.1 x.2.2.1
theorem F27_1_eq (n : Nat) (R : Type) (rec : SSh.den G F27_1s → Option R) (x : SSh.den G F27_1s) (K : AE → St G → Option R) :
  F27_1_step n (fun u0 => K (.exit 0) (SSh.enc G F27_1x0 (((), ()), (u0, ())))) (fun x408 x409 x410 x411 => rec ((x408, ((), ((), (x409, ())))), (x410, (x411, ())))) x.1.1 x.1.2.2.2.1 x.2.1 x.2.2.1 = exec prog G (ro G (tabOf (E20 n)) (frOf [F27_0z n]) R) 0 (codeAt F27c [1, 1, 1, 0, 1, 0, 0]) (.nd .no (.nd (.use 0) .no)) (SSh.enc G F27_1s x) (kLoop G (ro G (tabOf (E20 n)) (frOf [F27_0z n]) R) 0 ⟨[0, 5, 6, 7], []⟩ F27_1s ⟨⟨[5], []⟩, ⟨[4], []⟩, [(0, ⟨[5], []⟩)]⟩ rec K) := by kernel_rfl
theorem F27_1_ok (n : Nat) : FragOK prog G 0 (codeAt F27c [1, 1, 1, 0, 1, 0]) (F27_1z n) :=
  frag_loop (Z := fun R k (x : SSh.den G F27_1s) K => F27_1_it n (fun u0 => K (.exit 0) (SSh.enc G F27_1x0 (((), ()), (u0, ())))) k x.1.1 x.1.2.2.2.1 x.2.1 x.2.2.1) laws fnok (E20_ok n).tab (AllF.of (l := [(0, codeAt F27c [1, 1, 1, 0, 1, 0, 0, 1, 0])]) (by kernel_rfl) (AllF.cons (F27_0_ok n) AllF.nil)) (fun _ _ _ => rfl) (fun R k y K => F27_1_eq n R (fun (x : SSh.den G F27_1s) => F27_1_it n (fun u0 => K (.exit 0) (SSh.enc G F27_1x0 (((), ()), (u0, ())))) k x.1.1 x.1.2.2.2.1 x.2.1 x.2.2.1) y K) n
noncomputable def F27 (n : Nat) (a402 : List (List Int)) (a403 : List Int) : Option (List Bool × Unit) :=
  let v404 := ((a402.length) : Int)
  (bif (decide ((0 : Int) ≤ v404)) then
  (bif (decide (v404 ≤ v404)) then
  (bif (decide (v404 ≤ ((68719476736 : Nat) : Int))) then
  let v406 := []
  (bif (decide (((v406.length) + (a403.length)) ≤ (68719476736 : Nat))) then
  (F27_1 n a402 (0 : Int) (List.replicate (v404.toNat) false) (v406 ++ a403) (fun z436 =>
  some (z436, ())))
  else none)
  else none)
  else none)
  else none)
noncomputable def F27e (n : Nat) : Ent G := ⟨27, (.cons (.imm 2) (.cons (.imm 0) .nil)), [], (.imm 1), [], fun x y => F27 n x.1 x.2.1⟩
theorem F27_eq (n : Nat) (x : ShL.den G (.cons (.imm 2) (.cons (.imm 0) .nil))) (y : denO G []) : (F27e n).F x y = runFn prog G (ro G (tabOf (E20 n)) (frOf [F27_0z n, F27_1z n]) _) Go.Proofs.Try.f27 (.nd .no (.nd .no (.nd .no (.nd (.nd .no (.nd (.use 1) .no)) .no)))) [(0, .fz)] (ShL.enc G (.cons (.imm 2) (.cons (.imm 0) .nil)) x) (encO G [] y) (decR (.imm 1) []) := by kernel_rfl
theorem F27_ok (n : Nat) : EntOK prog G (F27e n) :=
  ent_ok (fr := frOf [F27_0z n, F27_1z n]) (ann := (.nd .no (.nd .no (.nd .no (.nd (.nd .no (.nd (.use 1) .no)) .no))))) (frm := [(0, .fz)]) laws fnok (E20_ok n).tab (e := F27e n) (fn := Go.Proofs.Try.f27) (by kernel_rfl) (AllF.ofB (cd := F27c) (l := [(1, codeAt F27c [1, 1, 1, 0, 1, 0])]) (by kernel_rfl) (by kernel_rfl) (AllF.cons (F27_1_ok n) AllF.nil)) (F27_eq n)
noncomputable def E21 (n : Nat) : List (Ent G) := F27e n :: E20 n
theorem E21_ok (n : Nat) : AllE prog G (E21 n) := AllE.cons (F27_ok n) (E20_ok n)
-- 26 loop.example/slowworm/spec.indices
noncomputable def F26c : Code := bodyOf Go.Proofs.Try.f26
noncomputable def F26_0x0 : SSh := ⟨25, [(0, (.imm 1)), (1, .bool), (5, (.own 0)), (6, (.int .i64))], [(.arr 0 true)]⟩
noncomputable def F26_0s : SSh := ⟨25, [(0, (.imm 1)), (1, .bool), (5, (.own 0)), (6, (.int .i64))], [(.arr 0 true)]⟩
noncomputable def F26_0 {R : Type} (n : Nat) (x447 : List Bool) (x448 : Bool) (x449 : Int) (x450 : List Int) (k0 : List Bool → Bool → Int → List Int → Option R) : Option R :=
  (bif (decide ((0 : Int) ≤ x449)) then
  (bif (decide (x449 < ((x447.length) : Int))) then
  (bif ((x447.getD (x449.toNat) false) == x448) then
  let v454 := (x449 :: [])
  (bif (decide (((x450.length) + (v454.length)) ≤ (68719476736 : Nat))) then
  (k0 x447 x448 x449 (x450 ++ v454))
  else none)
  else (k0 x447 x448 x449 x450))
  else none)
  else none)
noncomputable def F26_0z (n : Nat) : Sm G := inZ G 0 ⟨[0, 1, 5, 6], []⟩ F26_0s fun R x K => F26_0 n x.1.1 x.1.2.1 x.1.2.2.2.1 x.2.1 (fun u0 u1 u2 u3 => K .normal (SSh.enc G F26_0x0 ((u0, (u1, ((), (u2, ())))), (u3, ()))))
theorem F26_0_eq (n : Nat) (R : Type) (x : SSh.den G F26_0s) (K : AE → St G → Option R) :
  F26_0 n x.1.1 x.1.2.1 x.1.2.2.2.1 x.2.1 (fun u0 u1 u2 u3 => K .normal (SSh.enc G F26_0x0 ((u0, (u1, ((), (u2, ())))), (u3, ())))) = exec prog G (ro G (tabOf (E21 n)) (frOf []) R) 0 (codeAt F26c [1, 1, 0, 1, 0, 0, 1, 0]) .no (SSh.enc G F26_0s x) (kNrm G (ro G (tabOf (E21 n)) (frOf []) R) 0 ⟨⟨[0, 1, 5, 6], []⟩, ⟨[4], []⟩, [(0, ⟨[5], []⟩)]⟩ K) := by kernel_rfl
theorem F26_0_ok (n : Nat) : FragOK prog G 0 (codeAt F26c [1, 1, 0, 1, 0, 0, 1, 0]) (F26_0z n) :=
  frag_plain laws fnok (E21_ok n).tab (AllF.of (l := []) (by kernel_rfl) AllF.nil) (F26_0_eq n)
noncomputable def F26_1x0 : SSh := ⟨25, [(5, (.own 0))], [(.arr 0 true)]⟩
noncomputable def F26_1s : SSh := ⟨25, [(0, (.imm 1)), (1, .bool), (5, (.own 0)), (6, (.int .i64))], [(.arr 0 true)]⟩
noncomputable def F26_1_step {R : Type} (n : Nat) (k0 : List Int → Option R) (rec : List Bool → Bool → Int → List Int → Option R) (x441 : List Bool) (x442 : Bool) (x443 : Int) (x444 : List Int) : Option R :=
  (bif (decide (x443 < ((x441.length) : Int))) then
  (F26_0 n x441 x442 x443 x444 (fun z456 z457 z458 z459 =>
  (rec z456 z457 (IntKind.wrap .i64 (z458 + (1 : Int))) z459)))
  else (k0 x444))
noncomputable def F26_1_it {R : Type} (n : Nat) (k0 : List Int → Option R) : Nat → List Bool → Bool → Int → List Int → Option R
  | 0, _, _, _, _ => none
  | k + 1, x441, x442, x443, x444 => F26_1_step n k0 (F26_1_it n k0 k) x441 x442 x443 x444
noncomputable def F26_1 {R : Type} (n : Nat) (x441 : List Bool) (x442 : Bool) (x443 : Int) (x444 : List Int) (k0 : List Int → Option R) : Option R := F26_1_it n k0 n x441 x442 x443 x444
noncomputable def F26_1z (n : Nat) : Sm G := inZ G 0 ⟨[0, 1, 5, 6], []⟩ F26_1s fun R x K => F26_1_it n (fun u0 => K (.exit 0) (SSh.enc G F26_1x0 (((), ()), (u0, ())))) n x.1.1 x.1.2.1 x.1.2.2.2.1 x.2.1
theorem F26_1_eq (n : Nat) (R : Type) (rec : SSh.den G F26_1s → Option R) (x : SSh.den G F26_1s) (K : AE → St G → Option R) :
  F26_1_step n (fun u0 => K (.exit 0) (SSh.enc G F26_1x0 (((), ()), (u0, ())))) (fun x441 x442 x443 x444 => rec ((x441, (x442, ((), (x443, ())))), (x444, ()))) x.1.1 x.1.2.1 x.1.2.2.2.1 x.2.1 = exec prog G (ro G (tabOf (E21 n)) (frOf [F26_0z n]) R) 0 (codeAt F26c [1, 1, 0, 1, 0, 0]) (.nd .no (.nd (.use 0) .no)) (SSh.enc G F26_1s x) (kLoop G (ro G (tabOf (E21 n)) (frOf [F26_0z n]) R) 0 ⟨[0, 1, 5, 6], []⟩ F26_1s ⟨⟨[5], []⟩, ⟨[4], []⟩, [(0, ⟨[5], []⟩)]⟩ rec K) := by kernel_rfl
theorem F26_1_ok (n : Nat) : FragOK prog G 0 (codeAt F26c [1, 1, 0, 1, 0]) (F26_1z n) :=
  frag_loop (Z := fun R k (x : SSh.den G F26_1s) K => F26_1_it n (fun u0 => K (.exit 0) (SSh.enc G F26_1x0 (((), ()), (u0, ())))) k x.1.1 x.1.2.1 x.1.2.2.2.1 x.2.1) laws fnok (E21_ok n).tab (AllF.of (l := [(0, codeAt F26c [1, 1, 0, 1, 0, 0, 1, 0])]) (by kernel_rfl) (AllF.cons (F26_0_ok n) AllF.nil)) (fun _ _ _ => rfl) (fun R k y K => F26_1_eq n R (fun (x : SSh.den G F26_1s) => F26_1_it n (fun u0 => K (.exit 0) (SSh.enc G F26_1x0 (((), ()), (u0, ())))) k x.1.1 x.1.2.1 x.1.2.2.2.1 x.2.1) y K) n
noncomputable def F26 (n : Nat) (a438 : List Bool) (a439 : Bool) : Option (List Int × Unit) :=
  (F26_1 n a438 a439 (0 : Int) [] (fun z461 =>
  some (z461, ())))
noncomputable def F26e (n : Nat) : Ent G := ⟨26, (.cons (.imm 1) (.cons .bool .nil)), [], (.imm 0), [], fun x y => F26 n x.1 x.2.1⟩
theorem F26_eq (n : Nat) (x : ShL.den G (.cons (.imm 1) (.cons .bool .nil))) (y : denO G []) : (F26e n).F x y = runFn prog G (ro G (tabOf (E21 n)) (frOf [F26_0z n, F26_1z n]) _) Go.Proofs.Try.f26 (.nd .no (.nd .no (.nd (.nd .no (.nd (.use 1) .no)) .no))) [(0, .fz)] (ShL.enc G (.cons (.imm 1) (.cons .bool .nil)) x) (encO G [] y) (decR (.imm 0) []) := by kernel_rfl
theorem F26_ok (n : Nat) : EntOK prog G (F26e n) :=
  ent_ok (fr := frOf [F26_0z n, F26_1z n]) (ann := (.nd .no (.nd .no (.nd (.nd .no (.nd (.use 1) .no)) .no)))) (frm := [(0, .fz)]) laws fnok (E21_ok n).tab (e := F26e n) (fn := Go.Proofs.Try.f26) (by kernel_rfl) (AllF.ofB (cd := F26c) (l := [(1, codeAt F26c [1, 1, 0, 1, 0])]) (by kernel_rfl) (by kernel_rfl) (AllF.cons (F26_1_ok n) AllF.nil)) (F26_eq n)
noncomputable def E22 (n : Nat) : List (Ent G) := F26e n :: E21 n
theorem E22_ok (n : Nat) : AllE prog G (E22 n) := AllE.cons (F26_ok n) (E21_ok n)
-- 8 loop.example/slowworm/spec.ImportNeeds
noncomputable def F8c : Code := bodyOf Go.Proofs.Try.f8
noncomputable def F8 (n : Nat) (a463 : List (List Stp)) (a464 : Int) : Option (List Int × Unit) :=
  (andThen (F24 n a463) fun r465 =>
  (bif (!r465.1) then
  some ([], ())
  else (andThen (F25 n a464 (0 : Int) (IntKind.wrap .i64 (((a463.length) : Int) - (1 : Int)))) fun r469 =>
  (bif (!r469.1) then
  some ([], ())
  else (andThen (F28 n a463) fun r471 =>
  (andThen (F27 n r471.1 (a464 :: [])) fun r473 =>
  (andThen (F26 n r473.1 true) fun r474 =>
  some (r474.1, ()))))))))
noncomputable def F8e (n : Nat) : Ent G := ⟨8, (.cons (.imm 5) (.cons (.int .i64) .nil)), [], (.imm 0), [], fun x y => F8 n x.1 x.2.1⟩
theorem F8_eq (n : Nat) (x : ShL.den G (.cons (.imm 5) (.cons (.int .i64) .nil))) (y : denO G []) : (F8e n).F x y = runFn prog G (ro G (tabOf (E22 n)) (frOf []) _) Go.Proofs.Try.f8 .no [(0, .fz)] (ShL.enc G (.cons (.imm 5) (.cons (.int .i64) .nil)) x) (encO G [] y) (decR (.imm 0) []) := by kernel_rfl
theorem F8_ok (n : Nat) : EntOK prog G (F8e n) :=
  ent_ok (fr := frOf []) (ann := .no) (frm := [(0, .fz)]) laws fnok (E22_ok n).tab (e := F8e n) (fn := Go.Proofs.Try.f8) (by kernel_rfl) (AllF.ofB (cd := F8c) (l := []) (by kernel_rfl) (by kernel_rfl) AllF.nil) (F8_eq n)
noncomputable def E23 (n : Nat) : List (Ent G) := F8e n :: E22 n
theorem E23_ok (n : Nat) : AllE prog G (E23 n) := AllE.cons (F8_ok n) (E22_ok n)
-- 10 loop.example/slowworm/impl.ImportNeeds
noncomputable def F10c : Code := bodyOf Go.Proofs.Try.f10
-- 30 loop.example/slowworm/impl.ModsOk
noncomputable def F30c : Code := bodyOf Go.Proofs.Try.f30
-- 49 loop.example/slowworm/impl.NameOk
noncomputable def F49c : Code := bodyOf Go.Proofs.Try.f49
-- 66 loop.example/slowworm/impl.isDigit
noncomputable def F66c : Code := bodyOf Go.Proofs.Try.f66
noncomputable def F66 (n : Nat) (a518 : Int) : Option (Bool × Unit) :=
  (bif (decide (a518 ≥ (48 : Int))) then
  some ((decide (a518 ≤ (57 : Int))), ())
  else some (false, ()))
noncomputable def F66e (n : Nat) : Ent G := ⟨66, (.cons (.int .u8) .nil), [], .bool, [], fun x y => F66 n x.1⟩
theorem F66_eq (n : Nat) (x : ShL.den G (.cons (.int .u8) .nil)) (y : denO G []) : (F66e n).F x y = runFn prog G (ro G (tabOf (E23 n)) (frOf []) _) Go.Proofs.Try.f66 .no [(0, .fz)] (ShL.enc G (.cons (.int .u8) .nil) x) (encO G [] y) (decR .bool []) := by kernel_rfl
theorem F66_ok (n : Nat) : EntOK prog G (F66e n) :=
  ent_ok (fr := frOf []) (ann := .no) (frm := [(0, .fz)]) laws fnok (E23_ok n).tab (e := F66e n) (fn := Go.Proofs.Try.f66) (by kernel_rfl) (AllF.ofB (cd := F66c) (l := []) (by kernel_rfl) (by kernel_rfl) AllF.nil) (F66_eq n)
noncomputable def E24 (n : Nat) : List (Ent G) := F66e n :: E23 n
theorem E24_ok (n : Nat) : AllE prog G (E24 n) := AllE.cons (F66_ok n) (E23_ok n)
-- 67 loop.example/slowworm/impl.IsKeyword
noncomputable def F67c : Code := bodyOf Go.Proofs.Try.f67
-- 76 loop.example/slowworm/impl.keywords
noncomputable def F76c : Code := bodyOf Go.Proofs.Try.f76
noncomputable def F76 (n : Nat)  : Option (List ByteArray × Unit) :=
  some ((({ data := #[78, 111, 110, 101] } : ByteArray) :: (({ data := #[84, 114, 117, 101] } : ByteArray) :: (({ data := #[70, 97, 108, 115, 101] } : ByteArray) :: (({ data := #[97, 110, 100] } : ByteArray) :: (({ data := #[111, 114] } : ByteArray) :: (({ data := #[110, 111, 116] } : ByteArray) :: (({ data := #[105, 110] } : ByteArray) :: (({ data := #[105, 115] } : ByteArray) :: (({ data := #[105, 102] } : ByteArray) :: (({ data := #[101, 108, 105, 102] } : ByteArray) :: (({ data := #[101, 108, 115, 101] } : ByteArray) :: (({ data := #[119, 104, 105, 108, 101] } : ByteArray) :: (({ data := #[102, 111, 114] } : ByteArray) :: (({ data := #[98, 114, 101, 97, 107] } : ByteArray) :: (({ data := #[99, 111, 110, 116, 105, 110, 117, 101] } : ByteArray) :: (({ data := #[112, 97, 115, 115] } : ByteArray) :: (({ data := #[100, 101, 102] } : ByteArray) :: (({ data := #[114, 101, 116, 117, 114, 110] } : ByteArray) :: (({ data := #[108, 97, 109, 98, 100, 97] } : ByteArray) :: (({ data := #[99, 108, 97, 115, 115] } : ByteArray) :: (({ data := #[116, 114, 121] } : ByteArray) :: (({ data := #[101, 120, 99, 101, 112, 116] } : ByteArray) :: (({ data := #[102, 105, 110, 97, 108, 108, 121] } : ByteArray) :: (({ data := #[114, 97, 105, 115, 101] } : ByteArray) :: (({ data := #[97, 115] } : ByteArray) :: (({ data := #[103, 108, 111, 98, 97, 108] } : ByteArray) :: (({ data := #[110, 111, 110, 108, 111, 99, 97, 108] } : ByteArray) :: (({ data := #[121, 105, 101, 108, 100] } : ByteArray) :: (({ data := #[105, 109, 112, 111, 114, 116] } : ByteArray) :: (({ data := #[100, 101, 108] } : ByteArray) :: (({ data := #[97, 115, 115, 101, 114, 116] } : ByteArray) :: []))))))))))))))))))))))))))))))), ())
noncomputable def F76e (n : Nat) : Ent G := ⟨76, .nil, [], (.imm 7), [], fun x y => F76 n⟩
theorem F76_eq (n : Nat) (x : ShL.den G .nil) (y : denO G []) : (F76e n).F x y = runFn prog G (ro G (tabOf (E24 n)) (frOf []) _) Go.Proofs.Try.f76 .no [(0, .fz)] (ShL.enc G .nil x) (encO G [] y) (decR (.imm 7) []) := by kernel_rfl
theorem F76_ok (n : Nat) : EntOK prog G (F76e n) :=
  ent_ok (fr := frOf []) (ann := .no) (frm := [(0, .fz)]) laws fnok (E24_ok n).tab (e := F76e n) (fn := Go.Proofs.Try.f76) (by kernel_rfl) (AllF.ofB (cd := F76c) (l := []) (by kernel_rfl) (by kernel_rfl) AllF.nil) (F76_eq n)
noncomputable def E25 (n : Nat) : List (Ent G) := F76e n :: E24 n
theorem E25_ok (n : Nat) : AllE prog G (E25 n) := AllE.cons (F76_ok n) (E24_ok n)
-- 75 slices.Contains[[]string,string]
noncomputable def F75c : Code := bodyOf Go.Proofs.Try.f75
-- 81 slices.Index[[]string,string]
noncomputable def F81c : Code := bodyOf Go.Proofs.Try.f81
noncomputable def F81_0x0 : SSh := ⟨19, [(4, (.int .i64))], []⟩
noncomputable def F81_0x1 : SSh := ⟨19, [], []⟩
noncomputable def F81_0s : SSh := ⟨19, [(0, (.imm 7)), (1, .str), (7, (.int .i64)), (8, (.int .i64))], []⟩
noncomputable def F81_0_step {R : Type} (n : Nat) (k0 : Int → Option R) (k1 : Option R) (rec : List ByteArray → ByteArray → Int → Int → Option R) (x530 : List ByteArray) (x531 : ByteArray) (x532 : Int) (x533 : Int) : Option R :=
  (bif (decide (x533 < x532)) then
  (bif (decide ((0 : Int) ≤ x533)) then
  (bif (decide (x533 < ((x530.length) : Int))) then
  (bif ((x531.toList) == ((x530.getD (x533.toNat) ({ data := #[] } : ByteArray)).toList)) then
  (k0 x533)
  else (rec x530 x531 x532 (IntKind.wrap .i64 (x533 + (1 : Int)))))
  else none)
  else none)
  else k1)
noncomputable def F81_0_it {R : Type} (n : Nat) (k0 : Int → Option R) (k1 : Option R) : Nat → List ByteArray → ByteArray → Int → Int → Option R
  | 0, _, _, _, _ => none
  | k + 1, x530, x531, x532, x533 => F81_0_step n k0 k1 (F81_0_it n k0 k1 k) x530 x531 x532 x533
noncomputable def F81_0 {R : Type} (n : Nat) (x530 : List ByteArray) (x531 : ByteArray) (x532 : Int) (x533 : Int) (k0 : Int → Option R) (k1 : Option R) : Option R := F81_0_it n k0 k1 n x530 x531 x532 x533
noncomputable def F81_0z (n : Nat) : Sm G := inZ G 0 ⟨[0, 1, 7, 8], []⟩ F81_0s fun R x K => F81_0_it n (fun u0 => K .ret (SSh.enc G F81_0x0 ((u0, ()), ()))) (K (.exit 0) (SSh.enc G F81_0x1 ((), ()))) n x.1.1 x.1.2.1 x.1.2.2.1 x.1.2.2.2.1
theorem F81_0_eq (n : Nat) (R : Type) (rec : SSh.den G F81_0s → Option R) (x : SSh.den G F81_0s) (K : AE → St G → Option R) :
  F81_0_step n (fun u0 => K .ret (SSh.enc G F81_0x0 ((u0, ()), ()))) (K (.exit 0) (SSh.enc G F81_0x1 ((), ()))) (fun x530 x531 x532 x533 => rec ((x530, (x531, (x532, (x533, ())))), ())) x.1.1 x.1.2.1 x.1.2.2.1 x.1.2.2.2.1 = exec prog G (ro G (tabOf (E25 n)) (frOf []) R) 0 (codeAt F81c [1, 0, 1, 0, 0]) .no (SSh.enc G F81_0s x) (kLoop G (ro G (tabOf (E25 n)) (frOf []) R) 0 ⟨[0, 1, 7, 8], []⟩ F81_0s ⟨⟨[], []⟩, ⟨[4], []⟩, [(0, ⟨[], []⟩)]⟩ rec K) := by kernel_rfl
theorem F81_0_ok (n : Nat) : FragOK prog G 0 (codeAt F81c [1, 0, 1, 0]) (F81_0z n) :=
  frag_loop (Z := fun R k (x : SSh.den G F81_0s) K => F81_0_it n (fun u0 => K .ret (SSh.enc G F81_0x0 ((u0, ()), ()))) (K (.exit 0) (SSh.enc G F81_0x1 ((), ()))) k x.1.1 x.1.2.1 x.1.2.2.1 x.1.2.2.2.1) laws fnok (E25_ok n).tab (AllF.of (l := []) (by kernel_rfl) AllF.nil) (fun _ _ _ => rfl) (fun R k y K => F81_0_eq n R (fun (x : SSh.den G F81_0s) => F81_0_it n (fun u0 => K .ret (SSh.enc G F81_0x0 ((u0, ()), ()))) (K (.exit 0) (SSh.enc G F81_0x1 ((), ()))) k x.1.1 x.1.2.1 x.1.2.2.1 x.1.2.2.2.1) y K) n
noncomputable def F81 (n : Nat) (a527 : List ByteArray) (a528 : ByteArray) : Option (Int × Unit) :=
  (F81_0 n a527 a528 ((a527.length) : Int) (0 : Int) (fun z539 =>
  some (z539, ())) (
  some ((-1 : Int), ())))
noncomputable def F81e (n : Nat) : Ent G := ⟨81, (.cons (.imm 7) (.cons .str .nil)), [], (.int .i64), [], fun x y => F81 n x.1 x.2.1⟩
theorem F81_eq (n : Nat) (x : ShL.den G (.cons (.imm 7) (.cons .str .nil))) (y : denO G []) : (F81e n).F x y = runFn prog G (ro G (tabOf (E25 n)) (frOf [F81_0z n]) _) Go.Proofs.Try.f81 (.nd .no (.nd (.nd .no (.nd (.use 0) .no)) .no)) [(0, .fz)] (ShL.enc G (.cons (.imm 7) (.cons .str .nil)) x) (encO G [] y) (decR (.int .i64) []) := by kernel_rfl
theorem F81_ok (n : Nat) : EntOK prog G (F81e n) :=
  ent_ok (fr := frOf [F81_0z n]) (ann := (.nd .no (.nd (.nd .no (.nd (.use 0) .no)) .no))) (frm := [(0, .fz)]) laws fnok (E25_ok n).tab (e := F81e n) (fn := Go.Proofs.Try.f81) (by kernel_rfl) (AllF.ofB (cd := F81c) (l := [(0, codeAt F81c [1, 0, 1, 0])]) (by kernel_rfl) (by kernel_rfl) (AllF.cons (F81_0_ok n) AllF.nil)) (F81_eq n)
noncomputable def E26 (n : Nat) : List (Ent G) := F81e n :: E25 n
theorem E26_ok (n : Nat) : AllE prog G (E26 n) := AllE.cons (F81_ok n) (E25_ok n)
noncomputable def F75 (n : Nat) (a525 : List ByteArray) (a526 : ByteArray) : Option (Bool × Unit) :=
  (andThen (F81 n a525 a526) fun r540 =>
  some ((decide (r540.1 ≥ (0 : Int))), ()))
noncomputable def F75e (n : Nat) : Ent G := ⟨75, (.cons (.imm 7) (.cons .str .nil)), [], .bool, [], fun x y => F75 n x.1 x.2.1⟩
theorem F75_eq (n : Nat) (x : ShL.den G (.cons (.imm 7) (.cons .str .nil))) (y : denO G []) : (F75e n).F x y = runFn prog G (ro G (tabOf (E26 n)) (frOf []) _) Go.Proofs.Try.f75 .no [(0, .fz)] (ShL.enc G (.cons (.imm 7) (.cons .str .nil)) x) (encO G [] y) (decR .bool []) := by kernel_rfl
theorem F75_ok (n : Nat) : EntOK prog G (F75e n) :=
  ent_ok (fr := frOf []) (ann := .no) (frm := [(0, .fz)]) laws fnok (E26_ok n).tab (e := F75e n) (fn := Go.Proofs.Try.f75) (by kernel_rfl) (AllF.ofB (cd := F75c) (l := []) (by kernel_rfl) (by kernel_rfl) AllF.nil) (F75_eq n)
noncomputable def E27 (n : Nat) : List (Ent G) := F75e n :: E26 n
theorem E27_ok (n : Nat) : AllE prog G (E27 n) := AllE.cons (F75_ok n) (E26_ok n)
noncomputable def F67 (n : Nat) (a522 : ByteArray) : Option (Bool × Unit) :=
  (andThen (F76 n) fun r524 =>
  (andThen (F75 n r524.1 a522) fun r542 =>
  some (r542.1, ())))
noncomputable def F67e (n : Nat) : Ent G := ⟨67, (.cons .str .nil), [], .bool, [], fun x y => F67 n x.1⟩
theorem F67_eq (n : Nat) (x : ShL.den G (.cons .str .nil)) (y : denO G []) : (F67e n).F x y = runFn prog G (ro G (tabOf (E27 n)) (frOf []) _) Go.Proofs.Try.f67 .no [(0, .fz)] (ShL.enc G (.cons .str .nil) x) (encO G [] y) (decR .bool []) := by kernel_rfl
theorem F67_ok (n : Nat) : EntOK prog G (F67e n) :=
  ent_ok (fr := frOf []) (ann := .no) (frm := [(0, .fz)]) laws fnok (E27_ok n).tab (e := F67e n) (fn := Go.Proofs.Try.f67) (by kernel_rfl) (AllF.ofB (cd := F67c) (l := []) (by kernel_rfl) (by kernel_rfl) AllF.nil) (F67_eq n)
noncomputable def E28 (n : Nat) : List (Ent G) := F67e n :: E27 n
theorem E28_ok (n : Nat) : AllE prog G (E28 n) := AllE.cons (F67_ok n) (E27_ok n)
-- 68 loop.example/slowworm/impl.isLetter
noncomputable def F68c : Code := bodyOf Go.Proofs.Try.f68
noncomputable def F68 (n : Nat) (a550 : Int) : Option (Bool × Unit) :=
  (bif (a550 == (95 : Int)) then
  some (true, ())
  else (bif (decide (a550 ≥ (97 : Int))) then
  (bif (decide (a550 ≤ (122 : Int))) then
  some (true, ())
  else (bif (decide (a550 ≥ (65 : Int))) then
  some ((decide (a550 ≤ (90 : Int))), ())
  else some (false, ())))
  else (bif (decide (a550 ≥ (65 : Int))) then
  some ((decide (a550 ≤ (90 : Int))), ())
  else some (false, ()))))
noncomputable def F68e (n : Nat) : Ent G := ⟨68, (.cons (.int .u8) .nil), [], .bool, [], fun x y => F68 n x.1⟩
theorem F68_eq (n : Nat) (x : ShL.den G (.cons (.int .u8) .nil)) (y : denO G []) : (F68e n).F x y = runFn prog G (ro G (tabOf (E28 n)) (frOf []) _) Go.Proofs.Try.f68 .no [(0, .fz)] (ShL.enc G (.cons (.int .u8) .nil) x) (encO G [] y) (decR .bool []) := by kernel_rfl
theorem F68_ok (n : Nat) : EntOK prog G (F68e n) :=
  ent_ok (fr := frOf []) (ann := .no) (frm := [(0, .fz)]) laws fnok (E28_ok n).tab (e := F68e n) (fn := Go.Proofs.Try.f68) (by kernel_rfl) (AllF.ofB (cd := F68c) (l := []) (by kernel_rfl) (by kernel_rfl) AllF.nil) (F68_eq n)
noncomputable def E29 (n : Nat) : List (Ent G) := F68e n :: E28 n
theorem E29_ok (n : Nat) : AllE prog G (E29 n) := AllE.cons (F68_ok n) (E28_ok n)
noncomputable def F49_0x0 : SSh := ⟨39, [(2, .bool)], []⟩
noncomputable def F49_0x1 : SSh := ⟨39, [], []⟩
noncomputable def F49_0s : SSh := ⟨39, [(0, .str), (22, (.int .i64)), (23, (.int .i64))], []⟩
noncomputable def F49_0_step {R : Type} (n : Nat) (k0 : Bool → Option R) (k1 : Option R) (rec : ByteArray → Int → Int → Option R) (x545 : ByteArray) (x546 : Int) (x547 : Int) : Option R :=
  (bif (decide (x547 < x546)) then
  (bif (decide ((0 : Int) ≤ x547)) then
  (bif (decide (x547 < ((x545.size) : Int))) then
  (andThen (F68 n (strOf x545 (x547.toNat))) fun r558 =>
  (bif (!r558.1) then
  (bif (decide ((0 : Int) ≤ x547)) then
  (bif (decide (x547 < ((x545.size) : Int))) then
  (andThen (F66 n (strOf x545 (x547.toNat))) fun r561 =>
  (bif (!r561.1) then
  (k0 false)
  else (rec x545 x546 (IntKind.wrap .i64 (x547 + (1 : Int))))))
  else none)
  else none)
  else (rec x545 x546 (IntKind.wrap .i64 (x547 + (1 : Int))))))
  else none)
  else none)
  else k1)
noncomputable def F49_0_it {R : Type} (n : Nat) (k0 : Bool → Option R) (k1 : Option R) : Nat → ByteArray → Int → Int → Option R
  | 0, _, _, _ => none
  | k + 1, x545, x546, x547 => F49_0_step n k0 k1 (F49_0_it n k0 k1 k) x545 x546 x547
noncomputable def F49_0 {R : Type} (n : Nat) (x545 : ByteArray) (x546 : Int) (x547 : Int) (k0 : Bool → Option R) (k1 : Option R) : Option R := F49_0_it n k0 k1 n x545 x546 x547
noncomputable def F49_0z (n : Nat) : Sm G := inZ G 0 ⟨[0, 22, 23], []⟩ F49_0s fun R x K => F49_0_it n (fun u0 => K .ret (SSh.enc G F49_0x0 ((u0, ()), ()))) (K (.exit 0) (SSh.enc G F49_0x1 ((), ()))) n x.1.1 x.1.2.1 x.1.2.2.1
theorem F49_0_eq (n : Nat) (R : Type) (rec : SSh.den G F49_0s → Option R) (x : SSh.den G F49_0s) (K : AE → St G → Option R) :
  F49_0_step n (fun u0 => K .ret (SSh.enc G F49_0x0 ((u0, ()), ()))) (K (.exit 0) (SSh.enc G F49_0x1 ((), ()))) (fun x545 x546 x547 => rec ((x545, (x546, (x547, ()))), ())) x.1.1 x.1.2.1 x.1.2.2.1 = exec prog G (ro G (tabOf (E29 n)) (frOf []) R) 0 (codeAt F49c [1, 1, 0, 1, 0, 0]) .no (SSh.enc G F49_0s x) (kLoop G (ro G (tabOf (E29 n)) (frOf []) R) 0 ⟨[0, 22, 23], []⟩ F49_0s ⟨⟨[], []⟩, ⟨[2], []⟩, [(0, ⟨[], []⟩)]⟩ rec K) := by kernel_rfl
theorem F49_0_ok (n : Nat) : FragOK prog G 0 (codeAt F49c [1, 1, 0, 1, 0]) (F49_0z n) :=
  frag_loop (Z := fun R k (x : SSh.den G F49_0s) K => F49_0_it n (fun u0 => K .ret (SSh.enc G F49_0x0 ((u0, ()), ()))) (K (.exit 0) (SSh.enc G F49_0x1 ((), ()))) k x.1.1 x.1.2.1 x.1.2.2.1) laws fnok (E29_ok n).tab (AllF.of (l := []) (by kernel_rfl) AllF.nil) (fun _ _ _ => rfl) (fun R k y K => F49_0_eq n R (fun (x : SSh.den G F49_0s) => F49_0_it n (fun u0 => K .ret (SSh.enc G F49_0x0 ((u0, ()), ()))) (K (.exit 0) (SSh.enc G F49_0x1 ((), ()))) k x.1.1 x.1.2.1 x.1.2.2.1) y K) n
noncomputable def F49 (n : Nat) (a512 : ByteArray) : Option (Bool × Unit) :=
  (bif (decide (((a512.size) : Int) < (1 : Int))) then
  some (false, ())
  else (bif (decide (((a512.size) : Int) > (12 : Int))) then
  some (false, ())
  else (bif (decide ((0 : Int) < ((a512.size) : Int))) then
  (andThen (F66 n (strOf a512 (0 : Nat))) fun r521 =>
  (bif r521.1 then
  some (false, ())
  else (andThen (F67 n a512) fun r543 =>
  (bif r543.1 then
  some (false, ())
  else (F49_0 n a512 ((a512.size) : Int) (0 : Int) (fun z565 =>
  some (z565, ())) (
  some (true, ())))))))
  else none)))
noncomputable def F49e (n : Nat) : Ent G := ⟨49, (.cons .str .nil), [], .bool, [], fun x y => F49 n x.1⟩
theorem F49_eq (n : Nat) (x : ShL.den G (.cons .str .nil)) (y : denO G []) : (F49e n).F x y = runFn prog G (ro G (tabOf (E29 n)) (frOf [F49_0z n]) _) Go.Proofs.Try.f49 (.nd .no (.nd .no (.nd (.nd .no (.nd (.use 0) .no)) .no))) [(0, .fz)] (ShL.enc G (.cons .str .nil) x) (encO G [] y) (decR .bool []) := by kernel_rfl
theorem F49_ok (n : Nat) : EntOK prog G (F49e n) :=
  ent_ok (fr := frOf [F49_0z n]) (ann := (.nd .no (.nd .no (.nd (.nd .no (.nd (.use 0) .no)) .no)))) (frm := [(0, .fz)]) laws fnok (E29_ok n).tab (e := F49e n) (fn := Go.Proofs.Try.f49) (by kernel_rfl) (AllF.ofB (cd := F49c) (l := [(0, codeAt F49c [1, 1, 0, 1, 0])]) (by kernel_rfl) (by kernel_rfl) (AllF.cons (F49_0_ok n) AllF.nil)) (F49_eq n)
noncomputable def E30 (n : Nat) : List (Ent G) := F49e n :: E29 n
theorem E30_ok (n : Nat) : AllE prog G (E30 n) := AllE.cons (F49_ok n) (E29_ok n)
noncomputable def F30_0x0 : SSh := ⟨72, [(0, (.imm 5)), (6, (.ptr 0 0)), (8, (.int .i64)), (9, (.imm 5)), (10, (.int .i64)), (11, (.int .i64)), (20, (.imm 3)), (21, (.int .i64)), (22, (.int .i64)), (51, (.int .i64)), (52, .bool)], [(.box 48 (.cons (.int .i64) (.cons (.int .i64) (.cons .str .nil))))]⟩
noncomputable def F30_0s : SSh := ⟨72, [(0, (.imm 5)), (6, (.ptr 0 0)), (8, (.int .i64)), (9, (.imm 5)), (10, (.int .i64)), (11, (.int .i64)), (20, (.imm 3)), (21, (.int .i64)), (22, (.int .i64)), (51, (.int .i64))], [(.box 48 (.cons (.int .i64) (.cons (.int .i64) (.cons .str .nil))))]⟩
noncomputable def F30_0 {R : Type} (n : Nat) (x579 : List (List Stp)) (x580 : Int) (x581 : List (List Stp)) (x582 : Int) (x583 : Int) (x584 : List Stp) (x585 : Int) (x586 : Int) (x587 : Int) (x588 : Int) (x589 : Int) (x590 : ByteArray) (k0 : List (List Stp) → Int → List (List Stp) → Int → Int → List Stp → Int → Int → Int → Bool → Int → Int → ByteArray → Option R) : Option R :=
  (bif (x587 == (1 : Int)) then
  (k0 x579 x580 x581 x582 x583 x584 x585 x586 x587 true x588 x589 x590)
  else (bif (x587 == (2 : Int)) then
  (k0 x579 x580 x581 x582 x583 x584 x585 x586 x587 true x588 x589 x590)
  else (k0 x579 x580 x581 x582 x583 x584 x585 x586 x587 (x587 == (4 : Int)) x588 x589 x590)))
noncomputable def F30_0z (n : Nat) : Sm G := inZ G 0 ⟨[0, 6, 8, 9, 10, 11, 20, 21, 22, 51], []⟩ F30_0s fun R x K => F30_0 n x.1.1 x.1.2.2.1 x.1.2.2.2.1 x.1.2.2.2.2.1 x.1.2.2.2.2.2.1 x.1.2.2.2.2.2.2.1 x.1.2.2.2.2.2.2.2.1 x.1.2.2.2.2.2.2.2.2.1 x.1.2.2.2.2.2.2.2.2.2.1 x.2.1.1 x.2.1.2.1 x.2.1.2.2.1 (fun u0 u1 u2 u3 u4 u5 u6 u7 u8 u9 u10 u11 u12 => K .normal (SSh.enc G F30_0x0 ((u0, ((), (u1, (u2, (u3, (u4, (u5, (u6, (u7, (u8, (u9, ()))))))))))), ((u10, (u11, (u12, ()))), ()))))
theorem F30_0_eq (n : Nat) (R : Type) (x : SSh.den G F30_0s) (K : AE → St G → Option R) :
  F30_0 n x.1.1 x.1.2.2.1 x.1.2.2.2.1 x.1.2.2.2.2.1 x.1.2.2.2.2.2.1 x.1.2.2.2.2.2.2.1 x.1.2.2.2.2.2.2.2.1 x.1.2.2.2.2.2.2.2.2.1 x.1.2.2.2.2.2.2.2.2.2.1 x.2.1.1 x.2.1.2.1 x.2.1.2.2.1 (fun u0 u1 u2 u3 u4 u5 u6 u7 u8 u9 u10 u11 u12 => K .normal (SSh.enc G F30_0x0 ((u0, ((), (u1, (u2, (u3, (u4, (u5, (u6, (u7, (u8, (u9, ()))))))))))), ((u10, (u11, (u12, ()))), ())))) = exec prog G (ro G (tabOf (E30 n)) (frOf []) R) 0 (codeAt F30c [1, 0, 1, 0, 0, 1, 1, 0, 0, 1, 1, 1, 0, 0, 1, 1, 0, 0, 1, 1, 1, 1, 0, 1, 0, 0]) .no (SSh.enc G F30_0s x) (kNrm G (ro G (tabOf (E30 n)) (frOf []) R) 0 ⟨⟨[0, 6, 8, 9, 10, 11, 20, 21, 22, 51, 52], []⟩, ⟨[2], []⟩, [(4, ⟨[0, 6, 8, 9, 10, 11, 20, 21, 22], []⟩), (3, ⟨[0, 9, 10, 11, 20, 21, 22], []⟩), (2, ⟨[0, 9, 10, 11], []⟩), (1, ⟨[0, 9, 10, 11], []⟩), (0, ⟨[0], []⟩)]⟩ K) := by kernel_rfl
theorem F30_0_ok (n : Nat) : FragOK prog G 0 (codeAt F30c [1, 0, 1, 0, 0, 1, 1, 0, 0, 1, 1, 1, 0, 0, 1, 1, 0, 0, 1, 1, 1, 1, 0, 1, 0, 0]) (F30_0z n) :=
  frag_plain laws fnok (E30_ok n).tab (AllF.of (l := []) (by kernel_rfl) AllF.nil) (F30_0_eq n)
noncomputable def F30_1x0 : SSh := ⟨72, [(0, (.imm 5)), (6, (.ptr 0 0)), (8, (.int .i64)), (9, (.imm 5)), (10, (.int .i64)), (11, (.int .i64)), (20, (.imm 3)), (21, (.int .i64)), (22, (.int .i64)), (59, .bool)], [(.box 48 (.cons (.int .i64) (.cons (.int .i64) (.cons .str .nil))))]⟩
noncomputable def F30_1s : SSh := ⟨72, [(0, (.imm 5)), (6, (.ptr 0 0)), (8, (.int .i64)), (9, (.imm 5)), (10, (.int .i64)), (11, (.int .i64)), (20, (.imm 3)), (21, (.int .i64)), (22, (.int .i64)), (51, (.int .i64))], [(.box 48 (.cons (.int .i64) (.cons (.int .i64) (.cons .str .nil))))]⟩
noncomputable def F30_1 {R : Type} (n : Nat) (x609 : List (List Stp)) (x610 : Int) (x611 : List (List Stp)) (x612 : Int) (x613 : Int) (x614 : List Stp) (x615 : Int) (x616 : Int) (x617 : Int) (x618 : Int) (x619 : Int) (x620 : ByteArray) (k0 : List (List Stp) → Int → List (List Stp) → Int → Int → List Stp → Int → Int → Bool → Int → Int → ByteArray → Option R) : Option R :=
  (bif (x617 == (3 : Int)) then
  (k0 x609 x610 x611 x612 x613 x614 x615 x616 true x618 x619 x620)
  else (k0 x609 x610 x611 x612 x613 x614 x615 x616 (x617 == (5 : Int)) x618 x619 x620))
noncomputable def F30_1z (n : Nat) : Sm G := inZ G 0 ⟨[0, 6, 8, 9, 10, 11, 20, 21, 22, 51], []⟩ F30_1s fun R x K => F30_1 n x.1.1 x.1.2.2.1 x.1.2.2.2.1 x.1.2.2.2.2.1 x.1.2.2.2.2.2.1 x.1.2.2.2.2.2.2.1 x.1.2.2.2.2.2.2.2.1 x.1.2.2.2.2.2.2.2.2.1 x.1.2.2.2.2.2.2.2.2.2.1 x.2.1.1 x.2.1.2.1 x.2.1.2.2.1 (fun u0 u1 u2 u3 u4 u5 u6 u7 u8 u9 u10 u11 => K .normal (SSh.enc G F30_1x0 ((u0, ((), (u1, (u2, (u3, (u4, (u5, (u6, (u7, (u8, ())))))))))), ((u9, (u10, (u11, ()))), ()))))
theorem F30_1_eq (n : Nat) (R : Type) (x : SSh.den G F30_1s) (K : AE → St G → Option R) :
  F30_1 n x.1.1 x.1.2.2.1 x.1.2.2.2.1 x.1.2.2.2.2.1 x.1.2.2.2.2.2.1 x.1.2.2.2.2.2.2.1 x.1.2.2.2.2.2.2.2.1 x.1.2.2.2.2.2.2.2.2.1 x.1.2.2.2.2.2.2.2.2.2.1 x.2.1.1 x.2.1.2.1 x.2.1.2.2.1 (fun u0 u1 u2 u3 u4 u5 u6 u7 u8 u9 u10 u11 => K .normal (SSh.enc G F30_1x0 ((u0, ((), (u1, (u2, (u3, (u4, (u5, (u6, (u7, (u8, ())))))))))), ((u9, (u10, (u11, ()))), ())))) = exec prog G (ro G (tabOf (E30 n)) (frOf [F30_0z n]) R) 0 (codeAt F30c [1, 0, 1, 0, 0, 1, 1, 0, 0, 1, 1, 1, 0, 0, 1, 1, 0, 0, 1, 1, 1, 1, 0, 1, 0, 1, 1, 0]) .no (SSh.enc G F30_1s x) (kNrm G (ro G (tabOf (E30 n)) (frOf [F30_0z n]) R) 0 ⟨⟨[0, 6, 8, 9, 10, 11, 20, 21, 22, 59], []⟩, ⟨[2], []⟩, [(4, ⟨[0, 6, 8, 9, 10, 11, 20, 21, 22], []⟩), (3, ⟨[0, 9, 10, 11, 20, 21, 22], []⟩), (2, ⟨[0, 9, 10, 11], []⟩), (1, ⟨[0, 9, 10, 11], []⟩), (0, ⟨[0], []⟩)]⟩ K) := by kernel_rfl
theorem F30_1_ok (n : Nat) : FragOK prog G 0 (codeAt F30c [1, 0, 1, 0, 0, 1, 1, 0, 0, 1, 1, 1, 0, 0, 1, 1, 0, 0, 1, 1, 1, 1, 0, 1, 0, 1, 1, 0]) (F30_1z n) :=
  frag_plain laws fnok (E30_ok n).tab (AllF.of (l := []) (by kernel_rfl) AllF.nil) (F30_1_eq n)
noncomputable def F30_2x0 : SSh := ⟨72, [(0, (.imm 5)), (6, (.ptr 0 0)), (8, (.int .i64)), (9, (.imm 5)), (10, (.int .i64)), (11, (.int .i64)), (20, (.imm 3)), (21, (.int .i64)), (22, (.int .i64))], [(.box 48 (.cons (.int .i64) (.cons (.int .i64) (.cons .str .nil))))]⟩
noncomputable def F30_2s : SSh := ⟨72, [(0, (.imm 5)), (6, (.ptr 0 0)), (8, (.int .i64)), (9, (.imm 5)), (10, (.int .i64)), (11, (.int .i64)), (20, (.imm 3)), (21, (.int .i64)), (22, (.int .i64))], [(.box 48 (.cons (.int .i64) (.cons (.int .i64) (.cons .str .nil))))]⟩
noncomputable def F30_2 {R : Type} (n : Nat) (x568 : List (List Stp)) (x569 : Int) (x570 : List (List Stp)) (x571 : Int) (x572 : Int) (x573 : List Stp) (x574 : Int) (x575 : Int) (x576 : Int) (x577 : Int) (x578 : ByteArray) (k0 : List (List Stp) → Int → List (List Stp) → Int → Int → List Stp → Int → Int → Int → Int → ByteArray → Option R) : Option R :=
  (F30_0 n x568 x569 x570 x571 x572 x573 x574 x575 x576 x576 x577 x578 (fun z594 z595 z596 z597 z598 z599 z600 z601 z602 z603 z604 z605 z606 =>
  (bif z603 then
  (k0 z594 (IntKind.wrap .i64 (((z594.length) : Int) - (1 : Int))) z596 z597 z598 z599 z600 z601 z604 z605 z606)
  else (F30_1 n z594 z595 z596 z597 z598 z599 z600 z601 z602 z604 z605 z606 (fun z623 z624 z625 z626 z627 z628 z629 z630 z631 z632 z633 z634 =>
  (bif z631 then
  (k0 z623 (1000000 : Int) z625 z626 z627 z628 z629 z630 z632 z633 z634)
  else (k0 z623 z624 z625 z626 z627 z628 z629 z630 z632 z633 z634)))))))
noncomputable def F30_2z (n : Nat) : Sm G := inZ G 0 ⟨[0, 6, 8, 9, 10, 11, 20, 21, 22], []⟩ F30_2s fun R x K => F30_2 n x.1.1 x.1.2.2.1 x.1.2.2.2.1 x.1.2.2.2.2.1 x.1.2.2.2.2.2.1 x.1.2.2.2.2.2.2.1 x.1.2.2.2.2.2.2.2.1 x.1.2.2.2.2.2.2.2.2.1 x.2.1.1 x.2.1.2.1 x.2.1.2.2.1 (fun u0 u1 u2 u3 u4 u5 u6 u7 u8 u9 u10 => K .normal (SSh.enc G F30_2x0 ((u0, ((), (u1, (u2, (u3, (u4, (u5, (u6, (u7, ()))))))))), ((u8, (u9, (u10, ()))), ()))))
theorem F30_2_eq (n : Nat) (R : Type) (x : SSh.den G F30_2s) (K : AE → St G → Option R) :
  F30_2 n x.1.1 x.1.2.2.1 x.1.2.2.2.1 x.1.2.2.2.2.1 x.1.2.2.2.2.2.1 x.1.2.2.2.2.2.2.1 x.1.2.2.2.2.2.2.2.1 x.1.2.2.2.2.2.2.2.2.1 x.2.1.1 x.2.1.2.1 x.2.1.2.2.1 (fun u0 u1 u2 u3 u4 u5 u6 u7 u8 u9 u10 => K .normal (SSh.enc G F30_2x0 ((u0, ((), (u1, (u2, (u3, (u4, (u5, (u6, (u7, ()))))))))), ((u8, (u9, (u10, ()))), ())))) = exec prog G (ro G (tabOf (E30 n)) (frOf [F30_0z n, F30_1z n]) R) 0 (codeAt F30c [1, 0, 1, 0, 0, 1, 1, 0, 0, 1, 1, 1, 0, 0, 1, 1, 0, 0, 1, 1, 1, 1, 0]) (.nd .no (.nd (.nd (.use 0) (.nd .no (.nd (.use 1) .no))) .no)) (SSh.enc G F30_2s x) (kNrm G (ro G (tabOf (E30 n)) (frOf [F30_0z n, F30_1z n]) R) 0 ⟨⟨[0, 6, 8, 9, 10, 11, 20, 21, 22], []⟩, ⟨[2], []⟩, [(3, ⟨[0, 9, 10, 11, 20, 21, 22], []⟩), (2, ⟨[0, 9, 10, 11], []⟩), (1, ⟨[0, 9, 10, 11], []⟩), (0, ⟨[0], []⟩)]⟩ K) := by kernel_rfl
theorem F30_2_ok (n : Nat) : FragOK prog G 0 (codeAt F30c [1, 0, 1, 0, 0, 1, 1, 0, 0, 1, 1, 1, 0, 0, 1, 1, 0, 0, 1, 1, 1, 1, 0]) (F30_2z n) :=
  frag_plain laws fnok (E30_ok n).tab (AllF.of (l := [(0, codeAt F30c [1, 0, 1, 0, 0, 1, 1, 0, 0, 1, 1, 1, 0, 0, 1, 1, 0, 0, 1, 1, 1, 1, 0, 1, 0, 0]), (1, codeAt F30c [1, 0, 1, 0, 0, 1, 1, 0, 0, 1, 1, 1, 0, 0, 1, 1, 0, 0, 1, 1, 1, 1, 0, 1, 0, 1, 1, 0])]) (by kernel_rfl) (AllF.cons (F30_0_ok n) (AllF.cons (F30_1_ok n) AllF.nil))) (F30_2_eq n)
-- 50 loop.example/slowworm/impl.within
noncomputable def F50c : Code := bodyOf Go.Proofs.Try.f50
noncomputable def F50 (n : Nat) (a646 : Int) (a647 : Int) (a648 : Int) : Option (Bool × Unit) :=
  (bif (decide (a646 ≥ a647)) then
  some ((decide (a646 ≤ a648)), ())
  else some (false, ()))
noncomputable def F50e (n : Nat) : Ent G := ⟨50, (.cons (.int .i64) (.cons (.int .i64) (.cons (.int .i64) .nil))), [], .bool, [], fun x y => F50 n x.1 x.2.1 x.2.2.1⟩
theorem F50_eq (n : Nat) (x : ShL.den G (.cons (.int .i64) (.cons (.int .i64) (.cons (.int .i64) .nil)))) (y : denO G []) : (F50e n).F x y = runFn prog G (ro G (tabOf (E30 n)) (frOf []) _) Go.Proofs.Try.f50 .no [(0, .fz)] (ShL.enc G (.cons (.int .i64) (.cons (.int .i64) (.cons (.int .i64) .nil))) x) (encO G [] y) (decR .bool []) := by kernel_rfl
theorem F50_ok (n : Nat) : EntOK prog G (F50e n) :=
  ent_ok (fr := frOf []) (ann := .no) (frm := [(0, .fz)]) laws fnok (E30_ok n).tab (e := F50e n) (fn := Go.Proofs.Try.f50) (by kernel_rfl) (AllF.ofB (cd := F50c) (l := []) (by kernel_rfl) (by kernel_rfl) AllF.nil) (F50_eq n)
noncomputable def E31 (n : Nat) : List (Ent G) := F50e n :: E30 n
theorem E31_ok (n : Nat) : AllE prog G (E31 n) := AllE.cons (F50_ok n) (E30_ok n)
noncomputable def F30_3x0 : SSh := ⟨72, [(2, .bool)], []⟩
noncomputable def F30_3x1 : SSh := ⟨72, [(0, (.imm 5)), (9, (.imm 5)), (10, (.int .i64)), (11, (.int .i64)), (20, (.imm 3)), (21, (.int .i64)), (22, (.int .i64))], []⟩
noncomputable def F30_3s : SSh := ⟨72, [(0, (.imm 5)), (9, (.imm 5)), (10, (.int .i64)), (11, (.int .i64)), (20, (.imm 3)), (21, (.int .i64)), (22, (.int .i64))], []⟩
noncomputable def F30_3 {R : Type} (n : Nat) (x500 : List (List Stp)) (x501 : List (List Stp)) (x502 : Int) (x503 : Int) (x504 : List Stp) (x505 : Int) (x506 : Int) (k0 : Bool → Option R) (k1 : List (List Stp) → List (List Stp) → Int → Int → List Stp → Int → Int → Option R) : Option R :=
  (bif (decide ((0 : Int) ≤ x506)) then
  (bif (decide (x506 < ((x504.length) : Int))) then
  let v507 := (x504.getD (x506.toNat) (Stp.mk (0 : Int) (0 : Int) ({ data := #[] } : ByteArray)))
  let v508 := v507.kind
  let v509 := v507.num
  let v510 := v507.name
  (bif (v508 == (3 : Int)) then
  (andThen (F49 n v510) fun r566 =>
  (bif (!r566.1) then
  (k0 false)
  else (F30_2 n x500 (-1 : Int) x501 x502 x503 x504 x505 x506 v508 v509 v510 (fun z635 z636 z637 z638 z639 z640 z641 z642 z643 z644 z645 =>
  (andThen (F50 n z644 (0 : Int) z636) fun r651 =>
  (bif (!r651.1) then
  (k0 false)
  else (k1 z635 z637 z638 z639 z640 z641 z642)))))))
  else let v653 := (v508 == (4 : Int))
  (bif v653 then
  (andThen (F49 n v510) fun r654 =>
  (bif (!r654.1) then
  (k0 false)
  else (bif (!v653) then
  (bif (!((v510.toList) == (({ data := #[] } : ByteArray).toList))) then
  (k0 false)
  else (F30_2 n x500 (-1 : Int) x501 x502 x503 x504 x505 x506 v508 v509 v510 (fun z658 z659 z660 z661 z662 z663 z664 z665 z666 z667 z668 =>
  (andThen (F50 n z667 (0 : Int) z659) fun r669 =>
  (bif (!r669.1) then
  (k0 false)
  else (k1 z658 z660 z661 z662 z663 z664 z665))))))
  else (F30_2 n x500 (-1 : Int) x501 x502 x503 x504 x505 x506 v508 v509 v510 (fun z671 z672 z673 z674 z675 z676 z677 z678 z679 z680 z681 =>
  (andThen (F50 n z680 (0 : Int) z672) fun r682 =>
  (bif (!r682.1) then
  (k0 false)
  else (k1 z671 z673 z674 z675 z676 z677 z678))))))))
  else (bif (!v653) then
  (bif (!((v510.toList) == (({ data := #[] } : ByteArray).toList))) then
  (k0 false)
  else (F30_2 n x500 (-1 : Int) x501 x502 x503 x504 x505 x506 v508 v509 v510 (fun z686 z687 z688 z689 z690 z691 z692 z693 z694 z695 z696 =>
  (andThen (F50 n z695 (0 : Int) z687) fun r697 =>
  (bif (!r697.1) then
  (k0 false)
  else (k1 z686 z688 z689 z690 z691 z692 z693))))))
  else (F30_2 n x500 (-1 : Int) x501 x502 x503 x504 x505 x506 v508 v509 v510 (fun z699 z700 z701 z702 z703 z704 z705 z706 z707 z708 z709 =>
  (andThen (F50 n z708 (0 : Int) z700) fun r710 =>
  (bif (!r710.1) then
  (k0 false)
  else (k1 z699 z701 z702 z703 z704 z705 z706))))))))
  else none)
  else none)
noncomputable def F30_3z (n : Nat) : Sm G := inZ G 0 ⟨[0, 9, 10, 11, 20, 21, 22], []⟩ F30_3s fun R x K => F30_3 n x.1.1 x.1.2.1 x.1.2.2.1 x.1.2.2.2.1 x.1.2.2.2.2.1 x.1.2.2.2.2.2.1 x.1.2.2.2.2.2.2.1 (fun u0 => K .ret (SSh.enc G F30_3x0 ((u0, ()), ()))) (fun u0 u1 u2 u3 u4 u5 u6 => K .normal (SSh.enc G F30_3x1 ((u0, (u1, (u2, (u3, (u4, (u5, (u6, ()))))))), ())))
theorem F30_3_eq (n : Nat) (R : Type) (x : SSh.den G F30_3s) (K : AE → St G → Option R) :
  F30_3 n x.1.1 x.1.2.1 x.1.2.2.1 x.1.2.2.2.1 x.1.2.2.2.2.1 x.1.2.2.2.2.2.1 x.1.2.2.2.2.2.2.1 (fun u0 => K .ret (SSh.enc G F30_3x0 ((u0, ()), ()))) (fun u0 u1 u2 u3 u4 u5 u6 => K .normal (SSh.enc G F30_3x1 ((u0, (u1, (u2, (u3, (u4, (u5, (u6, ()))))))), ()))) = exec prog G (ro G (tabOf (E31 n)) (frOf [F30_0z n, F30_1z n, F30_2z n]) R) 0 (codeAt F30c [1, 0, 1, 0, 0, 1, 1, 0, 0, 1, 1, 1, 0, 0, 1, 1, 0]) (.nd (.nd .no (.nd .no (.nd .no (.nd .no (.nd (.use 2) .no))))) .no) (SSh.enc G F30_3s x) (kNrm G (ro G (tabOf (E31 n)) (frOf [F30_0z n, F30_1z n, F30_2z n]) R) 0 ⟨⟨[0, 9, 10, 11, 20, 21, 22], []⟩, ⟨[2], []⟩, [(2, ⟨[0, 9, 10, 11], []⟩), (1, ⟨[0, 9, 10, 11], []⟩), (0, ⟨[0], []⟩)]⟩ K) := by kernel_rfl
theorem F30_3_ok (n : Nat) : FragOK prog G 0 (codeAt F30c [1, 0, 1, 0, 0, 1, 1, 0, 0, 1, 1, 1, 0, 0, 1, 1, 0]) (F30_3z n) :=
  frag_plain laws fnok (E31_ok n).tab (AllF.of (l := [(2, codeAt F30c [1, 0, 1, 0, 0, 1, 1, 0, 0, 1, 1, 1, 0, 0, 1, 1, 0, 0, 1, 1, 1, 1, 0])]) (by kernel_rfl) (AllF.cons (F30_2_ok n) AllF.nil)) (F30_3_eq n)
noncomputable def F30_4x0 : SSh := ⟨72, [(2, .bool)], []⟩
noncomputable def F30_4x1 : SSh := ⟨72, [(0, (.imm 5)), (9, (.imm 5)), (10, (.int .i64)), (11, (.int .i64))], []⟩
noncomputable def F30_4s : SSh := ⟨72, [(0, (.imm 5)), (9, (.imm 5)), (10, (.int .i64)), (11, (.int .i64)), (20, (.imm 3)), (21, (.int .i64)), (22, (.int .i64))], []⟩
noncomputable def F30_4_step {R : Type} (n : Nat) (k0 : Bool → Option R) (k1 : List (List Stp) → List (List Stp) → Int → Int → Option R) (rec : List (List Stp) → List (List Stp) → Int → Int → List Stp → Int → Int → Option R) (x492 : List (List Stp)) (x493 : List (List Stp)) (x494 : Int) (x495 : Int) (x496 : List Stp) (x497 : Int) (x498 : Int) : Option R :=
  (bif (decide (x498 < x497)) then
  (F30_3 n x492 x493 x494 x495 x496 x497 x498 (fun z712 =>
  (k0 z712)) (fun z713 z714 z715 z716 z717 z718 z719 =>
  (rec z713 z714 z715 z716 z717 z718 (IntKind.wrap .i64 (z719 + (1 : Int))))))
  else (k1 x492 x493 x494 x495))
noncomputable def F30_4_it {R : Type} (n : Nat) (k0 : Bool → Option R) (k1 : List (List Stp) → List (List Stp) → Int → Int → Option R) : Nat → List (List Stp) → List (List Stp) → Int → Int → List Stp → Int → Int → Option R
  | 0, _, _, _, _, _, _, _ => none
  | k + 1, x492, x493, x494, x495, x496, x497, x498 => F30_4_step n k0 k1 (F30_4_it n k0 k1 k) x492 x493 x494 x495 x496 x497 x498
noncomputable def F30_4 {R : Type} (n : Nat) (x492 : List (List Stp)) (x493 : List (List Stp)) (x494 : Int) (x495 : Int) (x496 : List Stp) (x497 : Int) (x498 : Int) (k0 : Bool → Option R) (k1 : List (List Stp) → List (List Stp) → Int → Int → Option R) : Option R := F30_4_it n k0 k1 n x492 x493 x494 x495 x496 x497 x498
noncomputable def F30_4z (n : Nat) : Sm G := inZ G 0 ⟨[0, 9, 10, 11, 20, 21, 22], []⟩ F30_4s fun R x K => F30_4_it n (fun u0 => K .ret (SSh.enc G F30_4x0 ((u0, ()), ()))) (fun u0 u1 u2 u3 => K (.exit 2) (SSh.enc G F30_4x1 ((u0, (u1, (u2, (u3, ())))), ()))) n x.1.1 x.1.2.1 x.1.2.2.1 x.1.2.2.2.1 x.1.2.2.2.2.1 x.1.2.2.2.2.2.1 x.1.2.2.2.2.2.2.1
theorem F30_4_eq (n : Nat) (R : Type) (rec : SSh.den G F30_4s → Option R) (x : SSh.den G F30_4s) (K : AE → St G → Option R) :
  F30_4_step n (fun u0 => K .ret (SSh.enc G F30_4x0 ((u0, ()), ()))) (fun u0 u1 u2 u3 => K (.exit 2) (SSh.enc G F30_4x1 ((u0, (u1, (u2, (u3, ())))), ()))) (fun x492 x493 x494 x495 x496 x497 x498 => rec ((x492, (x493, (x494, (x495, (x496, (x497, (x498, ()))))))), ())) x.1.1 x.1.2.1 x.1.2.2.1 x.1.2.2.2.1 x.1.2.2.2.2.1 x.1.2.2.2.2.2.1 x.1.2.2.2.2.2.2.1 = exec prog G (ro G (tabOf (E31 n)) (frOf [F30_0z n, F30_1z n, F30_2z n, F30_3z n]) R) 0 (codeAt F30c [1, 0, 1, 0, 0, 1, 1, 0, 0, 1, 1, 1, 0, 0]) (.nd .no (.nd .no (.nd (.use 3) .no))) (SSh.enc G F30_4s x) (kLoop G (ro G (tabOf (E31 n)) (frOf [F30_0z n, F30_1z n, F30_2z n, F30_3z n]) R) 0 ⟨[0, 9, 10, 11, 20, 21, 22], []⟩ F30_4s ⟨⟨[0, 9, 10, 11], []⟩, ⟨[2], []⟩, [(2, ⟨[0, 9, 10, 11], []⟩), (1, ⟨[0, 9, 10, 11], []⟩), (0, ⟨[0], []⟩)]⟩ rec K) := by kernel_rfl
theorem F30_4_ok (n : Nat) : FragOK prog G 0 (codeAt F30c [1, 0, 1, 0, 0, 1, 1, 0, 0, 1, 1, 1, 0]) (F30_4z n) :=
  frag_loop (Z := fun R k (x : SSh.den G F30_4s) K => F30_4_it n (fun u0 => K .ret (SSh.enc G F30_4x0 ((u0, ()), ()))) (fun u0 u1 u2 u3 => K (.exit 2) (SSh.enc G F30_4x1 ((u0, (u1, (u2, (u3, ())))), ()))) k x.1.1 x.1.2.1 x.1.2.2.1 x.1.2.2.2.1 x.1.2.2.2.2.1 x.1.2.2.2.2.2.1 x.1.2.2.2.2.2.2.1) laws fnok (E31_ok n).tab (AllF.of (l := [(3, codeAt F30c [1, 0, 1, 0, 0, 1, 1, 0, 0, 1, 1, 1, 0, 0, 1, 1, 0])]) (by kernel_rfl) (AllF.cons (F30_3_ok n) AllF.nil)) (fun _ _ _ => rfl) (fun R k y K => F30_4_eq n R (fun (x : SSh.den G F30_4s) => F30_4_it n (fun u0 => K .ret (SSh.enc G F30_4x0 ((u0, ()), ()))) (fun u0 u1 u2 u3 => K (.exit 2) (SSh.enc G F30_4x1 ((u0, (u1, (u2, (u3, ())))), ()))) k x.1.1 x.1.2.1 x.1.2.2.1 x.1.2.2.2.1 x.1.2.2.2.2.1 x.1.2.2.2.2.2.1 x.1.2.2.2.2.2.2.1) y K) n
noncomputable def F30_5x0 : SSh := ⟨72, [(2, .bool)], []⟩
noncomputable def F30_5x1 : SSh := ⟨72, [(0, (.imm 5))], []⟩
noncomputable def F30_5s : SSh := ⟨72, [(0, (.imm 5)), (9, (.imm 5)), (10, (.int .i64)), (11, (.int .i64))], []⟩
noncomputable def F30_5_step {R : Type} (n : Nat) (k0 : Bool → Option R) (k1 : List (List Stp) → Option R) (rec : List (List Stp) → List (List Stp) → Int → Int → Option R) (x482 : List (List Stp)) (x483 : List (List Stp)) (x484 : Int) (x485 : Int) : Option R :=
  (bif (decide (x485 < x484)) then
  (bif (decide ((0 : Int) ≤ x485)) then
  (bif (decide (x485 < ((x483.length) : Int))) then
  let v488 := (x483.getD (x485.toNat) [])
  (bif (decide (((v488.length) : Int) > (8 : Int))) then
  (k0 false)
  else (F30_4 n x482 x483 x484 x485 v488 ((v488.length) : Int) (0 : Int) (fun z721 =>
  (k0 z721)) (fun z722 z723 z724 z725 =>
  (rec z722 z723 z724 (IntKind.wrap .i64 (z725 + (1 : Int)))))))
  else none)
  else none)
  else (k1 x482))
noncomputable def F30_5_it {R : Type} (n : Nat) (k0 : Bool → Option R) (k1 : List (List Stp) → Option R) : Nat → List (List Stp) → List (List Stp) → Int → Int → Option R
  | 0, _, _, _, _ => none
  | k + 1, x482, x483, x484, x485 => F30_5_step n k0 k1 (F30_5_it n k0 k1 k) x482 x483 x484 x485
noncomputable def F30_5 {R : Type} (n : Nat) (x482 : List (List Stp)) (x483 : List (List Stp)) (x484 : Int) (x485 : Int) (k0 : Bool → Option R) (k1 : List (List Stp) → Option R) : Option R := F30_5_it n k0 k1 n x482 x483 x484 x485
noncomputable def F30_5z (n : Nat) : Sm G := inZ G 0 ⟨[0, 9, 10, 11], []⟩ F30_5s fun R x K => F30_5_it n (fun u0 => K .ret (SSh.enc G F30_5x0 ((u0, ()), ()))) (fun u0 => K (.exit 0) (SSh.enc G F30_5x1 ((u0, ()), ()))) n x.1.1 x.1.2.1 x.1.2.2.1 x.1.2.2.2.1
theorem F30_5_eq (n : Nat) (R : Type) (rec : SSh.den G F30_5s → Option R) (x : SSh.den G F30_5s) (K : AE → St G → Option R) :
  F30_5_step n (fun u0 => K .ret (SSh.enc G F30_5x0 ((u0, ()), ()))) (fun u0 => K (.exit 0) (SSh.enc G F30_5x1 ((u0, ()), ()))) (fun x482 x483 x484 x485 => rec ((x482, (x483, (x484, (x485, ())))), ())) x.1.1 x.1.2.1 x.1.2.2.1 x.1.2.2.2.1 = exec prog G (ro G (tabOf (E31 n)) (frOf [F30_0z n, F30_1z n, F30_2z n, F30_3z n, F30_4z n]) R) 0 (codeAt F30c [1, 0, 1, 0, 0]) (.nd .no (.nd .no (.nd (.nd (.nd .no (.nd .no (.nd .no (.nd (.use 4) .no)))) .no) .no))) (SSh.enc G F30_5s x) (kLoop G (ro G (tabOf (E31 n)) (frOf [F30_0z n, F30_1z n, F30_2z n, F30_3z n, F30_4z n]) R) 0 ⟨[0, 9, 10, 11], []⟩ F30_5s ⟨⟨[0], []⟩, ⟨[2], []⟩, [(0, ⟨[0], []⟩)]⟩ rec K) := by kernel_rfl
theorem F30_5_ok (n : Nat) : FragOK prog G 0 (codeAt F30c [1, 0, 1, 0]) (F30_5z n) :=
  frag_loop (Z := fun R k (x : SSh.den G F30_5s) K => F30_5_it n (fun u0 => K .ret (SSh.enc G F30_5x0 ((u0, ()), ()))) (fun u0 => K (.exit 0) (SSh.enc G F30_5x1 ((u0, ()), ()))) k x.1.1 x.1.2.1 x.1.2.2.1 x.1.2.2.2.1) laws fnok (E31_ok n).tab (AllF.of (l := [(4, codeAt F30c [1, 0, 1, 0, 0, 1, 1, 0, 0, 1, 1, 1, 0])]) (by kernel_rfl) (AllF.cons (F30_4_ok n) AllF.nil)) (fun _ _ _ => rfl) (fun R k y K => F30_5_eq n R (fun (x : SSh.den G F30_5s) => F30_5_it n (fun u0 => K .ret (SSh.enc G F30_5x0 ((u0, ()), ()))) (fun u0 => K (.exit 0) (SSh.enc G F30_5x1 ((u0, ()), ()))) k x.1.1 x.1.2.1 x.1.2.2.1 x.1.2.2.2.1) y K) n
noncomputable def F30 (n : Nat) (a480 : List (List Stp)) : Option (Bool × Unit) :=
  (F30_5 n a480 a480 ((a480.length) : Int) (0 : Int) (fun z727 =>
  some (z727, ())) (fun z728 =>
  (andThen (F50 n ((z728.length) : Int) (1 : Int) (6 : Int)) fun r730 =>
  some (r730.1, ()))))
noncomputable def F30e (n : Nat) : Ent G := ⟨30, (.cons (.imm 5) .nil), [], .bool, [], fun x y => F30 n x.1⟩
theorem F30_eq (n : Nat) (x : ShL.den G (.cons (.imm 5) .nil)) (y : denO G []) : (F30e n).F x y = runFn prog G (ro G (tabOf (E31 n)) (frOf [F30_0z n, F30_1z n, F30_2z n, F30_3z n, F30_4z n, F30_5z n]) _) Go.Proofs.Try.f30 (.nd .no (.nd (.nd .no (.nd (.use 5) .no)) .no)) [(0, .fz)] (ShL.enc G (.cons (.imm 5) .nil) x) (encO G [] y) (decR .bool []) := by kernel_rfl
theorem F30_ok (n : Nat) : EntOK prog G (F30e n) :=
  ent_ok (fr := frOf [F30_0z n, F30_1z n, F30_2z n, F30_3z n, F30_4z n, F30_5z n]) (ann := (.nd .no (.nd (.nd .no (.nd (.use 5) .no)) .no))) (frm := [(0, .fz)]) laws fnok (E31_ok n).tab (e := F30e n) (fn := Go.Proofs.Try.f30) (by kernel_rfl) (AllF.ofB (cd := F30c) (l := [(5, codeAt F30c [1, 0, 1, 0])]) (by kernel_rfl) (by kernel_rfl) (AllF.cons (F30_5_ok n) AllF.nil)) (F30_eq n)
noncomputable def E32 (n : Nat) : List (Ent G) := F30e n :: E31 n
theorem E32_ok (n : Nat) : AllE prog G (E32 n) := AllE.cons (F30_ok n) (E31_ok n)
-- 31 loop.example/slowworm/impl.marked
noncomputable def F31c : Code := bodyOf Go.Proofs.Try.f31
noncomputable def F31_0x0 : SSh := ⟨24, [(1, .bool), (5, (.own 0)), (8, (.imm 1)), (9, (.int .i64)), (10, (.int .i64))], [(.arr 0 true)]⟩
noncomputable def F31_0s : SSh := ⟨24, [(1, .bool), (5, (.own 0)), (8, (.imm 1)), (9, (.int .i64)), (10, (.int .i64))], [(.arr 0 true)]⟩
noncomputable def F31_0 {R : Type} (n : Nat) (x771 : Bool) (x772 : List Bool) (x773 : Int) (x774 : Int) (x775 : List Int) (k0 : Bool → List Bool → Int → Int → List Int → Option R) : Option R :=
  (bif (decide ((0 : Int) ≤ x774)) then
  (bif (decide (x774 < ((x772.length) : Int))) then
  (bif ((x772.getD (x774.toNat) false) == x771) then
  let v779 := (x774 :: [])
  (bif (decide (((x775.length) + (v779.length)) ≤ (68719476736 : Nat))) then
  (k0 x771 x772 x773 x774 (x775 ++ v779))
  else none)
  else (k0 x771 x772 x773 x774 x775))
  else none)
  else none)
noncomputable def F31_0z (n : Nat) : Sm G := inZ G 0 ⟨[1, 5, 8, 9, 10], []⟩ F31_0s fun R x K => F31_0 n x.1.1 x.1.2.2.1 x.1.2.2.2.1 x.1.2.2.2.2.1 x.2.1 (fun u0 u1 u2 u3 u4 => K .normal (SSh.enc G F31_0x0 ((u0, ((), (u1, (u2, (u3, ()))))), (u4, ()))))
theorem F31_0_eq (n : Nat) (R : Type) (x : SSh.den G F31_0s) (K : AE → St G → Option R) :
  F31_0 n x.1.1 x.1.2.2.1 x.1.2.2.2.1 x.1.2.2.2.2.1 x.2.1 (fun u0 u1 u2 u3 u4 => K .normal (SSh.enc G F31_0x0 ((u0, ((), (u1, (u2, (u3, ()))))), (u4, ())))) = exec prog G (ro G (tabOf (E32 n)) (frOf []) R) 0 (codeAt F31c [1, 1, 0, 1, 0, 0, 1, 1, 0]) .no (SSh.enc G F31_0s x) (kNrm G (ro G (tabOf (E32 n)) (frOf []) R) 0 ⟨⟨[1, 5, 8, 9, 10], []⟩, ⟨[4], []⟩, [(0, ⟨[5], []⟩)]⟩ K) := by kernel_rfl
theorem F31_0_ok (n : Nat) : FragOK prog G 0 (codeAt F31c [1, 1, 0, 1, 0, 0, 1, 1, 0]) (F31_0z n) :=
  frag_plain laws fnok (E32_ok n).tab (AllF.of (l := []) (by kernel_rfl) AllF.nil) (F31_0_eq n)
noncomputable def F31_1x0 : SSh := ⟨24, [(5, (.own 0))], [(.arr 0 true)]⟩
noncomputable def F31_1s : SSh := ⟨24, [(1, .bool), (5, (.own 0)), (8, (.imm 1)), (9, (.int .i64)), (10, (.int .i64))], [(.arr 0 true)]⟩
noncomputable def F31_1_step {R : Type} (n : Nat) (k0 : List Int → Option R) (rec : Bool → List Bool → Int → Int → List Int → Option R) (x765 : Bool) (x766 : List Bool) (x767 : Int) (x768 : Int) (x769 : List Int) : Option R :=
  (bif (decide (x768 < x767)) then
  (F31_0 n x765 x766 x767 x768 x769 (fun z781 z782 z783 z784 z785 =>
  (rec z781 z782 z783 (IntKind.wrap .i64 (z784 + (1 : Int))) z785)))
  else (k0 x769))
noncomputable def F31_1_it {R : Type} (n : Nat) (k0 : List Int → Option R) : Nat → Bool → List Bool → Int → Int → List Int → Option R
  | 0, _, _, _, _, _ => none
  | k + 1, x765, x766, x767, x768, x769 => F31_1_step n k0 (F31_1_it n k0 k) x765 x766 x767 x768 x769
noncomputable def F31_1 {R : Type} (n : Nat) (x765 : Bool) (x766 : List Bool) (x767 : Int) (x768 : Int) (x769 : List Int) (k0 : List Int → Option R) : Option R := F31_1_it n k0 n x765 x766 x767 x768 x769
noncomputable def F31_1z (n : Nat) : Sm G := inZ G 0 ⟨[1, 5, 8, 9, 10], [(5, (.own 0))]⟩ F31_1s fun R x K => F31_1_it n (fun u0 => K (.exit 0) (SSh.enc G F31_1x0 (((), ()), (u0, ())))) n x.1.1 x.1.2.2.1 x.1.2.2.2.1 x.1.2.2.2.2.1 x.2.1
theorem F31_1_eq (n : Nat) (R : Type) (rec : SSh.den G F31_1s → Option R) (x : SSh.den G F31_1s) (K : AE → St G → Option R) :
  F31_1_step n (fun u0 => K (.exit 0) (SSh.enc G F31_1x0 (((), ()), (u0, ())))) (fun x765 x766 x767 x768 x769 => rec ((x765, ((), (x766, (x767, (x768, ()))))), (x769, ()))) x.1.1 x.1.2.2.1 x.1.2.2.2.1 x.1.2.2.2.2.1 x.2.1 = exec prog G (ro G (tabOf (E32 n)) (frOf [F31_0z n]) R) 0 (codeAt F31c [1, 1, 0, 1, 0, 0]) (.nd .no (.nd .no (.nd (.use 0) .no))) (SSh.enc G F31_1s x) (kLoop G (ro G (tabOf (E32 n)) (frOf [F31_0z n]) R) 0 ⟨[1, 5, 8, 9, 10], [(5, (.own 0))]⟩ F31_1s ⟨⟨[5], []⟩, ⟨[4], []⟩, [(0, ⟨[5], []⟩)]⟩ rec K) := by kernel_rfl
theorem F31_1_ok (n : Nat) : FragOK prog G 0 (codeAt F31c [1, 1, 0, 1, 0]) (F31_1z n) :=
  frag_loop (Z := fun R k (x : SSh.den G F31_1s) K => F31_1_it n (fun u0 => K (.exit 0) (SSh.enc G F31_1x0 (((), ()), (u0, ())))) k x.1.1 x.1.2.2.1 x.1.2.2.2.1 x.1.2.2.2.2.1 x.2.1) laws fnok (E32_ok n).tab (AllF.of (l := [(0, codeAt F31c [1, 1, 0, 1, 0, 0, 1, 1, 0])]) (by kernel_rfl) (AllF.cons (F31_0_ok n) AllF.nil)) (fun _ _ _ => rfl) (fun R k y K => F31_1_eq n R (fun (x : SSh.den G F31_1s) => F31_1_it n (fun u0 => K (.exit 0) (SSh.enc G F31_1x0 (((), ()), (u0, ())))) k x.1.1 x.1.2.2.1 x.1.2.2.2.1 x.1.2.2.2.2.1 x.2.1) y K) n
noncomputable def F31 (n : Nat) (a762 : List Bool) (a763 : Bool) : Option (Unit × (List Int × Unit)) :=
  (F31_1 n a763 a762 ((a762.length) : Int) (0 : Int) [] (fun z787 =>
  some ((), (z787, ()))))
noncomputable def F31e (n : Nat) : Ent G := ⟨31, (.cons (.imm 1) (.cons .bool .nil)), [], (.own 0), [(.arr 0 true)], fun x y => F31 n x.1 x.2.1⟩
theorem F31_eq (n : Nat) (x : ShL.den G (.cons (.imm 1) (.cons .bool .nil))) (y : denO G []) : (F31e n).F x y = runFn prog G (ro G (tabOf (E32 n)) (frOf [F31_0z n, F31_1z n]) _) Go.Proofs.Try.f31 (.nd .no (.nd .no (.nd (.nd .no (.nd (.use 1) .no)) .no))) [(0, (.own 0))] (ShL.enc G (.cons (.imm 1) (.cons .bool .nil)) x) (encO G [] y) (decR (.own 0) [(.arr 0 true)]) := by kernel_rfl
theorem F31_ok (n : Nat) : EntOK prog G (F31e n) :=
  ent_ok (fr := frOf [F31_0z n, F31_1z n]) (ann := (.nd .no (.nd .no (.nd (.nd .no (.nd (.use 1) .no)) .no)))) (frm := [(0, (.own 0))]) laws fnok (E32_ok n).tab (e := F31e n) (fn := Go.Proofs.Try.f31) (by kernel_rfl) (AllF.ofB (cd := F31c) (l := [(1, codeAt F31c [1, 1, 0, 1, 0])]) (by kernel_rfl) (by kernel_rfl) (AllF.cons (F31_1_ok n) AllF.nil)) (F31_eq n)
noncomputable def E33 (n : Nat) : List (Ent G) := F31e n :: E32 n
theorem E33_ok (n : Nat) : AllE prog G (E33 n) := AllE.cons (F31_ok n) (E32_ok n)
noncomputable def F10 (n : Nat) (a478 : List (List Stp)) (a479 : Int) : Option (Unit × (List Int × Unit)) :=
  (andThen (F30 n a478) fun r731 =>
  (bif (!r731.1) then
  some ((), ([], ()))
  else (bif (decide (a479 < (0 : Int))) then
  some ((), ([], ()))
  else (bif (decide (a479 ≥ ((a478.length) : Int))) then
  some ((), ([], ()))
  else (andThen (F33 n a478) fun r736 =>
  (andThen (F32 n r736.1 (a479 :: [])) fun r738 =>
  (andThen (F31 n r738.2.1 true) fun r788 =>
  some ((), (r788.2.1, ())))))))))
noncomputable def F10e (n : Nat) : Ent G := ⟨10, (.cons (.imm 5) (.cons (.int .i64) .nil)), [], (.own 0), [(.arr 0 true)], fun x y => F10 n x.1 x.2.1⟩
theorem F10_eq (n : Nat) (x : ShL.den G (.cons (.imm 5) (.cons (.int .i64) .nil))) (y : denO G []) : (F10e n).F x y = runFn prog G (ro G (tabOf (E33 n)) (frOf []) _) Go.Proofs.Try.f10 .no [(0, (.mv 0))] (ShL.enc G (.cons (.imm 5) (.cons (.int .i64) .nil)) x) (encO G [] y) (decR (.own 0) [(.arr 0 true)]) := by kernel_rfl
theorem F10_ok (n : Nat) : EntOK prog G (F10e n) :=
  ent_ok (fr := frOf []) (ann := .no) (frm := [(0, (.mv 0))]) laws fnok (E33_ok n).tab (e := F10e n) (fn := Go.Proofs.Try.f10) (by kernel_rfl) (AllF.ofB (cd := F10c) (l := []) (by kernel_rfl) (by kernel_rfl) AllF.nil) (F10_eq n)
noncomputable def E34 (n : Nat) : List (Ent G) := F10e n :: E33 n
theorem E34_ok (n : Nat) : AllE prog G (E34 n) := AllE.cons (F10_ok n) (E33_ok n)
-- 11 loop.example/slowworm/laws.eqIntS
noncomputable def F11c : Code := bodyOf Go.Proofs.Try.f11
noncomputable def F11_0x0 : SSh := ⟨26, [(4, .bool)], []⟩
noncomputable def F11_0x1 : SSh := ⟨26, [], []⟩
noncomputable def F11_0s : SSh := ⟨26, [(0, (.imm 0)), (1, (.imm 0)), (5, (.int .i64))], []⟩
noncomputable def F11_0_step {R : Type} (n : Nat) (k0 : Bool → Option R) (k1 : Option R) (rec : List Int → List Int → Int → Option R) (x795 : List Int) (x796 : List Int) (x797 : Int) : Option R :=
  (bif (decide (x797 < ((x795.length) : Int))) then
  (bif (decide ((0 : Int) ≤ x797)) then
  (bif (decide (x797 < ((x795.length) : Int))) then
  (bif (decide ((0 : Int) ≤ x797)) then
  (bif (decide (x797 < ((x796.length) : Int))) then
  (bif ((x795.getD (x797.toNat) (0 : Int)) != (x796.getD (x797.toNat) (0 : Int))) then
  (k0 false)
  else (rec x795 x796 (IntKind.wrap .i64 (x797 + (1 : Int)))))
  else none)
  else none)
  else none)
  else none)
  else k1)
noncomputable def F11_0_it {R : Type} (n : Nat) (k0 : Bool → Option R) (k1 : Option R) : Nat → List Int → List Int → Int → Option R
  | 0, _, _, _ => none
  | k + 1, x795, x796, x797 => F11_0_step n k0 k1 (F11_0_it n k0 k1 k) x795 x796 x797
noncomputable def F11_0 {R : Type} (n : Nat) (x795 : List Int) (x796 : List Int) (x797 : Int) (k0 : Bool → Option R) (k1 : Option R) : Option R := F11_0_it n k0 k1 n x795 x796 x797
noncomputable def F11_0z (n : Nat) : Sm G := inZ G 0 ⟨[0, 1, 5], []⟩ F11_0s fun R x K => F11_0_it n (fun u0 => K .ret (SSh.enc G F11_0x0 ((u0, ()), ()))) (K (.exit 0) (SSh.enc G F11_0x1 ((), ()))) n x.1.1 x.1.2.1 x.1.2.2.1
theorem F11_0_eq (n : Nat) (R : Type) (rec : SSh.den G F11_0s → Option R) (x : SSh.den G F11_0s) (K : AE → St G → Option R) :
  F11_0_step n (fun u0 => K .ret (SSh.enc G F11_0x0 ((u0, ()), ()))) (K (.exit 0) (SSh.enc G F11_0x1 ((), ()))) (fun x795 x796 x797 => rec ((x795, (x796, (x797, ()))), ())) x.1.1 x.1.2.1 x.1.2.2.1 = exec prog G (ro G (tabOf (E34 n)) (frOf []) R) 0 (codeAt F11c [1, 1, 0, 1, 0, 0]) .no (SSh.enc G F11_0s x) (kLoop G (ro G (tabOf (E34 n)) (frOf []) R) 0 ⟨[0, 1, 5], []⟩ F11_0s ⟨⟨[], []⟩, ⟨[4], []⟩, [(0, ⟨[], []⟩)]⟩ rec K) := by kernel_rfl
theorem F11_0_ok (n : Nat) : FragOK prog G 0 (codeAt F11c [1, 1, 0, 1, 0]) (F11_0z n) :=
  frag_loop (Z := fun R k (x : SSh.den G F11_0s) K => F11_0_it n (fun u0 => K .ret (SSh.enc G F11_0x0 ((u0, ()), ()))) (K (.exit 0) (SSh.enc G F11_0x1 ((), ()))) k x.1.1 x.1.2.1 x.1.2.2.1) laws fnok (E34_ok n).tab (AllF.of (l := []) (by kernel_rfl) AllF.nil) (fun _ _ _ => rfl) (fun R k y K => F11_0_eq n R (fun (x : SSh.den G F11_0s) => F11_0_it n (fun u0 => K .ret (SSh.enc G F11_0x0 ((u0, ()), ()))) (K (.exit 0) (SSh.enc G F11_0x1 ((), ()))) k x.1.1 x.1.2.1 x.1.2.2.1) y K) n
noncomputable def F11 (n : Nat) (a790 : List Int) (a791 : List Int) : Option (Bool × Unit) :=
  (bif (((a790.length) : Int) != ((a791.length) : Int)) then
  some (false, ())
  else (F11_0 n a790 a791 (0 : Int) (fun z806 =>
  some (z806, ())) (
  some (true, ()))))
noncomputable def F11e (n : Nat) : Ent G := ⟨11, (.cons (.imm 0) (.cons (.imm 0) .nil)), [], .bool, [], fun x y => F11 n x.1 x.2.1⟩
theorem F11_eq (n : Nat) (x : ShL.den G (.cons (.imm 0) (.cons (.imm 0) .nil))) (y : denO G []) : (F11e n).F x y = runFn prog G (ro G (tabOf (E34 n)) (frOf [F11_0z n]) _) Go.Proofs.Try.f11 (.nd .no (.nd .no (.nd (.nd .no (.nd (.use 0) .no)) .no))) [(0, .fz)] (ShL.enc G (.cons (.imm 0) (.cons (.imm 0) .nil)) x) (encO G [] y) (decR .bool []) := by kernel_rfl
theorem F11_ok (n : Nat) : EntOK prog G (F11e n) :=
  ent_ok (fr := frOf [F11_0z n]) (ann := (.nd .no (.nd .no (.nd (.nd .no (.nd (.use 0) .no)) .no)))) (frm := [(0, .fz)]) laws fnok (E34_ok n).tab (e := F11e n) (fn := Go.Proofs.Try.f11) (by kernel_rfl) (AllF.ofB (cd := F11c) (l := [(0, codeAt F11c [1, 1, 0, 1, 0])]) (by kernel_rfl) (by kernel_rfl) (AllF.cons (F11_0_ok n) AllF.nil)) (F11_eq n)
noncomputable def E35 (n : Nat) : List (Ent G) := F11e n :: E34 n
theorem E35_ok (n : Nat) : AllE prog G (E35 n) := AllE.cons (F11_ok n) (E34_ok n)
-- 12 loop.example/slowworm/laws.eqModS
noncomputable def F12c : Code := bodyOf Go.Proofs.Try.f12
-- 34 loop.example/slowworm/laws.eqMod
noncomputable def F34c : Code := bodyOf Go.Proofs.Try.f34
-- 52 loop.example/slowworm/laws.eqModStepS
noncomputable def F52c : Code := bodyOf Go.Proofs.Try.f52
-- 69 loop.example/slowworm/laws.eqModStep
noncomputable def F69c : Code := bodyOf Go.Proofs.Try.f69
noncomputable def F69 (n : Nat) (a845 : Int) (a846 : Int) (a847 : ByteArray) (a848 : Int) (a849 : Int) (a850 : ByteArray) : Option (Bool × Unit) :=
  (bif (a845 != a848) then
  some (false, ())
  else (bif (a846 != a849) then
  some (false, ())
  else (bif (!((a847.toList) == (a850.toList))) then
  some (false, ())
  else some (true, ()))))
noncomputable def F69e (n : Nat) : Ent G := ⟨69, (.cons (.agg (.cons (.int .i64) (.cons (.int .i64) (.cons .str .nil)))) (.cons (.agg (.cons (.int .i64) (.cons (.int .i64) (.cons .str .nil)))) .nil)), [], .bool, [], fun x y => F69 n x.1.1 x.1.2.1 x.1.2.2.1 x.2.1.1 x.2.1.2.1 x.2.1.2.2.1⟩
theorem F69_eq (n : Nat) (x : ShL.den G (.cons (.agg (.cons (.int .i64) (.cons (.int .i64) (.cons .str .nil)))) (.cons (.agg (.cons (.int .i64) (.cons (.int .i64) (.cons .str .nil)))) .nil))) (y : denO G []) : (F69e n).F x y = runFn prog G (ro G (tabOf (E35 n)) (frOf []) _) Go.Proofs.Try.f69 .no [(0, .fz)] (ShL.enc G (.cons (.agg (.cons (.int .i64) (.cons (.int .i64) (.cons .str .nil)))) (.cons (.agg (.cons (.int .i64) (.cons (.int .i64) (.cons .str .nil)))) .nil)) x) (encO G [] y) (decR .bool []) := by kernel_rfl
theorem F69_ok (n : Nat) : EntOK prog G (F69e n) :=
  ent_ok (fr := frOf []) (ann := .no) (frm := [(0, .fz)]) laws fnok (E35_ok n).tab (e := F69e n) (fn := Go.Proofs.Try.f69) (by kernel_rfl) (AllF.ofB (cd := F69c) (l := []) (by kernel_rfl) (by kernel_rfl) AllF.nil) (F69_eq n)
noncomputable def E36 (n : Nat) : List (Ent G) := F69e n :: E35 n
theorem E36_ok (n : Nat) : AllE prog G (E36 n) := AllE.cons (F69_ok n) (E35_ok n)
noncomputable def F52_0x0 : SSh := ⟨27, [(4, .bool)], []⟩
noncomputable def F52_0x1 : SSh := ⟨27, [], []⟩
noncomputable def F52_0s : SSh := ⟨27, [(0, (.imm 3)), (1, (.imm 3)), (5, (.int .i64))], []⟩
noncomputable def F52_0_step {R : Type} (n : Nat) (k0 : Bool → Option R) (k1 : Option R) (rec : List Stp → List Stp → Int → Option R) (x832 : List Stp) (x833 : List Stp) (x834 : Int) : Option R :=
  (bif (decide (x834 < ((x832.length) : Int))) then
  (bif (decide ((0 : Int) ≤ x834)) then
  (bif (decide (x834 < ((x832.length) : Int))) then
  let v837 := (x832.getD (x834.toNat) (Stp.mk (0 : Int) (0 : Int) ({ data := #[] } : ByteArray)))
  (bif (decide ((0 : Int) ≤ x834)) then
  (bif (decide (x834 < ((x833.length) : Int))) then
  let v841 := (x833.getD (x834.toNat) (Stp.mk (0 : Int) (0 : Int) ({ data := #[] } : ByteArray)))
  (andThen (F69 n v837.kind v837.num v837.name v841.kind v841.num v841.name) fun r854 =>
  (bif (!r854.1) then
  (k0 false)
  else (rec x832 x833 (IntKind.wrap .i64 (x834 + (1 : Int))))))
  else none)
  else none)
  else none)
  else none)
  else k1)
noncomputable def F52_0_it {R : Type} (n : Nat) (k0 : Bool → Option R) (k1 : Option R) : Nat → List Stp → List Stp → Int → Option R
  | 0, _, _, _ => none
  | k + 1, x832, x833, x834 => F52_0_step n k0 k1 (F52_0_it n k0 k1 k) x832 x833 x834
noncomputable def F52_0 {R : Type} (n : Nat) (x832 : List Stp) (x833 : List Stp) (x834 : Int) (k0 : Bool → Option R) (k1 : Option R) : Option R := F52_0_it n k0 k1 n x832 x833 x834
noncomputable def F52_0z (n : Nat) : Sm G := inZ G 0 ⟨[0, 1, 5], []⟩ F52_0s fun R x K => F52_0_it n (fun u0 => K .ret (SSh.enc G F52_0x0 ((u0, ()), ()))) (K (.exit 0) (SSh.enc G F52_0x1 ((), ()))) n x.1.1 x.1.2.1 x.1.2.2.1
theorem F52_0_eq (n : Nat) (R : Type) (rec : SSh.den G F52_0s → Option R) (x : SSh.den G F52_0s) (K : AE → St G → Option R) :
  F52_0_step n (fun u0 => K .ret (SSh.enc G F52_0x0 ((u0, ()), ()))) (K (.exit 0) (SSh.enc G F52_0x1 ((), ()))) (fun x832 x833 x834 => rec ((x832, (x833, (x834, ()))), ())) x.1.1 x.1.2.1 x.1.2.2.1 = exec prog G (ro G (tabOf (E36 n)) (frOf []) R) 0 (codeAt F52c [1, 1, 0, 1, 0, 0]) .no (SSh.enc G F52_0s x) (kLoop G (ro G (tabOf (E36 n)) (frOf []) R) 0 ⟨[0, 1, 5], []⟩ F52_0s ⟨⟨[], []⟩, ⟨[4], []⟩, [(0, ⟨[], []⟩)]⟩ rec K) := by kernel_rfl
theorem F52_0_ok (n : Nat) : FragOK prog G 0 (codeAt F52c [1, 1, 0, 1, 0]) (F52_0z n) :=
  frag_loop (Z := fun R k (x : SSh.den G F52_0s) K => F52_0_it n (fun u0 => K .ret (SSh.enc G F52_0x0 ((u0, ()), ()))) (K (.exit 0) (SSh.enc G F52_0x1 ((), ()))) k x.1.1 x.1.2.1 x.1.2.2.1) laws fnok (E36_ok n).tab (AllF.of (l := []) (by kernel_rfl) AllF.nil) (fun _ _ _ => rfl) (fun R k y K => F52_0_eq n R (fun (x : SSh.den G F52_0s) => F52_0_it n (fun u0 => K .ret (SSh.enc G F52_0x0 ((u0, ()), ()))) (K (.exit 0) (SSh.enc G F52_0x1 ((), ()))) k x.1.1 x.1.2.1 x.1.2.2.1) y K) n
noncomputable def F52 (n : Nat) (a827 : List Stp) (a828 : List Stp) : Option (Bool × Unit) :=
  (bif (((a827.length) : Int) != ((a828.length) : Int)) then
  some (false, ())
  else (F52_0 n a827 a828 (0 : Int) (fun z857 =>
  some (z857, ())) (
  some (true, ()))))
noncomputable def F52e (n : Nat) : Ent G := ⟨52, (.cons (.imm 3) (.cons (.imm 3) .nil)), [], .bool, [], fun x y => F52 n x.1 x.2.1⟩
theorem F52_eq (n : Nat) (x : ShL.den G (.cons (.imm 3) (.cons (.imm 3) .nil))) (y : denO G []) : (F52e n).F x y = runFn prog G (ro G (tabOf (E36 n)) (frOf [F52_0z n]) _) Go.Proofs.Try.f52 (.nd .no (.nd .no (.nd (.nd .no (.nd (.use 0) .no)) .no))) [(0, .fz)] (ShL.enc G (.cons (.imm 3) (.cons (.imm 3) .nil)) x) (encO G [] y) (decR .bool []) := by kernel_rfl
theorem F52_ok (n : Nat) : EntOK prog G (F52e n) :=
  ent_ok (fr := frOf [F52_0z n]) (ann := (.nd .no (.nd .no (.nd (.nd .no (.nd (.use 0) .no)) .no)))) (frm := [(0, .fz)]) laws fnok (E36_ok n).tab (e := F52e n) (fn := Go.Proofs.Try.f52) (by kernel_rfl) (AllF.ofB (cd := F52c) (l := [(0, codeAt F52c [1, 1, 0, 1, 0])]) (by kernel_rfl) (by kernel_rfl) (AllF.cons (F52_0_ok n) AllF.nil)) (F52_eq n)
noncomputable def E37 (n : Nat) : List (Ent G) := F52e n :: E36 n
theorem E37_ok (n : Nat) : AllE prog G (E37 n) := AllE.cons (F52_ok n) (E36_ok n)
noncomputable def F34 (n : Nat) (a825 : List Stp) (a826 : List Stp) : Option (Bool × Unit) :=
  (andThen (F52 n a825 a826) fun r858 =>
  (bif (!r858.1) then
  some (false, ())
  else some (true, ())))
noncomputable def F34e (n : Nat) : Ent G := ⟨34, (.cons (.agg (.cons (.imm 3) .nil)) (.cons (.agg (.cons (.imm 3) .nil)) .nil)), [], .bool, [], fun x y => F34 n x.1.1 x.2.1.1⟩
theorem F34_eq (n : Nat) (x : ShL.den G (.cons (.agg (.cons (.imm 3) .nil)) (.cons (.agg (.cons (.imm 3) .nil)) .nil))) (y : denO G []) : (F34e n).F x y = runFn prog G (ro G (tabOf (E37 n)) (frOf []) _) Go.Proofs.Try.f34 .no [(0, .fz)] (ShL.enc G (.cons (.agg (.cons (.imm 3) .nil)) (.cons (.agg (.cons (.imm 3) .nil)) .nil)) x) (encO G [] y) (decR .bool []) := by kernel_rfl
theorem F34_ok (n : Nat) : EntOK prog G (F34e n) :=
  ent_ok (fr := frOf []) (ann := .no) (frm := [(0, .fz)]) laws fnok (E37_ok n).tab (e := F34e n) (fn := Go.Proofs.Try.f34) (by kernel_rfl) (AllF.ofB (cd := F34c) (l := []) (by kernel_rfl) (by kernel_rfl) AllF.nil) (F34_eq n)
noncomputable def E38 (n : Nat) : List (Ent G) := F34e n :: E37 n
theorem E38_ok (n : Nat) : AllE prog G (E38 n) := AllE.cons (F34_ok n) (E37_ok n)
noncomputable def F12_0x0 : SSh := ⟨27, [(4, .bool)], []⟩
noncomputable def F12_0x1 : SSh := ⟨27, [], []⟩
noncomputable def F12_0s : SSh := ⟨27, [(0, (.imm 5)), (1, (.imm 5)), (5, (.int .i64))], []⟩
noncomputable def F12_0_step {R : Type} (n : Nat) (k0 : Bool → Option R) (k1 : Option R) (rec : List (List Stp) → List (List Stp) → Int → Option R) (x816 : List (List Stp)) (x817 : List (List Stp)) (x818 : Int) : Option R :=
  (bif (decide (x818 < ((x816.length) : Int))) then
  (bif (decide ((0 : Int) ≤ x818)) then
  (bif (decide (x818 < ((x816.length) : Int))) then
  (bif (decide ((0 : Int) ≤ x818)) then
  (bif (decide (x818 < ((x817.length) : Int))) then
  (andThen (F34 n (x816.getD (x818.toNat) []) (x817.getD (x818.toNat) [])) fun r860 =>
  (bif (!r860.1) then
  (k0 false)
  else (rec x816 x817 (IntKind.wrap .i64 (x818 + (1 : Int))))))
  else none)
  else none)
  else none)
  else none)
  else k1)
noncomputable def F12_0_it {R : Type} (n : Nat) (k0 : Bool → Option R) (k1 : Option R) : Nat → List (List Stp) → List (List Stp) → Int → Option R
  | 0, _, _, _ => none
  | k + 1, x816, x817, x818 => F12_0_step n k0 k1 (F12_0_it n k0 k1 k) x816 x817 x818
noncomputable def F12_0 {R : Type} (n : Nat) (x816 : List (List Stp)) (x817 : List (List Stp)) (x818 : Int) (k0 : Bool → Option R) (k1 : Option R) : Option R := F12_0_it n k0 k1 n x816 x817 x818
noncomputable def F12_0z (n : Nat) : Sm G := inZ G 0 ⟨[0, 1, 5], []⟩ F12_0s fun R x K => F12_0_it n (fun u0 => K .ret (SSh.enc G F12_0x0 ((u0, ()), ()))) (K (.exit 0) (SSh.enc G F12_0x1 ((), ()))) n x.1.1 x.1.2.1 x.1.2.2.1
theorem F12_0_eq (n : Nat) (R : Type) (rec : SSh.den G F12_0s → Option R) (x : SSh.den G F12_0s) (K : AE → St G → Option R) :
  F12_0_step n (fun u0 => K .ret (SSh.enc G F12_0x0 ((u0, ()), ()))) (K (.exit 0) (SSh.enc G F12_0x1 ((), ()))) (fun x816 x817 x818 => rec ((x816, (x817, (x818, ()))), ())) x.1.1 x.1.2.1 x.1.2.2.1 = exec prog G (ro G (tabOf (E38 n)) (frOf []) R) 0 (codeAt F12c [1, 1, 0, 1, 0, 0]) .no (SSh.enc G F12_0s x) (kLoop G (ro G (tabOf (E38 n)) (frOf []) R) 0 ⟨[0, 1, 5], []⟩ F12_0s ⟨⟨[], []⟩, ⟨[4], []⟩, [(0, ⟨[], []⟩)]⟩ rec K) := by kernel_rfl
theorem F12_0_ok (n : Nat) : FragOK prog G 0 (codeAt F12c [1, 1, 0, 1, 0]) (F12_0z n) :=
  frag_loop (Z := fun R k (x : SSh.den G F12_0s) K => F12_0_it n (fun u0 => K .ret (SSh.enc G F12_0x0 ((u0, ()), ()))) (K (.exit 0) (SSh.enc G F12_0x1 ((), ()))) k x.1.1 x.1.2.1 x.1.2.2.1) laws fnok (E38_ok n).tab (AllF.of (l := []) (by kernel_rfl) AllF.nil) (fun _ _ _ => rfl) (fun R k y K => F12_0_eq n R (fun (x : SSh.den G F12_0s) => F12_0_it n (fun u0 => K .ret (SSh.enc G F12_0x0 ((u0, ()), ()))) (K (.exit 0) (SSh.enc G F12_0x1 ((), ()))) k x.1.1 x.1.2.1 x.1.2.2.1) y K) n
noncomputable def F12 (n : Nat) (a811 : List (List Stp)) (a812 : List (List Stp)) : Option (Bool × Unit) :=
  (bif (((a811.length) : Int) != ((a812.length) : Int)) then
  some (false, ())
  else (F12_0 n a811 a812 (0 : Int) (fun z863 =>
  some (z863, ())) (
  some (true, ()))))
noncomputable def F12e (n : Nat) : Ent G := ⟨12, (.cons (.imm 5) (.cons (.imm 5) .nil)), [], .bool, [], fun x y => F12 n x.1 x.2.1⟩
theorem F12_eq (n : Nat) (x : ShL.den G (.cons (.imm 5) (.cons (.imm 5) .nil))) (y : denO G []) : (F12e n).F x y = runFn prog G (ro G (tabOf (E38 n)) (frOf [F12_0z n]) _) Go.Proofs.Try.f12 (.nd .no (.nd .no (.nd (.nd .no (.nd (.use 0) .no)) .no))) [(0, .fz)] (ShL.enc G (.cons (.imm 5) (.cons (.imm 5) .nil)) x) (encO G [] y) (decR .bool []) := by kernel_rfl
theorem F12_ok (n : Nat) : EntOK prog G (F12e n) :=
  ent_ok (fr := frOf [F12_0z n]) (ann := (.nd .no (.nd .no (.nd (.nd .no (.nd (.use 0) .no)) .no)))) (frm := [(0, .fz)]) laws fnok (E38_ok n).tab (e := F12e n) (fn := Go.Proofs.Try.f12) (by kernel_rfl) (AllF.ofB (cd := F12c) (l := [(0, codeAt F12c [1, 1, 0, 1, 0])]) (by kernel_rfl) (by kernel_rfl) (AllF.cons (F12_0_ok n) AllF.nil)) (F12_eq n)
noncomputable def E39 (n : Nat) : List (Ent G) := F12e n :: E38 n
theorem E39_ok (n : Nat) : AllE prog G (E39 n) := AllE.cons (F12_ok n) (E38_ok n)
-- 13 loop.example/slowworm/laws.markModS
noncomputable def F13c : Code := bodyOf Go.Proofs.Try.f13
-- 35 loop.example/slowworm/laws.markModStepS
noncomputable def F35c : Code := bodyOf Go.Proofs.Try.f35
-- 53 loop.example/slowworm/laws.markText
noncomputable def F53c : Code := bodyOf Go.Proofs.Try.f53
noncomputable def F53_0x0 : SSh := ⟨20, [(3, .str)], []⟩
noncomputable def F53_0s : SSh := ⟨20, [(0, (.int .i64)), (3, .str)], []⟩
noncomputable def F53_0_step {R : Type} (n : Nat) (k0 : ByteArray → Option R) (rec : Int → ByteArray → Option R) (x892 : Int) (x893 : ByteArray) : Option R :=
  (bif (decide (x892 > (0 : Int))) then
  let v899 := (bytesOfInts (List.map (fun y900 => y900) ((IntKind.wrap .u8 (IntKind.wrap .i64 ((48 : Int) + (x892.tmod (10 : Int))))) :: [])))
  (bif (decide (((v899.size) + (x893.size)) ≤ (68719476736 : Nat))) then
  (rec (IntKind.wrap .i64 (x892.tdiv (10 : Int))) (v899 ++ x893))
  else none)
  else (k0 x893))
noncomputable def F53_0_it {R : Type} (n : Nat) (k0 : ByteArray → Option R) : Nat → Int → ByteArray → Option R
  | 0, _, _ => none
  | k + 1, x892, x893 => F53_0_step n k0 (F53_0_it n k0 k) x892 x893
noncomputable def F53_0 {R : Type} (n : Nat) (x892 : Int) (x893 : ByteArray) (k0 : ByteArray → Option R) : Option R := F53_0_it n k0 n x892 x893
noncomputable def F53_0z (n : Nat) : Sm G := inZ G 0 ⟨[0, 3], []⟩ F53_0s fun R x K => F53_0_it n (fun u0 => K (.exit 0) (SSh.enc G F53_0x0 ((u0, ()), ()))) n x.1.1 x.1.2.1
theorem F53_0_eq (n : Nat) (R : Type) (rec : SSh.den G F53_0s → Option R) (x : SSh.den G F53_0s) (K : AE → St G → Option R) :
  F53_0_step n (fun u0 => K (.exit 0) (SSh.enc G F53_0x0 ((u0, ()), ()))) (fun x892 x893 => rec ((x892, (x893, ())), ())) x.1.1 x.1.2.1 = exec prog G (ro G (tabOf (E39 n)) (frOf []) R) 0 (codeAt F53c [1, 1, 1, 0, 0, 0]) .no (SSh.enc G F53_0s x) (kLoop G (ro G (tabOf (E39 n)) (frOf []) R) 0 ⟨[0, 3], []⟩ F53_0s ⟨⟨[3], []⟩, ⟨[2], []⟩, [(0, ⟨[3], []⟩)]⟩ rec K) := by kernel_rfl
theorem F53_0_ok (n : Nat) : FragOK prog G 0 (codeAt F53c [1, 1, 1, 0, 0]) (F53_0z n) :=
  frag_loop (Z := fun R k (x : SSh.den G F53_0s) K => F53_0_it n (fun u0 => K (.exit 0) (SSh.enc G F53_0x0 ((u0, ()), ()))) k x.1.1 x.1.2.1) laws fnok (E39_ok n).tab (AllF.of (l := []) (by kernel_rfl) AllF.nil) (fun _ _ _ => rfl) (fun R k y K => F53_0_eq n R (fun (x : SSh.den G F53_0s) => F53_0_it n (fun u0 => K (.exit 0) (SSh.enc G F53_0x0 ((u0, ()), ()))) k x.1.1 x.1.2.1) y K) n
noncomputable def F53 (n : Nat) (a890 : Int) : Option (ByteArray × Unit) :=
  (bif (decide (a890 ≤ (0 : Int))) then
  some (({ data := #[109, 48] } : ByteArray), ())
  else (F53_0 n a890 ({ data := #[] } : ByteArray) (fun z903 =>
  (bif (decide (((1 : Nat) + (z903.size)) ≤ (68719476736 : Nat))) then
  some ((({ data := #[109] } : ByteArray) ++ z903), ())
  else none))))
noncomputable def F53e (n : Nat) : Ent G := ⟨53, (.cons (.int .i64) .nil), [], .str, [], fun x y => F53 n x.1⟩
theorem F53_eq (n : Nat) (x : ShL.den G (.cons (.int .i64) .nil)) (y : denO G []) : (F53e n).F x y = runFn prog G (ro G (tabOf (E39 n)) (frOf [F53_0z n]) _) Go.Proofs.Try.f53 (.nd .no (.nd .no (.nd .no (.nd (.nd (.use 0) .no) .no)))) [(0, .fz)] (ShL.enc G (.cons (.int .i64) .nil) x) (encO G [] y) (decR .str []) := by kernel_rfl
theorem F53_ok (n : Nat) : EntOK prog G (F53e n) :=
  ent_ok (fr := frOf [F53_0z n]) (ann := (.nd .no (.nd .no (.nd .no (.nd (.nd (.use 0) .no) .no))))) (frm := [(0, .fz)]) laws fnok (E39_ok n).tab (e := F53e n) (fn := Go.Proofs.Try.f53) (by kernel_rfl) (AllF.ofB (cd := F53c) (l := [(0, codeAt F53c [1, 1, 1, 0, 0])]) (by kernel_rfl) (by kernel_rfl) (AllF.cons (F53_0_ok n) AllF.nil)) (F53_eq n)
noncomputable def E40 (n : Nat) : List (Ent G) := F53e n :: E39 n
theorem E40_ok (n : Nat) : AllE prog G (E40 n) := AllE.cons (F53_ok n) (E39_ok n)
noncomputable def F35_0x0 : SSh := ⟨35, [(1, (.int .i64))], [(.usr 1)]⟩
noncomputable def F35_0s : SSh := ⟨35, [(0, (.jk 0 3)), (1, (.int .i64)), (5, (.int .i64))], [(.usr 1)]⟩
noncomputable def F35_0_step {R : Type} (n : Nat) (k0 : Int → Unit → Option R) (rec : List Stp → Int → Int → Unit → Option R) (x880 : List Stp) (x881 : Int) (x882 : Int) (x883 : Unit) : Option R :=
  (bif (decide (x882 < ((x880.length) : Int))) then
  (bif (decide ((0 : Int) ≤ x882)) then
  (bif (decide (x882 < ((x880.length) : Int))) then
  (bif (decide ((0 : Int) ≤ x882)) then
  (bif (decide (x882 < ((x880.length) : Int))) then
  let v889 := (IntKind.wrap .i64 ((IntKind.wrap .i64 (x881 + (1 : Int))) + (1 : Int)))
  (andThen (F53 n v889) fun r905 =>
  (bif (decide ((0 : Int) ≤ x882)) then
  (bif (decide (x882 < ((x880.length) : Int))) then
  (rec x880 (IntKind.wrap .i64 (v889 + (1 : Int))) (IntKind.wrap .i64 (x882 + (1 : Int))) ())
  else none)
  else none))
  else none)
  else none)
  else none)
  else none)
  else (k0 x881 x883))
noncomputable def F35_0_it {R : Type} (n : Nat) (k0 : Int → Unit → Option R) : Nat → List Stp → Int → Int → Unit → Option R
  | 0, _, _, _, _ => none
  | k + 1, x880, x881, x882, x883 => F35_0_step n k0 (F35_0_it n k0 k) x880 x881 x882 x883
noncomputable def F35_0 {R : Type} (n : Nat) (x880 : List Stp) (x881 : Int) (x882 : Int) (x883 : Unit) (k0 : Int → Unit → Option R) : Option R := F35_0_it n k0 n x880 x881 x882 x883
noncomputable def F35_0z (n : Nat) : Sm G := inZ G 1 ⟨[0, 1, 5], []⟩ F35_0s fun R x K => F35_0_it n (fun u0 u1 => K (.exit 0) (SSh.enc G F35_0x0 ((u0, ()), (u1, ())))) n x.1.1 x.1.2.1 x.1.2.2.1 x.2.1
theorem F35_0_eq (n : Nat) (R : Type) (rec : SSh.den G F35_0s → Option R) (x : SSh.den G F35_0s) (K : AE → St G → Option R) :
  F35_0_step n (fun u0 u1 => K (.exit 0) (SSh.enc G F35_0x0 ((u0, ()), (u1, ())))) (fun x880 x881 x882 x883 => rec ((x880, (x881, (x882, ()))), (x883, ()))) x.1.1 x.1.2.1 x.1.2.2.1 x.2.1 = exec prog G (ro G (tabOf (E40 n)) (frOf []) R) 1 (codeAt F35c [1, 0, 1, 0, 0]) .no (SSh.enc G F35_0s x) (kLoop G (ro G (tabOf (E40 n)) (frOf []) R) 1 ⟨[0, 1, 5], []⟩ F35_0s ⟨⟨[1], []⟩, ⟨[4], []⟩, [(0, ⟨[1], []⟩)]⟩ rec K) := by kernel_rfl
theorem F35_0_ok (n : Nat) : FragOK prog G 1 (codeAt F35c [1, 0, 1, 0]) (F35_0z n) :=
  frag_loop (Z := fun R k (x : SSh.den G F35_0s) K => F35_0_it n (fun u0 u1 => K (.exit 0) (SSh.enc G F35_0x0 ((u0, ()), (u1, ())))) k x.1.1 x.1.2.1 x.1.2.2.1 x.2.1) laws fnok (E40_ok n).tab (AllF.of (l := []) (by kernel_rfl) AllF.nil) (fun _ _ _ => rfl) (fun R k y K => F35_0_eq n R (fun (x : SSh.den G F35_0s) => F35_0_it n (fun u0 u1 => K (.exit 0) (SSh.enc G F35_0x0 ((u0, ()), (u1, ())))) k x.1.1 x.1.2.1 x.1.2.2.1 x.2.1) y K) n
noncomputable def F35 (n : Nat) (a877 : List Stp) (a878 : Int) (a879 : Unit) : Option (Int × (Unit × Unit)) :=
  (F35_0 n a877 a878 (0 : Int) a879 (fun z909 z910 =>
  some (z909, (z910, ()))))
noncomputable def F35e (n : Nat) : Ent G := ⟨35, (.cons (.jk 0 3) (.cons (.int .i64) .nil)), [(.usr 1)], (.int .i64), [(.usr 1)], fun x y => F35 n x.1 x.2.1 y.1⟩
theorem F35_eq (n : Nat) (x : ShL.den G (.cons (.jk 0 3) (.cons (.int .i64) .nil))) (y : denO G [(.usr 1)]) : (F35e n).F x y = runFn prog G (ro G (tabOf (E40 n)) (frOf [F35_0z n]) _) Go.Proofs.Try.f35 (.nd .no (.nd (.nd .no (.nd (.use 0) .no)) .no)) [(0, .fz)] (ShL.enc G (.cons (.jk 0 3) (.cons (.int .i64) .nil)) x) (encO G [(.usr 1)] y) (decR (.int .i64) [(.usr 1)]) := by kernel_rfl
theorem F35_ok (n : Nat) : EntOK prog G (F35e n) :=
  ent_ok (fr := frOf [F35_0z n]) (ann := (.nd .no (.nd (.nd .no (.nd (.use 0) .no)) .no))) (frm := [(0, .fz)]) laws fnok (E40_ok n).tab (e := F35e n) (fn := Go.Proofs.Try.f35) (by kernel_rfl) (AllF.ofB (cd := F35c) (l := [(0, codeAt F35c [1, 0, 1, 0])]) (by kernel_rfl) (by kernel_rfl) (AllF.cons (F35_0_ok n) AllF.nil)) (F35_eq n)
noncomputable def E41 (n : Nat) : List (Ent G) := F35e n :: E40 n
theorem E41_ok (n : Nat) : AllE prog G (E41 n) := AllE.cons (F35_ok n) (E40_ok n)
noncomputable def F13_0x0 : SSh := ⟨20, [(1, (.int .i64))], [(.usr 1)]⟩
noncomputable def F13_0s : SSh := ⟨20, [(0, (.jk 0 5)), (1, (.int .i64)), (5, (.int .i64))], [(.usr 1)]⟩
noncomputable def F13_0_step {R : Type} (n : Nat) (k0 : Int → Unit → Option R) (rec : List (List Stp) → Int → Int → Unit → Option R) (x869 : List (List Stp)) (x870 : Int) (x871 : Int) (x872 : Unit) : Option R :=
  (bif (decide (x871 < ((x869.length) : Int))) then
  (bif (decide ((0 : Int) ≤ x871)) then
  (bif (decide (x871 < ((x869.length) : Int))) then
  (andThen (F35 n (x869.getD (x871.toNat) []) x870 x872) fun r911 =>
  (rec x869 r911.1 (IntKind.wrap .i64 (x871 + (1 : Int))) r911.2.1))
  else none)
  else none)
  else (k0 x870 x872))
noncomputable def F13_0_it {R : Type} (n : Nat) (k0 : Int → Unit → Option R) : Nat → List (List Stp) → Int → Int → Unit → Option R
  | 0, _, _, _, _ => none
  | k + 1, x869, x870, x871, x872 => F13_0_step n k0 (F13_0_it n k0 k) x869 x870 x871 x872
noncomputable def F13_0 {R : Type} (n : Nat) (x869 : List (List Stp)) (x870 : Int) (x871 : Int) (x872 : Unit) (k0 : Int → Unit → Option R) : Option R := F13_0_it n k0 n x869 x870 x871 x872
noncomputable def F13_0z (n : Nat) : Sm G := inZ G 1 ⟨[0, 1, 5], []⟩ F13_0s fun R x K => F13_0_it n (fun u0 u1 => K (.exit 0) (SSh.enc G F13_0x0 ((u0, ()), (u1, ())))) n x.1.1 x.1.2.1 x.1.2.2.1 x.2.1
theorem F13_0_eq (n : Nat) (R : Type) (rec : SSh.den G F13_0s → Option R) (x : SSh.den G F13_0s) (K : AE → St G → Option R) :
  F13_0_step n (fun u0 u1 => K (.exit 0) (SSh.enc G F13_0x0 ((u0, ()), (u1, ())))) (fun x869 x870 x871 x872 => rec ((x869, (x870, (x871, ()))), (x872, ()))) x.1.1 x.1.2.1 x.1.2.2.1 x.2.1 = exec prog G (ro G (tabOf (E41 n)) (frOf []) R) 1 (codeAt F13c [1, 0, 1, 0, 0]) .no (SSh.enc G F13_0s x) (kLoop G (ro G (tabOf (E41 n)) (frOf []) R) 1 ⟨[0, 1, 5], []⟩ F13_0s ⟨⟨[1], []⟩, ⟨[4], []⟩, [(0, ⟨[1], []⟩)]⟩ rec K) := by kernel_rfl
theorem F13_0_ok (n : Nat) : FragOK prog G 1 (codeAt F13c [1, 0, 1, 0]) (F13_0z n) :=
  frag_loop (Z := fun R k (x : SSh.den G F13_0s) K => F13_0_it n (fun u0 u1 => K (.exit 0) (SSh.enc G F13_0x0 ((u0, ()), (u1, ())))) k x.1.1 x.1.2.1 x.1.2.2.1 x.2.1) laws fnok (E41_ok n).tab (AllF.of (l := []) (by kernel_rfl) AllF.nil) (fun _ _ _ => rfl) (fun R k y K => F13_0_eq n R (fun (x : SSh.den G F13_0s) => F13_0_it n (fun u0 u1 => K (.exit 0) (SSh.enc G F13_0x0 ((u0, ()), (u1, ())))) k x.1.1 x.1.2.1 x.1.2.2.1 x.2.1) y K) n
noncomputable def F13 (n : Nat) (a866 : List (List Stp)) (a867 : Int) (a868 : Unit) : Option (Int × (Unit × Unit)) :=
  (F13_0 n a866 a867 (0 : Int) a868 (fun z913 z914 =>
  some (z913, (z914, ()))))
noncomputable def F13e (n : Nat) : Ent G := ⟨13, (.cons (.jk 0 5) (.cons (.int .i64) .nil)), [(.usr 1)], (.int .i64), [(.usr 1)], fun x y => F13 n x.1 x.2.1 y.1⟩
theorem F13_eq (n : Nat) (x : ShL.den G (.cons (.jk 0 5) (.cons (.int .i64) .nil))) (y : denO G [(.usr 1)]) : (F13e n).F x y = runFn prog G (ro G (tabOf (E41 n)) (frOf [F13_0z n]) _) Go.Proofs.Try.f13 (.nd .no (.nd (.nd .no (.nd (.use 0) .no)) .no)) [(0, .fz)] (ShL.enc G (.cons (.jk 0 5) (.cons (.int .i64) .nil)) x) (encO G [(.usr 1)] y) (decR (.int .i64) [(.usr 1)]) := by kernel_rfl
theorem F13_ok (n : Nat) : EntOK prog G (F13e n) :=
  ent_ok (fr := frOf [F13_0z n]) (ann := (.nd .no (.nd (.nd .no (.nd (.use 0) .no)) .no))) (frm := [(0, .fz)]) laws fnok (E41_ok n).tab (e := F13e n) (fn := Go.Proofs.Try.f13) (by kernel_rfl) (AllF.ofB (cd := F13c) (l := [(0, codeAt F13c [1, 0, 1, 0])]) (by kernel_rfl) (by kernel_rfl) (AllF.cons (F13_0_ok n) AllF.nil)) (F13_eq n)
noncomputable def E42 (n : Nat) : List (Ent G) := F13e n :: E41 n
theorem E42_ok (n : Nat) : AllE prog G (E42 n) := AllE.cons (F13_ok n) (E41_ok n)
-- 14 loop.example/slowworm/laws.markIntS
noncomputable def F14c : Code := bodyOf Go.Proofs.Try.f14
noncomputable def F14_0x0 : SSh := ⟨19, [(1, (.int .i64))], [(.arr 0 true)]⟩
noncomputable def F14_0s : SSh := ⟨19, [(0, (.own 0)), (1, (.int .i64)), (5, (.int .i64))], [(.arr 0 true)]⟩
noncomputable def F14_0_step {R : Type} (n : Nat) (k0 : Int → List Int → Option R) (rec : Int → Int → List Int → Option R) (x921 : Int) (x922 : Int) (x923 : List Int) : Option R :=
  (bif (decide (x922 < ((x923.length) : Int))) then
  (bif (decide ((0 : Int) ≤ x922)) then
  (bif (decide (x922 < ((x923.length) : Int))) then
  (rec (IntKind.wrap .i64 (x921 + (1 : Int))) (IntKind.wrap .i64 (x922 + (1 : Int))) (x923.set (x922.toNat) x921))
  else none)
  else none)
  else (k0 x921 x923))
noncomputable def F14_0_it {R : Type} (n : Nat) (k0 : Int → List Int → Option R) : Nat → Int → Int → List Int → Option R
  | 0, _, _, _ => none
  | k + 1, x921, x922, x923 => F14_0_step n k0 (F14_0_it n k0 k) x921 x922 x923
noncomputable def F14_0 {R : Type} (n : Nat) (x921 : Int) (x922 : Int) (x923 : List Int) (k0 : Int → List Int → Option R) : Option R := F14_0_it n k0 n x921 x922 x923
noncomputable def F14_0z (n : Nat) : Sm G := inZ G 1 ⟨[0, 1, 5], []⟩ F14_0s fun R x K => F14_0_it n (fun u0 u1 => K (.exit 0) (SSh.enc G F14_0x0 ((u0, ()), (u1, ())))) n x.1.2.1 x.1.2.2.1 x.2.1
theorem F14_0_eq (n : Nat) (R : Type) (rec : SSh.den G F14_0s → Option R) (x : SSh.den G F14_0s) (K : AE → St G → Option R) :
  F14_0_step n (fun u0 u1 => K (.exit 0) (SSh.enc G F14_0x0 ((u0, ()), (u1, ())))) (fun x921 x922 x923 => rec (((), (x921, (x922, ()))), (x923, ()))) x.1.2.1 x.1.2.2.1 x.2.1 = exec prog G (ro G (tabOf (E42 n)) (frOf []) R) 1 (codeAt F14c [1, 0, 1, 0, 0]) .no (SSh.enc G F14_0s x) (kLoop G (ro G (tabOf (E42 n)) (frOf []) R) 1 ⟨[0, 1, 5], []⟩ F14_0s ⟨⟨[1], []⟩, ⟨[4], []⟩, [(0, ⟨[1], []⟩)]⟩ rec K) := by kernel_rfl
theorem F14_0_ok (n : Nat) : FragOK prog G 1 (codeAt F14c [1, 0, 1, 0]) (F14_0z n) :=
  frag_loop (Z := fun R k (x : SSh.den G F14_0s) K => F14_0_it n (fun u0 u1 => K (.exit 0) (SSh.enc G F14_0x0 ((u0, ()), (u1, ())))) k x.1.2.1 x.1.2.2.1 x.2.1) laws fnok (E42_ok n).tab (AllF.of (l := []) (by kernel_rfl) AllF.nil) (fun _ _ _ => rfl) (fun R k y K => F14_0_eq n R (fun (x : SSh.den G F14_0s) => F14_0_it n (fun u0 u1 => K (.exit 0) (SSh.enc G F14_0x0 ((u0, ()), (u1, ())))) k x.1.2.1 x.1.2.2.1 x.2.1) y K) n
noncomputable def F14 (n : Nat) (a919 : Int) (a920 : List Int) : Option (Int × (List Int × Unit)) :=
  (F14_0 n a919 (0 : Int) a920 (fun z930 z931 =>
  some (z930, (z931, ()))))
noncomputable def F14e (n : Nat) : Ent G := ⟨14, (.cons (.own 0) (.cons (.int .i64) .nil)), [(.arr 0 true)], (.int .i64), [(.arr 0 true)], fun x y => F14 n x.2.1 y.1⟩
theorem F14_eq (n : Nat) (x : ShL.den G (.cons (.own 0) (.cons (.int .i64) .nil))) (y : denO G [(.arr 0 true)]) : (F14e n).F x y = runFn prog G (ro G (tabOf (E42 n)) (frOf [F14_0z n]) _) Go.Proofs.Try.f14 (.nd .no (.nd (.nd .no (.nd (.use 0) .no)) .no)) [(0, .fz)] (ShL.enc G (.cons (.own 0) (.cons (.int .i64) .nil)) x) (encO G [(.arr 0 true)] y) (decR (.int .i64) [(.arr 0 true)]) := by kernel_rfl
theorem F14_ok (n : Nat) : EntOK prog G (F14e n) :=
  ent_ok (fr := frOf [F14_0z n]) (ann := (.nd .no (.nd (.nd .no (.nd (.use 0) .no)) .no))) (frm := [(0, .fz)]) laws fnok (E42_ok n).tab (e := F14e n) (fn := Go.Proofs.Try.f14) (by kernel_rfl) (AllF.ofB (cd := F14c) (l := [(0, codeAt F14c [1, 0, 1, 0])]) (by kernel_rfl) (by kernel_rfl) (AllF.cons (F14_0_ok n) AllF.nil)) (F14_eq n)
noncomputable def E43 (n : Nat) : List (Ent G) := F14e n :: E42 n
theorem E43_ok (n : Nat) : AllE prog G (E43 n) := AllE.cons (F14_ok n) (E42_ok n)
-- 15 loop.example/slowworm/laws.heldIntS
noncomputable def F15c : Code := bodyOf Go.Proofs.Try.f15
noncomputable def F15_0x0 : SSh := ⟨21, [(4, (.int .i64))], [(.arr 0 true)]⟩
noncomputable def F15_0x1 : SSh := ⟨21, [(1, (.int .i64))], [(.arr 0 true)]⟩
noncomputable def F15_0s : SSh := ⟨21, [(0, (.own 0)), (1, (.int .i64)), (5, (.int .i64))], [(.arr 0 true)]⟩
noncomputable def F15_0_step {R : Type} (n : Nat) (k0 : Int → List Int → Option R) (k1 : Int → List Int → Option R) (rec : Int → Int → List Int → Option R) (x935 : Int) (x936 : Int) (x937 : List Int) : Option R :=
  (bif (decide (x936 < ((x937.length) : Int))) then
  (bif (decide ((0 : Int) ≤ x936)) then
  (bif (decide (x936 < ((x937.length) : Int))) then
  (bif ((x937.getD (x936.toNat) (0 : Int)) != x935) then
  (k0 (-1 : Int) x937)
  else (rec (IntKind.wrap .i64 (x935 + (1 : Int))) (IntKind.wrap .i64 (x936 + (1 : Int))) x937))
  else none)
  else none)
  else (k1 x935 x937))
noncomputable def F15_0_it {R : Type} (n : Nat) (k0 : Int → List Int → Option R) (k1 : Int → List Int → Option R) : Nat → Int → Int → List Int → Option R
  | 0, _, _, _ => none
  | k + 1, x935, x936, x937 => F15_0_step n k0 k1 (F15_0_it n k0 k1 k) x935 x936 x937
noncomputable def F15_0 {R : Type} (n : Nat) (x935 : Int) (x936 : Int) (x937 : List Int) (k0 : Int → List Int → Option R) (k1 : Int → List Int → Option R) : Option R := F15_0_it n k0 k1 n x935 x936 x937
noncomputable def F15_0z (n : Nat) : Sm G := inZ G 1 ⟨[0, 1, 5], []⟩ F15_0s fun R x K => F15_0_it n (fun u0 u1 => K .ret (SSh.enc G F15_0x0 ((u0, ()), (u1, ())))) (fun u0 u1 => K (.exit 0) (SSh.enc G F15_0x1 ((u0, ()), (u1, ())))) n x.1.2.1 x.1.2.2.1 x.2.1
theorem F15_0_eq (n : Nat) (R : Type) (rec : SSh.den G F15_0s → Option R) (x : SSh.den G F15_0s) (K : AE → St G → Option R) :
  F15_0_step n (fun u0 u1 => K .ret (SSh.enc G F15_0x0 ((u0, ()), (u1, ())))) (fun u0 u1 => K (.exit 0) (SSh.enc G F15_0x1 ((u0, ()), (u1, ())))) (fun x935 x936 x937 => rec (((), (x935, (x936, ()))), (x937, ()))) x.1.2.1 x.1.2.2.1 x.2.1 = exec prog G (ro G (tabOf (E43 n)) (frOf []) R) 1 (codeAt F15c [1, 0, 1, 0, 0]) .no (SSh.enc G F15_0s x) (kLoop G (ro G (tabOf (E43 n)) (frOf []) R) 1 ⟨[0, 1, 5], []⟩ F15_0s ⟨⟨[1], []⟩, ⟨[4], []⟩, [(0, ⟨[1], []⟩)]⟩ rec K) := by kernel_rfl
theorem F15_0_ok (n : Nat) : FragOK prog G 1 (codeAt F15c [1, 0, 1, 0]) (F15_0z n) :=
  frag_loop (Z := fun R k (x : SSh.den G F15_0s) K => F15_0_it n (fun u0 u1 => K .ret (SSh.enc G F15_0x0 ((u0, ()), (u1, ())))) (fun u0 u1 => K (.exit 0) (SSh.enc G F15_0x1 ((u0, ()), (u1, ())))) k x.1.2.1 x.1.2.2.1 x.2.1) laws fnok (E43_ok n).tab (AllF.of (l := []) (by kernel_rfl) AllF.nil) (fun _ _ _ => rfl) (fun R k y K => F15_0_eq n R (fun (x : SSh.den G F15_0s) => F15_0_it n (fun u0 u1 => K .ret (SSh.enc G F15_0x0 ((u0, ()), (u1, ())))) (fun u0 u1 => K (.exit 0) (SSh.enc G F15_0x1 ((u0, ()), (u1, ())))) k x.1.2.1 x.1.2.2.1 x.2.1) y K) n
noncomputable def F15 (n : Nat) (a933 : Int) (a934 : List Int) : Option (Int × (List Int × Unit)) :=
  (F15_0 n a933 (0 : Int) a934 (fun z945 z946 =>
  some (z945, (z946, ()))) (fun z947 z948 =>
  some (z947, (z948, ()))))
noncomputable def F15e (n : Nat) : Ent G := ⟨15, (.cons (.own 0) (.cons (.int .i64) .nil)), [(.arr 0 true)], (.int .i64), [(.arr 0 true)], fun x y => F15 n x.2.1 y.1⟩
theorem F15_eq (n : Nat) (x : ShL.den G (.cons (.own 0) (.cons (.int .i64) .nil))) (y : denO G [(.arr 0 true)]) : (F15e n).F x y = runFn prog G (ro G (tabOf (E43 n)) (frOf [F15_0z n]) _) Go.Proofs.Try.f15 (.nd .no (.nd (.nd .no (.nd (.use 0) .no)) .no)) [(0, .fz)] (ShL.enc G (.cons (.own 0) (.cons (.int .i64) .nil)) x) (encO G [(.arr 0 true)] y) (decR (.int .i64) [(.arr 0 true)]) := by kernel_rfl
theorem F15_ok (n : Nat) : EntOK prog G (F15e n) :=
  ent_ok (fr := frOf [F15_0z n]) (ann := (.nd .no (.nd (.nd .no (.nd (.use 0) .no)) .no))) (frm := [(0, .fz)]) laws fnok (E43_ok n).tab (e := F15e n) (fn := Go.Proofs.Try.f15) (by kernel_rfl) (AllF.ofB (cd := F15c) (l := [(0, codeAt F15c [1, 0, 1, 0])]) (by kernel_rfl) (by kernel_rfl) (AllF.cons (F15_0_ok n) AllF.nil)) (F15_eq n)
noncomputable def E44 (n : Nat) : List (Ent G) := F15e n :: E43 n
theorem E44_ok (n : Nat) : AllE prog G (E44 n) := AllE.cons (F15_ok n) (E43_ok n)
noncomputable def F3 (n : Nat) (a123 : List (List Stp)) (a124 : Int) : Option (Bool × Unit) :=
  (andThen (F7 n a123 (1048576 : Int)) fun r172 =>
  (bif (decide (r172.1 < (0 : Int))) then
  some (true, ())
  else (andThen (F9 n a123) fun r211 =>
  (andThen (F8 n (r211.1, ()).1 a124) fun r475 =>
  (andThen (F9 n a123) fun r476 =>
  let v477 := (r476.1, ())
  (andThen (F10 n v477.1 a124) fun r789 =>
  (andThen (F11 n r789.2.1 r475.1) fun r807 =>
  (bif (!r807.1) then
  some (false, ())
  else (andThen (F9 n a123) fun r809 =>
  (andThen (F12 n v477.1 (r809.1, ()).1) fun r864 =>
  (bif (!r864.1) then
  some (false, ())
  else (andThen (F13 n v477.1 (1 : Int) ()) fun r915 =>
  (bif (decide (r915.1 < (0 : Int))) then
  some (false, ())
  else (andThen (F11 n r789.2.1 r475.1) fun r917 =>
  (bif (!r917.1) then
  some (false, ())
  else (andThen (F14 n (1 : Int) r789.2.1) fun r932 =>
  (andThen (F15 n (1 : Int) r932.2.1) fun r949 =>
  (bif (decide (r949.1 < (0 : Int))) then
  some (false, ())
  else (bif (r949.1 != r932.1) then
  some (false, ())
  else (andThen (F9 n a123) fun r952 =>
  (andThen (F10 n (r952.1, ()).1 a124) fun r954 =>
  (andThen (F11 n r954.2.1 r475.1) fun r955 =>
  (bif (!r955.1) then
  some (false, ())
  else (andThen (F15 n (1 : Int) r949.2.1) fun r957 =>
  (bif (decide (r957.1 < (0 : Int))) then
  some (false, ())
  else (bif (r957.1 != r932.1) then
  some (false, ())
  else some (true, ())))))))))))))))))))))))))))
noncomputable def F3e (n : Nat) : Ent G := ⟨3, (.cons (.imm 6) (.cons (.int .i64) .nil)), [], .bool, [], fun x y => F3 n x.1 x.2.1⟩
theorem F3_eq (n : Nat) (x : ShL.den G (.cons (.imm 6) (.cons (.int .i64) .nil))) (y : denO G []) : (F3e n).F x y = runFn prog G (ro G (tabOf (E44 n)) (frOf []) _) Go.Proofs.Try.f3 .no [(0, .fz)] (ShL.enc G (.cons (.imm 6) (.cons (.int .i64) .nil)) x) (encO G [] y) (decR .bool []) := by kernel_rfl
theorem F3_ok (n : Nat) : EntOK prog G (F3e n) :=
  ent_ok (fr := frOf []) (ann := .no) (frm := [(0, .fz)]) laws fnok (E44_ok n).tab (e := F3e n) (fn := Go.Proofs.Try.f3) (by kernel_rfl) (AllF.ofB (cd := F3c) (l := []) (by kernel_rfl) (by kernel_rfl) AllF.nil) (F3_eq n)
noncomputable def E45 (n : Nat) : List (Ent G) := F3e n :: E44 n
theorem E45_ok (n : Nat) : AllE prog G (E45 n) := AllE.cons (F3_ok n) (E44_ok n)
end Go.Proofs.Ytjfmfpnnjgfffaa.Am
