/- The functions of the seat of heaps, printed. -/
import Derived.Test.YtfknenaecihchaaAmHepSig
namespace Go.Proofs.Ytfknenaecihchaa.Am
open Go Go.Proofs.Try
set_option autoImplicit false
set_option linter.unusedVariables false
set_option maxRecDepth 100000
noncomputable def E0 (n : Nat) : List (Ent G) := []
theorem E0_ok (n : Nat) : AllE prog G (E0 n) := AllE.nil
-- 6 loop.example/slowworm/laws.FnHeapOk
noncomputable def F6c : Code := bodyOf Go.Proofs.Try.f6
-- 20 loop.example/slowworm/spec.DrawHeapOk
noncomputable def F20c : Code := bodyOf Go.Proofs.Try.f20
-- 37 loop.example/slowworm/spec.newRnd
noncomputable def F37c : Code := bodyOf Go.Proofs.Try.f37
noncomputable def F37 (n : Nat) (a4 : List Int) : Option (Unit × ((List Int × (Int × Unit)) × Unit)) :=
  let v5 := ((a4.length) : Int)
  let v6 := (if ((4000 : Int) < v5) then (4000 : Int) else v5)
  (bif (decide ((0 : Int) ≤ v6)) then
  (bif (decide (v6 ≤ ((a4.length) : Int))) then
  some ((), ((((a4.take (v6.toNat)).drop (0 : Nat)), ((0 : Int), ())), ()))
  else none)
  else none)
noncomputable def F37e (n : Nat) : Ent G := ⟨37, (.cons (.imm 1) .nil), [], (.ptr 0 0), [(.box 88 (.cons (.imm 1) (.cons (.int .i64) .nil)))], fun x y => F37 n x.1⟩
theorem F37_eq (n : Nat) (x : ShL.den G (.cons (.imm 1) .nil)) (y : denO G []) : (F37e n).F x y = runFn prog G (ro G (tabOf (E0 n)) (frOf []) _) Go.Proofs.Try.f37 .no [(0, .fz)] (ShL.enc G (.cons (.imm 1) .nil) x) (encO G [] y) (decR (.ptr 0 0) [(.box 88 (.cons (.imm 1) (.cons (.int .i64) .nil)))]) := by kernel_rfl
theorem F37_ok (n : Nat) : EntOK prog G (F37e n) :=
  ent_ok (fr := frOf []) (ann := .no) (frm := [(0, .fz)]) laws fnok (E0_ok n).tab (e := F37e n) (fn := Go.Proofs.Try.f37) (by kernel_rfl) (AllF.ofB (cd := F37c) (l := []) (by kernel_rfl) (by kernel_rfl) AllF.nil) (F37_eq n)
noncomputable def E1 (n : Nat) : List (Ent G) := F37e n :: E0 n
theorem E1_ok (n : Nat) : AllE prog G (E1 n) := AllE.cons (F37_ok n) (E0_ok n)
-- 44 loop.example/slowworm/spec.errorNames
noncomputable def F44c : Code := bodyOf Go.Proofs.Try.f44
noncomputable def F44 (n : Nat)  : Option (List ByteArray × Unit) :=
  some ((({ data := #[69, 114, 114, 111, 114] } : ByteArray) :: (({ data := #[84, 121, 112, 101, 69, 114, 114, 111, 114] } : ByteArray) :: (({ data := #[78, 97, 109, 101, 69, 114, 114, 111, 114] } : ByteArray) :: (({ data := #[86, 97, 108, 117, 101, 69, 114, 114, 111, 114] } : ByteArray) :: (({ data := #[73, 110, 100, 101, 120, 69, 114, 114, 111, 114] } : ByteArray) :: (({ data := #[75, 101, 121, 69, 114, 114, 111, 114] } : ByteArray) :: (({ data := #[90, 101, 114, 111, 69, 114, 114, 111, 114] } : ByteArray) :: (({ data := #[65, 116, 116, 114, 69, 114, 114, 111, 114] } : ByteArray) :: (({ data := #[83, 105, 122, 101, 69, 114, 114, 111, 114] } : ByteArray) :: (({ data := #[83, 116, 111, 112, 69, 114, 114, 111, 114] } : ByteArray) :: (({ data := #[82, 117, 110, 69, 114, 114, 111, 114] } : ByteArray) :: (({ data := #[73, 109, 112, 111, 114, 116, 69, 114, 114, 111, 114] } : ByteArray) :: (({ data := #[65, 115, 115, 101, 114, 116, 69, 114, 114, 111, 114] } : ByteArray) :: []))))))))))))), ())
noncomputable def F44e (n : Nat) : Ent G := ⟨44, .nil, [], (.imm 2), [], fun x y => F44 n⟩
theorem F44_eq (n : Nat) (x : ShL.den G .nil) (y : denO G []) : (F44e n).F x y = runFn prog G (ro G (tabOf (E1 n)) (frOf []) _) Go.Proofs.Try.f44 .no [(0, .fz)] (ShL.enc G .nil x) (encO G [] y) (decR (.imm 2) []) := by kernel_rfl
theorem F44_ok (n : Nat) : EntOK prog G (F44e n) :=
  ent_ok (fr := frOf []) (ann := .no) (frm := [(0, .fz)]) laws fnok (E1_ok n).tab (e := F44e n) (fn := Go.Proofs.Try.f44) (by kernel_rfl) (AllF.ofB (cd := F44c) (l := []) (by kernel_rfl) (by kernel_rfl) AllF.nil) (F44_eq n)
noncomputable def E2 (n : Nat) : List (Ent G) := F44e n :: E1 n
theorem E2_ok (n : Nat) : AllE prog G (E2 n) := AllE.cons (F44_ok n) (E1_ok n)
-- 45 loop.example/slowworm/spec.refTo
noncomputable def F45c : Code := bodyOf Go.Proofs.Try.f45
noncomputable def F45 (n : Nat) (a23 : Int) : Option ((Int × (ByteArray × (Int × Unit))) × Unit) :=
  some (((4 : Int), (({ data := #[] } : ByteArray), (a23, ()))), ())
noncomputable def F45e (n : Nat) : Ent G := ⟨45, (.cons (.int .i64) .nil), [], (.agg (.cons (.int .i64) (.cons .str (.cons (.int .i64) .nil)))), [], fun x y => F45 n x.1⟩
theorem F45_eq (n : Nat) (x : ShL.den G (.cons (.int .i64) .nil)) (y : denO G []) : (F45e n).F x y = runFn prog G (ro G (tabOf (E2 n)) (frOf []) _) Go.Proofs.Try.f45 .no [(0, .fz)] (ShL.enc G (.cons (.int .i64) .nil) x) (encO G [] y) (decR (.agg (.cons (.int .i64) (.cons .str (.cons (.int .i64) .nil)))) []) := by kernel_rfl
theorem F45_ok (n : Nat) : EntOK prog G (F45e n) :=
  ent_ok (fr := frOf []) (ann := .no) (frm := [(0, .fz)]) laws fnok (E2_ok n).tab (e := F45e n) (fn := Go.Proofs.Try.f45) (by kernel_rfl) (AllF.ofB (cd := F45c) (l := []) (by kernel_rfl) (by kernel_rfl) AllF.nil) (F45_eq n)
noncomputable def E3 (n : Nat) : List (Ent G) := F45e n :: E2 n
theorem E3_ok (n : Nat) : AllE prog G (E3 n) := AllE.cons (F45_ok n) (E2_ok n)
-- 26 loop.example/slowworm/spec.newHeap
noncomputable def F26c : Code := bodyOf Go.Proofs.Try.f26
noncomputable def F26_0x0 : SSh := ⟨58, [(0, (.ptr 0 0)), (1, (.ptr 1 0)), (2, (.imm 2)), (3, (.int .i64)), (4, (.ptr 2 0))], [(.box 25 (.cons (.own 3) .nil)), (.box 25 (.cons (.own 4) .nil)), (.box 51 (.cons (.int .i64) (.cons .str (.cons (.int .i64) (.cons (.own 5) (.cons (.own 6) (.cons .nil0 (.cons .nil0 .nil)))))))), (.arr 4 true), (.arr 4 true), (.arr 3 true), (.arr 3 true)]⟩
noncomputable def F26_0x1 : SSh := ⟨58, [(0, (.ptr 0 0)), (1, (.ptr 1 0)), (2, (.imm 2)), (3, (.int .i64)), (4, (.ptr 2 0))], [(.box 25 (.cons (.own 3) .nil)), (.box 25 (.cons (.own 4) .nil)), (.box 51 (.cons (.int .i64) (.cons .str (.cons (.int .i64) (.cons (.own 5) (.cons .nil0 (.cons .nil0 (.cons .nil0 .nil)))))))), (.arr 4 true), (.arr 4 true), (.arr 3 true)]⟩
noncomputable def F26_0s : SSh := ⟨58, [(0, (.ptr 0 0)), (1, (.ptr 1 0)), (2, (.imm 2)), (3, (.int .i64)), (4, (.ptr 2 0))], [(.box 25 (.cons (.own 3) .nil)), (.box 25 (.cons (.own 4) .nil)), (.box 51 (.cons (.int .i64) (.cons .str (.cons (.int .i64) (.cons (.own 5) (.cons .nil0 (.cons .nil0 (.cons .nil0 .nil)))))))), (.arr 4 true), (.arr 4 true), (.arr 3 true)]⟩
noncomputable def F26_0 {R : Type} (n : Nat) (x78 : List ByteArray) (x79 : Int) (x80 : Int) (x81 : ByteArray) (x82 : Int) (x83 : List Obj) (x84 : List Obj) (x85 : List Val) (k0 : List ByteArray → Int → Int → ByteArray → Int → List Obj → List Obj → List Val → List Val → Option R) (k1 : List ByteArray → Int → Int → ByteArray → Int → List Obj → List Obj → List Val → Option R) : Option R :=
  (bif (decide (x79 > (0 : Int))) then
  (andThen (F45 n (0 : Int)) fun r87 =>
  (andThen (F45 n (0 : Int)) fun r89 =>
  let v90 := ((Val.mk r89.1.1 r89.1.2.1 r89.1.2.2.1) :: [])
  (bif (decide (((x85.length) + (v90.length)) ≤ (68719476736 : Nat))) then
  (k0 x78 x79 x80 x81 x82 x83 x84 (x85 ++ v90) ((Val.mk r87.1.1 r87.1.2.1 r87.1.2.2.1) :: []))
  else none)))
  else (k1 x78 x79 x80 x81 x82 x83 x84 x85))
noncomputable def F26_0z (n : Nat) : Sm G := inZ G 0 ⟨[0, 1, 2, 3, 4], []⟩ F26_0s fun R x K => F26_0 n x.1.2.2.1 x.1.2.2.2.1 x.2.2.2.1.1 x.2.2.2.1.2.1 x.2.2.2.1.2.2.1 x.2.2.2.2.1 x.2.2.2.2.2.1 x.2.2.2.2.2.2.1 (fun u0 u1 u2 u3 u4 u5 u6 u7 u8 => K .normal (SSh.enc G F26_0x0 (((), ((), (u0, (u1, ((), ()))))), (((), ()), (((), ()), ((u2, (u3, (u4, ((), ((), ((), ((), ()))))))), (u5, (u6, (u7, (u8, ())))))))))) (fun u0 u1 u2 u3 u4 u5 u6 u7 => K .normal (SSh.enc G F26_0x1 (((), ((), (u0, (u1, ((), ()))))), (((), ()), (((), ()), ((u2, (u3, (u4, ((), ((), ((), ((), ()))))))), (u5, (u6, (u7, ())))))))))
theorem F26_0_eq (n : Nat) (R : Type) (x : SSh.den G F26_0s) (K : AE → St G → Option R) :
  F26_0 n x.1.2.2.1 x.1.2.2.2.1 x.2.2.2.1.1 x.2.2.2.1.2.1 x.2.2.2.1.2.2.1 x.2.2.2.2.1 x.2.2.2.2.2.1 x.2.2.2.2.2.2.1 (fun u0 u1 u2 u3 u4 u5 u6 u7 u8 => K .normal (SSh.enc G F26_0x0 (((), ((), (u0, (u1, ((), ()))))), (((), ()), (((), ()), ((u2, (u3, (u4, ((), ((), ((), ((), ()))))))), (u5, (u6, (u7, (u8, ())))))))))) (fun u0 u1 u2 u3 u4 u5 u6 u7 => K .normal (SSh.enc G F26_0x1 (((), ((), (u0, (u1, ((), ()))))), (((), ()), (((), ()), ((u2, (u3, (u4, ((), ((), ((), ((), ()))))))), (u5, (u6, (u7, ()))))))))) = exec prog G (ro G (tabOf (E3 n)) (frOf []) R) 0 (codeAt F26c [1, 1, 1, 0, 1, 0, 0, 1, 0, 0, 1, 0]) .no (SSh.enc G F26_0s x) (kNrm G (ro G (tabOf (E3 n)) (frOf []) R) 0 ⟨⟨[0, 1, 2, 3, 4], []⟩, ⟨[0], []⟩, [(1, ⟨[0, 1, 2, 3], []⟩), (0, ⟨[0, 1], []⟩)]⟩ K) := by kernel_rfl
theorem F26_0_ok (n : Nat) : FragOK prog G 0 (codeAt F26c [1, 1, 1, 0, 1, 0, 0, 1, 0, 0, 1, 0]) (F26_0z n) :=
  frag_plain laws fnok (E3_ok n).tab (AllF.of (l := []) (by kernel_rfl) AllF.nil) (F26_0_eq n)
noncomputable def F26_1x0 : SSh := ⟨58, [(0, (.ptr 0 0)), (1, (.ptr 1 0)), (2, (.imm 2)), (3, (.int .i64))], [(.box 25 (.cons (.own 2) .nil)), (.box 25 (.cons (.own 3) .nil)), (.arr 4 true), (.arr 4 true)]⟩
noncomputable def F26_1s : SSh := ⟨58, [(0, (.ptr 0 0)), (1, (.ptr 1 0)), (2, (.imm 2)), (3, (.int .i64))], [(.box 25 (.cons (.own 2) .nil)), (.box 25 (.cons (.own 3) .nil)), (.arr 4 true), (.arr 4 true)]⟩
noncomputable def F26_1 {R : Type} (n : Nat) (x70 : List ByteArray) (x71 : Int) (x72 : List Obj) (x73 : List Obj) (k0 : List ByteArray → Int → List Obj → List Obj → Option R) : Option R :=
  (bif (decide ((0 : Int) ≤ x71)) then
  (bif (decide (x71 < ((x70.length) : Int))) then
  (andThen (F45 n x71) fun r76 =>
  (F26_0 n x70 x71 (5 : Int) (x70.getD (x71.toNat) ({ data := #[] } : ByteArray)) (0 : Int) x72 x73 ((Val.mk r76.1.1 r76.1.2.1 r76.1.2.2.1) :: []) (fun z92 z93 z94 z95 z96 z97 z98 z99 z100 =>
  let v101 := ((Obj.mk z94 z95 z96 z99 z100 [] []) :: [])
  (bif (decide (((z98.length) + (v101.length)) ≤ (68719476736 : Nat))) then
  (k0 z92 z93 z97 (z98 ++ v101))
  else none)) (fun z103 z104 z105 z106 z107 z108 z109 z110 =>
  let v111 := ((Obj.mk z105 z106 z107 z110 [] [] []) :: [])
  (bif (decide (((z109.length) + (v111.length)) ≤ (68719476736 : Nat))) then
  (k0 z103 z104 z108 (z109 ++ v111))
  else none))))
  else none)
  else none)
noncomputable def F26_1z (n : Nat) : Sm G := inZ G 0 ⟨[0, 1, 2, 3], []⟩ F26_1s fun R x K => F26_1 n x.1.2.2.1 x.1.2.2.2.1 x.2.2.2.1 x.2.2.2.2.1 (fun u0 u1 u2 u3 => K .normal (SSh.enc G F26_1x0 (((), ((), (u0, (u1, ())))), (((), ()), (((), ()), (u2, (u3, ())))))))
theorem F26_1_eq (n : Nat) (R : Type) (x : SSh.den G F26_1s) (K : AE → St G → Option R) :
  F26_1 n x.1.2.2.1 x.1.2.2.2.1 x.2.2.2.1 x.2.2.2.2.1 (fun u0 u1 u2 u3 => K .normal (SSh.enc G F26_1x0 (((), ((), (u0, (u1, ())))), (((), ()), (((), ()), (u2, (u3, ()))))))) = exec prog G (ro G (tabOf (E3 n)) (frOf [F26_0z n]) R) 0 (codeAt F26c [1, 1, 1, 0, 1, 0, 0, 1, 0]) (.nd (.nd .no (.nd (.use 0) .no)) .no) (SSh.enc G F26_1s x) (kNrm G (ro G (tabOf (E3 n)) (frOf [F26_0z n]) R) 0 ⟨⟨[0, 1, 2, 3], []⟩, ⟨[0], []⟩, [(0, ⟨[0, 1], []⟩)]⟩ K) := by kernel_rfl
theorem F26_1_ok (n : Nat) : FragOK prog G 0 (codeAt F26c [1, 1, 1, 0, 1, 0, 0, 1, 0]) (F26_1z n) :=
  frag_plain laws fnok (E3_ok n).tab (AllF.of (l := [(0, codeAt F26c [1, 1, 1, 0, 1, 0, 0, 1, 0, 0, 1, 0])]) (by kernel_rfl) (AllF.cons (F26_0_ok n) AllF.nil)) (F26_1_eq n)
noncomputable def F26_2x0 : SSh := ⟨58, [(0, (.ptr 0 0)), (1, (.ptr 1 0))], [(.box 25 (.cons (.own 2) .nil)), (.box 25 (.cons (.own 3) .nil)), (.arr 4 true), (.arr 4 true)]⟩
noncomputable def F26_2s : SSh := ⟨58, [(0, (.ptr 0 0)), (1, (.ptr 1 0)), (2, (.imm 2)), (3, (.int .i64))], [(.box 25 (.cons (.own 2) .nil)), (.box 25 (.cons (.own 3) .nil)), (.arr 4 true), (.arr 4 true)]⟩
noncomputable def F26_2_step {R : Type} (n : Nat) (k0 : List Obj → List Obj → Option R) (rec : List ByteArray → Int → List Obj → List Obj → Option R) (x64 : List ByteArray) (x65 : Int) (x66 : List Obj) (x67 : List Obj) : Option R :=
  (bif (decide (x65 < ((x64.length) : Int))) then
  (F26_1 n x64 x65 x66 x67 (fun z113 z114 z115 z116 =>
  (rec z113 (IntKind.wrap .i64 (z114 + (1 : Int))) z115 z116)))
  else (k0 x66 x67))
noncomputable def F26_2_it {R : Type} (n : Nat) (k0 : List Obj → List Obj → Option R) : Nat → List ByteArray → Int → List Obj → List Obj → Option R
  | 0, _, _, _, _ => none
  | k + 1, x64, x65, x66, x67 => F26_2_step n k0 (F26_2_it n k0 k) x64 x65 x66 x67
noncomputable def F26_2 {R : Type} (n : Nat) (x64 : List ByteArray) (x65 : Int) (x66 : List Obj) (x67 : List Obj) (k0 : List Obj → List Obj → Option R) : Option R := F26_2_it n k0 n x64 x65 x66 x67
noncomputable def F26_2z (n : Nat) : Sm G := inZ G 0 ⟨[0, 1, 2, 3], [(1, (.cell 0 (.own 4)))]⟩ F26_2s fun R x K => F26_2_it n (fun u0 u1 => K (.exit 0) (SSh.enc G F26_2x0 (((), ((), ())), (((), ()), (((), ()), (u0, (u1, ()))))))) n x.1.2.2.1 x.1.2.2.2.1 x.2.2.2.1 x.2.2.2.2.1
theorem F26_2_eq (n : Nat) (R : Type) (rec : SSh.den G F26_2s → Option R) (x : SSh.den G F26_2s) (K : AE → St G → Option R) :
  F26_2_step n (fun u0 u1 => K (.exit 0) (SSh.enc G F26_2x0 (((), ((), ())), (((), ()), (((), ()), (u0, (u1, ()))))))) (fun x64 x65 x66 x67 => rec (((), ((), (x64, (x65, ())))), (((), ()), (((), ()), (x66, (x67, ())))))) x.1.2.2.1 x.1.2.2.2.1 x.2.2.2.1 x.2.2.2.2.1 = exec prog G (ro G (tabOf (E3 n)) (frOf [F26_0z n, F26_1z n]) R) 0 (codeAt F26c [1, 1, 1, 0, 1, 0, 0]) (.nd .no (.nd (.use 1) .no)) (SSh.enc G F26_2s x) (kLoop G (ro G (tabOf (E3 n)) (frOf [F26_0z n, F26_1z n]) R) 0 ⟨[0, 1, 2, 3], [(1, (.cell 0 (.own 4)))]⟩ F26_2s ⟨⟨[0, 1], []⟩, ⟨[0], []⟩, [(0, ⟨[0, 1], []⟩)]⟩ rec K) := by kernel_rfl
theorem F26_2_ok (n : Nat) : FragOK prog G 0 (codeAt F26c [1, 1, 1, 0, 1, 0]) (F26_2z n) :=
  frag_loop (Z := fun R k (x : SSh.den G F26_2s) K => F26_2_it n (fun u0 u1 => K (.exit 0) (SSh.enc G F26_2x0 (((), ((), ())), (((), ()), (((), ()), (u0, (u1, ()))))))) k x.1.2.2.1 x.1.2.2.2.1 x.2.2.2.1 x.2.2.2.2.1) laws fnok (E3_ok n).tab (AllF.of (l := [(1, codeAt F26c [1, 1, 1, 0, 1, 0, 0, 1, 0])]) (by kernel_rfl) (AllF.cons (F26_1_ok n) AllF.nil)) (fun _ _ _ => rfl) (fun R k y K => F26_2_eq n R (fun (x : SSh.den G F26_2s) => F26_2_it n (fun u0 u1 => K (.exit 0) (SSh.enc G F26_2x0 (((), ((), ())), (((), ()), (((), ()), (u0, (u1, ()))))))) k x.1.2.2.1 x.1.2.2.2.1 x.2.2.2.1 x.2.2.2.2.1) y K) n
-- 46 loop.example/slowworm/spec.builtNames
noncomputable def F46c : Code := bodyOf Go.Proofs.Try.f46
noncomputable def F46 (n : Nat)  : Option (List ByteArray × Unit) :=
  some ((({ data := #[112, 114, 105, 110, 116] } : ByteArray) :: (({ data := #[108, 101, 110] } : ByteArray) :: (({ data := #[114, 97, 110, 103, 101] } : ByteArray) :: (({ data := #[115, 116, 114] } : ByteArray) :: (({ data := #[110, 101, 120, 116] } : ByteArray) :: (({ data := #[105, 115, 97] } : ByteArray) :: [])))))), ())
noncomputable def F46e (n : Nat) : Ent G := ⟨46, .nil, [], (.imm 2), [], fun x y => F46 n⟩
theorem F46_eq (n : Nat) (x : ShL.den G .nil) (y : denO G []) : (F46e n).F x y = runFn prog G (ro G (tabOf (E3 n)) (frOf []) _) Go.Proofs.Try.f46 .no [(0, .fz)] (ShL.enc G .nil x) (encO G [] y) (decR (.imm 2) []) := by kernel_rfl
theorem F46_ok (n : Nat) : EntOK prog G (F46e n) :=
  ent_ok (fr := frOf []) (ann := .no) (frm := [(0, .fz)]) laws fnok (E3_ok n).tab (e := F46e n) (fn := Go.Proofs.Try.f46) (by kernel_rfl) (AllF.ofB (cd := F46c) (l := []) (by kernel_rfl) (by kernel_rfl) AllF.nil) (F46_eq n)
noncomputable def E4 (n : Nat) : List (Ent G) := F46e n :: E3 n
theorem E4_ok (n : Nat) : AllE prog G (E4 n) := AllE.cons (F46_ok n) (E3_ok n)
noncomputable def F26_3x0 : SSh := ⟨58, [(0, (.ptr 0 0)), (1, (.ptr 1 0))], [(.box 25 (.cons (.own 2) .nil)), (.box 25 (.cons (.own 3) .nil)), (.arr 4 true), (.arr 4 true)]⟩
noncomputable def F26_3s : SSh := ⟨58, [(0, (.ptr 0 0)), (1, (.ptr 1 0)), (5, (.imm 2)), (6, (.int .i64))], [(.box 25 (.cons (.own 2) .nil)), (.box 25 (.cons (.own 3) .nil)), (.arr 4 true), (.arr 4 true)]⟩
noncomputable def F26_3_step {R : Type} (n : Nat) (k0 : List Obj → List Obj → Option R) (rec : List ByteArray → Int → List Obj → List Obj → Option R) (x122 : List ByteArray) (x123 : Int) (x124 : List Obj) (x125 : List Obj) : Option R :=
  (bif (decide (x123 < ((x122.length) : Int))) then
  (bif (decide ((0 : Int) ≤ x123)) then
  (bif (decide (x123 < ((x122.length) : Int))) then
  let v130 := ((Obj.mk (10 : Int) (x122.getD (x123.toNat) ({ data := #[] } : ByteArray)) (0 : Int) [] [] [] []) :: [])
  (bif (decide (((x125.length) + (v130.length)) ≤ (68719476736 : Nat))) then
  (rec x122 (IntKind.wrap .i64 (x123 + (1 : Int))) x124 (x125 ++ v130))
  else none)
  else none)
  else none)
  else (k0 x124 x125))
noncomputable def F26_3_it {R : Type} (n : Nat) (k0 : List Obj → List Obj → Option R) : Nat → List ByteArray → Int → List Obj → List Obj → Option R
  | 0, _, _, _, _ => none
  | k + 1, x122, x123, x124, x125 => F26_3_step n k0 (F26_3_it n k0 k) x122 x123 x124 x125
noncomputable def F26_3 {R : Type} (n : Nat) (x122 : List ByteArray) (x123 : Int) (x124 : List Obj) (x125 : List Obj) (k0 : List Obj → List Obj → Option R) : Option R := F26_3_it n k0 n x122 x123 x124 x125
noncomputable def F26_3z (n : Nat) : Sm G := inZ G 0 ⟨[0, 1, 5, 6], []⟩ F26_3s fun R x K => F26_3_it n (fun u0 u1 => K (.exit 2) (SSh.enc G F26_3x0 (((), ((), ())), (((), ()), (((), ()), (u0, (u1, ()))))))) n x.1.2.2.1 x.1.2.2.2.1 x.2.2.2.1 x.2.2.2.2.1
theorem F26_3_eq (n : Nat) (R : Type) (rec : SSh.den G F26_3s → Option R) (x : SSh.den G F26_3s) (K : AE → St G → Option R) :
  F26_3_step n (fun u0 u1 => K (.exit 2) (SSh.enc G F26_3x0 (((), ((), ())), (((), ()), (((), ()), (u0, (u1, ()))))))) (fun x122 x123 x124 x125 => rec (((), ((), (x122, (x123, ())))), (((), ()), (((), ()), (x124, (x125, ())))))) x.1.2.2.1 x.1.2.2.2.1 x.2.2.2.1 x.2.2.2.2.1 = exec prog G (ro G (tabOf (E4 n)) (frOf [F26_0z n, F26_1z n, F26_2z n]) R) 0 (codeAt F26c [1, 1, 1, 1, 1, 0, 1, 0, 0]) .no (SSh.enc G F26_3s x) (kLoop G (ro G (tabOf (E4 n)) (frOf [F26_0z n, F26_1z n, F26_2z n]) R) 0 ⟨[0, 1, 5, 6], []⟩ F26_3s ⟨⟨[0, 1], []⟩, ⟨[0], []⟩, [(2, ⟨[0, 1], []⟩)]⟩ rec K) := by kernel_rfl
theorem F26_3_ok (n : Nat) : FragOK prog G 0 (codeAt F26c [1, 1, 1, 1, 1, 0, 1, 0]) (F26_3z n) :=
  frag_loop (Z := fun R k (x : SSh.den G F26_3s) K => F26_3_it n (fun u0 u1 => K (.exit 2) (SSh.enc G F26_3x0 (((), ((), ())), (((), ()), (((), ()), (u0, (u1, ()))))))) k x.1.2.2.1 x.1.2.2.2.1 x.2.2.2.1 x.2.2.2.2.1) laws fnok (E4_ok n).tab (AllF.of (l := []) (by kernel_rfl) AllF.nil) (fun _ _ _ => rfl) (fun R k y K => F26_3_eq n R (fun (x : SSh.den G F26_3s) => F26_3_it n (fun u0 u1 => K (.exit 2) (SSh.enc G F26_3x0 (((), ((), ())), (((), ()), (((), ()), (u0, (u1, ()))))))) k x.1.2.2.1 x.1.2.2.2.1 x.2.2.2.1 x.2.2.2.2.1) y K) n
noncomputable def F26 (n : Nat)  : Option ((Unit × Unit) × (List Obj × Unit)) :=
  (andThen (F44 n) fun r63 =>
  (F26_2 n r63.1 (0 : Int) [] [] (fun z118 z119 =>
  (andThen (F46 n) fun r121 =>
  (F26_3 n r121.1 (0 : Int) z118 z119 (fun z133 z134 =>
  some (((), ()), (z134, ()))))))))
noncomputable def F26e (n : Nat) : Ent G := ⟨26, .nil, [], (.agg (.cons (.own 0) .nil)), [(.arr 4 true)], fun x y => F26 n⟩
theorem F26_eq (n : Nat) (x : ShL.den G .nil) (y : denO G []) : (F26e n).F x y = runFn prog G (ro G (tabOf (E4 n)) (frOf [F26_0z n, F26_1z n, F26_2z n, F26_3z n]) _) Go.Proofs.Try.f26 (.nd .no (.nd .no (.nd .no (.nd (.nd .no (.nd (.use 2) .no)) (.nd .no (.nd (.nd .no (.nd (.use 3) .no)) .no)))))) [(0, (.fld 0 (.own 4)))] (ShL.enc G .nil x) (encO G [] y) (decR (.agg (.cons (.own 0) .nil)) [(.arr 4 true)]) := by kernel_rfl
theorem F26_ok (n : Nat) : EntOK prog G (F26e n) :=
  ent_ok (fr := frOf [F26_0z n, F26_1z n, F26_2z n, F26_3z n]) (ann := (.nd .no (.nd .no (.nd .no (.nd (.nd .no (.nd (.use 2) .no)) (.nd .no (.nd (.nd .no (.nd (.use 3) .no)) .no))))))) (frm := [(0, (.fld 0 (.own 4)))]) laws fnok (E4_ok n).tab (e := F26e n) (fn := Go.Proofs.Try.f26) (by kernel_rfl) (AllF.ofB (cd := F26c) (l := [(2, codeAt F26c [1, 1, 1, 0, 1, 0]), (3, codeAt F26c [1, 1, 1, 1, 1, 0, 1, 0])]) (by kernel_rfl) (by kernel_rfl) (AllF.cons (F26_2_ok n) (AllF.cons (F26_3_ok n) AllF.nil))) (F26_eq n)
noncomputable def E5 (n : Nat) : List (Ent G) := F26e n :: E4 n
theorem E5_ok (n : Nat) : AllE prog G (E5 n) := AllE.cons (F26_ok n) (E4_ok n)
-- 61 (*loop.example/slowworm/spec.rnd).pick
noncomputable def F61c : Code := bodyOf Go.Proofs.Try.f61
noncomputable def F61_0x0 : SSh := ⟨101, [(0, (.ptr 0 0)), (1, (.int .i64)), (5, (.int .i64))], [(.box 88 (.cons (.imm 1) (.cons (.int .i64) .nil)))]⟩
noncomputable def F61_0s : SSh := ⟨101, [(0, (.ptr 0 0)), (1, (.int .i64)), (5, (.int .i64))], [(.box 88 (.cons (.imm 1) (.cons (.int .i64) .nil)))]⟩
noncomputable def F61_0 {R : Type} (n : Nat) (x141 : Int) (x142 : Int) (x143 : List Int) (x144 : Int) (k0 : Int → Int → List Int → Int → Option R) : Option R :=
  (bif (decide (((x143.length) : Int) > (0 : Int))) then
  let v147 := ((x143.length) : Int)
  (bif (!(decide (v147 = (0 : Int)))) then
  let v148 := (x144.tmod v147)
  (bif (decide ((0 : Int) ≤ v148)) then
  (bif (decide (v148 < ((x143.length) : Int))) then
  let v151 := (IntKind.wrap .i64 (x143.getD (v148.toNat) (0 : Int)))
  (bif (decide (x141 > (256 : Int))) then
  let v156 := ((x143.length) : Int)
  (bif (!(decide (v156 = (0 : Int)))) then
  let v157 := ((IntKind.wrap .i64 ((IntKind.wrap .i64 (x144 * (7 : Int))) + (3 : Int))).tmod v156)
  (bif (decide ((0 : Int) ≤ v157)) then
  (bif (decide (v157 < ((x143.length) : Int))) then
  let v165 := ((x143.length) : Int)
  (bif (!(decide (v165 = (0 : Int)))) then
  let v168 := (IntKind.wrap .i64 ((IntKind.wrap .i64 ((IntKind.wrap .i64 ((IntKind.wrap .i64 (v151 * (131 : Int))) + (IntKind.wrap .i64 ((IntKind.wrap .i64 (x143.getD (v157.toNat) (0 : Int))) * (1117 : Int))))) + (IntKind.wrap .i64 (x144 * (29 : Int))))) + (IntKind.wrap .i64 ((IntKind.wrap .i64 (x144.tdiv v165)) * (53 : Int)))))
  (k0 x141 (IntKind.wrap .i64 ((((BitVec.ofInt (64 : Nat) v168) ^^^ (BitVec.ofInt (64 : Nat) (IntKind.wrap .i64 (v168.tdiv (64 : Int))))).toNat) : Int)) x143 x144)
  else none)
  else none)
  else none)
  else none)
  else (bif (decide (x144 ≥ ((x143.length) : Int))) then
  let v176 := ((x143.length) : Int)
  (bif (!(decide (v176 = (0 : Int)))) then
  let v177 := ((IntKind.wrap .i64 ((IntKind.wrap .i64 (x144 * (7 : Int))) + (3 : Int))).tmod v176)
  (bif (decide ((0 : Int) ≤ v177)) then
  (bif (decide (v177 < ((x143.length) : Int))) then
  let v185 := ((x143.length) : Int)
  (bif (!(decide (v185 = (0 : Int)))) then
  let v188 := (IntKind.wrap .i64 ((IntKind.wrap .i64 ((IntKind.wrap .i64 ((IntKind.wrap .i64 (v151 * (131 : Int))) + (IntKind.wrap .i64 ((IntKind.wrap .i64 (x143.getD (v177.toNat) (0 : Int))) * (1117 : Int))))) + (IntKind.wrap .i64 (x144 * (29 : Int))))) + (IntKind.wrap .i64 ((IntKind.wrap .i64 (x144.tdiv v185)) * (53 : Int)))))
  (k0 x141 (IntKind.wrap .i64 ((((BitVec.ofInt (64 : Nat) v188) ^^^ (BitVec.ofInt (64 : Nat) (IntKind.wrap .i64 (v188.tdiv (64 : Int))))).toNat) : Int)) x143 x144)
  else none)
  else none)
  else none)
  else none)
  else (k0 x141 v151 x143 x144)))
  else none)
  else none)
  else none)
  else (k0 x141 x142 x143 x144))
noncomputable def F61_0z (n : Nat) : Sm G := inZ G 1 ⟨[0, 1, 5], []⟩ F61_0s fun R x K => F61_0 n x.1.2.1 x.1.2.2.1 x.2.1.1 x.2.1.2.1 (fun u0 u1 u2 u3 => K .normal (SSh.enc G F61_0x0 (((), (u0, (u1, ()))), ((u2, (u3, ())), ()))))
theorem F61_0_eq (n : Nat) (R : Type) (x : SSh.den G F61_0s) (K : AE → St G → Option R) :
  F61_0 n x.1.2.1 x.1.2.2.1 x.2.1.1 x.2.1.2.1 (fun u0 u1 u2 u3 => K .normal (SSh.enc G F61_0x0 (((), (u0, (u1, ()))), ((u2, (u3, ())), ())))) = exec prog G (ro G (tabOf (E5 n)) (frOf []) R) 1 (codeAt F61c [1, 1, 1, 0]) .no (SSh.enc G F61_0s x) (kNrm G (ro G (tabOf (E5 n)) (frOf []) R) 1 ⟨⟨[0, 1, 5], []⟩, ⟨[4], []⟩, []⟩ K) := by kernel_rfl
theorem F61_0_ok (n : Nat) : FragOK prog G 1 (codeAt F61c [1, 1, 1, 0]) (F61_0z n) :=
  frag_plain laws fnok (E5_ok n).tab (AllF.of (l := []) (by kernel_rfl) AllF.nil) (F61_0_eq n)
noncomputable def F61 (n : Nat) (a137 : Int) (a138 : List Int) (a139 : Int) : Option (Int × ((List Int × (Int × Unit)) × Unit)) :=
  (bif (decide (a137 < (2 : Int))) then
  some ((0 : Int), ((a138, (a139, ())), ()))
  else (F61_0 n a137 (0 : Int) a138 a139 (fun z191 z192 z193 z194 =>
  (bif (!(decide (z191 = (0 : Int)))) then
  some ((z192.tmod z191), ((z193, ((IntKind.wrap .i64 (z194 + (1 : Int))), ())), ()))
  else none))))
noncomputable def F61e (n : Nat) : Ent G := ⟨61, (.cons (.ptr 0 0) (.cons (.int .i64) .nil)), [(.box 88 (.cons (.imm 1) (.cons (.int .i64) .nil)))], (.int .i64), [(.box 88 (.cons (.imm 1) (.cons (.int .i64) .nil)))], fun x y => F61 n x.2.1 y.1.1 y.1.2.1⟩
theorem F61_eq (n : Nat) (x : ShL.den G (.cons (.ptr 0 0) (.cons (.int .i64) .nil))) (y : denO G [(.box 88 (.cons (.imm 1) (.cons (.int .i64) .nil)))]) : (F61e n).F x y = runFn prog G (ro G (tabOf (E5 n)) (frOf [F61_0z n]) _) Go.Proofs.Try.f61 (.nd .no (.nd .no (.nd .no (.nd (.use 0) .no)))) [(0, .fz)] (ShL.enc G (.cons (.ptr 0 0) (.cons (.int .i64) .nil)) x) (encO G [(.box 88 (.cons (.imm 1) (.cons (.int .i64) .nil)))] y) (decR (.int .i64) [(.box 88 (.cons (.imm 1) (.cons (.int .i64) .nil)))]) := by kernel_rfl
theorem F61_ok (n : Nat) : EntOK prog G (F61e n) :=
  ent_ok (fr := frOf [F61_0z n]) (ann := (.nd .no (.nd .no (.nd .no (.nd (.use 0) .no))))) (frm := [(0, .fz)]) laws fnok (E5_ok n).tab (e := F61e n) (fn := Go.Proofs.Try.f61) (by kernel_rfl) (AllF.ofB (cd := F61c) (l := [(0, codeAt F61c [1, 1, 1, 0])]) (by kernel_rfl) (by kernel_rfl) (AllF.cons (F61_0_ok n) AllF.nil)) (F61_eq n)
noncomputable def E6 (n : Nat) : List (Ent G) := F61e n :: E5 n
theorem E6_ok (n : Nat) : AllE prog G (E6 n) := AllE.cons (F61_ok n) (E5_ok n)
-- 62 (*loop.example/slowworm/spec.rnd).one
noncomputable def F62c : Code := bodyOf Go.Proofs.Try.f62
noncomputable def F62 (n : Nat) (a210 : List Int) (a211 : List Int) (a212 : Int) : Option (Int × ((List Int × (Int × Unit)) × Unit)) :=
  (andThen (F61 n ((a210.length) : Int) a211 a212) fun r214 =>
  (bif (decide ((0 : Int) ≤ r214.1)) then
  (bif (decide (r214.1 < ((a210.length) : Int))) then
  some ((a210.getD (r214.1.toNat) (0 : Int)), ((r214.2.1.1, (r214.2.1.2.1, ())), ()))
  else none)
  else none))
noncomputable def F62e (n : Nat) : Ent G := ⟨62, (.cons (.ptr 0 0) (.cons (.imm 0) .nil)), [(.box 88 (.cons (.imm 1) (.cons (.int .i64) .nil)))], (.int .i64), [(.box 88 (.cons (.imm 1) (.cons (.int .i64) .nil)))], fun x y => F62 n x.2.1 y.1.1 y.1.2.1⟩
theorem F62_eq (n : Nat) (x : ShL.den G (.cons (.ptr 0 0) (.cons (.imm 0) .nil))) (y : denO G [(.box 88 (.cons (.imm 1) (.cons (.int .i64) .nil)))]) : (F62e n).F x y = runFn prog G (ro G (tabOf (E6 n)) (frOf []) _) Go.Proofs.Try.f62 .no [(0, .fz)] (ShL.enc G (.cons (.ptr 0 0) (.cons (.imm 0) .nil)) x) (encO G [(.box 88 (.cons (.imm 1) (.cons (.int .i64) .nil)))] y) (decR (.int .i64) [(.box 88 (.cons (.imm 1) (.cons (.int .i64) .nil)))]) := by kernel_rfl
theorem F62_ok (n : Nat) : EntOK prog G (F62e n) :=
  ent_ok (fr := frOf []) (ann := .no) (frm := [(0, .fz)]) laws fnok (E6_ok n).tab (e := F62e n) (fn := Go.Proofs.Try.f62) (by kernel_rfl) (AllF.ofB (cd := F62c) (l := []) (by kernel_rfl) (by kernel_rfl) AllF.nil) (F62_eq n)
noncomputable def E7 (n : Nat) : List (Ent G) := F62e n :: E6 n
theorem E7_ok (n : Nat) : AllE prog G (E7 n) := AllE.cons (F62_ok n) (E6_ok n)
-- 63 (*loop.example/slowworm/spec.rnd).value
noncomputable def F63c : Code := bodyOf Go.Proofs.Try.f63
-- 91 loop.example/slowworm/spec.boolVal
noncomputable def F91c : Code := bodyOf Go.Proofs.Try.f91
noncomputable def F91 (n : Nat) (a294 : Bool) : Option ((Int × (ByteArray × (Int × Unit))) × Unit) :=
  (bif a294 then
  some (((1 : Int), (({ data := #[] } : ByteArray), ((1 : Int), ()))), ())
  else some (((1 : Int), (({ data := #[] } : ByteArray), ((0 : Int), ()))), ()))
noncomputable def F91e (n : Nat) : Ent G := ⟨91, (.cons .bool .nil), [], (.agg (.cons (.int .i64) (.cons .str (.cons (.int .i64) .nil)))), [], fun x y => F91 n x.1⟩
theorem F91_eq (n : Nat) (x : ShL.den G (.cons .bool .nil)) (y : denO G []) : (F91e n).F x y = runFn prog G (ro G (tabOf (E7 n)) (frOf []) _) Go.Proofs.Try.f91 .no [(0, .fz)] (ShL.enc G (.cons .bool .nil) x) (encO G [] y) (decR (.agg (.cons (.int .i64) (.cons .str (.cons (.int .i64) .nil)))) []) := by kernel_rfl
theorem F91_ok (n : Nat) : EntOK prog G (F91e n) :=
  ent_ok (fr := frOf []) (ann := .no) (frm := [(0, .fz)]) laws fnok (E7_ok n).tab (e := F91e n) (fn := Go.Proofs.Try.f91) (by kernel_rfl) (AllF.ofB (cd := F91c) (l := []) (by kernel_rfl) (by kernel_rfl) AllF.nil) (F91_eq n)
noncomputable def E8 (n : Nat) : List (Ent G) := F91e n :: E7 n
theorem E8_ok (n : Nat) : AllE prog G (E8 n) := AllE.cons (F91_ok n) (E7_ok n)
-- 93 loop.example/slowworm/spec.decimal
noncomputable def F93c : Code := bodyOf Go.Proofs.Try.f93
-- 109 loop.example/slowworm/spec.positive
noncomputable def F109c : Code := bodyOf Go.Proofs.Try.f109
noncomputable def F109_0x0 : SSh := ⟨23, [(0, (.int .i64)), (3, .str), (4, (.int .i64))], []⟩
noncomputable def F109_0s : SSh := ⟨23, [(0, (.int .i64)), (3, .str), (4, (.int .i64))], []⟩
noncomputable def F109_0 {R : Type} (n : Nat) (x305 : Int) (x306 : ByteArray) (x307 : Int) (k0 : Int → ByteArray → Int → Option R) : Option R :=
  (bif (decide (x307 < (0 : Int))) then
  (k0 x305 x306 (IntKind.wrap .i64 ((0 : Int) - x307)))
  else (k0 x305 x306 x307))
noncomputable def F109_0z (n : Nat) : Sm G := inZ G 0 ⟨[0, 3, 4], []⟩ F109_0s fun R x K => F109_0 n x.1.1 x.1.2.1 x.1.2.2.1 (fun u0 u1 u2 => K .normal (SSh.enc G F109_0x0 ((u0, (u1, (u2, ()))), ())))
theorem F109_0_eq (n : Nat) (R : Type) (x : SSh.den G F109_0s) (K : AE → St G → Option R) :
  F109_0 n x.1.1 x.1.2.1 x.1.2.2.1 (fun u0 u1 u2 => K .normal (SSh.enc G F109_0x0 ((u0, (u1, (u2, ()))), ()))) = exec prog G (ro G (tabOf (E8 n)) (frOf []) R) 0 (codeAt F109c [1, 1, 0, 0, 0, 1, 0]) .no (SSh.enc G F109_0s x) (kNrm G (ro G (tabOf (E8 n)) (frOf []) R) 0 ⟨⟨[0, 3, 4], []⟩, ⟨[2], []⟩, [(1, ⟨[0, 3], []⟩), (0, ⟨[2], []⟩)]⟩ K) := by kernel_rfl
theorem F109_0_ok (n : Nat) : FragOK prog G 0 (codeAt F109c [1, 1, 0, 0, 0, 1, 0]) (F109_0z n) :=
  frag_plain laws fnok (E8_ok n).tab (AllF.of (l := []) (by kernel_rfl) AllF.nil) (F109_0_eq n)
noncomputable def F109_1x0 : SSh := ⟨23, [(2, .str)], []⟩
noncomputable def F109_1s : SSh := ⟨23, [(0, (.int .i64)), (3, .str)], []⟩
noncomputable def F109_1_step {R : Type} (n : Nat) (k0 : ByteArray → Option R) (rec : Int → ByteArray → Option R) (x302 : Int) (x303 : ByteArray) : Option R :=
  (F109_0 n x302 x303 (x302.tmod (10 : Int)) (fun z310 z311 z312 =>
  let v316 := (bytesOfInts (List.map (fun y317 => y317) ((IntKind.wrap .u8 (IntKind.wrap .i64 ((48 : Int) + z312))) :: [])))
  (bif (decide (((v316.size) + (z311.size)) ≤ (68719476736 : Nat))) then
  let v318 := (v316 ++ z311)
  let v319 := (IntKind.wrap .i64 (z310.tdiv (10 : Int)))
  (bif (v319 == (0 : Int)) then
  (k0 v318)
  else (rec v319 v318))
  else none)))
noncomputable def F109_1_it {R : Type} (n : Nat) (k0 : ByteArray → Option R) : Nat → Int → ByteArray → Option R
  | 0, _, _ => none
  | k + 1, x302, x303 => F109_1_step n k0 (F109_1_it n k0 k) x302 x303
noncomputable def F109_1 {R : Type} (n : Nat) (x302 : Int) (x303 : ByteArray) (k0 : ByteArray → Option R) : Option R := F109_1_it n k0 n x302 x303
noncomputable def F109_1z (n : Nat) : Sm G := inZ G 0 ⟨[0, 3], []⟩ F109_1s fun R x K => F109_1_it n (fun u0 => K .ret (SSh.enc G F109_1x0 ((u0, ()), ()))) n x.1.1 x.1.2.1
theorem F109_1_eq (n : Nat) (R : Type) (rec : SSh.den G F109_1s → Option R) (x : SSh.den G F109_1s) (K : AE → St G → Option R) :
  F109_1_step n (fun u0 => K .ret (SSh.enc G F109_1x0 ((u0, ()), ()))) (fun x302 x303 => rec ((x302, (x303, ())), ())) x.1.1 x.1.2.1 = exec prog G (ro G (tabOf (E8 n)) (frOf [F109_0z n]) R) 0 (codeAt F109c [1, 1, 0, 0]) (.nd (.nd .no (.nd (.use 0) .no)) .no) (SSh.enc G F109_1s x) (kLoop G (ro G (tabOf (E8 n)) (frOf [F109_0z n]) R) 0 ⟨[0, 3], []⟩ F109_1s ⟨⟨[2], []⟩, ⟨[2], []⟩, [(0, ⟨[2], []⟩)]⟩ rec K) := by kernel_rfl
theorem F109_1_ok (n : Nat) : FragOK prog G 0 (codeAt F109c [1, 1, 0]) (F109_1z n) :=
  frag_loop (Z := fun R k (x : SSh.den G F109_1s) K => F109_1_it n (fun u0 => K .ret (SSh.enc G F109_1x0 ((u0, ()), ()))) k x.1.1 x.1.2.1) laws fnok (E8_ok n).tab (AllF.of (l := [(0, codeAt F109c [1, 1, 0, 0, 0, 1, 0])]) (by kernel_rfl) (AllF.cons (F109_0_ok n) AllF.nil)) (fun _ _ _ => rfl) (fun R k y K => F109_1_eq n R (fun (x : SSh.den G F109_1s) => F109_1_it n (fun u0 => K .ret (SSh.enc G F109_1x0 ((u0, ()), ()))) k x.1.1 x.1.2.1) y K) n
noncomputable def F109 (n : Nat) (a301 : Int) : Option (ByteArray × Unit) :=
  (F109_1 n a301 ({ data := #[] } : ByteArray) (fun z321 =>
  some (z321, ())))
noncomputable def F109e (n : Nat) : Ent G := ⟨109, (.cons (.int .i64) .nil), [], .str, [], fun x y => F109 n x.1⟩
theorem F109_eq (n : Nat) (x : ShL.den G (.cons (.int .i64) .nil)) (y : denO G []) : (F109e n).F x y = runFn prog G (ro G (tabOf (E8 n)) (frOf [F109_0z n, F109_1z n]) _) Go.Proofs.Try.f109 (.nd .no (.nd .no (.nd (.use 1) .no))) [(0, .fz)] (ShL.enc G (.cons (.int .i64) .nil) x) (encO G [] y) (decR .str []) := by kernel_rfl
theorem F109_ok (n : Nat) : EntOK prog G (F109e n) :=
  ent_ok (fr := frOf [F109_0z n, F109_1z n]) (ann := (.nd .no (.nd .no (.nd (.use 1) .no)))) (frm := [(0, .fz)]) laws fnok (E8_ok n).tab (e := F109e n) (fn := Go.Proofs.Try.f109) (by kernel_rfl) (AllF.ofB (cd := F109c) (l := [(1, codeAt F109c [1, 1, 0])]) (by kernel_rfl) (by kernel_rfl) (AllF.cons (F109_1_ok n) AllF.nil)) (F109_eq n)
noncomputable def E9 (n : Nat) : List (Ent G) := F109e n :: E8 n
theorem E9_ok (n : Nat) : AllE prog G (E9 n) := AllE.cons (F109_ok n) (E8_ok n)
noncomputable def F93 (n : Nat) (a299 : Int) : Option (ByteArray × Unit) :=
  (bif (decide (a299 < (0 : Int))) then
  (andThen (F109 n a299) fun r322 =>
  (bif (decide (((1 : Nat) + (r322.1.size)) ≤ (68719476736 : Nat))) then
  some ((({ data := #[45] } : ByteArray) ++ r322.1), ())
  else none))
  else (andThen (F109 n a299) fun r324 =>
  some (r324.1, ())))
noncomputable def F93e (n : Nat) : Ent G := ⟨93, (.cons (.int .i64) .nil), [], .str, [], fun x y => F93 n x.1⟩
theorem F93_eq (n : Nat) (x : ShL.den G (.cons (.int .i64) .nil)) (y : denO G []) : (F93e n).F x y = runFn prog G (ro G (tabOf (E9 n)) (frOf []) _) Go.Proofs.Try.f93 .no [(0, .fz)] (ShL.enc G (.cons (.int .i64) .nil) x) (encO G [] y) (decR .str []) := by kernel_rfl
theorem F93_ok (n : Nat) : EntOK prog G (F93e n) :=
  ent_ok (fr := frOf []) (ann := .no) (frm := [(0, .fz)]) laws fnok (E9_ok n).tab (e := F93e n) (fn := Go.Proofs.Try.f93) (by kernel_rfl) (AllF.ofB (cd := F93c) (l := []) (by kernel_rfl) (by kernel_rfl) AllF.nil) (F93_eq n)
noncomputable def E10 (n : Nat) : List (Ent G) := F93e n :: E9 n
theorem E10_ok (n : Nat) : AllE prog G (E10 n) := AllE.cons (F93_ok n) (E9_ok n)
-- 92 loop.example/slowworm/spec.intVal
noncomputable def F92c : Code := bodyOf Go.Proofs.Try.f92
noncomputable def F92 (n : Nat) (a326 : ByteArray) : Option ((Int × (ByteArray × (Int × Unit))) × Unit) :=
  some (((2 : Int), (a326, ((0 : Int), ()))), ())
noncomputable def F92e (n : Nat) : Ent G := ⟨92, (.cons .str .nil), [], (.agg (.cons (.int .i64) (.cons .str (.cons (.int .i64) .nil)))), [], fun x y => F92 n x.1⟩
theorem F92_eq (n : Nat) (x : ShL.den G (.cons .str .nil)) (y : denO G []) : (F92e n).F x y = runFn prog G (ro G (tabOf (E10 n)) (frOf []) _) Go.Proofs.Try.f92 .no [(0, .fz)] (ShL.enc G (.cons .str .nil) x) (encO G [] y) (decR (.agg (.cons (.int .i64) (.cons .str (.cons (.int .i64) .nil)))) []) := by kernel_rfl
theorem F92_ok (n : Nat) : EntOK prog G (F92e n) :=
  ent_ok (fr := frOf []) (ann := .no) (frm := [(0, .fz)]) laws fnok (E10_ok n).tab (e := F92e n) (fn := Go.Proofs.Try.f92) (by kernel_rfl) (AllF.ofB (cd := F92c) (l := []) (by kernel_rfl) (by kernel_rfl) AllF.nil) (F92_eq n)
noncomputable def E11 (n : Nat) : List (Ent G) := F92e n :: E10 n
theorem E11_ok (n : Nat) : AllE prog G (E11 n) := AllE.cons (F92_ok n) (E10_ok n)
-- 65 (*loop.example/slowworm/spec.rnd).of
noncomputable def F65c : Code := bodyOf Go.Proofs.Try.f65
noncomputable def F65 (n : Nat) (a330 : List ByteArray) (a331 : List Int) (a332 : Int) : Option (ByteArray × ((List Int × (Int × Unit)) × Unit)) :=
  (andThen (F61 n ((a330.length) : Int) a331 a332) fun r334 =>
  (bif (decide ((0 : Int) ≤ r334.1)) then
  (bif (decide (r334.1 < ((a330.length) : Int))) then
  some ((a330.getD (r334.1.toNat) ({ data := #[] } : ByteArray)), ((r334.2.1.1, (r334.2.1.2.1, ())), ()))
  else none)
  else none))
noncomputable def F65e (n : Nat) : Ent G := ⟨65, (.cons (.ptr 0 0) (.cons (.imm 2) .nil)), [(.box 88 (.cons (.imm 1) (.cons (.int .i64) .nil)))], .str, [(.box 88 (.cons (.imm 1) (.cons (.int .i64) .nil)))], fun x y => F65 n x.2.1 y.1.1 y.1.2.1⟩
theorem F65_eq (n : Nat) (x : ShL.den G (.cons (.ptr 0 0) (.cons (.imm 2) .nil))) (y : denO G [(.box 88 (.cons (.imm 1) (.cons (.int .i64) .nil)))]) : (F65e n).F x y = runFn prog G (ro G (tabOf (E11 n)) (frOf []) _) Go.Proofs.Try.f65 .no [(0, .fz)] (ShL.enc G (.cons (.ptr 0 0) (.cons (.imm 2) .nil)) x) (encO G [(.box 88 (.cons (.imm 1) (.cons (.int .i64) .nil)))] y) (decR .str [(.box 88 (.cons (.imm 1) (.cons (.int .i64) .nil)))]) := by kernel_rfl
theorem F65_ok (n : Nat) : EntOK prog G (F65e n) :=
  ent_ok (fr := frOf []) (ann := .no) (frm := [(0, .fz)]) laws fnok (E11_ok n).tab (e := F65e n) (fn := Go.Proofs.Try.f65) (by kernel_rfl) (AllF.ofB (cd := F65c) (l := []) (by kernel_rfl) (by kernel_rfl) AllF.nil) (F65_eq n)
noncomputable def E12 (n : Nat) : List (Ent G) := F65e n :: E11 n
theorem E12_ok (n : Nat) : AllE prog G (E12 n) := AllE.cons (F65_ok n) (E11_ok n)
-- 94 loop.example/slowworm/spec.textVal
noncomputable def F94c : Code := bodyOf Go.Proofs.Try.f94
noncomputable def F94 (n : Nat) (a338 : ByteArray) : Option ((Int × (ByteArray × (Int × Unit))) × Unit) :=
  some (((3 : Int), (a338, ((0 : Int), ()))), ())
noncomputable def F94e (n : Nat) : Ent G := ⟨94, (.cons .str .nil), [], (.agg (.cons (.int .i64) (.cons .str (.cons (.int .i64) .nil)))), [], fun x y => F94 n x.1⟩
theorem F94_eq (n : Nat) (x : ShL.den G (.cons .str .nil)) (y : denO G []) : (F94e n).F x y = runFn prog G (ro G (tabOf (E12 n)) (frOf []) _) Go.Proofs.Try.f94 .no [(0, .fz)] (ShL.enc G (.cons .str .nil) x) (encO G [] y) (decR (.agg (.cons (.int .i64) (.cons .str (.cons (.int .i64) .nil)))) []) := by kernel_rfl
theorem F94_ok (n : Nat) : EntOK prog G (F94e n) :=
  ent_ok (fr := frOf []) (ann := .no) (frm := [(0, .fz)]) laws fnok (E12_ok n).tab (e := F94e n) (fn := Go.Proofs.Try.f94) (by kernel_rfl) (AllF.ofB (cd := F94c) (l := []) (by kernel_rfl) (by kernel_rfl) AllF.nil) (F94_eq n)
noncomputable def E13 (n : Nat) : List (Ent G) := F94e n :: E12 n
theorem E13_ok (n : Nat) : AllE prog G (E13 n) := AllE.cons (F94_ok n) (E12_ok n)
-- 68 (*loop.example/slowworm/spec.rnd).often
noncomputable def F68c : Code := bodyOf Go.Proofs.Try.f68
-- 67 (*loop.example/slowworm/spec.rnd).odd
noncomputable def F67c : Code := bodyOf Go.Proofs.Try.f67
noncomputable def F67 (n : Nat) (a349 : List Int) (a350 : Int) : Option (Int × ((List Int × (Int × Unit)) × Unit)) :=
  (andThen (F62 n ((-1 : Int) :: ((4611686018427387904 : Int) :: ((-4611686018427387904 : Int) :: ((1001 : Int) :: ((7 : Int) :: ((1000001 : Int) :: ((-9223372036854775808 : Int) :: ((9223372036854775807 : Int) :: [])))))))) a349 a350) fun r352 =>
  some (r352.1, ((r352.2.1.1, (r352.2.1.2.1, ())), ())))
noncomputable def F67e (n : Nat) : Ent G := ⟨67, (.cons (.ptr 0 0) .nil), [(.box 88 (.cons (.imm 1) (.cons (.int .i64) .nil)))], (.int .i64), [(.box 88 (.cons (.imm 1) (.cons (.int .i64) .nil)))], fun x y => F67 n y.1.1 y.1.2.1⟩
theorem F67_eq (n : Nat) (x : ShL.den G (.cons (.ptr 0 0) .nil)) (y : denO G [(.box 88 (.cons (.imm 1) (.cons (.int .i64) .nil)))]) : (F67e n).F x y = runFn prog G (ro G (tabOf (E13 n)) (frOf []) _) Go.Proofs.Try.f67 .no [(0, .fz)] (ShL.enc G (.cons (.ptr 0 0) .nil) x) (encO G [(.box 88 (.cons (.imm 1) (.cons (.int .i64) .nil)))] y) (decR (.int .i64) [(.box 88 (.cons (.imm 1) (.cons (.int .i64) .nil)))]) := by kernel_rfl
theorem F67_ok (n : Nat) : EntOK prog G (F67e n) :=
  ent_ok (fr := frOf []) (ann := .no) (frm := [(0, .fz)]) laws fnok (E13_ok n).tab (e := F67e n) (fn := Go.Proofs.Try.f67) (by kernel_rfl) (AllF.ofB (cd := F67c) (l := []) (by kernel_rfl) (by kernel_rfl) AllF.nil) (F67_eq n)
noncomputable def E14 (n : Nat) : List (Ent G) := F67e n :: E13 n
theorem E14_ok (n : Nat) : AllE prog G (E14 n) := AllE.cons (F67_ok n) (E13_ok n)
noncomputable def F68 (n : Nat) (a344 : Int) (a345 : List Int) (a346 : Int) : Option (Int × ((List Int × (Int × Unit)) × Unit)) :=
  (andThen (F61 n (16 : Int) a345 a346) fun r347 =>
  (bif (r347.1 == (0 : Int)) then
  (andThen (F67 n r347.2.1.1 r347.2.1.2.1) fun r353 =>
  some (r353.1, ((r353.2.1.1, (r353.2.1.2.1, ())), ())))
  else some (a344, ((r347.2.1.1, (r347.2.1.2.1, ())), ()))))
noncomputable def F68e (n : Nat) : Ent G := ⟨68, (.cons (.ptr 0 0) (.cons (.int .i64) .nil)), [(.box 88 (.cons (.imm 1) (.cons (.int .i64) .nil)))], (.int .i64), [(.box 88 (.cons (.imm 1) (.cons (.int .i64) .nil)))], fun x y => F68 n x.2.1 y.1.1 y.1.2.1⟩
theorem F68_eq (n : Nat) (x : ShL.den G (.cons (.ptr 0 0) (.cons (.int .i64) .nil))) (y : denO G [(.box 88 (.cons (.imm 1) (.cons (.int .i64) .nil)))]) : (F68e n).F x y = runFn prog G (ro G (tabOf (E14 n)) (frOf []) _) Go.Proofs.Try.f68 .no [(0, .fz)] (ShL.enc G (.cons (.ptr 0 0) (.cons (.int .i64) .nil)) x) (encO G [(.box 88 (.cons (.imm 1) (.cons (.int .i64) .nil)))] y) (decR (.int .i64) [(.box 88 (.cons (.imm 1) (.cons (.int .i64) .nil)))]) := by kernel_rfl
theorem F68_ok (n : Nat) : EntOK prog G (F68e n) :=
  ent_ok (fr := frOf []) (ann := .no) (frm := [(0, .fz)]) laws fnok (E14_ok n).tab (e := F68e n) (fn := Go.Proofs.Try.f68) (by kernel_rfl) (AllF.ofB (cd := F68c) (l := []) (by kernel_rfl) (by kernel_rfl) AllF.nil) (F68_eq n)
noncomputable def E15 (n : Nat) : List (Ent G) := F68e n :: E14 n
theorem E15_ok (n : Nat) : AllE prog G (E15 n) := AllE.cons (F68_ok n) (E14_ok n)
noncomputable def F63_0x0 : SSh := ⟨66, [(4, (.ptr 1 0))], [(.box 88 (.cons (.imm 1) (.cons (.int .i64) .nil))), (.box 31 (.cons (.int .i64) (.cons .str (.cons (.int .i64) .nil))))]⟩
noncomputable def F63_0x1 : SSh := ⟨66, [(0, (.ptr 0 0)), (1, (.int .i64)), (4, (.ptr 1 0))], [(.box 88 (.cons (.imm 1) (.cons (.int .i64) .nil))), (.box 31 (.cons (.int .i64) (.cons .str (.cons (.int .i64) .nil))))]⟩
noncomputable def F63_0s : SSh := ⟨66, [(0, (.ptr 0 0)), (1, (.int .i64)), (4, (.ptr 1 0))], [(.box 88 (.cons (.imm 1) (.cons (.int .i64) .nil))), (.box 31 (.cons (.int .i64) (.cons .str (.cons (.int .i64) .nil))))]⟩
noncomputable def F63_0 {R : Type} (n : Nat) (x283 : Int) (x284 : List Int) (x285 : Int) (x286 : Int) (x287 : ByteArray) (x288 : Int) (k0 : List Int → Int → Int → ByteArray → Int → Option R) (k1 : Int → List Int → Int → Int → ByteArray → Int → Option R) : Option R :=
  (andThen (F61 n (7 : Int) x284 x285) fun r289 =>
  (bif (r289.1 == (0 : Int)) then
  (k0 r289.2.1.1 r289.2.1.2.1 (0 : Int) ({ data := #[] } : ByteArray) (0 : Int))
  else (bif (r289.1 == (1 : Int)) then
  (andThen (F61 n (2 : Int) r289.2.1.1 r289.2.1.2.1) fun r292 =>
  (andThen (F91 n (r292.1 == (0 : Int))) fun r295 =>
  (k0 r292.2.1.1 r292.2.1.2.1 r295.1.1 r295.1.2.1 r295.1.2.2.1)))
  else (bif (r289.1 == (2 : Int)) then
  (andThen (F61 n (9 : Int) r289.2.1.1 r289.2.1.2.1) fun r297 =>
  (andThen (F93 n (IntKind.wrap .i64 (r297.1 - (4 : Int)))) fun r325 =>
  (andThen (F92 n r325.1) fun r327 =>
  (k0 r297.2.1.1 r297.2.1.2.1 r327.1.1 r327.1.2.1 r327.1.2.2.1))))
  else (bif (r289.1 == (3 : Int)) then
  (andThen (F65 n (({ data := #[] } : ByteArray) :: (({ data := #[97] } : ByteArray) :: (({ data := #[97, 98] } : ByteArray) :: (({ data := #[98, 39] } : ByteArray) :: [])))) r289.2.1.1 r289.2.1.2.1) fun r337 =>
  (andThen (F94 n r337.1) fun r339 =>
  (k0 r337.2.1.1 r337.2.1.2.1 r339.1.1 r339.1.2.1 r339.1.2.2.1)))
  else (bif (r289.1 == (4 : Int)) then
  (andThen (F61 n (12 : Int) r289.2.1.1 r289.2.1.2.1) fun r341 =>
  (bif (r341.1 == (0 : Int)) then
  (andThen (F61 n (6 : Int) r341.2.1.1 r341.2.1.2.1) fun r343 =>
  (andThen (F68 n r343.1 r343.2.1.1 r343.2.1.2.1) fun r354 =>
  (andThen (F65 n (({ data := #[] } : ByteArray) :: (({ data := #[48, 49] } : ByteArray) :: [])) r354.2.1.1 r354.2.1.2.1) fun r356 =>
  (andThen (F67 n r356.2.1.1 r356.2.1.2.1) fun r357 =>
  (k0 r357.2.1.1 r357.2.1.2.1 r354.1 r356.1 r357.1)))))
  else (k1 x283 r341.2.1.1 r341.2.1.2.1 x286 x287 x288)))
  else (k1 x283 r289.2.1.1 r289.2.1.2.1 x286 x287 x288)))))))
noncomputable def F63_0z (n : Nat) : Sm G := inZ G 1 ⟨[0, 1, 4], []⟩ F63_0s fun R x K => F63_0 n x.1.2.1 x.2.1.1 x.2.1.2.1 x.2.2.1.1 x.2.2.1.2.1 x.2.2.1.2.2.1 (fun u0 u1 u2 u3 u4 => K .ret (SSh.enc G F63_0x0 (((), ()), ((u0, (u1, ())), ((u2, (u3, (u4, ()))), ()))))) (fun u0 u1 u2 u3 u4 u5 => K .normal (SSh.enc G F63_0x1 (((), (u0, ((), ()))), ((u1, (u2, ())), ((u3, (u4, (u5, ()))), ())))))
theorem F63_0_eq (n : Nat) (R : Type) (x : SSh.den G F63_0s) (K : AE → St G → Option R) :
  F63_0 n x.1.2.1 x.2.1.1 x.2.1.2.1 x.2.2.1.1 x.2.2.1.2.1 x.2.2.1.2.2.1 (fun u0 u1 u2 u3 u4 => K .ret (SSh.enc G F63_0x0 (((), ()), ((u0, (u1, ())), ((u2, (u3, (u4, ()))), ()))))) (fun u0 u1 u2 u3 u4 u5 => K .normal (SSh.enc G F63_0x1 (((), (u0, ((), ()))), ((u1, (u2, ())), ((u3, (u4, (u5, ()))), ()))))) = exec prog G (ro G (tabOf (E15 n)) (frOf []) R) 1 (codeAt F63c [1, 0]) .no (SSh.enc G F63_0s x) (kNrm G (ro G (tabOf (E15 n)) (frOf []) R) 1 ⟨⟨[0, 1, 4], []⟩, ⟨[4], []⟩, []⟩ K) := by kernel_rfl
theorem F63_0_ok (n : Nat) : FragOK prog G 1 (codeAt F63c [1, 0]) (F63_0z n) :=
  frag_plain laws fnok (E15_ok n).tab (AllF.of (l := []) (by kernel_rfl) AllF.nil) (F63_0_eq n)
-- 95 (*loop.example/slowworm/spec.rnd).small
noncomputable def F95c : Code := bodyOf Go.Proofs.Try.f95
noncomputable def F95 (n : Nat) (a370 : List Int) (a371 : Int) : Option (ByteArray × ((List Int × (Int × Unit)) × Unit)) :=
  (andThen (F61 n (100 : Int) a370 a371) fun r372 =>
  (andThen (F62 n ((0 : Int) :: ((1 : Int) :: ((2 : Int) :: ((3 : Int) :: ((4 : Int) :: ((5 : Int) :: ((7 : Int) :: ((10 : Int) :: (r372.1 :: []))))))))) r372.2.1.1 r372.2.1.2.1) fun r374 =>
  (andThen (F93 n r374.1) fun r375 =>
  some (r375.1, ((r374.2.1.1, (r374.2.1.2.1, ())), ())))))
noncomputable def F95e (n : Nat) : Ent G := ⟨95, (.cons (.ptr 0 0) .nil), [(.box 88 (.cons (.imm 1) (.cons (.int .i64) .nil)))], .str, [(.box 88 (.cons (.imm 1) (.cons (.int .i64) .nil)))], fun x y => F95 n y.1.1 y.1.2.1⟩
theorem F95_eq (n : Nat) (x : ShL.den G (.cons (.ptr 0 0) .nil)) (y : denO G [(.box 88 (.cons (.imm 1) (.cons (.int .i64) .nil)))]) : (F95e n).F x y = runFn prog G (ro G (tabOf (E15 n)) (frOf []) _) Go.Proofs.Try.f95 .no [(0, .fz)] (ShL.enc G (.cons (.ptr 0 0) .nil) x) (encO G [(.box 88 (.cons (.imm 1) (.cons (.int .i64) .nil)))] y) (decR .str [(.box 88 (.cons (.imm 1) (.cons (.int .i64) .nil)))]) := by kernel_rfl
theorem F95_ok (n : Nat) : EntOK prog G (F95e n) :=
  ent_ok (fr := frOf []) (ann := .no) (frm := [(0, .fz)]) laws fnok (E15_ok n).tab (e := F95e n) (fn := Go.Proofs.Try.f95) (by kernel_rfl) (AllF.ofB (cd := F95c) (l := []) (by kernel_rfl) (by kernel_rfl) AllF.nil) (F95_eq n)
noncomputable def E16 (n : Nat) : List (Ent G) := F95e n :: E15 n
theorem E16_ok (n : Nat) : AllE prog G (E16 n) := AllE.cons (F95_ok n) (E15_ok n)
noncomputable def F63 (n : Nat) (a280 : Int) (a281 : List Int) (a282 : Int) : Option ((Int × (ByteArray × (Int × Unit))) × ((List Int × (Int × Unit)) × Unit)) :=
  (F63_0 n a280 a281 a282 (0 : Int) ({ data := #[] } : ByteArray) (0 : Int) (fun z358 z359 z360 z361 z362 =>
  some ((z360, (z361, (z362, ()))), ((z358, (z359, ())), ()))) (fun z363 z364 z365 z366 z367 z368 =>
  (bif (z363 == (0 : Int)) then
  (andThen (F95 n z364 z365) fun r376 =>
  (andThen (F92 n r376.1) fun r377 =>
  some ((r377.1.1, (r377.1.2.1, (r377.1.2.2.1, ()))), ((r376.2.1.1, (r376.2.1.2.1, ())), ()))))
  else (bif (decide (z363 > (19 : Int))) then
  (andThen (F61 n (3 : Int) z364 z365) fun r379 =>
  (bif (decide (r379.1 > (0 : Int))) then
  (andThen (F61 n (IntKind.wrap .i64 (z363 - (19 : Int))) r379.2.1.1 r379.2.1.2.1) fun r382 =>
  (andThen (F45 n (IntKind.wrap .i64 ((19 : Int) + r382.1))) fun r384 =>
  some ((r384.1.1, (r384.1.2.1, (r384.1.2.2.1, ()))), ((r382.2.1.1, (r382.2.1.2.1, ())), ()))))
  else (andThen (F61 n z363 r379.2.1.1 r379.2.1.2.1) fun r385 =>
  (andThen (F45 n r385.1) fun r386 =>
  some ((r386.1.1, (r386.1.2.1, (r386.1.2.2.1, ()))), ((r385.2.1.1, (r385.2.1.2.1, ())), ()))))))
  else (andThen (F61 n z363 z364 z365) fun r387 =>
  (andThen (F45 n r387.1) fun r388 =>
  some ((r388.1.1, (r388.1.2.1, (r388.1.2.2.1, ()))), ((r387.2.1.1, (r387.2.1.2.1, ())), ()))))))))
noncomputable def F63e (n : Nat) : Ent G := ⟨63, (.cons (.ptr 0 0) (.cons (.int .i64) .nil)), [(.box 88 (.cons (.imm 1) (.cons (.int .i64) .nil)))], (.agg (.cons (.int .i64) (.cons .str (.cons (.int .i64) .nil)))), [(.box 88 (.cons (.imm 1) (.cons (.int .i64) .nil)))], fun x y => F63 n x.2.1 y.1.1 y.1.2.1⟩
theorem F63_eq (n : Nat) (x : ShL.den G (.cons (.ptr 0 0) (.cons (.int .i64) .nil))) (y : denO G [(.box 88 (.cons (.imm 1) (.cons (.int .i64) .nil)))]) : (F63e n).F x y = runFn prog G (ro G (tabOf (E16 n)) (frOf [F63_0z n]) _) Go.Proofs.Try.f63 (.nd .no (.nd (.use 0) .no)) [(0, .fz)] (ShL.enc G (.cons (.ptr 0 0) (.cons (.int .i64) .nil)) x) (encO G [(.box 88 (.cons (.imm 1) (.cons (.int .i64) .nil)))] y) (decR (.agg (.cons (.int .i64) (.cons .str (.cons (.int .i64) .nil)))) [(.box 88 (.cons (.imm 1) (.cons (.int .i64) .nil)))]) := by kernel_rfl
theorem F63_ok (n : Nat) : EntOK prog G (F63e n) :=
  ent_ok (fr := frOf [F63_0z n]) (ann := (.nd .no (.nd (.use 0) .no))) (frm := [(0, .fz)]) laws fnok (E16_ok n).tab (e := F63e n) (fn := Go.Proofs.Try.f63) (by kernel_rfl) (AllF.ofB (cd := F63c) (l := [(0, codeAt F63c [1, 0])]) (by kernel_rfl) (by kernel_rfl) (AllF.cons (F63_0_ok n) AllF.nil)) (F63_eq n)
noncomputable def E17 (n : Nat) : List (Ent G) := F63e n :: E16 n
theorem E17_ok (n : Nat) : AllE prog G (E17 n) := AllE.cons (F63_ok n) (E16_ok n)
-- 64 loop.example/slowworm/spec.keyAt
noncomputable def F64c : Code := bodyOf Go.Proofs.Try.f64
noncomputable def F64_0x0 : SSh := ⟨19, [(4, (.int .i64))], []⟩
noncomputable def F64_0x1 : SSh := ⟨19, [], []⟩
noncomputable def F64_0s : SSh := ⟨19, [(0, (.imm 3)), (3, (.ptr 0 0)), (5, (.int .i64))], [(.box 31 (.cons (.int .i64) (.cons .str (.cons (.int .i64) .nil))))]⟩
noncomputable def F64_0_step {R : Type} (n : Nat) (k0 : Int → Option R) (k1 : Option R) (rec : List Val → Int → Int → ByteArray → Int → Option R) (x396 : List Val) (x397 : Int) (x398 : Int) (x399 : ByteArray) (x400 : Int) : Option R :=
  (bif (decide (x397 < ((x396.length) : Int))) then
  (bif (decide ((0 : Int) ≤ x397)) then
  (bif (decide (x397 < ((x396.length) : Int))) then
  let v403 := (x396.getD (x397.toNat) (Val.mk (0 : Int) ({ data := #[] } : ByteArray) (0 : Int)))
  (bif ((v403.kind == x398) && ((v403.text == x399) && (v403.ref == x400))) then
  (k0 x397)
  else (rec x396 (IntKind.wrap .i64 (x397 + (1 : Int))) x398 x399 x400))
  else none)
  else none)
  else k1)
noncomputable def F64_0_it {R : Type} (n : Nat) (k0 : Int → Option R) (k1 : Option R) : Nat → List Val → Int → Int → ByteArray → Int → Option R
  | 0, _, _, _, _, _ => none
  | k + 1, x396, x397, x398, x399, x400 => F64_0_step n k0 k1 (F64_0_it n k0 k1 k) x396 x397 x398 x399 x400
noncomputable def F64_0 {R : Type} (n : Nat) (x396 : List Val) (x397 : Int) (x398 : Int) (x399 : ByteArray) (x400 : Int) (k0 : Int → Option R) (k1 : Option R) : Option R := F64_0_it n k0 k1 n x396 x397 x398 x399 x400
noncomputable def F64_0z (n : Nat) : Sm G := inZ G 0 ⟨[0, 3, 5], []⟩ F64_0s fun R x K => F64_0_it n (fun u0 => K .ret (SSh.enc G F64_0x0 ((u0, ()), ()))) (K (.exit 0) (SSh.enc G F64_0x1 ((), ()))) n x.1.1 x.1.2.2.1 x.2.1.1 x.2.1.2.1 x.2.1.2.2.1
theorem F64_0_eq (n : Nat) (R : Type) (rec : SSh.den G F64_0s → Option R) (x : SSh.den G F64_0s) (K : AE → St G → Option R) :
  F64_0_step n (fun u0 => K .ret (SSh.enc G F64_0x0 ((u0, ()), ()))) (K (.exit 0) (SSh.enc G F64_0x1 ((), ()))) (fun x396 x397 x398 x399 x400 => rec ((x396, ((), (x397, ()))), ((x398, (x399, (x400, ()))), ()))) x.1.1 x.1.2.2.1 x.2.1.1 x.2.1.2.1 x.2.1.2.2.1 = exec prog G (ro G (tabOf (E17 n)) (frOf []) R) 0 (codeAt F64c [1, 0, 1, 0, 0]) .no (SSh.enc G F64_0s x) (kLoop G (ro G (tabOf (E17 n)) (frOf []) R) 0 ⟨[0, 3, 5], []⟩ F64_0s ⟨⟨[], []⟩, ⟨[4], []⟩, [(0, ⟨[], []⟩)]⟩ rec K) := by kernel_rfl
theorem F64_0_ok (n : Nat) : FragOK prog G 0 (codeAt F64c [1, 0, 1, 0]) (F64_0z n) :=
  frag_loop (Z := fun R k (x : SSh.den G F64_0s) K => F64_0_it n (fun u0 => K .ret (SSh.enc G F64_0x0 ((u0, ()), ()))) (K (.exit 0) (SSh.enc G F64_0x1 ((), ()))) k x.1.1 x.1.2.2.1 x.2.1.1 x.2.1.2.1 x.2.1.2.2.1) laws fnok (E17_ok n).tab (AllF.of (l := []) (by kernel_rfl) AllF.nil) (fun _ _ _ => rfl) (fun R k y K => F64_0_eq n R (fun (x : SSh.den G F64_0s) => F64_0_it n (fun u0 => K .ret (SSh.enc G F64_0x0 ((u0, ()), ()))) (K (.exit 0) (SSh.enc G F64_0x1 ((), ()))) k x.1.1 x.1.2.2.1 x.2.1.1 x.2.1.2.1 x.2.1.2.2.1) y K) n
noncomputable def F64 (n : Nat) (a392 : List Val) (a393 : Int) (a394 : ByteArray) (a395 : Int) : Option (Int × Unit) :=
  (F64_0 n a392 (0 : Int) a393 a394 a395 (fun z409 =>
  some (z409, ())) (
  some ((-1 : Int), ())))
noncomputable def F64e (n : Nat) : Ent G := ⟨64, (.cons (.imm 3) (.cons (.agg (.cons (.int .i64) (.cons .str (.cons (.int .i64) .nil)))) .nil)), [], (.int .i64), [], fun x y => F64 n x.1 x.2.1.1 x.2.1.2.1 x.2.1.2.2.1⟩
theorem F64_eq (n : Nat) (x : ShL.den G (.cons (.imm 3) (.cons (.agg (.cons (.int .i64) (.cons .str (.cons (.int .i64) .nil)))) .nil))) (y : denO G []) : (F64e n).F x y = runFn prog G (ro G (tabOf (E17 n)) (frOf [F64_0z n]) _) Go.Proofs.Try.f64 (.nd .no (.nd (.nd .no (.nd (.use 0) .no)) .no)) [(0, .fz)] (ShL.enc G (.cons (.imm 3) (.cons (.agg (.cons (.int .i64) (.cons .str (.cons (.int .i64) .nil)))) .nil)) x) (encO G [] y) (decR (.int .i64) []) := by kernel_rfl
theorem F64_ok (n : Nat) : EntOK prog G (F64e n) :=
  ent_ok (fr := frOf [F64_0z n]) (ann := (.nd .no (.nd (.nd .no (.nd (.use 0) .no)) .no))) (frm := [(0, .fz)]) laws fnok (E17_ok n).tab (e := F64e n) (fn := Go.Proofs.Try.f64) (by kernel_rfl) (AllF.ofB (cd := F64c) (l := [(0, codeAt F64c [1, 0, 1, 0])]) (by kernel_rfl) (by kernel_rfl) (AllF.cons (F64_0_ok n) AllF.nil)) (F64_eq n)
noncomputable def E18 (n : Nat) : List (Ent G) := F64e n :: E17 n
theorem E18_ok (n : Nat) : AllE prog G (E18 n) := AllE.cons (F64_ok n) (E17_ok n)
-- 66 loop.example/slowworm/spec.isOne
noncomputable def F66c : Code := bodyOf Go.Proofs.Try.f66
noncomputable def F66_0x0 : SSh := ⟨18, [(4, .bool)], []⟩
noncomputable def F66_0x1 : SSh := ⟨18, [], []⟩
noncomputable def F66_0s : SSh := ⟨18, [(0, (.imm 2)), (1, .str), (5, (.int .i64))], []⟩
noncomputable def F66_0_step {R : Type} (n : Nat) (k0 : Bool → Option R) (k1 : Option R) (rec : List ByteArray → ByteArray → Int → Option R) (x421 : List ByteArray) (x422 : ByteArray) (x423 : Int) : Option R :=
  (bif (decide (x423 < ((x421.length) : Int))) then
  (bif (decide ((0 : Int) ≤ x423)) then
  (bif (decide (x423 < ((x421.length) : Int))) then
  (bif (((x421.getD (x423.toNat) ({ data := #[] } : ByteArray)).toList) == (x422.toList)) then
  (k0 true)
  else (rec x421 x422 (IntKind.wrap .i64 (x423 + (1 : Int)))))
  else none)
  else none)
  else k1)
noncomputable def F66_0_it {R : Type} (n : Nat) (k0 : Bool → Option R) (k1 : Option R) : Nat → List ByteArray → ByteArray → Int → Option R
  | 0, _, _, _ => none
  | k + 1, x421, x422, x423 => F66_0_step n k0 k1 (F66_0_it n k0 k1 k) x421 x422 x423
noncomputable def F66_0 {R : Type} (n : Nat) (x421 : List ByteArray) (x422 : ByteArray) (x423 : Int) (k0 : Bool → Option R) (k1 : Option R) : Option R := F66_0_it n k0 k1 n x421 x422 x423
noncomputable def F66_0z (n : Nat) : Sm G := inZ G 0 ⟨[0, 1, 5], []⟩ F66_0s fun R x K => F66_0_it n (fun u0 => K .ret (SSh.enc G F66_0x0 ((u0, ()), ()))) (K (.exit 0) (SSh.enc G F66_0x1 ((), ()))) n x.1.1 x.1.2.1 x.1.2.2.1
theorem F66_0_eq (n : Nat) (R : Type) (rec : SSh.den G F66_0s → Option R) (x : SSh.den G F66_0s) (K : AE → St G → Option R) :
  F66_0_step n (fun u0 => K .ret (SSh.enc G F66_0x0 ((u0, ()), ()))) (K (.exit 0) (SSh.enc G F66_0x1 ((), ()))) (fun x421 x422 x423 => rec ((x421, (x422, (x423, ()))), ())) x.1.1 x.1.2.1 x.1.2.2.1 = exec prog G (ro G (tabOf (E18 n)) (frOf []) R) 0 (codeAt F66c [1, 0, 1, 0, 0]) .no (SSh.enc G F66_0s x) (kLoop G (ro G (tabOf (E18 n)) (frOf []) R) 0 ⟨[0, 1, 5], []⟩ F66_0s ⟨⟨[], []⟩, ⟨[4], []⟩, [(0, ⟨[], []⟩)]⟩ rec K) := by kernel_rfl
theorem F66_0_ok (n : Nat) : FragOK prog G 0 (codeAt F66c [1, 0, 1, 0]) (F66_0z n) :=
  frag_loop (Z := fun R k (x : SSh.den G F66_0s) K => F66_0_it n (fun u0 => K .ret (SSh.enc G F66_0x0 ((u0, ()), ()))) (K (.exit 0) (SSh.enc G F66_0x1 ((), ()))) k x.1.1 x.1.2.1 x.1.2.2.1) laws fnok (E18_ok n).tab (AllF.of (l := []) (by kernel_rfl) AllF.nil) (fun _ _ _ => rfl) (fun R k y K => F66_0_eq n R (fun (x : SSh.den G F66_0s) => F66_0_it n (fun u0 => K .ret (SSh.enc G F66_0x0 ((u0, ()), ()))) (K (.exit 0) (SSh.enc G F66_0x1 ((), ()))) k x.1.1 x.1.2.1 x.1.2.2.1) y K) n
noncomputable def F66 (n : Nat) (a419 : List ByteArray) (a420 : ByteArray) : Option (Bool × Unit) :=
  (F66_0 n a419 a420 (0 : Int) (fun z430 =>
  some (z430, ())) (
  some (false, ())))
noncomputable def F66e (n : Nat) : Ent G := ⟨66, (.cons (.imm 2) (.cons .str .nil)), [], .bool, [], fun x y => F66 n x.1 x.2.1⟩
theorem F66_eq (n : Nat) (x : ShL.den G (.cons (.imm 2) (.cons .str .nil))) (y : denO G []) : (F66e n).F x y = runFn prog G (ro G (tabOf (E18 n)) (frOf [F66_0z n]) _) Go.Proofs.Try.f66 (.nd .no (.nd (.nd .no (.nd (.use 0) .no)) .no)) [(0, .fz)] (ShL.enc G (.cons (.imm 2) (.cons .str .nil)) x) (encO G [] y) (decR .bool []) := by kernel_rfl
theorem F66_ok (n : Nat) : EntOK prog G (F66e n) :=
  ent_ok (fr := frOf [F66_0z n]) (ann := (.nd .no (.nd (.nd .no (.nd (.use 0) .no)) .no))) (frm := [(0, .fz)]) laws fnok (E18_ok n).tab (e := F66e n) (fn := Go.Proofs.Try.f66) (by kernel_rfl) (AllF.ofB (cd := F66c) (l := [(0, codeAt F66c [1, 0, 1, 0])]) (by kernel_rfl) (by kernel_rfl) (AllF.cons (F66_0_ok n) AllF.nil)) (F66_eq n)
noncomputable def E19 (n : Nat) : List (Ent G) := F66e n :: E18 n
theorem E19_ok (n : Nat) : AllE prog G (E19 n) := AllE.cons (F66_ok n) (E18_ok n)
-- 38 (*loop.example/slowworm/spec.rnd).heap
noncomputable def F38c : Code := bodyOf Go.Proofs.Try.f38
noncomputable def F38_0x0 : SSh := ⟨169, [(0, (.ptr 0 0)), (2, (.ptr 1 0)), (3, (.ptr 2 0)), (4, (.ptr 3 0)), (5, (.int .i64))], [(.box 88 (.cons (.imm 1) (.cons (.int .i64) .nil))), (.box 25 (.cons (.own 4) .nil)), (.box 31 (.cons (.int .i64) (.cons .str (.cons (.int .i64) .nil)))), (.box 25 (.cons (.own 5) .nil)), (.arr 4 true), (.arr 4 true)]⟩
noncomputable def F38_0s : SSh := ⟨169, [(0, (.ptr 0 0)), (2, (.ptr 1 0)), (3, (.ptr 2 0)), (4, (.ptr 3 0)), (5, (.int .i64)), (6, (.int .i64)), (7, (.int .i64))], [(.box 88 (.cons (.imm 1) (.cons (.int .i64) .nil))), (.box 25 (.cons (.own 4) .nil)), (.box 31 (.cons (.int .i64) (.cons .str (.cons (.int .i64) .nil)))), (.box 25 (.cons (.own 5) .nil)), (.arr 4 true), (.arr 4 true)]⟩
noncomputable def F38_0_step {R : Type} (n : Nat) (k0 : Int → List Int → Int → Int → ByteArray → Int → List Obj → List Obj → Option R) (rec : Int → Int → Int → List Int → Int → Int → ByteArray → Int → List Obj → List Obj → Option R) (x873 : Int) (x874 : Int) (x875 : Int) (x876 : List Int) (x877 : Int) (x878 : Int) (x879 : ByteArray) (x880 : Int) (x881 : List Obj) (x882 : List Obj) : Option R :=
  (bif (decide (x875 < x874)) then
  (andThen (F62 n ((1 : Int) :: ((1 : Int) :: ((2 : Int) :: ((6 : Int) :: ((4 : Int) :: ((7 : Int) :: ((8 : Int) :: []))))))) x876 x877) fun r885 =>
  let v886 := ((Obj.mk r885.1 ({ data := #[] } : ByteArray) (0 : Int) [] [] [] []) :: [])
  (bif (decide (((x882.length) + (v886.length)) ≤ (68719476736 : Nat))) then
  (rec x873 x874 (IntKind.wrap .i64 (x875 + (1 : Int))) r885.2.1.1 r885.2.1.2.1 x878 x879 x880 x881 (x882 ++ v886))
  else none))
  else (k0 x873 x876 x877 x878 x879 x880 x881 x882))
noncomputable def F38_0_it {R : Type} (n : Nat) (k0 : Int → List Int → Int → Int → ByteArray → Int → List Obj → List Obj → Option R) : Nat → Int → Int → Int → List Int → Int → Int → ByteArray → Int → List Obj → List Obj → Option R
  | 0, _, _, _, _, _, _, _, _, _, _ => none
  | k + 1, x873, x874, x875, x876, x877, x878, x879, x880, x881, x882 => F38_0_step n k0 (F38_0_it n k0 k) x873 x874 x875 x876 x877 x878 x879 x880 x881 x882
noncomputable def F38_0 {R : Type} (n : Nat) (x873 : Int) (x874 : Int) (x875 : Int) (x876 : List Int) (x877 : Int) (x878 : Int) (x879 : ByteArray) (x880 : Int) (x881 : List Obj) (x882 : List Obj) (k0 : Int → List Int → Int → Int → ByteArray → Int → List Obj → List Obj → Option R) : Option R := F38_0_it n k0 n x873 x874 x875 x876 x877 x878 x879 x880 x881 x882
noncomputable def F38_0z (n : Nat) : Sm G := inZ G 1 ⟨[0, 2, 3, 4, 5, 6, 7], []⟩ F38_0s fun R x K => F38_0_it n (fun u0 u1 u2 u3 u4 u5 u6 u7 => K (.exit 0) (SSh.enc G F38_0x0 (((), ((), ((), ((), (u0, ()))))), ((u1, (u2, ())), (((), ()), ((u3, (u4, (u5, ()))), (((), ()), (u6, (u7, ()))))))))) n x.1.2.2.2.2.1 x.1.2.2.2.2.2.1 x.1.2.2.2.2.2.2.1 x.2.1.1 x.2.1.2.1 x.2.2.2.1.1 x.2.2.2.1.2.1 x.2.2.2.1.2.2.1 x.2.2.2.2.2.1 x.2.2.2.2.2.2.1
theorem F38_0_eq (n : Nat) (R : Type) (rec : SSh.den G F38_0s → Option R) (x : SSh.den G F38_0s) (K : AE → St G → Option R) :
  F38_0_step n (fun u0 u1 u2 u3 u4 u5 u6 u7 => K (.exit 0) (SSh.enc G F38_0x0 (((), ((), ((), ((), (u0, ()))))), ((u1, (u2, ())), (((), ()), ((u3, (u4, (u5, ()))), (((), ()), (u6, (u7, ()))))))))) (fun x873 x874 x875 x876 x877 x878 x879 x880 x881 x882 => rec (((), ((), ((), ((), (x873, (x874, (x875, ()))))))), ((x876, (x877, ())), (((), ()), ((x878, (x879, (x880, ()))), (((), ()), (x881, (x882, ())))))))) x.1.2.2.2.2.1 x.1.2.2.2.2.2.1 x.1.2.2.2.2.2.2.1 x.2.1.1 x.2.1.2.1 x.2.2.2.1.1 x.2.2.2.1.2.1 x.2.2.2.1.2.2.1 x.2.2.2.2.2.1 x.2.2.2.2.2.2.1 = exec prog G (ro G (tabOf (E19 n)) (frOf []) R) 1 (codeAt F38c [1, 1, 1, 1, 0, 1, 0, 0]) .no (SSh.enc G F38_0s x) (kLoop G (ro G (tabOf (E19 n)) (frOf []) R) 1 ⟨[0, 2, 3, 4, 5, 6, 7], []⟩ F38_0s ⟨⟨[0, 2, 3, 4, 5], []⟩, ⟨[2, 3], []⟩, [(0, ⟨[0, 2, 3, 4, 5], []⟩)]⟩ rec K) := by kernel_rfl
theorem F38_0_ok (n : Nat) : FragOK prog G 1 (codeAt F38c [1, 1, 1, 1, 0, 1, 0]) (F38_0z n) :=
  frag_loop (Z := fun R k (x : SSh.den G F38_0s) K => F38_0_it n (fun u0 u1 u2 u3 u4 u5 u6 u7 => K (.exit 0) (SSh.enc G F38_0x0 (((), ((), ((), ((), (u0, ()))))), ((u1, (u2, ())), (((), ()), ((u3, (u4, (u5, ()))), (((), ()), (u6, (u7, ()))))))))) k x.1.2.2.2.2.1 x.1.2.2.2.2.2.1 x.1.2.2.2.2.2.2.1 x.2.1.1 x.2.1.2.1 x.2.2.2.1.1 x.2.2.2.1.2.1 x.2.2.2.1.2.2.1 x.2.2.2.2.2.1 x.2.2.2.2.2.2.1) laws fnok (E19_ok n).tab (AllF.of (l := []) (by kernel_rfl) AllF.nil) (fun _ _ _ => rfl) (fun R k y K => F38_0_eq n R (fun (x : SSh.den G F38_0s) => F38_0_it n (fun u0 u1 u2 u3 u4 u5 u6 u7 => K (.exit 0) (SSh.enc G F38_0x0 (((), ((), ((), ((), (u0, ()))))), ((u1, (u2, ())), (((), ()), ((u3, (u4, (u5, ()))), (((), ()), (u6, (u7, ()))))))))) k x.1.2.2.2.2.1 x.1.2.2.2.2.2.1 x.1.2.2.2.2.2.2.1 x.2.1.1 x.2.1.2.1 x.2.2.2.1.1 x.2.2.2.1.2.1 x.2.2.2.1.2.2.1 x.2.2.2.2.2.1 x.2.2.2.2.2.2.1) y K) n
noncomputable def F38_1x0 : SSh := ⟨169, [(0, (.ptr 0 0)), (2, (.ptr 1 0)), (3, (.ptr 2 0)), (4, (.ptr 3 0)), (8, (.int .i64)), (9, (.ptr 4 0)), (10, (.int .i64)), (11, (.int .i64))], [(.box 88 (.cons (.imm 1) (.cons (.int .i64) .nil))), (.box 25 (.cons (.own 5) .nil)), (.box 31 (.cons (.int .i64) (.cons .str (.cons (.int .i64) .nil)))), (.box 25 (.cons (.own 6) .nil)), (.box 51 (.cons (.int .i64) (.cons .str (.cons (.int .i64) (.cons (.own 7) (.cons (.own 8) (.cons (.own 9) (.cons (.own 10) .nil)))))))), (.arr 4 true), (.arr 4 true), (.arr 3 true), (.arr 3 true), (.arr 2 true), (.arr 3 true)]⟩
noncomputable def F38_1s : SSh := ⟨169, [(0, (.ptr 0 0)), (2, (.ptr 1 0)), (3, (.ptr 2 0)), (4, (.ptr 3 0)), (8, (.int .i64)), (9, (.ptr 4 0)), (10, (.int .i64)), (11, (.int .i64))], [(.box 88 (.cons (.imm 1) (.cons (.int .i64) .nil))), (.box 25 (.cons (.own 5) .nil)), (.box 31 (.cons (.int .i64) (.cons .str (.cons (.int .i64) .nil)))), (.box 25 (.cons (.own 6) .nil)), (.box 51 (.cons (.int .i64) (.cons .str (.cons (.int .i64) (.cons (.own 7) (.cons (.own 8) (.cons (.own 9) (.cons (.own 10) .nil)))))))), (.arr 4 true), (.arr 4 true), (.arr 3 true), (.arr 3 true), (.arr 2 true), (.arr 3 true)]⟩
noncomputable def F38_1 {R : Type} (n : Nat) (x938 : Int) (x939 : Int) (x940 : Int) (x941 : List Int) (x942 : Int) (x943 : Int) (x944 : ByteArray) (x945 : Int) (x946 : Int) (x947 : ByteArray) (x948 : Int) (x949 : List Obj) (x950 : List Obj) (x951 : List Val) (x952 : List Val) (x953 : List ByteArray) (x954 : List Val) (k0 : Int → Int → Int → List Int → Int → Int → ByteArray → Int → Int → ByteArray → Int → List Obj → List Obj → List Val → List Val → List ByteArray → List Val → Option R) : Option R :=
  (andThen (F63 n ((x950.length) : Int) x941 x942) fun r956 =>
  (bif (x946 == (2 : Int)) then
  (andThen (F63 n (0 : Int) r956.2.1.1 r956.2.1.2.1) fun r958 =>
  (andThen (F64 n x952 r958.1.1 r958.1.2.1 r958.1.2.2.1) fun r959 =>
  (bif (decide (r959.1 < (0 : Int))) then
  let v961 := ((Val.mk r958.1.1 r958.1.2.1 r958.1.2.2.1) :: [])
  (bif (decide (((x952.length) + (v961.length)) ≤ (68719476736 : Nat))) then
  let v963 := ((Val.mk r956.1.1 r956.1.2.1 r956.1.2.2.1) :: [])
  (bif (decide (((x951.length) + (v963.length)) ≤ (68719476736 : Nat))) then
  (k0 x938 x939 x940 r958.2.1.1 r958.2.1.2.1 x943 x944 x945 x946 x947 x948 x949 x950 (x951 ++ v963) (x952 ++ v961) x953 x954)
  else none)
  else none)
  else (k0 x938 x939 x940 r958.2.1.1 r958.2.1.2.1 x943 x944 x945 x946 x947 x948 x949 x950 x951 x952 x953 x954))))
  else (bif (x946 == (6 : Int)) then
  (andThen (F65 n (({ data := #[97] } : ByteArray) :: (({ data := #[98] } : ByteArray) :: (({ data := #[99] } : ByteArray) :: (({ data := #[116, 101, 120, 116] } : ByteArray) :: [])))) r956.2.1.1 r956.2.1.2.1) fun r967 =>
  (andThen (F66 n x953 r967.1) fun r968 =>
  (bif (!r968.1) then
  let v970 := (r967.1 :: [])
  (bif (decide (((x953.length) + (v970.length)) ≤ (68719476736 : Nat))) then
  let v972 := ((Val.mk r956.1.1 r956.1.2.1 r956.1.2.2.1) :: [])
  (bif (decide (((x954.length) + (v972.length)) ≤ (68719476736 : Nat))) then
  (k0 x938 x939 x940 r967.2.1.1 r967.2.1.2.1 x943 x944 x945 x946 x947 x948 x949 x950 x951 x952 (x953 ++ v970) (x954 ++ v972))
  else none)
  else none)
  else (k0 x938 x939 x940 r967.2.1.1 r967.2.1.2.1 x943 x944 x945 x946 x947 x948 x949 x950 x951 x952 x953 x954))))
  else (bif (x946 == (4 : Int)) then
  (k0 x938 x939 x940 r956.2.1.1 r956.2.1.2.1 x943 x944 x945 x946 x947 x948 x949 x950 ((Val.mk r956.1.1 r956.1.2.1 r956.1.2.2.1) :: []) x952 x953 x954)
  else (bif (x946 == (7 : Int)) then
  (k0 x938 x939 x940 r956.2.1.1 r956.2.1.2.1 x943 x944 x945 x946 x947 x948 x949 x950 ((Val.mk r956.1.1 r956.1.2.1 r956.1.2.2.1) :: ((Val.mk r956.1.1 r956.1.2.1 r956.1.2.2.1) :: [])) x952 x953 x954)
  else let v978 := ((Val.mk r956.1.1 r956.1.2.1 r956.1.2.2.1) :: [])
  (bif (decide (((x951.length) + (v978.length)) ≤ (68719476736 : Nat))) then
  (k0 x938 x939 x940 r956.2.1.1 r956.2.1.2.1 x943 x944 x945 x946 x947 x948 x949 x950 (x951 ++ v978) x952 x953 x954)
  else none))))))
noncomputable def F38_1z (n : Nat) : Sm G := inZ G 1 ⟨[0, 2, 3, 4, 8, 9, 10, 11], []⟩ F38_1s fun R x K => F38_1 n x.1.2.2.2.2.1 x.1.2.2.2.2.2.2.1 x.1.2.2.2.2.2.2.2.1 x.2.1.1 x.2.1.2.1 x.2.2.2.1.1 x.2.2.2.1.2.1 x.2.2.2.1.2.2.1 x.2.2.2.2.2.1.1 x.2.2.2.2.2.1.2.1 x.2.2.2.2.2.1.2.2.1 x.2.2.2.2.2.2.1 x.2.2.2.2.2.2.2.1 x.2.2.2.2.2.2.2.2.1 x.2.2.2.2.2.2.2.2.2.1 x.2.2.2.2.2.2.2.2.2.2.1 x.2.2.2.2.2.2.2.2.2.2.2.1 (fun u0 u1 u2 u3 u4 u5 u6 u7 u8 u9 u10 u11 u12 u13 u14 u15 u16 => K .normal (SSh.enc G F38_1x0 (((), ((), ((), ((), (u0, ((), (u1, (u2, ())))))))), ((u3, (u4, ())), (((), ()), ((u5, (u6, (u7, ()))), (((), ()), ((u8, (u9, (u10, ((), ((), ((), ((), ()))))))), (u11, (u12, (u13, (u14, (u15, (u16, ()))))))))))))))
theorem F38_1_eq (n : Nat) (R : Type) (x : SSh.den G F38_1s) (K : AE → St G → Option R) :
  F38_1 n x.1.2.2.2.2.1 x.1.2.2.2.2.2.2.1 x.1.2.2.2.2.2.2.2.1 x.2.1.1 x.2.1.2.1 x.2.2.2.1.1 x.2.2.2.1.2.1 x.2.2.2.1.2.2.1 x.2.2.2.2.2.1.1 x.2.2.2.2.2.1.2.1 x.2.2.2.2.2.1.2.2.1 x.2.2.2.2.2.2.1 x.2.2.2.2.2.2.2.1 x.2.2.2.2.2.2.2.2.1 x.2.2.2.2.2.2.2.2.2.1 x.2.2.2.2.2.2.2.2.2.2.1 x.2.2.2.2.2.2.2.2.2.2.2.1 (fun u0 u1 u2 u3 u4 u5 u6 u7 u8 u9 u10 u11 u12 u13 u14 u15 u16 => K .normal (SSh.enc G F38_1x0 (((), ((), ((), ((), (u0, ((), (u1, (u2, ())))))))), ((u3, (u4, ())), (((), ()), ((u5, (u6, (u7, ()))), (((), ()), ((u8, (u9, (u10, ((), ((), ((), ((), ()))))))), (u11, (u12, (u13, (u14, (u15, (u16, ())))))))))))))) = exec prog G (ro G (tabOf (E19 n)) (frOf [F38_0z n]) R) 1 (codeAt F38c [1, 1, 1, 1, 1, 0, 1, 0, 0, 1, 0, 0, 1, 1, 0, 1, 0, 0, 1, 0]) .no (SSh.enc G F38_1s x) (kNrm G (ro G (tabOf (E19 n)) (frOf [F38_0z n]) R) 1 ⟨⟨[0, 2, 3, 4, 8, 9, 10, 11], []⟩, ⟨[2, 3], []⟩, [(4, ⟨[0, 2, 3, 4, 8, 9], []⟩), (3, ⟨[0, 2, 3, 4, 8], []⟩), (2, ⟨[0, 2, 3, 4], []⟩)]⟩ K) := by kernel_rfl
theorem F38_1_ok (n : Nat) : FragOK prog G 1 (codeAt F38c [1, 1, 1, 1, 1, 0, 1, 0, 0, 1, 0, 0, 1, 1, 0, 1, 0, 0, 1, 0]) (F38_1z n) :=
  frag_plain laws fnok (E19_ok n).tab (AllF.of (l := []) (by kernel_rfl) AllF.nil) (F38_1_eq n)
noncomputable def F38_2x0 : SSh := ⟨169, [(0, (.ptr 0 0)), (2, (.ptr 1 0)), (3, (.ptr 2 0)), (4, (.ptr 3 0)), (8, (.int .i64)), (9, (.ptr 4 0))], [(.box 88 (.cons (.imm 1) (.cons (.int .i64) .nil))), (.box 25 (.cons (.own 5) .nil)), (.box 31 (.cons (.int .i64) (.cons .str (.cons (.int .i64) .nil)))), (.box 25 (.cons (.own 6) .nil)), (.box 51 (.cons (.int .i64) (.cons .str (.cons (.int .i64) (.cons (.own 7) (.cons (.own 8) (.cons (.own 9) (.cons (.own 10) .nil)))))))), (.arr 4 true), (.arr 4 true), (.arr 3 true), (.arr 3 true), (.arr 2 true), (.arr 3 true)]⟩
noncomputable def F38_2s : SSh := ⟨169, [(0, (.ptr 0 0)), (2, (.ptr 1 0)), (3, (.ptr 2 0)), (4, (.ptr 3 0)), (8, (.int .i64)), (9, (.ptr 4 0)), (10, (.int .i64)), (11, (.int .i64))], [(.box 88 (.cons (.imm 1) (.cons (.int .i64) .nil))), (.box 25 (.cons (.own 5) .nil)), (.box 31 (.cons (.int .i64) (.cons .str (.cons (.int .i64) .nil)))), (.box 25 (.cons (.own 6) .nil)), (.box 51 (.cons (.int .i64) (.cons .str (.cons (.int .i64) (.cons (.own 7) (.cons (.own 8) (.cons (.own 9) (.cons (.own 10) .nil)))))))), (.arr 4 true), (.arr 4 true), (.arr 3 true), (.arr 3 true), (.arr 2 true), (.arr 3 true)]⟩
noncomputable def F38_2_step {R : Type} (n : Nat) (k0 : Int → List Int → Int → Int → ByteArray → Int → Int → ByteArray → Int → List Obj → List Obj → List Val → List Val → List ByteArray → List Val → Option R) (rec : Int → Int → Int → List Int → Int → Int → ByteArray → Int → Int → ByteArray → Int → List Obj → List Obj → List Val → List Val → List ByteArray → List Val → Option R) (x920 : Int) (x921 : Int) (x922 : Int) (x923 : List Int) (x924 : Int) (x925 : Int) (x926 : ByteArray) (x927 : Int) (x928 : Int) (x929 : ByteArray) (x930 : Int) (x931 : List Obj) (x932 : List Obj) (x933 : List Val) (x934 : List Val) (x935 : List ByteArray) (x936 : List Val) : Option R :=
  (bif (decide (x922 < x921)) then
  (F38_1 n x920 x921 x922 x923 x924 x925 x926 x927 x928 x929 x930 x931 x932 x933 x934 x935 x936 (fun z980 z981 z982 z983 z984 z985 z986 z987 z988 z989 z990 z991 z992 z993 z994 z995 z996 =>
  (rec z980 z981 (IntKind.wrap .i64 (z982 + (1 : Int))) z983 z984 z985 z986 z987 z988 z989 z990 z991 z992 z993 z994 z995 z996)))
  else (k0 x920 x923 x924 x925 x926 x927 x928 x929 x930 x931 x932 x933 x934 x935 x936))
noncomputable def F38_2_it {R : Type} (n : Nat) (k0 : Int → List Int → Int → Int → ByteArray → Int → Int → ByteArray → Int → List Obj → List Obj → List Val → List Val → List ByteArray → List Val → Option R) : Nat → Int → Int → Int → List Int → Int → Int → ByteArray → Int → Int → ByteArray → Int → List Obj → List Obj → List Val → List Val → List ByteArray → List Val → Option R
  | 0, _, _, _, _, _, _, _, _, _, _, _, _, _, _, _, _, _ => none
  | k + 1, x920, x921, x922, x923, x924, x925, x926, x927, x928, x929, x930, x931, x932, x933, x934, x935, x936 => F38_2_step n k0 (F38_2_it n k0 k) x920 x921 x922 x923 x924 x925 x926 x927 x928 x929 x930 x931 x932 x933 x934 x935 x936
noncomputable def F38_2 {R : Type} (n : Nat) (x920 : Int) (x921 : Int) (x922 : Int) (x923 : List Int) (x924 : Int) (x925 : Int) (x926 : ByteArray) (x927 : Int) (x928 : Int) (x929 : ByteArray) (x930 : Int) (x931 : List Obj) (x932 : List Obj) (x933 : List Val) (x934 : List Val) (x935 : List ByteArray) (x936 : List Val) (k0 : Int → List Int → Int → Int → ByteArray → Int → Int → ByteArray → Int → List Obj → List Obj → List Val → List Val → List ByteArray → List Val → Option R) : Option R := F38_2_it n k0 n x920 x921 x922 x923 x924 x925 x926 x927 x928 x929 x930 x931 x932 x933 x934 x935 x936
noncomputable def F38_2z (n : Nat) : Sm G := inZ G 1 ⟨[0, 2, 3, 4, 8, 9, 10, 11], [(9, (.cell 3 (.own 3))), (9, (.cell 4 (.own 3))), (9, (.cell 5 (.own 2))), (9, (.cell 6 (.own 3)))]⟩ F38_2s fun R x K => F38_2_it n (fun u0 u1 u2 u3 u4 u5 u6 u7 u8 u9 u10 u11 u12 u13 u14 => K (.exit 4) (SSh.enc G F38_2x0 (((), ((), ((), ((), (u0, ((), ())))))), ((u1, (u2, ())), (((), ()), ((u3, (u4, (u5, ()))), (((), ()), ((u6, (u7, (u8, ((), ((), ((), ((), ()))))))), (u9, (u10, (u11, (u12, (u13, (u14, ())))))))))))))) n x.1.2.2.2.2.1 x.1.2.2.2.2.2.2.1 x.1.2.2.2.2.2.2.2.1 x.2.1.1 x.2.1.2.1 x.2.2.2.1.1 x.2.2.2.1.2.1 x.2.2.2.1.2.2.1 x.2.2.2.2.2.1.1 x.2.2.2.2.2.1.2.1 x.2.2.2.2.2.1.2.2.1 x.2.2.2.2.2.2.1 x.2.2.2.2.2.2.2.1 x.2.2.2.2.2.2.2.2.1 x.2.2.2.2.2.2.2.2.2.1 x.2.2.2.2.2.2.2.2.2.2.1 x.2.2.2.2.2.2.2.2.2.2.2.1
theorem F38_2_eq (n : Nat) (R : Type) (rec : SSh.den G F38_2s → Option R) (x : SSh.den G F38_2s) (K : AE → St G → Option R) :
  F38_2_step n (fun u0 u1 u2 u3 u4 u5 u6 u7 u8 u9 u10 u11 u12 u13 u14 => K (.exit 4) (SSh.enc G F38_2x0 (((), ((), ((), ((), (u0, ((), ())))))), ((u1, (u2, ())), (((), ()), ((u3, (u4, (u5, ()))), (((), ()), ((u6, (u7, (u8, ((), ((), ((), ((), ()))))))), (u9, (u10, (u11, (u12, (u13, (u14, ())))))))))))))) (fun x920 x921 x922 x923 x924 x925 x926 x927 x928 x929 x930 x931 x932 x933 x934 x935 x936 => rec (((), ((), ((), ((), (x920, ((), (x921, (x922, ())))))))), ((x923, (x924, ())), (((), ()), ((x925, (x926, (x927, ()))), (((), ()), ((x928, (x929, (x930, ((), ((), ((), ((), ()))))))), (x931, (x932, (x933, (x934, (x935, (x936, ()))))))))))))) x.1.2.2.2.2.1 x.1.2.2.2.2.2.2.1 x.1.2.2.2.2.2.2.2.1 x.2.1.1 x.2.1.2.1 x.2.2.2.1.1 x.2.2.2.1.2.1 x.2.2.2.1.2.2.1 x.2.2.2.2.2.1.1 x.2.2.2.2.2.1.2.1 x.2.2.2.2.2.1.2.2.1 x.2.2.2.2.2.2.1 x.2.2.2.2.2.2.2.1 x.2.2.2.2.2.2.2.2.1 x.2.2.2.2.2.2.2.2.2.1 x.2.2.2.2.2.2.2.2.2.2.1 x.2.2.2.2.2.2.2.2.2.2.2.1 = exec prog G (ro G (tabOf (E19 n)) (frOf [F38_0z n, F38_1z n]) R) 1 (codeAt F38c [1, 1, 1, 1, 1, 0, 1, 0, 0, 1, 0, 0, 1, 1, 0, 1, 0, 0]) (.nd .no (.nd (.use 1) .no)) (SSh.enc G F38_2s x) (kLoop G (ro G (tabOf (E19 n)) (frOf [F38_0z n, F38_1z n]) R) 1 ⟨[0, 2, 3, 4, 8, 9, 10, 11], [(9, (.cell 3 (.own 3))), (9, (.cell 4 (.own 3))), (9, (.cell 5 (.own 2))), (9, (.cell 6 (.own 3)))]⟩ F38_2s ⟨⟨[0, 2, 3, 4, 8, 9], []⟩, ⟨[2, 3], []⟩, [(4, ⟨[0, 2, 3, 4, 8, 9], []⟩), (3, ⟨[0, 2, 3, 4, 8], []⟩), (2, ⟨[0, 2, 3, 4], []⟩)]⟩ rec K) := by kernel_rfl
theorem F38_2_ok (n : Nat) : FragOK prog G 1 (codeAt F38c [1, 1, 1, 1, 1, 0, 1, 0, 0, 1, 0, 0, 1, 1, 0, 1, 0]) (F38_2z n) :=
  frag_loop (Z := fun R k (x : SSh.den G F38_2s) K => F38_2_it n (fun u0 u1 u2 u3 u4 u5 u6 u7 u8 u9 u10 u11 u12 u13 u14 => K (.exit 4) (SSh.enc G F38_2x0 (((), ((), ((), ((), (u0, ((), ())))))), ((u1, (u2, ())), (((), ()), ((u3, (u4, (u5, ()))), (((), ()), ((u6, (u7, (u8, ((), ((), ((), ((), ()))))))), (u9, (u10, (u11, (u12, (u13, (u14, ())))))))))))))) k x.1.2.2.2.2.1 x.1.2.2.2.2.2.2.1 x.1.2.2.2.2.2.2.2.1 x.2.1.1 x.2.1.2.1 x.2.2.2.1.1 x.2.2.2.1.2.1 x.2.2.2.1.2.2.1 x.2.2.2.2.2.1.1 x.2.2.2.2.2.1.2.1 x.2.2.2.2.2.1.2.2.1 x.2.2.2.2.2.2.1 x.2.2.2.2.2.2.2.1 x.2.2.2.2.2.2.2.2.1 x.2.2.2.2.2.2.2.2.2.1 x.2.2.2.2.2.2.2.2.2.2.1 x.2.2.2.2.2.2.2.2.2.2.2.1) laws fnok (E19_ok n).tab (AllF.of (l := [(1, codeAt F38c [1, 1, 1, 1, 1, 0, 1, 0, 0, 1, 0, 0, 1, 1, 0, 1, 0, 0, 1, 0])]) (by kernel_rfl) (AllF.cons (F38_1_ok n) AllF.nil)) (fun _ _ _ => rfl) (fun R k y K => F38_2_eq n R (fun (x : SSh.den G F38_2s) => F38_2_it n (fun u0 u1 u2 u3 u4 u5 u6 u7 u8 u9 u10 u11 u12 u13 u14 => K (.exit 4) (SSh.enc G F38_2x0 (((), ((), ((), ((), (u0, ((), ())))))), ((u1, (u2, ())), (((), ()), ((u3, (u4, (u5, ()))), (((), ()), ((u6, (u7, (u8, ((), ((), ((), ((), ()))))))), (u9, (u10, (u11, (u12, (u13, (u14, ())))))))))))))) k x.1.2.2.2.2.1 x.1.2.2.2.2.2.2.1 x.1.2.2.2.2.2.2.2.1 x.2.1.1 x.2.1.2.1 x.2.2.2.1.1 x.2.2.2.1.2.1 x.2.2.2.1.2.2.1 x.2.2.2.2.2.1.1 x.2.2.2.2.2.1.2.1 x.2.2.2.2.2.1.2.2.1 x.2.2.2.2.2.2.1 x.2.2.2.2.2.2.2.1 x.2.2.2.2.2.2.2.2.1 x.2.2.2.2.2.2.2.2.2.1 x.2.2.2.2.2.2.2.2.2.2.1 x.2.2.2.2.2.2.2.2.2.2.2.1) y K) n
noncomputable def F38_3x0 : SSh := ⟨169, [(0, (.ptr 0 0)), (2, (.ptr 1 0)), (3, (.ptr 2 0)), (4, (.ptr 3 0)), (8, (.int .i64)), (9, (.ptr 4 0))], [(.box 88 (.cons (.imm 1) (.cons (.int .i64) .nil))), (.box 25 (.cons (.own 5) .nil)), (.box 31 (.cons (.int .i64) (.cons .str (.cons (.int .i64) .nil)))), (.box 25 (.cons (.own 6) .nil)), (.box 51 (.cons (.int .i64) (.cons .str (.cons (.int .i64) (.cons (.own 7) (.cons (.own 8) (.cons (.own 9) (.cons (.own 10) .nil)))))))), (.arr 4 true), (.arr 4 true), (.arr 3 true), (.arr 3 true), (.arr 2 true), (.arr 3 true)]⟩
noncomputable def F38_3s : SSh := ⟨169, [(0, (.ptr 0 0)), (2, (.ptr 1 0)), (3, (.ptr 2 0)), (4, (.ptr 3 0)), (8, (.int .i64)), (9, (.ptr 4 0))], [(.box 88 (.cons (.imm 1) (.cons (.int .i64) .nil))), (.box 25 (.cons (.own 5) .nil)), (.box 31 (.cons (.int .i64) (.cons .str (.cons (.int .i64) .nil)))), (.box 25 (.cons (.own 6) .nil)), (.box 51 (.cons (.int .i64) (.cons .str (.cons (.int .i64) (.cons (.own 7) (.cons (.own 8) (.cons (.own 9) (.cons (.own 10) .nil)))))))), (.arr 4 true), (.arr 4 true), (.arr 3 true), (.arr 3 true), (.arr 2 true), (.arr 3 true)]⟩
noncomputable def F38_3 {R : Type} (n : Nat) (x1013 : Int) (x1014 : List Int) (x1015 : Int) (x1016 : Int) (x1017 : ByteArray) (x1018 : Int) (x1019 : Int) (x1020 : ByteArray) (x1021 : Int) (x1022 : List Obj) (x1023 : List Obj) (x1024 : List Val) (x1025 : List Val) (x1026 : List ByteArray) (x1027 : List Val) (k0 : Int → List Int → Int → Int → ByteArray → Int → Int → ByteArray → Int → List Obj → List Obj → List Val → List Val → List ByteArray → List Val → Option R) : Option R :=
  (bif (x1019 == (6 : Int)) then
  (andThen (F61 n (13 : Int) x1014 x1015) fun r1029 =>
  (k0 x1013 r1029.2.1.1 r1029.2.1.2.1 x1016 x1017 x1018 x1019 x1020 r1029.1 x1022 x1023 x1024 x1025 x1026 x1027))
  else (k0 x1013 x1014 x1015 x1016 x1017 x1018 x1019 x1020 x1021 x1022 x1023 x1024 x1025 x1026 x1027))
noncomputable def F38_3z (n : Nat) : Sm G := inZ G 1 ⟨[0, 2, 3, 4, 8, 9], []⟩ F38_3s fun R x K => F38_3 n x.1.2.2.2.2.1 x.2.1.1 x.2.1.2.1 x.2.2.2.1.1 x.2.2.2.1.2.1 x.2.2.2.1.2.2.1 x.2.2.2.2.2.1.1 x.2.2.2.2.2.1.2.1 x.2.2.2.2.2.1.2.2.1 x.2.2.2.2.2.2.1 x.2.2.2.2.2.2.2.1 x.2.2.2.2.2.2.2.2.1 x.2.2.2.2.2.2.2.2.2.1 x.2.2.2.2.2.2.2.2.2.2.1 x.2.2.2.2.2.2.2.2.2.2.2.1 (fun u0 u1 u2 u3 u4 u5 u6 u7 u8 u9 u10 u11 u12 u13 u14 => K .normal (SSh.enc G F38_3x0 (((), ((), ((), ((), (u0, ((), ())))))), ((u1, (u2, ())), (((), ()), ((u3, (u4, (u5, ()))), (((), ()), ((u6, (u7, (u8, ((), ((), ((), ((), ()))))))), (u9, (u10, (u11, (u12, (u13, (u14, ()))))))))))))))
theorem F38_3_eq (n : Nat) (R : Type) (x : SSh.den G F38_3s) (K : AE → St G → Option R) :
  F38_3 n x.1.2.2.2.2.1 x.2.1.1 x.2.1.2.1 x.2.2.2.1.1 x.2.2.2.1.2.1 x.2.2.2.1.2.2.1 x.2.2.2.2.2.1.1 x.2.2.2.2.2.1.2.1 x.2.2.2.2.2.1.2.2.1 x.2.2.2.2.2.2.1 x.2.2.2.2.2.2.2.1 x.2.2.2.2.2.2.2.2.1 x.2.2.2.2.2.2.2.2.2.1 x.2.2.2.2.2.2.2.2.2.2.1 x.2.2.2.2.2.2.2.2.2.2.2.1 (fun u0 u1 u2 u3 u4 u5 u6 u7 u8 u9 u10 u11 u12 u13 u14 => K .normal (SSh.enc G F38_3x0 (((), ((), ((), ((), (u0, ((), ())))))), ((u1, (u2, ())), (((), ()), ((u3, (u4, (u5, ()))), (((), ()), ((u6, (u7, (u8, ((), ((), ((), ((), ()))))))), (u9, (u10, (u11, (u12, (u13, (u14, ())))))))))))))) = exec prog G (ro G (tabOf (E19 n)) (frOf [F38_0z n, F38_1z n, F38_2z n]) R) 1 (codeAt F38c [1, 1, 1, 1, 1, 0, 1, 0, 0, 1, 0, 0, 1, 1, 1, 0]) .no (SSh.enc G F38_3s x) (kNrm G (ro G (tabOf (E19 n)) (frOf [F38_0z n, F38_1z n, F38_2z n]) R) 1 ⟨⟨[0, 2, 3, 4, 8, 9], []⟩, ⟨[2, 3], []⟩, [(3, ⟨[0, 2, 3, 4, 8], []⟩), (2, ⟨[0, 2, 3, 4], []⟩)]⟩ K) := by kernel_rfl
theorem F38_3_ok (n : Nat) : FragOK prog G 1 (codeAt F38c [1, 1, 1, 1, 1, 0, 1, 0, 0, 1, 0, 0, 1, 1, 1, 0]) (F38_3z n) :=
  frag_plain laws fnok (E19_ok n).tab (AllF.of (l := []) (by kernel_rfl) AllF.nil) (F38_3_eq n)
noncomputable def F38_4x0 : SSh := ⟨169, [(0, (.ptr 0 0)), (2, (.ptr 1 0)), (3, (.ptr 2 0)), (4, (.ptr 3 0)), (8, (.int .i64))], [(.box 88 (.cons (.imm 1) (.cons (.int .i64) .nil))), (.box 25 (.cons (.own 4) .nil)), (.box 31 (.cons (.int .i64) (.cons .str (.cons (.int .i64) .nil)))), (.box 25 (.cons (.own 5) .nil)), (.arr 4 true), (.arr 4 true)]⟩
noncomputable def F38_4s : SSh := ⟨169, [(0, (.ptr 0 0)), (2, (.ptr 1 0)), (3, (.ptr 2 0)), (4, (.ptr 3 0)), (8, (.int .i64))], [(.box 88 (.cons (.imm 1) (.cons (.int .i64) .nil))), (.box 25 (.cons (.own 4) .nil)), (.box 31 (.cons (.int .i64) (.cons .str (.cons (.int .i64) .nil)))), (.box 25 (.cons (.own 5) .nil)), (.arr 4 true), (.arr 4 true)]⟩
noncomputable def F38_4 {R : Type} (n : Nat) (x907 : Int) (x908 : List Int) (x909 : Int) (x910 : Int) (x911 : ByteArray) (x912 : Int) (x913 : List Obj) (x914 : List Obj) (k0 : Int → List Int → Int → Int → ByteArray → Int → List Obj → List Obj → Option R) : Option R :=
  (bif (decide ((0 : Int) ≤ x907)) then
  (bif (decide (x907 < ((x914.length) : Int))) then
  let v915 := (x907.toNat)
  (bif (decide (((x914.getD v915 (Obj.mk (0 : Int) ({ data := #[] } : ByteArray) (0 : Int) [] [] [] [])).items.length) ≤ (0 : Nat))) then
  (bif (decide (((x914.getD v915 (Obj.mk (0 : Int) ({ data := #[] } : ByteArray) (0 : Int) [] [] [] [])).keys.length) ≤ (0 : Nat))) then
  (bif (decide (((x914.getD v915 (Obj.mk (0 : Int) ({ data := #[] } : ByteArray) (0 : Int) [] [] [] [])).names.length) ≤ (0 : Nat))) then
  (bif (decide (((x914.getD v915 (Obj.mk (0 : Int) ({ data := #[] } : ByteArray) (0 : Int) [] [] [] [])).vals.length) ≤ (0 : Nat))) then
  (andThen (F61 n (4 : Int) x908 x909) fun r919 =>
  (F38_2 n x907 r919.1 (0 : Int) r919.2.1.1 r919.2.1.2.1 x910 x911 x912 (x914.getD v915 (Obj.mk (0 : Int) ({ data := #[] } : ByteArray) (0 : Int) [] [] [] [])).kind (x914.getD v915 (Obj.mk (0 : Int) ({ data := #[] } : ByteArray) (0 : Int) [] [] [] [])).name (x914.getD v915 (Obj.mk (0 : Int) ({ data := #[] } : ByteArray) (0 : Int) [] [] [] [])).at_ x913 x914 [] [] [] [] (fun z998 z999 z1000 z1001 z1002 z1003 z1004 z1005 z1006 z1007 z1008 z1009 z1010 z1011 z1012 =>
  (F38_3 n z998 z999 z1000 z1001 z1002 z1003 z1004 z1005 z1006 z1007 z1008 z1009 z1010 z1011 z1012 (fun z1030 z1031 z1032 z1033 z1034 z1035 z1036 z1037 z1038 z1039 z1040 z1041 z1042 z1043 z1044 =>
  (bif (decide ((0 : Int) ≤ z1030)) then
  (bif (decide (z1030 < ((z1040.length) : Int))) then
  (k0 z1030 z1031 z1032 z1033 z1034 z1035 z1039 (z1040.set (z1030.toNat) (Obj.mk z1036 z1037 z1038 z1041 z1042 z1043 z1044)))
  else none)
  else none))))))
  else none)
  else none)
  else none)
  else none)
  else none)
  else none)
noncomputable def F38_4z (n : Nat) : Sm G := inZ G 1 ⟨[0, 2, 3, 4, 8], []⟩ F38_4s fun R x K => F38_4 n x.1.2.2.2.2.1 x.2.1.1 x.2.1.2.1 x.2.2.2.1.1 x.2.2.2.1.2.1 x.2.2.2.1.2.2.1 x.2.2.2.2.2.1 x.2.2.2.2.2.2.1 (fun u0 u1 u2 u3 u4 u5 u6 u7 => K .normal (SSh.enc G F38_4x0 (((), ((), ((), ((), (u0, ()))))), ((u1, (u2, ())), (((), ()), ((u3, (u4, (u5, ()))), (((), ()), (u6, (u7, ())))))))))
theorem F38_4_eq (n : Nat) (R : Type) (x : SSh.den G F38_4s) (K : AE → St G → Option R) :
  F38_4 n x.1.2.2.2.2.1 x.2.1.1 x.2.1.2.1 x.2.2.2.1.1 x.2.2.2.1.2.1 x.2.2.2.1.2.2.1 x.2.2.2.2.2.1 x.2.2.2.2.2.2.1 (fun u0 u1 u2 u3 u4 u5 u6 u7 => K .normal (SSh.enc G F38_4x0 (((), ((), ((), ((), (u0, ()))))), ((u1, (u2, ())), (((), ()), ((u3, (u4, (u5, ()))), (((), ()), (u6, (u7, ()))))))))) = exec prog G (ro G (tabOf (E19 n)) (frOf [F38_0z n, F38_1z n, F38_2z n, F38_3z n]) R) 1 (codeAt F38c [1, 1, 1, 1, 1, 0, 1, 0, 0, 1, 0]) (.nd (.nd .no (.nd .no (.nd (.nd .no (.nd (.use 2) .no)) (.nd (.use 3) .no)))) .no) (SSh.enc G F38_4s x) (kNrm G (ro G (tabOf (E19 n)) (frOf [F38_0z n, F38_1z n, F38_2z n, F38_3z n]) R) 1 ⟨⟨[0, 2, 3, 4, 8], []⟩, ⟨[2, 3], []⟩, [(2, ⟨[0, 2, 3, 4], []⟩)]⟩ K) := by kernel_rfl
theorem F38_4_ok (n : Nat) : FragOK prog G 1 (codeAt F38c [1, 1, 1, 1, 1, 0, 1, 0, 0, 1, 0]) (F38_4z n) :=
  frag_plain laws fnok (E19_ok n).tab (AllF.of (l := [(2, codeAt F38c [1, 1, 1, 1, 1, 0, 1, 0, 0, 1, 0, 0, 1, 1, 0, 1, 0]), (3, codeAt F38c [1, 1, 1, 1, 1, 0, 1, 0, 0, 1, 0, 0, 1, 1, 1, 0])]) (by kernel_rfl) (AllF.cons (F38_2_ok n) (AllF.cons (F38_3_ok n) AllF.nil))) (F38_4_eq n)
noncomputable def F38_5x0 : SSh := ⟨169, [(0, (.ptr 0 0)), (2, (.ptr 1 0)), (3, (.ptr 2 0)), (4, (.ptr 3 0))], [(.box 88 (.cons (.imm 1) (.cons (.int .i64) .nil))), (.box 25 (.cons (.own 4) .nil)), (.box 31 (.cons (.int .i64) (.cons .str (.cons (.int .i64) .nil)))), (.box 25 (.cons (.own 5) .nil)), (.arr 4 true), (.arr 4 true)]⟩
noncomputable def F38_5s : SSh := ⟨169, [(0, (.ptr 0 0)), (2, (.ptr 1 0)), (3, (.ptr 2 0)), (4, (.ptr 3 0)), (8, (.int .i64))], [(.box 88 (.cons (.imm 1) (.cons (.int .i64) .nil))), (.box 25 (.cons (.own 4) .nil)), (.box 31 (.cons (.int .i64) (.cons .str (.cons (.int .i64) .nil)))), (.box 25 (.cons (.own 5) .nil)), (.arr 4 true), (.arr 4 true)]⟩
noncomputable def F38_5_step {R : Type} (n : Nat) (k0 : List Int → Int → Int → ByteArray → Int → List Obj → List Obj → Option R) (rec : Int → List Int → Int → Int → ByteArray → Int → List Obj → List Obj → Option R) (x897 : Int) (x898 : List Int) (x899 : Int) (x900 : Int) (x901 : ByteArray) (x902 : Int) (x903 : List Obj) (x904 : List Obj) : Option R :=
  (bif (decide (x897 < ((x904.length) : Int))) then
  (F38_4 n x897 x898 x899 x900 x901 x902 x903 x904 (fun z1047 z1048 z1049 z1050 z1051 z1052 z1053 z1054 =>
  (rec (IntKind.wrap .i64 (z1047 + (1 : Int))) z1048 z1049 z1050 z1051 z1052 z1053 z1054)))
  else (k0 x898 x899 x900 x901 x902 x903 x904))
noncomputable def F38_5_it {R : Type} (n : Nat) (k0 : List Int → Int → Int → ByteArray → Int → List Obj → List Obj → Option R) : Nat → Int → List Int → Int → Int → ByteArray → Int → List Obj → List Obj → Option R
  | 0, _, _, _, _, _, _, _, _ => none
  | k + 1, x897, x898, x899, x900, x901, x902, x903, x904 => F38_5_step n k0 (F38_5_it n k0 k) x897 x898 x899 x900 x901 x902 x903 x904
noncomputable def F38_5 {R : Type} (n : Nat) (x897 : Int) (x898 : List Int) (x899 : Int) (x900 : Int) (x901 : ByteArray) (x902 : Int) (x903 : List Obj) (x904 : List Obj) (k0 : List Int → Int → Int → ByteArray → Int → List Obj → List Obj → Option R) : Option R := F38_5_it n k0 n x897 x898 x899 x900 x901 x902 x903 x904
noncomputable def F38_5z (n : Nat) : Sm G := inZ G 1 ⟨[0, 2, 3, 4, 8], []⟩ F38_5s fun R x K => F38_5_it n (fun u0 u1 u2 u3 u4 u5 u6 => K (.exit 2) (SSh.enc G F38_5x0 (((), ((), ((), ((), ())))), ((u0, (u1, ())), (((), ()), ((u2, (u3, (u4, ()))), (((), ()), (u5, (u6, ()))))))))) n x.1.2.2.2.2.1 x.2.1.1 x.2.1.2.1 x.2.2.2.1.1 x.2.2.2.1.2.1 x.2.2.2.1.2.2.1 x.2.2.2.2.2.1 x.2.2.2.2.2.2.1
theorem F38_5_eq (n : Nat) (R : Type) (rec : SSh.den G F38_5s → Option R) (x : SSh.den G F38_5s) (K : AE → St G → Option R) :
  F38_5_step n (fun u0 u1 u2 u3 u4 u5 u6 => K (.exit 2) (SSh.enc G F38_5x0 (((), ((), ((), ((), ())))), ((u0, (u1, ())), (((), ()), ((u2, (u3, (u4, ()))), (((), ()), (u5, (u6, ()))))))))) (fun x897 x898 x899 x900 x901 x902 x903 x904 => rec (((), ((), ((), ((), (x897, ()))))), ((x898, (x899, ())), (((), ()), ((x900, (x901, (x902, ()))), (((), ()), (x903, (x904, ())))))))) x.1.2.2.2.2.1 x.2.1.1 x.2.1.2.1 x.2.2.2.1.1 x.2.2.2.1.2.1 x.2.2.2.1.2.2.1 x.2.2.2.2.2.1 x.2.2.2.2.2.2.1 = exec prog G (ro G (tabOf (E19 n)) (frOf [F38_0z n, F38_1z n, F38_2z n, F38_3z n, F38_4z n]) R) 1 (codeAt F38c [1, 1, 1, 1, 1, 0, 1, 0, 0]) (.nd .no (.nd (.use 4) .no)) (SSh.enc G F38_5s x) (kLoop G (ro G (tabOf (E19 n)) (frOf [F38_0z n, F38_1z n, F38_2z n, F38_3z n, F38_4z n]) R) 1 ⟨[0, 2, 3, 4, 8], []⟩ F38_5s ⟨⟨[0, 2, 3, 4], []⟩, ⟨[2, 3], []⟩, [(2, ⟨[0, 2, 3, 4], []⟩)]⟩ rec K) := by kernel_rfl
theorem F38_5_ok (n : Nat) : FragOK prog G 1 (codeAt F38c [1, 1, 1, 1, 1, 0, 1, 0]) (F38_5z n) :=
  frag_loop (Z := fun R k (x : SSh.den G F38_5s) K => F38_5_it n (fun u0 u1 u2 u3 u4 u5 u6 => K (.exit 2) (SSh.enc G F38_5x0 (((), ((), ((), ((), ())))), ((u0, (u1, ())), (((), ()), ((u2, (u3, (u4, ()))), (((), ()), (u5, (u6, ()))))))))) k x.1.2.2.2.2.1 x.2.1.1 x.2.1.2.1 x.2.2.2.1.1 x.2.2.2.1.2.1 x.2.2.2.1.2.2.1 x.2.2.2.2.2.1 x.2.2.2.2.2.2.1) laws fnok (E19_ok n).tab (AllF.of (l := [(4, codeAt F38c [1, 1, 1, 1, 1, 0, 1, 0, 0, 1, 0])]) (by kernel_rfl) (AllF.cons (F38_4_ok n) AllF.nil)) (fun _ _ _ => rfl) (fun R k y K => F38_5_eq n R (fun (x : SSh.den G F38_5s) => F38_5_it n (fun u0 u1 u2 u3 u4 u5 u6 => K (.exit 2) (SSh.enc G F38_5x0 (((), ((), ((), ((), ())))), ((u0, (u1, ())), (((), ()), ((u2, (u3, (u4, ()))), (((), ()), (u5, (u6, ()))))))))) k x.1.2.2.2.2.1 x.2.1.1 x.2.1.2.1 x.2.2.2.1.1 x.2.2.2.1.2.1 x.2.2.2.1.2.2.1 x.2.2.2.2.2.1 x.2.2.2.2.2.2.1) y K) n
noncomputable def F38_6x0 : SSh := ⟨169, [(0, (.ptr 0 0)), (2, (.ptr 1 0)), (3, (.ptr 2 0)), (4, (.ptr 3 0))], [(.box 88 (.cons (.imm 1) (.cons (.int .i64) .nil))), (.box 25 (.cons (.own 4) .nil)), (.box 31 (.cons (.int .i64) (.cons .str (.cons (.int .i64) .nil)))), (.box 25 (.cons (.own 5) .nil)), (.arr 4 true), (.arr 4 true)]⟩
noncomputable def F38_6s : SSh := ⟨169, [(0, (.ptr 0 0)), (2, (.ptr 1 0)), (3, (.ptr 2 0)), (4, (.ptr 3 0))], [(.box 88 (.cons (.imm 1) (.cons (.int .i64) .nil))), (.box 25 (.cons (.own 4) .nil)), (.box 31 (.cons (.int .i64) (.cons .str (.cons (.int .i64) .nil)))), (.box 25 (.cons (.own 5) .nil)), (.arr 4 true), (.arr 4 true)]⟩
noncomputable def F38_6 {R : Type} (n : Nat) (x1063 : List Int) (x1064 : Int) (x1065 : Int) (x1066 : ByteArray) (x1067 : Int) (x1068 : List Obj) (x1069 : List Obj) (k0 : List Int → Int → Int → ByteArray → Int → List Obj → List Obj → Option R) : Option R :=
  (andThen (F61 n (14 : Int) x1063 x1064) fun r1070 =>
  (bif (r1070.1 == (0 : Int)) then
  (andThen (F61 n ((x1069.length) : Int) r1070.2.1.1 r1070.2.1.2.1) fun r1073 =>
  (andThen (F67 n r1073.2.1.1 r1073.2.1.2.1) fun r1074 =>
  (bif (decide ((0 : Int) ≤ r1073.1)) then
  (bif (decide (r1073.1 < ((x1069.length) : Int))) then
  let v1075 := (r1073.1.toNat)
  (k0 r1074.2.1.1 r1074.2.1.2.1 x1065 x1066 x1067 x1068 (x1069.set v1075 (Obj.mk (x1069.getD v1075 (Obj.mk (0 : Int) ({ data := #[] } : ByteArray) (0 : Int) [] [] [] [])).kind (x1069.getD v1075 (Obj.mk (0 : Int) ({ data := #[] } : ByteArray) (0 : Int) [] [] [] [])).name r1074.1 (x1069.getD v1075 (Obj.mk (0 : Int) ({ data := #[] } : ByteArray) (0 : Int) [] [] [] [])).items (x1069.getD v1075 (Obj.mk (0 : Int) ({ data := #[] } : ByteArray) (0 : Int) [] [] [] [])).keys (x1069.getD v1075 (Obj.mk (0 : Int) ({ data := #[] } : ByteArray) (0 : Int) [] [] [] [])).names (x1069.getD v1075 (Obj.mk (0 : Int) ({ data := #[] } : ByteArray) (0 : Int) [] [] [] [])).vals)))
  else none)
  else none)))
  else (k0 r1070.2.1.1 r1070.2.1.2.1 x1065 x1066 x1067 x1068 x1069)))
noncomputable def F38_6z (n : Nat) : Sm G := inZ G 1 ⟨[0, 2, 3, 4], []⟩ F38_6s fun R x K => F38_6 n x.2.1.1 x.2.1.2.1 x.2.2.2.1.1 x.2.2.2.1.2.1 x.2.2.2.1.2.2.1 x.2.2.2.2.2.1 x.2.2.2.2.2.2.1 (fun u0 u1 u2 u3 u4 u5 u6 => K .normal (SSh.enc G F38_6x0 (((), ((), ((), ((), ())))), ((u0, (u1, ())), (((), ()), ((u2, (u3, (u4, ()))), (((), ()), (u5, (u6, ())))))))))
theorem F38_6_eq (n : Nat) (R : Type) (x : SSh.den G F38_6s) (K : AE → St G → Option R) :
  F38_6 n x.2.1.1 x.2.1.2.1 x.2.2.2.1.1 x.2.2.2.1.2.1 x.2.2.2.1.2.2.1 x.2.2.2.2.2.1 x.2.2.2.2.2.2.1 (fun u0 u1 u2 u3 u4 u5 u6 => K .normal (SSh.enc G F38_6x0 (((), ((), ((), ((), ())))), ((u0, (u1, ())), (((), ()), ((u2, (u3, (u4, ()))), (((), ()), (u5, (u6, ()))))))))) = exec prog G (ro G (tabOf (E19 n)) (frOf [F38_0z n, F38_1z n, F38_2z n, F38_3z n, F38_4z n, F38_5z n]) R) 1 (codeAt F38c [1, 1, 1, 1, 1, 1, 0]) .no (SSh.enc G F38_6s x) (kNrm G (ro G (tabOf (E19 n)) (frOf [F38_0z n, F38_1z n, F38_2z n, F38_3z n, F38_4z n, F38_5z n]) R) 1 ⟨⟨[0, 2, 3, 4], []⟩, ⟨[2, 3], []⟩, []⟩ K) := by kernel_rfl
theorem F38_6_ok (n : Nat) : FragOK prog G 1 (codeAt F38c [1, 1, 1, 1, 1, 1, 0]) (F38_6z n) :=
  frag_plain laws fnok (E19_ok n).tab (AllF.of (l := []) (by kernel_rfl) AllF.nil) (F38_6_eq n)
noncomputable def F38_7x0 : SSh := ⟨169, [(0, (.ptr 0 0)), (2, (.ptr 1 0)), (3, (.ptr 2 0)), (4, (.ptr 3 0))], [(.box 88 (.cons (.imm 1) (.cons (.int .i64) .nil))), (.box 25 (.cons (.own 4) .nil)), (.box 31 (.cons (.int .i64) (.cons .str (.cons (.int .i64) .nil)))), (.box 25 (.cons (.own 5) .nil)), (.arr 4 true), (.arr 4 true)]⟩
noncomputable def F38_7s : SSh := ⟨169, [(0, (.ptr 0 0)), (2, (.ptr 1 0)), (3, (.ptr 2 0)), (4, (.ptr 3 0))], [(.box 88 (.cons (.imm 1) (.cons (.int .i64) .nil))), (.box 25 (.cons (.own 4) .nil)), (.box 31 (.cons (.int .i64) (.cons .str (.cons (.int .i64) .nil)))), (.box 25 (.cons (.own 5) .nil)), (.arr 4 true), (.arr 4 true)]⟩
noncomputable def F38_7 {R : Type} (n : Nat) (x1084 : List Int) (x1085 : Int) (x1086 : Int) (x1087 : ByteArray) (x1088 : Int) (x1089 : List Obj) (x1090 : List Obj) (k0 : List Int → Int → Int → ByteArray → Int → List Obj → List Obj → Option R) : Option R :=
  (andThen (F61 n (14 : Int) x1084 x1085) fun r1091 =>
  (bif (r1091.1 == (0 : Int)) then
  (andThen (F61 n ((x1090.length) : Int) r1091.2.1.1 r1091.2.1.2.1) fun r1094 =>
  (andThen (F61 n (12 : Int) r1094.2.1.1 r1094.2.1.2.1) fun r1095 =>
  (andThen (F68 n r1095.1 r1095.2.1.1 r1095.2.1.2.1) fun r1096 =>
  (bif (decide ((0 : Int) ≤ r1094.1)) then
  (bif (decide (r1094.1 < ((x1090.length) : Int))) then
  let v1097 := (r1094.1.toNat)
  (k0 r1096.2.1.1 r1096.2.1.2.1 x1086 x1087 x1088 x1089 (x1090.set v1097 (Obj.mk r1096.1 (x1090.getD v1097 (Obj.mk (0 : Int) ({ data := #[] } : ByteArray) (0 : Int) [] [] [] [])).name (x1090.getD v1097 (Obj.mk (0 : Int) ({ data := #[] } : ByteArray) (0 : Int) [] [] [] [])).at_ (x1090.getD v1097 (Obj.mk (0 : Int) ({ data := #[] } : ByteArray) (0 : Int) [] [] [] [])).items (x1090.getD v1097 (Obj.mk (0 : Int) ({ data := #[] } : ByteArray) (0 : Int) [] [] [] [])).keys (x1090.getD v1097 (Obj.mk (0 : Int) ({ data := #[] } : ByteArray) (0 : Int) [] [] [] [])).names (x1090.getD v1097 (Obj.mk (0 : Int) ({ data := #[] } : ByteArray) (0 : Int) [] [] [] [])).vals)))
  else none)
  else none))))
  else (k0 r1091.2.1.1 r1091.2.1.2.1 x1086 x1087 x1088 x1089 x1090)))
noncomputable def F38_7z (n : Nat) : Sm G := inZ G 1 ⟨[0, 2, 3, 4], []⟩ F38_7s fun R x K => F38_7 n x.2.1.1 x.2.1.2.1 x.2.2.2.1.1 x.2.2.2.1.2.1 x.2.2.2.1.2.2.1 x.2.2.2.2.2.1 x.2.2.2.2.2.2.1 (fun u0 u1 u2 u3 u4 u5 u6 => K .normal (SSh.enc G F38_7x0 (((), ((), ((), ((), ())))), ((u0, (u1, ())), (((), ()), ((u2, (u3, (u4, ()))), (((), ()), (u5, (u6, ())))))))))
theorem F38_7_eq (n : Nat) (R : Type) (x : SSh.den G F38_7s) (K : AE → St G → Option R) :
  F38_7 n x.2.1.1 x.2.1.2.1 x.2.2.2.1.1 x.2.2.2.1.2.1 x.2.2.2.1.2.2.1 x.2.2.2.2.2.1 x.2.2.2.2.2.2.1 (fun u0 u1 u2 u3 u4 u5 u6 => K .normal (SSh.enc G F38_7x0 (((), ((), ((), ((), ())))), ((u0, (u1, ())), (((), ()), ((u2, (u3, (u4, ()))), (((), ()), (u5, (u6, ()))))))))) = exec prog G (ro G (tabOf (E19 n)) (frOf [F38_0z n, F38_1z n, F38_2z n, F38_3z n, F38_4z n, F38_5z n, F38_6z n]) R) 1 (codeAt F38c [1, 1, 1, 1, 1, 1, 1, 0]) .no (SSh.enc G F38_7s x) (kNrm G (ro G (tabOf (E19 n)) (frOf [F38_0z n, F38_1z n, F38_2z n, F38_3z n, F38_4z n, F38_5z n, F38_6z n]) R) 1 ⟨⟨[0, 2, 3, 4], []⟩, ⟨[2, 3], []⟩, []⟩ K) := by kernel_rfl
theorem F38_7_ok (n : Nat) : FragOK prog G 1 (codeAt F38c [1, 1, 1, 1, 1, 1, 1, 0]) (F38_7z n) :=
  frag_plain laws fnok (E19_ok n).tab (AllF.of (l := []) (by kernel_rfl) AllF.nil) (F38_7_eq n)
noncomputable def F38 (n : Nat) (a868 : List Int) (a869 : Int) : Option (((List Obj × Unit) × ((Int × (ByteArray × (Int × Unit))) × Unit)) × ((List Int × (Int × Unit)) × Unit)) :=
  (andThen (F26 n) fun r870 =>
  (andThen (F61 n (6 : Int) a868 a869) fun r872 =>
  (F38_0 n ((r870.2.1.length) : Int) r872.1 (0 : Int) r872.2.1.1 r872.2.1.2.1 (0 : Int) ({ data := #[] } : ByteArray) (0 : Int) [] r870.2.1 (fun z889 z890 z891 z892 z893 z894 z895 z896 =>
  (F38_5 n z889 z890 z891 z892 z893 z894 z895 z896 (fun z1056 z1057 z1058 z1059 z1060 z1061 z1062 =>
  (F38_6 n z1056 z1057 z1058 z1059 z1060 z1061 z1062 (fun z1077 z1078 z1079 z1080 z1081 z1082 z1083 =>
  (F38_7 n z1077 z1078 z1079 z1080 z1081 z1082 z1083 (fun z1099 z1100 z1101 z1102 z1103 z1104 z1105 =>
  (andThen (F63 n ((z1105.length) : Int) z1099 z1100) fun r1107 =>
  some (((z1105, ()), ((r1107.1.1, (r1107.1.2.1, (r1107.1.2.2.1, ()))), ())), ((r1107.2.1.1, (r1107.2.1.2.1, ())), ())))))))))))))
noncomputable def F38e (n : Nat) : Ent G := ⟨38, (.cons (.ptr 0 0) .nil), [(.box 88 (.cons (.imm 1) (.cons (.int .i64) .nil)))], (.tup (.cons (.agg (.cons (.imm 4) .nil)) (.cons (.agg (.cons (.int .i64) (.cons .str (.cons (.int .i64) .nil)))) .nil))), [(.box 88 (.cons (.imm 1) (.cons (.int .i64) .nil)))], fun x y => F38 n y.1.1 y.1.2.1⟩
theorem F38_eq (n : Nat) (x : ShL.den G (.cons (.ptr 0 0) .nil)) (y : denO G [(.box 88 (.cons (.imm 1) (.cons (.int .i64) .nil)))]) : (F38e n).F x y = runFn prog G (ro G (tabOf (E19 n)) (frOf [F38_0z n, F38_1z n, F38_2z n, F38_3z n, F38_4z n, F38_5z n, F38_6z n, F38_7z n]) _) Go.Proofs.Try.f38 (.nd .no (.nd .no (.nd .no (.nd .no (.nd (.nd .no (.nd (.use 0) .no)) (.nd (.nd .no (.nd (.use 5) .no)) (.nd (.use 6) (.nd (.use 7) .no)))))))) [(0, .fz), (1, .fz)] (ShL.enc G (.cons (.ptr 0 0) .nil) x) (encO G [(.box 88 (.cons (.imm 1) (.cons (.int .i64) .nil)))] y) (decR (.tup (.cons (.agg (.cons (.imm 4) .nil)) (.cons (.agg (.cons (.int .i64) (.cons .str (.cons (.int .i64) .nil)))) .nil))) [(.box 88 (.cons (.imm 1) (.cons (.int .i64) .nil)))]) := by kernel_rfl
theorem F38_ok (n : Nat) : EntOK prog G (F38e n) :=
  ent_ok (fr := frOf [F38_0z n, F38_1z n, F38_2z n, F38_3z n, F38_4z n, F38_5z n, F38_6z n, F38_7z n]) (ann := (.nd .no (.nd .no (.nd .no (.nd .no (.nd (.nd .no (.nd (.use 0) .no)) (.nd (.nd .no (.nd (.use 5) .no)) (.nd (.use 6) (.nd (.use 7) .no))))))))) (frm := [(0, .fz), (1, .fz)]) laws fnok (E19_ok n).tab (e := F38e n) (fn := Go.Proofs.Try.f38) (by kernel_rfl) (AllF.ofB (cd := F38c) (l := [(0, codeAt F38c [1, 1, 1, 1, 0, 1, 0]), (5, codeAt F38c [1, 1, 1, 1, 1, 0, 1, 0]), (6, codeAt F38c [1, 1, 1, 1, 1, 1, 0]), (7, codeAt F38c [1, 1, 1, 1, 1, 1, 1, 0])]) (by kernel_rfl) (by kernel_rfl) (AllF.cons (F38_0_ok n) (AllF.cons (F38_5_ok n) (AllF.cons (F38_6_ok n) (AllF.cons (F38_7_ok n) AllF.nil))))) (F38_eq n)
noncomputable def E20 (n : Nat) : List (Ent G) := F38e n :: E19 n
theorem E20_ok (n : Nat) : AllE prog G (E20 n) := AllE.cons (F38_ok n) (E19_ok n)
noncomputable def F20 (n : Nat) (a3 : List Int) : Option ((List Obj × Unit) × Unit) :=
  (andThen (F37 n a3) fun r8 =>
  (andThen (F38 n r8.2.1.1 r8.2.1.2.1) fun r1108 =>
  some ((r1108.1.1.1, ()), ())))
noncomputable def F20e (n : Nat) : Ent G := ⟨20, (.cons (.imm 1) .nil), [], (.agg (.cons (.imm 4) .nil)), [], fun x y => F20 n x.1⟩
theorem F20_eq (n : Nat) (x : ShL.den G (.cons (.imm 1) .nil)) (y : denO G []) : (F20e n).F x y = runFn prog G (ro G (tabOf (E20 n)) (frOf []) _) Go.Proofs.Try.f20 .no [(0, .fz)] (ShL.enc G (.cons (.imm 1) .nil) x) (encO G [] y) (decR (.agg (.cons (.imm 4) .nil)) []) := by kernel_rfl
theorem F20_ok (n : Nat) : EntOK prog G (F20e n) :=
  ent_ok (fr := frOf []) (ann := .no) (frm := [(0, .fz)]) laws fnok (E20_ok n).tab (e := F20e n) (fn := Go.Proofs.Try.f20) (by kernel_rfl) (AllF.ofB (cd := F20c) (l := []) (by kernel_rfl) (by kernel_rfl) AllF.nil) (F20_eq n)
noncomputable def E21 (n : Nat) : List (Ent G) := F20e n :: E20 n
theorem E21_ok (n : Nat) : AllE prog G (E21 n) := AllE.cons (F20_ok n) (E20_ok n)
-- 10 loop.example/slowworm/impl.HeapOk
noncomputable def F10c : Code := bodyOf Go.Proofs.Try.f10
-- 27 (loop.example/slowworm/impl.Heap).objectOk
noncomputable def F27c : Code := bodyOf Go.Proofs.Try.f27
-- 47 loop.example/slowworm/impl.within
noncomputable def F47c : Code := bodyOf Go.Proofs.Try.f47
noncomputable def F47 (n : Nat) (a1135 : Int) (a1136 : Int) (a1137 : Int) : Option (Bool × Unit) :=
  (bif (decide (a1135 ≥ a1136)) then
  some ((decide (a1135 ≤ a1137)), ())
  else some (false, ()))
noncomputable def F47e (n : Nat) : Ent G := ⟨47, (.cons (.int .i64) (.cons (.int .i64) (.cons (.int .i64) .nil))), [], .bool, [], fun x y => F47 n x.1 x.2.1 x.2.2.1⟩
theorem F47_eq (n : Nat) (x : ShL.den G (.cons (.int .i64) (.cons (.int .i64) (.cons (.int .i64) .nil)))) (y : denO G []) : (F47e n).F x y = runFn prog G (ro G (tabOf (E21 n)) (frOf []) _) Go.Proofs.Try.f47 .no [(0, .fz)] (ShL.enc G (.cons (.int .i64) (.cons (.int .i64) (.cons (.int .i64) .nil))) x) (encO G [] y) (decR .bool []) := by kernel_rfl
theorem F47_ok (n : Nat) : EntOK prog G (F47e n) :=
  ent_ok (fr := frOf []) (ann := .no) (frm := [(0, .fz)]) laws fnok (E21_ok n).tab (e := F47e n) (fn := Go.Proofs.Try.f47) (by kernel_rfl) (AllF.ofB (cd := F47c) (l := []) (by kernel_rfl) (by kernel_rfl) AllF.nil) (F47_eq n)
noncomputable def E22 (n : Nat) : List (Ent G) := F47e n :: E21 n
theorem E22_ok (n : Nat) : AllE prog G (E22 n) := AllE.cons (F47_ok n) (E21_ok n)
-- 39 (loop.example/slowworm/impl.Heap).valuesOk
noncomputable def F39c : Code := bodyOf Go.Proofs.Try.f39
-- 28 (loop.example/slowworm/impl.Heap).valueOk
noncomputable def F28c : Code := bodyOf Go.Proofs.Try.f28
-- 51 loop.example/slowworm/impl.IntOk
noncomputable def F51c : Code := bodyOf Go.Proofs.Try.f51
-- 100 strings.CutPrefix
noncomputable def F100c : Code := bodyOf Go.Proofs.Try.f100
-- 110 internal/stringslite.CutPrefix
noncomputable def F110c : Code := bodyOf Go.Proofs.Try.f110
-- 114 internal/stringslite.HasPrefix
noncomputable def F114c : Code := bodyOf Go.Proofs.Try.f114
noncomputable def F114 (n : Nat) (a1170 : ByteArray) (a1171 : ByteArray) : Option (Bool × Unit) :=
  (bif (decide (((a1170.size) : Int) ≥ ((a1171.size) : Int))) then
  let v1175 := ((a1171.size) : Int)
  (bif (decide ((0 : Int) ≤ v1175)) then
  (bif (decide (v1175 ≤ ((a1170.size) : Int))) then
  some ((((a1170.extract (0 : Nat) (v1175.toNat)).toList) == (a1171.toList)), ())
  else none)
  else none)
  else some (false, ()))
noncomputable def F114e (n : Nat) : Ent G := ⟨114, (.cons .str (.cons .str .nil)), [], .bool, [], fun x y => F114 n x.1 x.2.1⟩
theorem F114_eq (n : Nat) (x : ShL.den G (.cons .str (.cons .str .nil))) (y : denO G []) : (F114e n).F x y = runFn prog G (ro G (tabOf (E22 n)) (frOf []) _) Go.Proofs.Try.f114 .no [(0, .fz)] (ShL.enc G (.cons .str (.cons .str .nil)) x) (encO G [] y) (decR .bool []) := by kernel_rfl
theorem F114_ok (n : Nat) : EntOK prog G (F114e n) :=
  ent_ok (fr := frOf []) (ann := .no) (frm := [(0, .fz)]) laws fnok (E22_ok n).tab (e := F114e n) (fn := Go.Proofs.Try.f114) (by kernel_rfl) (AllF.ofB (cd := F114c) (l := []) (by kernel_rfl) (by kernel_rfl) AllF.nil) (F114_eq n)
noncomputable def E23 (n : Nat) : List (Ent G) := F114e n :: E22 n
theorem E23_ok (n : Nat) : AllE prog G (E23 n) := AllE.cons (F114_ok n) (E22_ok n)
noncomputable def F110 (n : Nat) (a1168 : ByteArray) (a1169 : ByteArray) : Option ((ByteArray × (Bool × Unit)) × Unit) :=
  (andThen (F114 n a1168 a1169) fun r1178 =>
  (bif (!r1178.1) then
  some ((a1168, (false, ())), ())
  else let v1180 := ((a1169.size) : Int)
  (bif (decide ((0 : Int) ≤ v1180)) then
  (bif (decide (v1180 ≤ ((a1168.size) : Int))) then
  (bif (decide (((a1168.size) : Int) ≤ ((a1168.size) : Int))) then
  some (((a1168.extract (v1180.toNat) (((a1168.size) : Int).toNat)), (true, ())), ())
  else none)
  else none)
  else none)))
noncomputable def F110e (n : Nat) : Ent G := ⟨110, (.cons .str (.cons .str .nil)), [], (.tup (.cons .str (.cons .bool .nil))), [], fun x y => F110 n x.1 x.2.1⟩
theorem F110_eq (n : Nat) (x : ShL.den G (.cons .str (.cons .str .nil))) (y : denO G []) : (F110e n).F x y = runFn prog G (ro G (tabOf (E23 n)) (frOf []) _) Go.Proofs.Try.f110 .no [(0, .fz), (1, .fz)] (ShL.enc G (.cons .str (.cons .str .nil)) x) (encO G [] y) (decR (.tup (.cons .str (.cons .bool .nil))) []) := by kernel_rfl
theorem F110_ok (n : Nat) : EntOK prog G (F110e n) :=
  ent_ok (fr := frOf []) (ann := .no) (frm := [(0, .fz), (1, .fz)]) laws fnok (E23_ok n).tab (e := F110e n) (fn := Go.Proofs.Try.f110) (by kernel_rfl) (AllF.ofB (cd := F110c) (l := []) (by kernel_rfl) (by kernel_rfl) AllF.nil) (F110_eq n)
noncomputable def E24 (n : Nat) : List (Ent G) := F110e n :: E23 n
theorem E24_ok (n : Nat) : AllE prog G (E24 n) := AllE.cons (F110_ok n) (E23_ok n)
noncomputable def F100 (n : Nat) (a1166 : ByteArray) (a1167 : ByteArray) : Option ((ByteArray × (Bool × Unit)) × Unit) :=
  (andThen (F110 n a1166 a1167) fun r1182 =>
  some ((r1182.1.1, (r1182.1.2.1, ())), ()))
noncomputable def F100e (n : Nat) : Ent G := ⟨100, (.cons .str (.cons .str .nil)), [], (.tup (.cons .str (.cons .bool .nil))), [], fun x y => F100 n x.1 x.2.1⟩
theorem F100_eq (n : Nat) (x : ShL.den G (.cons .str (.cons .str .nil))) (y : denO G []) : (F100e n).F x y = runFn prog G (ro G (tabOf (E24 n)) (frOf []) _) Go.Proofs.Try.f100 .no [(0, .fz), (1, .fz)] (ShL.enc G (.cons .str (.cons .str .nil)) x) (encO G [] y) (decR (.tup (.cons .str (.cons .bool .nil))) []) := by kernel_rfl
theorem F100_ok (n : Nat) : EntOK prog G (F100e n) :=
  ent_ok (fr := frOf []) (ann := .no) (frm := [(0, .fz), (1, .fz)]) laws fnok (E24_ok n).tab (e := F100e n) (fn := Go.Proofs.Try.f100) (by kernel_rfl) (AllF.ofB (cd := F100c) (l := []) (by kernel_rfl) (by kernel_rfl) AllF.nil) (F100_eq n)
noncomputable def E25 (n : Nat) : List (Ent G) := F100e n :: E24 n
theorem E25_ok (n : Nat) : AllE prog G (E25 n) := AllE.cons (F100_ok n) (E24_ok n)
-- 101 loop.example/slowworm/impl.trimmed
noncomputable def F101c : Code := bodyOf Go.Proofs.Try.f101
noncomputable def F101_0x0 : SSh := ⟨21, [(0, (.imm 0))], []⟩
noncomputable def F101_0s : SSh := ⟨21, [(0, (.imm 0))], []⟩
noncomputable def F101_0_step {R : Type} (n : Nat) (k0 : List Int → Option R) (rec : List Int → Option R) (x1243 : List Int) : Option R :=
  (bif (decide (((x1243.length) : Int) > (0 : Int))) then
  let v1247 := (IntKind.wrap .i64 (((x1243.length) : Int) - (1 : Int)))
  (bif (decide ((0 : Int) ≤ v1247)) then
  (bif (decide (v1247 < ((x1243.length) : Int))) then
  (bif ((x1243.getD (v1247.toNat) (0 : Int)) == (0 : Int)) then
  let v1252 := (IntKind.wrap .i64 (((x1243.length) : Int) - (1 : Int)))
  (bif (decide ((0 : Int) ≤ v1252)) then
  (bif (decide (v1252 ≤ ((x1243.length) : Int))) then
  (rec ((x1243.take (v1252.toNat)).drop (0 : Nat)))
  else none)
  else none)
  else (k0 x1243))
  else none)
  else none)
  else (k0 x1243))
noncomputable def F101_0_it {R : Type} (n : Nat) (k0 : List Int → Option R) : Nat → List Int → Option R
  | 0, _ => none
  | k + 1, x1243 => F101_0_step n k0 (F101_0_it n k0 k) x1243
noncomputable def F101_0 {R : Type} (n : Nat) (x1243 : List Int) (k0 : List Int → Option R) : Option R := F101_0_it n k0 n x1243
noncomputable def F101_0z (n : Nat) : Sm G := inZ G 0 ⟨[0], []⟩ F101_0s fun R x K => F101_0_it n (fun u0 => K (.exit 0) (SSh.enc G F101_0x0 ((u0, ()), ()))) n x.1.1
theorem F101_0_eq (n : Nat) (R : Type) (rec : SSh.den G F101_0s → Option R) (x : SSh.den G F101_0s) (K : AE → St G → Option R) :
  F101_0_step n (fun u0 => K (.exit 0) (SSh.enc G F101_0x0 ((u0, ()), ()))) (fun x1243 => rec ((x1243, ()), ())) x.1.1 = exec prog G (ro G (tabOf (E25 n)) (frOf []) R) 0 (codeAt F101c [1, 0, 0, 0]) .no (SSh.enc G F101_0s x) (kLoop G (ro G (tabOf (E25 n)) (frOf []) R) 0 ⟨[0], []⟩ F101_0s ⟨⟨[0], []⟩, ⟨[2], []⟩, [(0, ⟨[0], []⟩)]⟩ rec K) := by kernel_rfl
theorem F101_0_ok (n : Nat) : FragOK prog G 0 (codeAt F101c [1, 0, 0]) (F101_0z n) :=
  frag_loop (Z := fun R k (x : SSh.den G F101_0s) K => F101_0_it n (fun u0 => K (.exit 0) (SSh.enc G F101_0x0 ((u0, ()), ()))) k x.1.1) laws fnok (E25_ok n).tab (AllF.of (l := []) (by kernel_rfl) AllF.nil) (fun _ _ _ => rfl) (fun R k y K => F101_0_eq n R (fun (x : SSh.den G F101_0s) => F101_0_it n (fun u0 => K (.exit 0) (SSh.enc G F101_0x0 ((u0, ()), ()))) k x.1.1) y K) n
noncomputable def F101 (n : Nat) (a1242 : List Int) : Option (List Int × Unit) :=
  (F101_0 n a1242 (fun z1254 =>
  some (z1254, ())))
noncomputable def F101e (n : Nat) : Ent G := ⟨101, (.cons (.imm 0) .nil), [], (.imm 0), [], fun x y => F101 n x.1⟩
theorem F101_eq (n : Nat) (x : ShL.den G (.cons (.imm 0) .nil)) (y : denO G []) : (F101e n).F x y = runFn prog G (ro G (tabOf (E25 n)) (frOf [F101_0z n]) _) Go.Proofs.Try.f101 (.nd .no (.nd (.nd (.use 0) .no) .no)) [(0, .fz)] (ShL.enc G (.cons (.imm 0) .nil) x) (encO G [] y) (decR (.imm 0) []) := by kernel_rfl
theorem F101_ok (n : Nat) : EntOK prog G (F101e n) :=
  ent_ok (fr := frOf [F101_0z n]) (ann := (.nd .no (.nd (.nd (.use 0) .no) .no))) (frm := [(0, .fz)]) laws fnok (E25_ok n).tab (e := F101e n) (fn := Go.Proofs.Try.f101) (by kernel_rfl) (AllF.ofB (cd := F101c) (l := [(0, codeAt F101c [1, 0, 0])]) (by kernel_rfl) (by kernel_rfl) (AllF.cons (F101_0_ok n) AllF.nil)) (F101_eq n)
noncomputable def E26 (n : Nat) : List (Ent G) := F101e n :: E25 n
theorem E26_ok (n : Nat) : AllE prog G (E26 n) := AllE.cons (F101_ok n) (E25_ok n)
-- 76 loop.example/slowworm/impl.parseNumber
noncomputable def F76c : Code := bodyOf Go.Proofs.Try.f76
noncomputable def F76_0x0 : SSh := ⟨70, [(2, (.ptr 0 0)), (3, .bool)], [(.box 100 (.cons .bool (.cons .nil0 .nil)))]⟩
noncomputable def F76_0x1 : SSh := ⟨70, [(2, (.ptr 0 0)), (6, (.ptr 1 0))], [(.box 100 (.cons .bool (.cons .nil0 .nil))), (.box 100 (.cons .bool (.cons (.own 2) .nil))), (.arr 0 true)]⟩
noncomputable def F76_0s : SSh := ⟨70, [(2, (.ptr 0 0)), (4, .str), (6, (.ptr 1 0)), (7, (.int .i64))], [(.box 100 (.cons .bool (.cons .nil0 .nil))), (.box 100 (.cons .bool (.cons (.own 2) .nil))), (.arr 0 true)]⟩
noncomputable def F76_0_step {R : Type} (n : Nat) (k0 : Bool → Bool → Option R) (k1 : Bool → Bool → List Int → Option R) (rec : ByteArray → Int → Bool → Bool → List Int → Option R) (x1268 : ByteArray) (x1269 : Int) (x1270 : Bool) (x1271 : Bool) (x1272 : List Int) : Option R :=
  (bif (decide (x1269 ≥ (0 : Int))) then
  (bif (decide ((0 : Int) ≤ x1269)) then
  (bif (decide (x1269 < ((x1268.size) : Int))) then
  (bif (decide ((strOf x1268 (x1269.toNat)) < (48 : Int))) then
  (k0 false false)
  else (bif (decide ((0 : Int) ≤ x1269)) then
  (bif (decide (x1269 < ((x1268.size) : Int))) then
  (bif (decide ((strOf x1268 (x1269.toNat)) > (57 : Int))) then
  (k0 false false)
  else (bif (decide ((0 : Int) ≤ x1269)) then
  (bif (decide (x1269 < ((x1268.size) : Int))) then
  let v1281 := ((IntKind.wrap .i64 (IntKind.wrap .u8 ((strOf x1268 (x1269.toNat)) - (48 : Int)))) :: [])
  (bif (decide (((x1272.length) + (v1281.length)) ≤ (68719476736 : Nat))) then
  (rec x1268 (IntKind.wrap .i64 (x1269 - (1 : Int))) x1270 x1271 (x1272 ++ v1281))
  else none)
  else none)
  else none))
  else none)
  else none))
  else none)
  else none)
  else (k1 x1270 x1271 x1272))
noncomputable def F76_0_it {R : Type} (n : Nat) (k0 : Bool → Bool → Option R) (k1 : Bool → Bool → List Int → Option R) : Nat → ByteArray → Int → Bool → Bool → List Int → Option R
  | 0, _, _, _, _, _ => none
  | k + 1, x1268, x1269, x1270, x1271, x1272 => F76_0_step n k0 k1 (F76_0_it n k0 k1 k) x1268 x1269 x1270 x1271 x1272
noncomputable def F76_0 {R : Type} (n : Nat) (x1268 : ByteArray) (x1269 : Int) (x1270 : Bool) (x1271 : Bool) (x1272 : List Int) (k0 : Bool → Bool → Option R) (k1 : Bool → Bool → List Int → Option R) : Option R := F76_0_it n k0 k1 n x1268 x1269 x1270 x1271 x1272
noncomputable def F76_0z (n : Nat) : Sm G := inZ G 0 ⟨[2, 4, 6, 7], [(6, (.cell 1 (.own 0)))]⟩ F76_0s fun R x K => F76_0_it n (fun u0 u1 => K .ret (SSh.enc G F76_0x0 (((), (u0, ())), ((u1, ((), ())), ())))) (fun u0 u1 u2 => K (.exit 0) (SSh.enc G F76_0x1 (((), ((), ())), ((u0, ((), ())), ((u1, ((), ())), (u2, ())))))) n x.1.2.1 x.1.2.2.2.1 x.2.1.1 x.2.2.1.1 x.2.2.2.1
theorem F76_0_eq (n : Nat) (R : Type) (rec : SSh.den G F76_0s → Option R) (x : SSh.den G F76_0s) (K : AE → St G → Option R) :
  F76_0_step n (fun u0 u1 => K .ret (SSh.enc G F76_0x0 (((), (u0, ())), ((u1, ((), ())), ())))) (fun u0 u1 u2 => K (.exit 0) (SSh.enc G F76_0x1 (((), ((), ())), ((u0, ((), ())), ((u1, ((), ())), (u2, ())))))) (fun x1268 x1269 x1270 x1271 x1272 => rec (((), (x1268, ((), (x1269, ())))), ((x1270, ((), ())), ((x1271, ((), ())), (x1272, ()))))) x.1.2.1 x.1.2.2.2.1 x.2.1.1 x.2.2.1.1 x.2.2.2.1 = exec prog G (ro G (tabOf (E26 n)) (frOf []) R) 0 (codeAt F76c [1, 1, 1, 1, 0, 1, 0, 0]) .no (SSh.enc G F76_0s x) (kLoop G (ro G (tabOf (E26 n)) (frOf []) R) 0 ⟨[2, 4, 6, 7], [(6, (.cell 1 (.own 0)))]⟩ F76_0s ⟨⟨[2, 6], []⟩, ⟨[2, 3], []⟩, [(0, ⟨[2, 6], []⟩)]⟩ rec K) := by kernel_rfl
theorem F76_0_ok (n : Nat) : FragOK prog G 0 (codeAt F76c [1, 1, 1, 1, 0, 1, 0]) (F76_0z n) :=
  frag_loop (Z := fun R k (x : SSh.den G F76_0s) K => F76_0_it n (fun u0 u1 => K .ret (SSh.enc G F76_0x0 (((), (u0, ())), ((u1, ((), ())), ())))) (fun u0 u1 u2 => K (.exit 0) (SSh.enc G F76_0x1 (((), ((), ())), ((u0, ((), ())), ((u1, ((), ())), (u2, ())))))) k x.1.2.1 x.1.2.2.2.1 x.2.1.1 x.2.2.1.1 x.2.2.2.1) laws fnok (E26_ok n).tab (AllF.of (l := []) (by kernel_rfl) AllF.nil) (fun _ _ _ => rfl) (fun R k y K => F76_0_eq n R (fun (x : SSh.den G F76_0s) => F76_0_it n (fun u0 u1 => K .ret (SSh.enc G F76_0x0 (((), (u0, ())), ((u1, ((), ())), ())))) (fun u0 u1 u2 => K (.exit 0) (SSh.enc G F76_0x1 (((), ((), ())), ((u0, ((), ())), ((u1, ((), ())), (u2, ())))))) k x.1.2.1 x.1.2.2.2.1 x.2.1.1 x.2.2.1.1 x.2.2.2.1) y K) n
noncomputable def F76 (n : Nat) (a1256 : ByteArray) : Option (((Bool × (List Int × Unit)) × (Bool × Unit)) × Unit) :=
  (andThen (F100 n a1256 ({ data := #[45] } : ByteArray)) fun r1257 =>
  (bif (decide (((r1257.1.1.size) : Int) < (1 : Int))) then
  some (((false, ([], ())), (false, ())), ())
  else (bif (decide (((r1257.1.1.size) : Int) > (40 : Int))) then
  some (((false, ([], ())), (false, ())), ())
  else (bif (decide ((0 : Int) < ((r1257.1.1.size) : Int))) then
  (bif ((strOf r1257.1.1 (0 : Nat)) == (48 : Int)) then
  (bif (decide (((r1257.1.1.size) : Int) > (1 : Int))) then
  some (((false, ([], ())), (false, ())), ())
  else (bif r1257.1.2.1 then
  some (((false, ([], ())), (false, ())), ())
  else (F76_0 n r1257.1.1 (IntKind.wrap .i64 (((r1257.1.1.size) : Int) - (1 : Int))) false r1257.1.2.1 [] (fun z1284 z1285 =>
  some (((z1285, ([], ())), (z1284, ())), ())) (fun z1286 z1287 z1288 =>
  (andThen (F101 n z1288) fun r1289 =>
  some (((z1287, (r1289.1, ())), (true, ())), ()))))))
  else (F76_0 n r1257.1.1 (IntKind.wrap .i64 (((r1257.1.1.size) : Int) - (1 : Int))) false r1257.1.2.1 [] (fun z1292 z1293 =>
  some (((z1293, ([], ())), (z1292, ())), ())) (fun z1294 z1295 z1296 =>
  (andThen (F101 n z1296) fun r1297 =>
  some (((z1295, (r1297.1, ())), (true, ())), ())))))
  else none))))
noncomputable def F76e (n : Nat) : Ent G := ⟨76, (.cons .str .nil), [], (.tup (.cons (.agg (.cons .bool (.cons (.imm 0) .nil))) (.cons .bool .nil))), [], fun x y => F76 n x.1⟩
theorem F76_eq (n : Nat) (x : ShL.den G (.cons .str .nil)) (y : denO G []) : (F76e n).F x y = runFn prog G (ro G (tabOf (E26 n)) (frOf [F76_0z n]) _) Go.Proofs.Try.f76 (.nd .no (.nd .no (.nd .no (.nd .no (.nd (.nd .no (.nd (.use 0) .no)) .no))))) [(0, .fz), (1, .fz)] (ShL.enc G (.cons .str .nil) x) (encO G [] y) (decR (.tup (.cons (.agg (.cons .bool (.cons (.imm 0) .nil))) (.cons .bool .nil))) []) := by kernel_rfl
theorem F76_ok (n : Nat) : EntOK prog G (F76e n) :=
  ent_ok (fr := frOf [F76_0z n]) (ann := (.nd .no (.nd .no (.nd .no (.nd .no (.nd (.nd .no (.nd (.use 0) .no)) .no)))))) (frm := [(0, .fz), (1, .fz)]) laws fnok (E26_ok n).tab (e := F76e n) (fn := Go.Proofs.Try.f76) (by kernel_rfl) (AllF.ofB (cd := F76c) (l := [(0, codeAt F76c [1, 1, 1, 1, 0, 1, 0])]) (by kernel_rfl) (by kernel_rfl) (AllF.cons (F76_0_ok n) AllF.nil)) (F76_eq n)
noncomputable def E27 (n : Nat) : List (Ent G) := F76e n :: E26 n
theorem E27_ok (n : Nat) : AllE prog G (E27 n) := AllE.cons (F76_ok n) (E26_ok n)
noncomputable def F51 (n : Nat) (a1164 : ByteArray) : Option (Bool × Unit) :=
  (andThen (F76 n a1164) fun r1298 =>
  some (r1298.1.2.1, ()))
noncomputable def F51e (n : Nat) : Ent G := ⟨51, (.cons .str .nil), [], .bool, [], fun x y => F51 n x.1⟩
theorem F51_eq (n : Nat) (x : ShL.den G (.cons .str .nil)) (y : denO G []) : (F51e n).F x y = runFn prog G (ro G (tabOf (E27 n)) (frOf []) _) Go.Proofs.Try.f51 .no [(0, .fz)] (ShL.enc G (.cons .str .nil) x) (encO G [] y) (decR .bool []) := by kernel_rfl
theorem F51_ok (n : Nat) : EntOK prog G (F51e n) :=
  ent_ok (fr := frOf []) (ann := .no) (frm := [(0, .fz)]) laws fnok (E27_ok n).tab (e := F51e n) (fn := Go.Proofs.Try.f51) (by kernel_rfl) (AllF.ofB (cd := F51c) (l := []) (by kernel_rfl) (by kernel_rfl) AllF.nil) (F51_eq n)
noncomputable def E28 (n : Nat) : List (Ent G) := F51e n :: E27 n
theorem E28_ok (n : Nat) : AllE prog G (E28 n) := AllE.cons (F51_ok n) (E27_ok n)
noncomputable def F28 (n : Nat) (a1154 : List Obj) (a1155 : Int) (a1156 : ByteArray) (a1157 : Int) : Option (Bool × Unit) :=
  (bif (a1155 == (0 : Int)) then
  some (((a1155 == (0 : Int)) && ((a1156 == ({ data := #[] } : ByteArray)) && (a1157 == (0 : Int)))), ())
  else (bif (a1155 == (1 : Int)) then
  (bif ((a1156.toList) == (({ data := #[] } : ByteArray).toList)) then
  (andThen (F47 n a1157 (0 : Int) (1 : Int)) fun r1162 =>
  some (r1162.1, ()))
  else some (false, ()))
  else (bif (a1155 == (2 : Int)) then
  (andThen (F51 n a1156) fun r1299 =>
  (bif r1299.1 then
  some ((a1157 == (0 : Int)), ())
  else some (false, ())))
  else (bif (a1155 == (3 : Int)) then
  (bif (decide (((a1156.size) : Int) ≤ (400 : Int))) then
  some ((a1157 == (0 : Int)), ())
  else some (false, ()))
  else (bif (a1155 == (4 : Int)) then
  (bif ((a1156.toList) == (({ data := #[] } : ByteArray).toList)) then
  (andThen (F47 n a1157 (0 : Int) (IntKind.wrap .i64 (((a1154.length) : Int) - (1 : Int)))) fun r1309 =>
  some (r1309.1, ()))
  else some (false, ()))
  else some (false, ()))))))
noncomputable def F28e (n : Nat) : Ent G := ⟨28, (.cons (.agg (.cons (.imm 4) .nil)) (.cons (.agg (.cons (.int .i64) (.cons .str (.cons (.int .i64) .nil)))) .nil)), [], .bool, [], fun x y => F28 n x.1.1 x.2.1.1 x.2.1.2.1 x.2.1.2.2.1⟩
theorem F28_eq (n : Nat) (x : ShL.den G (.cons (.agg (.cons (.imm 4) .nil)) (.cons (.agg (.cons (.int .i64) (.cons .str (.cons (.int .i64) .nil)))) .nil))) (y : denO G []) : (F28e n).F x y = runFn prog G (ro G (tabOf (E28 n)) (frOf []) _) Go.Proofs.Try.f28 .no [(0, .fz)] (ShL.enc G (.cons (.agg (.cons (.imm 4) .nil)) (.cons (.agg (.cons (.int .i64) (.cons .str (.cons (.int .i64) .nil)))) .nil)) x) (encO G [] y) (decR .bool []) := by kernel_rfl
theorem F28_ok (n : Nat) : EntOK prog G (F28e n) :=
  ent_ok (fr := frOf []) (ann := .no) (frm := [(0, .fz)]) laws fnok (E28_ok n).tab (e := F28e n) (fn := Go.Proofs.Try.f28) (by kernel_rfl) (AllF.ofB (cd := F28c) (l := []) (by kernel_rfl) (by kernel_rfl) AllF.nil) (F28_eq n)
noncomputable def E29 (n : Nat) : List (Ent G) := F28e n :: E28 n
theorem E29_ok (n : Nat) : AllE prog G (E29 n) := AllE.cons (F28_ok n) (E28_ok n)
noncomputable def F39_0x0 : SSh := ⟨18, [(4, .bool)], []⟩
noncomputable def F39_0x1 : SSh := ⟨18, [], []⟩
noncomputable def F39_0s : SSh := ⟨18, [(2, (.ptr 0 0)), (7, (.imm 3)), (8, (.int .i64)), (9, (.int .i64))], [(.box 25 (.cons (.imm 4) .nil))]⟩
noncomputable def F39_0_step {R : Type} (n : Nat) (k0 : Bool → Option R) (k1 : Option R) (rec : List Val → Int → Int → List Obj → Option R) (x1145 : List Val) (x1146 : Int) (x1147 : Int) (x1148 : List Obj) : Option R :=
  (bif (decide (x1147 < x1146)) then
  (bif (decide ((0 : Int) ≤ x1147)) then
  (bif (decide (x1147 < ((x1145.length) : Int))) then
  let v1150 := (x1145.getD (x1147.toNat) (Val.mk (0 : Int) ({ data := #[] } : ByteArray) (0 : Int)))
  (andThen (F28 n x1148 v1150.kind v1150.text v1150.ref) fun r1310 =>
  (bif (!r1310.1) then
  (k0 false)
  else (rec x1145 x1146 (IntKind.wrap .i64 (x1147 + (1 : Int))) x1148)))
  else none)
  else none)
  else k1)
noncomputable def F39_0_it {R : Type} (n : Nat) (k0 : Bool → Option R) (k1 : Option R) : Nat → List Val → Int → Int → List Obj → Option R
  | 0, _, _, _, _ => none
  | k + 1, x1145, x1146, x1147, x1148 => F39_0_step n k0 k1 (F39_0_it n k0 k1 k) x1145 x1146 x1147 x1148
noncomputable def F39_0 {R : Type} (n : Nat) (x1145 : List Val) (x1146 : Int) (x1147 : Int) (x1148 : List Obj) (k0 : Bool → Option R) (k1 : Option R) : Option R := F39_0_it n k0 k1 n x1145 x1146 x1147 x1148
noncomputable def F39_0z (n : Nat) : Sm G := inZ G 0 ⟨[2, 7, 8, 9], []⟩ F39_0s fun R x K => F39_0_it n (fun u0 => K .ret (SSh.enc G F39_0x0 ((u0, ()), ()))) (K (.exit 0) (SSh.enc G F39_0x1 ((), ()))) n x.1.2.1 x.1.2.2.1 x.1.2.2.2.1 x.2.1.1
theorem F39_0_eq (n : Nat) (R : Type) (rec : SSh.den G F39_0s → Option R) (x : SSh.den G F39_0s) (K : AE → St G → Option R) :
  F39_0_step n (fun u0 => K .ret (SSh.enc G F39_0x0 ((u0, ()), ()))) (K (.exit 0) (SSh.enc G F39_0x1 ((), ()))) (fun x1145 x1146 x1147 x1148 => rec (((), (x1145, (x1146, (x1147, ())))), ((x1148, ()), ()))) x.1.2.1 x.1.2.2.1 x.1.2.2.2.1 x.2.1.1 = exec prog G (ro G (tabOf (E29 n)) (frOf []) R) 0 (codeAt F39c [1, 0, 1, 0, 0]) .no (SSh.enc G F39_0s x) (kLoop G (ro G (tabOf (E29 n)) (frOf []) R) 0 ⟨[2, 7, 8, 9], []⟩ F39_0s ⟨⟨[], []⟩, ⟨[4], []⟩, [(0, ⟨[], []⟩)]⟩ rec K) := by kernel_rfl
theorem F39_0_ok (n : Nat) : FragOK prog G 0 (codeAt F39c [1, 0, 1, 0]) (F39_0z n) :=
  frag_loop (Z := fun R k (x : SSh.den G F39_0s) K => F39_0_it n (fun u0 => K .ret (SSh.enc G F39_0x0 ((u0, ()), ()))) (K (.exit 0) (SSh.enc G F39_0x1 ((), ()))) k x.1.2.1 x.1.2.2.1 x.1.2.2.2.1 x.2.1.1) laws fnok (E29_ok n).tab (AllF.of (l := []) (by kernel_rfl) AllF.nil) (fun _ _ _ => rfl) (fun R k y K => F39_0_eq n R (fun (x : SSh.den G F39_0s) => F39_0_it n (fun u0 => K .ret (SSh.enc G F39_0x0 ((u0, ()), ()))) (K (.exit 0) (SSh.enc G F39_0x1 ((), ()))) k x.1.2.1 x.1.2.2.1 x.1.2.2.2.1 x.2.1.1) y K) n
noncomputable def F39 (n : Nat) (a1142 : List Obj) (a1143 : List Val) : Option (Bool × Unit) :=
  (F39_0 n a1143 ((a1143.length) : Int) (0 : Int) a1142 (fun z1313 =>
  some (z1313, ())) (
  some (true, ())))
noncomputable def F39e (n : Nat) : Ent G := ⟨39, (.cons (.agg (.cons (.imm 4) .nil)) (.cons (.imm 3) .nil)), [], .bool, [], fun x y => F39 n x.1.1 x.2.1⟩
theorem F39_eq (n : Nat) (x : ShL.den G (.cons (.agg (.cons (.imm 4) .nil)) (.cons (.imm 3) .nil))) (y : denO G []) : (F39e n).F x y = runFn prog G (ro G (tabOf (E29 n)) (frOf [F39_0z n]) _) Go.Proofs.Try.f39 (.nd .no (.nd (.nd .no (.nd (.use 0) .no)) .no)) [(0, .fz)] (ShL.enc G (.cons (.agg (.cons (.imm 4) .nil)) (.cons (.imm 3) .nil)) x) (encO G [] y) (decR .bool []) := by kernel_rfl
theorem F39_ok (n : Nat) : EntOK prog G (F39e n) :=
  ent_ok (fr := frOf [F39_0z n]) (ann := (.nd .no (.nd (.nd .no (.nd (.use 0) .no)) .no))) (frm := [(0, .fz)]) laws fnok (E29_ok n).tab (e := F39e n) (fn := Go.Proofs.Try.f39) (by kernel_rfl) (AllF.ofB (cd := F39c) (l := [(0, codeAt F39c [1, 0, 1, 0])]) (by kernel_rfl) (by kernel_rfl) (AllF.cons (F39_0_ok n) AllF.nil)) (F39_eq n)
noncomputable def E30 (n : Nat) : List (Ent G) := F39e n :: E29 n
theorem E30_ok (n : Nat) : AllE prog G (E30 n) := AllE.cons (F39_ok n) (E29_ok n)
-- 48 slices.Contains[[]string,string]
noncomputable def F48c : Code := bodyOf Go.Proofs.Try.f48
-- 71 slices.Index[[]string,string]
noncomputable def F71c : Code := bodyOf Go.Proofs.Try.f71
noncomputable def F71_0x0 : SSh := ⟨19, [(4, (.int .i64))], []⟩
noncomputable def F71_0x1 : SSh := ⟨19, [], []⟩
noncomputable def F71_0s : SSh := ⟨19, [(0, (.old 2)), (1, .str), (7, (.int .i64)), (8, (.int .i64))], []⟩
noncomputable def F71_0_step {R : Type} (n : Nat) (k0 : Int → Option R) (k1 : Option R) (rec : List ByteArray → ByteArray → Int → Int → Option R) (x1352 : List ByteArray) (x1353 : ByteArray) (x1354 : Int) (x1355 : Int) : Option R :=
  (bif (decide (x1355 < x1354)) then
  (bif (decide ((0 : Int) ≤ x1355)) then
  (bif (decide (x1355 < ((x1352.length) : Int))) then
  (bif ((x1353.toList) == ((x1352.getD (x1355.toNat) ({ data := #[] } : ByteArray)).toList)) then
  (k0 x1355)
  else (rec x1352 x1353 x1354 (IntKind.wrap .i64 (x1355 + (1 : Int)))))
  else none)
  else none)
  else k1)
noncomputable def F71_0_it {R : Type} (n : Nat) (k0 : Int → Option R) (k1 : Option R) : Nat → List ByteArray → ByteArray → Int → Int → Option R
  | 0, _, _, _, _ => none
  | k + 1, x1352, x1353, x1354, x1355 => F71_0_step n k0 k1 (F71_0_it n k0 k1 k) x1352 x1353 x1354 x1355
noncomputable def F71_0 {R : Type} (n : Nat) (x1352 : List ByteArray) (x1353 : ByteArray) (x1354 : Int) (x1355 : Int) (k0 : Int → Option R) (k1 : Option R) : Option R := F71_0_it n k0 k1 n x1352 x1353 x1354 x1355
noncomputable def F71_0z (n : Nat) : Sm G := inZ G 0 ⟨[0, 1, 7, 8], []⟩ F71_0s fun R x K => F71_0_it n (fun u0 => K .ret (SSh.enc G F71_0x0 ((u0, ()), ()))) (K (.exit 0) (SSh.enc G F71_0x1 ((), ()))) n x.1.1 x.1.2.1 x.1.2.2.1 x.1.2.2.2.1
theorem F71_0_eq (n : Nat) (R : Type) (rec : SSh.den G F71_0s → Option R) (x : SSh.den G F71_0s) (K : AE → St G → Option R) :
  F71_0_step n (fun u0 => K .ret (SSh.enc G F71_0x0 ((u0, ()), ()))) (K (.exit 0) (SSh.enc G F71_0x1 ((), ()))) (fun x1352 x1353 x1354 x1355 => rec ((x1352, (x1353, (x1354, (x1355, ())))), ())) x.1.1 x.1.2.1 x.1.2.2.1 x.1.2.2.2.1 = exec prog G (ro G (tabOf (E30 n)) (frOf []) R) 0 (codeAt F71c [1, 0, 1, 0, 0]) .no (SSh.enc G F71_0s x) (kLoop G (ro G (tabOf (E30 n)) (frOf []) R) 0 ⟨[0, 1, 7, 8], []⟩ F71_0s ⟨⟨[], []⟩, ⟨[4], []⟩, [(0, ⟨[], []⟩)]⟩ rec K) := by kernel_rfl
theorem F71_0_ok (n : Nat) : FragOK prog G 0 (codeAt F71c [1, 0, 1, 0]) (F71_0z n) :=
  frag_loop (Z := fun R k (x : SSh.den G F71_0s) K => F71_0_it n (fun u0 => K .ret (SSh.enc G F71_0x0 ((u0, ()), ()))) (K (.exit 0) (SSh.enc G F71_0x1 ((), ()))) k x.1.1 x.1.2.1 x.1.2.2.1 x.1.2.2.2.1) laws fnok (E30_ok n).tab (AllF.of (l := []) (by kernel_rfl) AllF.nil) (fun _ _ _ => rfl) (fun R k y K => F71_0_eq n R (fun (x : SSh.den G F71_0s) => F71_0_it n (fun u0 => K .ret (SSh.enc G F71_0x0 ((u0, ()), ()))) (K (.exit 0) (SSh.enc G F71_0x1 ((), ()))) k x.1.1 x.1.2.1 x.1.2.2.1 x.1.2.2.2.1) y K) n
noncomputable def F71 (n : Nat) (a1349 : List ByteArray) (a1350 : ByteArray) : Option (Int × Unit) :=
  (F71_0 n a1349 a1350 ((a1349.length) : Int) (0 : Int) (fun z1361 =>
  some (z1361, ())) (
  some ((-1 : Int), ())))
noncomputable def F71e (n : Nat) : Ent G := ⟨71, (.cons (.old 2) (.cons .str .nil)), [], (.int .i64), [], fun x y => F71 n x.1 x.2.1⟩
theorem F71_eq (n : Nat) (x : ShL.den G (.cons (.old 2) (.cons .str .nil))) (y : denO G []) : (F71e n).F x y = runFn prog G (ro G (tabOf (E30 n)) (frOf [F71_0z n]) _) Go.Proofs.Try.f71 (.nd .no (.nd (.nd .no (.nd (.use 0) .no)) .no)) [(0, .fz)] (ShL.enc G (.cons (.old 2) (.cons .str .nil)) x) (encO G [] y) (decR (.int .i64) []) := by kernel_rfl
theorem F71_ok (n : Nat) : EntOK prog G (F71e n) :=
  ent_ok (fr := frOf [F71_0z n]) (ann := (.nd .no (.nd (.nd .no (.nd (.use 0) .no)) .no))) (frm := [(0, .fz)]) laws fnok (E30_ok n).tab (e := F71e n) (fn := Go.Proofs.Try.f71) (by kernel_rfl) (AllF.ofB (cd := F71c) (l := [(0, codeAt F71c [1, 0, 1, 0])]) (by kernel_rfl) (by kernel_rfl) (AllF.cons (F71_0_ok n) AllF.nil)) (F71_eq n)
noncomputable def E31 (n : Nat) : List (Ent G) := F71e n :: E30 n
theorem E31_ok (n : Nat) : AllE prog G (E31 n) := AllE.cons (F71_ok n) (E30_ok n)
noncomputable def F48 (n : Nat) (a1347 : List ByteArray) (a1348 : ByteArray) : Option (Bool × Unit) :=
  (andThen (F71 n a1347 a1348) fun r1362 =>
  some ((decide (r1362.1 ≥ (0 : Int))), ()))
noncomputable def F48e (n : Nat) : Ent G := ⟨48, (.cons (.old 2) (.cons .str .nil)), [], .bool, [], fun x y => F48 n x.1 x.2.1⟩
theorem F48_eq (n : Nat) (x : ShL.den G (.cons (.old 2) (.cons .str .nil))) (y : denO G []) : (F48e n).F x y = runFn prog G (ro G (tabOf (E31 n)) (frOf []) _) Go.Proofs.Try.f48 .no [(0, .fz)] (ShL.enc G (.cons (.old 2) (.cons .str .nil)) x) (encO G [] y) (decR .bool []) := by kernel_rfl
theorem F48_ok (n : Nat) : EntOK prog G (F48e n) :=
  ent_ok (fr := frOf []) (ann := .no) (frm := [(0, .fz)]) laws fnok (E31_ok n).tab (e := F48e n) (fn := Go.Proofs.Try.f48) (by kernel_rfl) (AllF.ofB (cd := F48c) (l := []) (by kernel_rfl) (by kernel_rfl) AllF.nil) (F48_eq n)
noncomputable def E32 (n : Nat) : List (Ent G) := F48e n :: E31 n
theorem E32_ok (n : Nat) : AllE prog G (E32 n) := AllE.cons (F48_ok n) (E31_ok n)
noncomputable def F27_0x0 : SSh := ⟨224, [(4, .bool)], []⟩
noncomputable def F27_0x1 : SSh := ⟨224, [(2, (.ptr 0 0)), (3, (.ptr 1 0))], [(.box 25 (.cons (.imm 4) .nil)), (.box 51 (.cons (.int .i64) (.cons .str (.cons (.int .i64) (.cons (.imm 3) (.cons (.imm 3) (.cons (.imm 2) (.cons (.imm 3) .nil))))))))]⟩
noncomputable def F27_0s : SSh := ⟨224, [(2, (.ptr 0 0)), (3, (.ptr 1 0)), (69, (.imm 2)), (70, (.int .i64)), (71, (.int .i64))], [(.box 25 (.cons (.imm 4) .nil)), (.box 51 (.cons (.int .i64) (.cons .str (.cons (.int .i64) (.cons (.imm 3) (.cons (.imm 3) (.cons (.imm 2) (.cons (.imm 3) .nil))))))))]⟩
noncomputable def F27_0_step {R : Type} (n : Nat) (k0 : Bool → Option R) (k1 : List Obj → Int → ByteArray → Int → List Val → List Val → List ByteArray → List Val → Option R) (rec : List ByteArray → Int → Int → List Obj → Int → ByteArray → Int → List Val → List Val → List ByteArray → List Val → Option R) (x1332 : List ByteArray) (x1333 : Int) (x1334 : Int) (x1335 : List Obj) (x1336 : Int) (x1337 : ByteArray) (x1338 : Int) (x1339 : List Val) (x1340 : List Val) (x1341 : List ByteArray) (x1342 : List Val) : Option R :=
  (bif (decide (x1334 < x1333)) then
  (bif (decide ((0 : Int) ≤ x1334)) then
  (bif (decide (x1334 < ((x1332.length) : Int))) then
  (bif (decide ((0 : Int) ≤ x1334)) then
  (bif (decide (x1334 ≤ ((x1341.length) : Int))) then
  (andThen (F48 n ((x1341.take (x1334.toNat)).drop (0 : Nat)) (x1332.getD (x1334.toNat) ({ data := #[] } : ByteArray))) fun r1364 =>
  (bif r1364.1 then
  (k0 false)
  else (rec x1332 x1333 (IntKind.wrap .i64 (x1334 + (1 : Int))) x1335 x1336 x1337 x1338 x1339 x1340 x1341 x1342)))
  else none)
  else none)
  else none)
  else none)
  else (k1 x1335 x1336 x1337 x1338 x1339 x1340 x1341 x1342))
noncomputable def F27_0_it {R : Type} (n : Nat) (k0 : Bool → Option R) (k1 : List Obj → Int → ByteArray → Int → List Val → List Val → List ByteArray → List Val → Option R) : Nat → List ByteArray → Int → Int → List Obj → Int → ByteArray → Int → List Val → List Val → List ByteArray → List Val → Option R
  | 0, _, _, _, _, _, _, _, _, _, _, _ => none
  | k + 1, x1332, x1333, x1334, x1335, x1336, x1337, x1338, x1339, x1340, x1341, x1342 => F27_0_step n k0 k1 (F27_0_it n k0 k1 k) x1332 x1333 x1334 x1335 x1336 x1337 x1338 x1339 x1340 x1341 x1342
noncomputable def F27_0 {R : Type} (n : Nat) (x1332 : List ByteArray) (x1333 : Int) (x1334 : Int) (x1335 : List Obj) (x1336 : Int) (x1337 : ByteArray) (x1338 : Int) (x1339 : List Val) (x1340 : List Val) (x1341 : List ByteArray) (x1342 : List Val) (k0 : Bool → Option R) (k1 : List Obj → Int → ByteArray → Int → List Val → List Val → List ByteArray → List Val → Option R) : Option R := F27_0_it n k0 k1 n x1332 x1333 x1334 x1335 x1336 x1337 x1338 x1339 x1340 x1341 x1342
noncomputable def F27_0z (n : Nat) : Sm G := inZ G 0 ⟨[2, 3, 69, 70, 71], []⟩ F27_0s fun R x K => F27_0_it n (fun u0 => K .ret (SSh.enc G F27_0x0 ((u0, ()), ()))) (fun u0 u1 u2 u3 u4 u5 u6 u7 => K (.exit 0) (SSh.enc G F27_0x1 (((), ((), ())), ((u0, ()), ((u1, (u2, (u3, (u4, (u5, (u6, (u7, ()))))))), ()))))) n x.1.2.2.1 x.1.2.2.2.1 x.1.2.2.2.2.1 x.2.1.1 x.2.2.1.1 x.2.2.1.2.1 x.2.2.1.2.2.1 x.2.2.1.2.2.2.1 x.2.2.1.2.2.2.2.1 x.2.2.1.2.2.2.2.2.1 x.2.2.1.2.2.2.2.2.2.1
theorem F27_0_eq (n : Nat) (R : Type) (rec : SSh.den G F27_0s → Option R) (x : SSh.den G F27_0s) (K : AE → St G → Option R) :
  F27_0_step n (fun u0 => K .ret (SSh.enc G F27_0x0 ((u0, ()), ()))) (fun u0 u1 u2 u3 u4 u5 u6 u7 => K (.exit 0) (SSh.enc G F27_0x1 (((), ((), ())), ((u0, ()), ((u1, (u2, (u3, (u4, (u5, (u6, (u7, ()))))))), ()))))) (fun x1332 x1333 x1334 x1335 x1336 x1337 x1338 x1339 x1340 x1341 x1342 => rec (((), ((), (x1332, (x1333, (x1334, ()))))), ((x1335, ()), ((x1336, (x1337, (x1338, (x1339, (x1340, (x1341, (x1342, ()))))))), ())))) x.1.2.2.1 x.1.2.2.2.1 x.1.2.2.2.2.1 x.2.1.1 x.2.2.1.1 x.2.2.1.2.1 x.2.2.1.2.2.1 x.2.2.1.2.2.2.1 x.2.2.1.2.2.2.2.1 x.2.2.1.2.2.2.2.2.1 x.2.2.1.2.2.2.2.2.2.1 = exec prog G (ro G (tabOf (E32 n)) (frOf []) R) 0 (codeAt F27c [1, 1, 1, 0, 1, 0, 0]) .no (SSh.enc G F27_0s x) (kLoop G (ro G (tabOf (E32 n)) (frOf []) R) 0 ⟨[2, 3, 69, 70, 71], []⟩ F27_0s ⟨⟨[2, 3], []⟩, ⟨[4], []⟩, [(0, ⟨[2, 3], []⟩)]⟩ rec K) := by kernel_rfl
theorem F27_0_ok (n : Nat) : FragOK prog G 0 (codeAt F27c [1, 1, 1, 0, 1, 0]) (F27_0z n) :=
  frag_loop (Z := fun R k (x : SSh.den G F27_0s) K => F27_0_it n (fun u0 => K .ret (SSh.enc G F27_0x0 ((u0, ()), ()))) (fun u0 u1 u2 u3 u4 u5 u6 u7 => K (.exit 0) (SSh.enc G F27_0x1 (((), ((), ())), ((u0, ()), ((u1, (u2, (u3, (u4, (u5, (u6, (u7, ()))))))), ()))))) k x.1.2.2.1 x.1.2.2.2.1 x.1.2.2.2.2.1 x.2.1.1 x.2.2.1.1 x.2.2.1.2.1 x.2.2.1.2.2.1 x.2.2.1.2.2.2.1 x.2.2.1.2.2.2.2.1 x.2.2.1.2.2.2.2.2.1 x.2.2.1.2.2.2.2.2.2.1) laws fnok (E32_ok n).tab (AllF.of (l := []) (by kernel_rfl) AllF.nil) (fun _ _ _ => rfl) (fun R k y K => F27_0_eq n R (fun (x : SSh.den G F27_0s) => F27_0_it n (fun u0 => K .ret (SSh.enc G F27_0x0 ((u0, ()), ()))) (fun u0 u1 u2 u3 u4 u5 u6 u7 => K (.exit 0) (SSh.enc G F27_0x1 (((), ((), ())), ((u0, ()), ((u1, (u2, (u3, (u4, (u5, (u6, (u7, ()))))))), ()))))) k x.1.2.2.1 x.1.2.2.2.1 x.1.2.2.2.2.1 x.2.1.1 x.2.2.1.1 x.2.2.1.2.1 x.2.2.1.2.2.1 x.2.2.1.2.2.2.1 x.2.2.1.2.2.2.2.1 x.2.2.1.2.2.2.2.2.1 x.2.2.1.2.2.2.2.2.2.1) y K) n
-- 49 loop.example/slowworm/impl.NameOk
noncomputable def F49c : Code := bodyOf Go.Proofs.Try.f49
-- 72 loop.example/slowworm/impl.isDigit
noncomputable def F72c : Code := bodyOf Go.Proofs.Try.f72
noncomputable def F72 (n : Nat) (a1388 : Int) : Option (Bool × Unit) :=
  (bif (decide (a1388 ≥ (48 : Int))) then
  some ((decide (a1388 ≤ (57 : Int))), ())
  else some (false, ()))
noncomputable def F72e (n : Nat) : Ent G := ⟨72, (.cons (.int .u8) .nil), [], .bool, [], fun x y => F72 n x.1⟩
theorem F72_eq (n : Nat) (x : ShL.den G (.cons (.int .u8) .nil)) (y : denO G []) : (F72e n).F x y = runFn prog G (ro G (tabOf (E32 n)) (frOf []) _) Go.Proofs.Try.f72 .no [(0, .fz)] (ShL.enc G (.cons (.int .u8) .nil) x) (encO G [] y) (decR .bool []) := by kernel_rfl
theorem F72_ok (n : Nat) : EntOK prog G (F72e n) :=
  ent_ok (fr := frOf []) (ann := .no) (frm := [(0, .fz)]) laws fnok (E32_ok n).tab (e := F72e n) (fn := Go.Proofs.Try.f72) (by kernel_rfl) (AllF.ofB (cd := F72c) (l := []) (by kernel_rfl) (by kernel_rfl) AllF.nil) (F72_eq n)
noncomputable def E33 (n : Nat) : List (Ent G) := F72e n :: E32 n
theorem E33_ok (n : Nat) : AllE prog G (E33 n) := AllE.cons (F72_ok n) (E32_ok n)
-- 73 loop.example/slowworm/impl.IsKeyword
noncomputable def F73c : Code := bodyOf Go.Proofs.Try.f73
-- 99 loop.example/slowworm/impl.keywords
noncomputable def F99c : Code := bodyOf Go.Proofs.Try.f99
noncomputable def F99 (n : Nat)  : Option (List ByteArray × Unit) :=
  some ((({ data := #[78, 111, 110, 101] } : ByteArray) :: (({ data := #[84, 114, 117, 101] } : ByteArray) :: (({ data := #[70, 97, 108, 115, 101] } : ByteArray) :: (({ data := #[97, 110, 100] } : ByteArray) :: (({ data := #[111, 114] } : ByteArray) :: (({ data := #[110, 111, 116] } : ByteArray) :: (({ data := #[105, 110] } : ByteArray) :: (({ data := #[105, 115] } : ByteArray) :: (({ data := #[105, 102] } : ByteArray) :: (({ data := #[101, 108, 105, 102] } : ByteArray) :: (({ data := #[101, 108, 115, 101] } : ByteArray) :: (({ data := #[119, 104, 105, 108, 101] } : ByteArray) :: (({ data := #[102, 111, 114] } : ByteArray) :: (({ data := #[98, 114, 101, 97, 107] } : ByteArray) :: (({ data := #[99, 111, 110, 116, 105, 110, 117, 101] } : ByteArray) :: (({ data := #[112, 97, 115, 115] } : ByteArray) :: (({ data := #[100, 101, 102] } : ByteArray) :: (({ data := #[114, 101, 116, 117, 114, 110] } : ByteArray) :: (({ data := #[108, 97, 109, 98, 100, 97] } : ByteArray) :: (({ data := #[99, 108, 97, 115, 115] } : ByteArray) :: (({ data := #[116, 114, 121] } : ByteArray) :: (({ data := #[101, 120, 99, 101, 112, 116] } : ByteArray) :: (({ data := #[102, 105, 110, 97, 108, 108, 121] } : ByteArray) :: (({ data := #[114, 97, 105, 115, 101] } : ByteArray) :: (({ data := #[97, 115] } : ByteArray) :: (({ data := #[103, 108, 111, 98, 97, 108] } : ByteArray) :: (({ data := #[110, 111, 110, 108, 111, 99, 97, 108] } : ByteArray) :: (({ data := #[121, 105, 101, 108, 100] } : ByteArray) :: (({ data := #[105, 109, 112, 111, 114, 116] } : ByteArray) :: (({ data := #[100, 101, 108] } : ByteArray) :: (({ data := #[97, 115, 115, 101, 114, 116] } : ByteArray) :: []))))))))))))))))))))))))))))))), ())
noncomputable def F99e (n : Nat) : Ent G := ⟨99, .nil, [], (.imm 2), [], fun x y => F99 n⟩
theorem F99_eq (n : Nat) (x : ShL.den G .nil) (y : denO G []) : (F99e n).F x y = runFn prog G (ro G (tabOf (E33 n)) (frOf []) _) Go.Proofs.Try.f99 .no [(0, .fz)] (ShL.enc G .nil x) (encO G [] y) (decR (.imm 2) []) := by kernel_rfl
theorem F99_ok (n : Nat) : EntOK prog G (F99e n) :=
  ent_ok (fr := frOf []) (ann := .no) (frm := [(0, .fz)]) laws fnok (E33_ok n).tab (e := F99e n) (fn := Go.Proofs.Try.f99) (by kernel_rfl) (AllF.ofB (cd := F99c) (l := []) (by kernel_rfl) (by kernel_rfl) AllF.nil) (F99_eq n)
noncomputable def E34 (n : Nat) : List (Ent G) := F99e n :: E33 n
theorem E34_ok (n : Nat) : AllE prog G (E34 n) := AllE.cons (F99_ok n) (E33_ok n)
-- 48 slices.Contains[[]string,string]
noncomputable def F48v1c : Code := bodyOf Go.Proofs.Try.f48
-- 71 slices.Index[[]string,string]
noncomputable def F71v1c : Code := bodyOf Go.Proofs.Try.f71
noncomputable def F71v1_0x0 : SSh := ⟨19, [(4, (.int .i64))], []⟩
noncomputable def F71v1_0x1 : SSh := ⟨19, [], []⟩
noncomputable def F71v1_0s : SSh := ⟨19, [(0, (.imm 2)), (1, .str), (7, (.int .i64)), (8, (.int .i64))], []⟩
noncomputable def F71v1_0_step {R : Type} (n : Nat) (k0 : Int → Option R) (k1 : Option R) (rec : List ByteArray → ByteArray → Int → Int → Option R) (x1400 : List ByteArray) (x1401 : ByteArray) (x1402 : Int) (x1403 : Int) : Option R :=
  (bif (decide (x1403 < x1402)) then
  (bif (decide ((0 : Int) ≤ x1403)) then
  (bif (decide (x1403 < ((x1400.length) : Int))) then
  (bif ((x1401.toList) == ((x1400.getD (x1403.toNat) ({ data := #[] } : ByteArray)).toList)) then
  (k0 x1403)
  else (rec x1400 x1401 x1402 (IntKind.wrap .i64 (x1403 + (1 : Int)))))
  else none)
  else none)
  else k1)
noncomputable def F71v1_0_it {R : Type} (n : Nat) (k0 : Int → Option R) (k1 : Option R) : Nat → List ByteArray → ByteArray → Int → Int → Option R
  | 0, _, _, _, _ => none
  | k + 1, x1400, x1401, x1402, x1403 => F71v1_0_step n k0 k1 (F71v1_0_it n k0 k1 k) x1400 x1401 x1402 x1403
noncomputable def F71v1_0 {R : Type} (n : Nat) (x1400 : List ByteArray) (x1401 : ByteArray) (x1402 : Int) (x1403 : Int) (k0 : Int → Option R) (k1 : Option R) : Option R := F71v1_0_it n k0 k1 n x1400 x1401 x1402 x1403
noncomputable def F71v1_0z (n : Nat) : Sm G := inZ G 0 ⟨[0, 1, 7, 8], []⟩ F71v1_0s fun R x K => F71v1_0_it n (fun u0 => K .ret (SSh.enc G F71v1_0x0 ((u0, ()), ()))) (K (.exit 0) (SSh.enc G F71v1_0x1 ((), ()))) n x.1.1 x.1.2.1 x.1.2.2.1 x.1.2.2.2.1
theorem F71v1_0_eq (n : Nat) (R : Type) (rec : SSh.den G F71v1_0s → Option R) (x : SSh.den G F71v1_0s) (K : AE → St G → Option R) :
  F71v1_0_step n (fun u0 => K .ret (SSh.enc G F71v1_0x0 ((u0, ()), ()))) (K (.exit 0) (SSh.enc G F71v1_0x1 ((), ()))) (fun x1400 x1401 x1402 x1403 => rec ((x1400, (x1401, (x1402, (x1403, ())))), ())) x.1.1 x.1.2.1 x.1.2.2.1 x.1.2.2.2.1 = exec prog G (ro G (tabOf (E34 n)) (frOf []) R) 0 (codeAt F71v1c [1, 0, 1, 0, 0]) .no (SSh.enc G F71v1_0s x) (kLoop G (ro G (tabOf (E34 n)) (frOf []) R) 0 ⟨[0, 1, 7, 8], []⟩ F71v1_0s ⟨⟨[], []⟩, ⟨[4], []⟩, [(0, ⟨[], []⟩)]⟩ rec K) := by kernel_rfl
theorem F71v1_0_ok (n : Nat) : FragOK prog G 0 (codeAt F71v1c [1, 0, 1, 0]) (F71v1_0z n) :=
  frag_loop (Z := fun R k (x : SSh.den G F71v1_0s) K => F71v1_0_it n (fun u0 => K .ret (SSh.enc G F71v1_0x0 ((u0, ()), ()))) (K (.exit 0) (SSh.enc G F71v1_0x1 ((), ()))) k x.1.1 x.1.2.1 x.1.2.2.1 x.1.2.2.2.1) laws fnok (E34_ok n).tab (AllF.of (l := []) (by kernel_rfl) AllF.nil) (fun _ _ _ => rfl) (fun R k y K => F71v1_0_eq n R (fun (x : SSh.den G F71v1_0s) => F71v1_0_it n (fun u0 => K .ret (SSh.enc G F71v1_0x0 ((u0, ()), ()))) (K (.exit 0) (SSh.enc G F71v1_0x1 ((), ()))) k x.1.1 x.1.2.1 x.1.2.2.1 x.1.2.2.2.1) y K) n
noncomputable def F71v1 (n : Nat) (a1397 : List ByteArray) (a1398 : ByteArray) : Option (Int × Unit) :=
  (F71v1_0 n a1397 a1398 ((a1397.length) : Int) (0 : Int) (fun z1409 =>
  some (z1409, ())) (
  some ((-1 : Int), ())))
noncomputable def F71v1e (n : Nat) : Ent G := ⟨71, (.cons (.imm 2) (.cons .str .nil)), [], (.int .i64), [], fun x y => F71v1 n x.1 x.2.1⟩
theorem F71v1_eq (n : Nat) (x : ShL.den G (.cons (.imm 2) (.cons .str .nil))) (y : denO G []) : (F71v1e n).F x y = runFn prog G (ro G (tabOf (E34 n)) (frOf [F71v1_0z n]) _) Go.Proofs.Try.f71 (.nd .no (.nd (.nd .no (.nd (.use 0) .no)) .no)) [(0, .fz)] (ShL.enc G (.cons (.imm 2) (.cons .str .nil)) x) (encO G [] y) (decR (.int .i64) []) := by kernel_rfl
theorem F71v1_ok (n : Nat) : EntOK prog G (F71v1e n) :=
  ent_ok (fr := frOf [F71v1_0z n]) (ann := (.nd .no (.nd (.nd .no (.nd (.use 0) .no)) .no))) (frm := [(0, .fz)]) laws fnok (E34_ok n).tab (e := F71v1e n) (fn := Go.Proofs.Try.f71) (by kernel_rfl) (AllF.ofB (cd := F71v1c) (l := [(0, codeAt F71v1c [1, 0, 1, 0])]) (by kernel_rfl) (by kernel_rfl) (AllF.cons (F71v1_0_ok n) AllF.nil)) (F71v1_eq n)
noncomputable def E35 (n : Nat) : List (Ent G) := F71v1e n :: E34 n
theorem E35_ok (n : Nat) : AllE prog G (E35 n) := AllE.cons (F71v1_ok n) (E34_ok n)
noncomputable def F48v1 (n : Nat) (a1395 : List ByteArray) (a1396 : ByteArray) : Option (Bool × Unit) :=
  (andThen (F71v1 n a1395 a1396) fun r1410 =>
  some ((decide (r1410.1 ≥ (0 : Int))), ()))
noncomputable def F48v1e (n : Nat) : Ent G := ⟨48, (.cons (.imm 2) (.cons .str .nil)), [], .bool, [], fun x y => F48v1 n x.1 x.2.1⟩
theorem F48v1_eq (n : Nat) (x : ShL.den G (.cons (.imm 2) (.cons .str .nil))) (y : denO G []) : (F48v1e n).F x y = runFn prog G (ro G (tabOf (E35 n)) (frOf []) _) Go.Proofs.Try.f48 .no [(0, .fz)] (ShL.enc G (.cons (.imm 2) (.cons .str .nil)) x) (encO G [] y) (decR .bool []) := by kernel_rfl
theorem F48v1_ok (n : Nat) : EntOK prog G (F48v1e n) :=
  ent_ok (fr := frOf []) (ann := .no) (frm := [(0, .fz)]) laws fnok (E35_ok n).tab (e := F48v1e n) (fn := Go.Proofs.Try.f48) (by kernel_rfl) (AllF.ofB (cd := F48v1c) (l := []) (by kernel_rfl) (by kernel_rfl) AllF.nil) (F48v1_eq n)
noncomputable def E36 (n : Nat) : List (Ent G) := F48v1e n :: E35 n
theorem E36_ok (n : Nat) : AllE prog G (E36 n) := AllE.cons (F48v1_ok n) (E35_ok n)
noncomputable def F73 (n : Nat) (a1392 : ByteArray) : Option (Bool × Unit) :=
  (andThen (F99 n) fun r1394 =>
  (andThen (F48v1 n r1394.1 a1392) fun r1412 =>
  some (r1412.1, ())))
noncomputable def F73e (n : Nat) : Ent G := ⟨73, (.cons .str .nil), [], .bool, [], fun x y => F73 n x.1⟩
theorem F73_eq (n : Nat) (x : ShL.den G (.cons .str .nil)) (y : denO G []) : (F73e n).F x y = runFn prog G (ro G (tabOf (E36 n)) (frOf []) _) Go.Proofs.Try.f73 .no [(0, .fz)] (ShL.enc G (.cons .str .nil) x) (encO G [] y) (decR .bool []) := by kernel_rfl
theorem F73_ok (n : Nat) : EntOK prog G (F73e n) :=
  ent_ok (fr := frOf []) (ann := .no) (frm := [(0, .fz)]) laws fnok (E36_ok n).tab (e := F73e n) (fn := Go.Proofs.Try.f73) (by kernel_rfl) (AllF.ofB (cd := F73c) (l := []) (by kernel_rfl) (by kernel_rfl) AllF.nil) (F73_eq n)
noncomputable def E37 (n : Nat) : List (Ent G) := F73e n :: E36 n
theorem E37_ok (n : Nat) : AllE prog G (E37 n) := AllE.cons (F73_ok n) (E36_ok n)
-- 74 loop.example/slowworm/impl.isLetter
noncomputable def F74c : Code := bodyOf Go.Proofs.Try.f74
noncomputable def F74 (n : Nat) (a1420 : Int) : Option (Bool × Unit) :=
  (bif (a1420 == (95 : Int)) then
  some (true, ())
  else (bif (decide (a1420 ≥ (97 : Int))) then
  (bif (decide (a1420 ≤ (122 : Int))) then
  some (true, ())
  else (bif (decide (a1420 ≥ (65 : Int))) then
  some ((decide (a1420 ≤ (90 : Int))), ())
  else some (false, ())))
  else (bif (decide (a1420 ≥ (65 : Int))) then
  some ((decide (a1420 ≤ (90 : Int))), ())
  else some (false, ()))))
noncomputable def F74e (n : Nat) : Ent G := ⟨74, (.cons (.int .u8) .nil), [], .bool, [], fun x y => F74 n x.1⟩
theorem F74_eq (n : Nat) (x : ShL.den G (.cons (.int .u8) .nil)) (y : denO G []) : (F74e n).F x y = runFn prog G (ro G (tabOf (E37 n)) (frOf []) _) Go.Proofs.Try.f74 .no [(0, .fz)] (ShL.enc G (.cons (.int .u8) .nil) x) (encO G [] y) (decR .bool []) := by kernel_rfl
theorem F74_ok (n : Nat) : EntOK prog G (F74e n) :=
  ent_ok (fr := frOf []) (ann := .no) (frm := [(0, .fz)]) laws fnok (E37_ok n).tab (e := F74e n) (fn := Go.Proofs.Try.f74) (by kernel_rfl) (AllF.ofB (cd := F74c) (l := []) (by kernel_rfl) (by kernel_rfl) AllF.nil) (F74_eq n)
noncomputable def E38 (n : Nat) : List (Ent G) := F74e n :: E37 n
theorem E38_ok (n : Nat) : AllE prog G (E38 n) := AllE.cons (F74_ok n) (E37_ok n)
noncomputable def F49_0x0 : SSh := ⟨39, [(2, .bool)], []⟩
noncomputable def F49_0x1 : SSh := ⟨39, [], []⟩
noncomputable def F49_0s : SSh := ⟨39, [(0, .str), (22, (.int .i64)), (23, (.int .i64))], []⟩
noncomputable def F49_0_step {R : Type} (n : Nat) (k0 : Bool → Option R) (k1 : Option R) (rec : ByteArray → Int → Int → Option R) (x1415 : ByteArray) (x1416 : Int) (x1417 : Int) : Option R :=
  (bif (decide (x1417 < x1416)) then
  (bif (decide ((0 : Int) ≤ x1417)) then
  (bif (decide (x1417 < ((x1415.size) : Int))) then
  (andThen (F74 n (strOf x1415 (x1417.toNat))) fun r1428 =>
  (bif (!r1428.1) then
  (bif (decide ((0 : Int) ≤ x1417)) then
  (bif (decide (x1417 < ((x1415.size) : Int))) then
  (andThen (F72 n (strOf x1415 (x1417.toNat))) fun r1431 =>
  (bif (!r1431.1) then
  (k0 false)
  else (rec x1415 x1416 (IntKind.wrap .i64 (x1417 + (1 : Int))))))
  else none)
  else none)
  else (rec x1415 x1416 (IntKind.wrap .i64 (x1417 + (1 : Int))))))
  else none)
  else none)
  else k1)
noncomputable def F49_0_it {R : Type} (n : Nat) (k0 : Bool → Option R) (k1 : Option R) : Nat → ByteArray → Int → Int → Option R
  | 0, _, _, _ => none
  | k + 1, x1415, x1416, x1417 => F49_0_step n k0 k1 (F49_0_it n k0 k1 k) x1415 x1416 x1417
noncomputable def F49_0 {R : Type} (n : Nat) (x1415 : ByteArray) (x1416 : Int) (x1417 : Int) (k0 : Bool → Option R) (k1 : Option R) : Option R := F49_0_it n k0 k1 n x1415 x1416 x1417
noncomputable def F49_0z (n : Nat) : Sm G := inZ G 0 ⟨[0, 22, 23], []⟩ F49_0s fun R x K => F49_0_it n (fun u0 => K .ret (SSh.enc G F49_0x0 ((u0, ()), ()))) (K (.exit 0) (SSh.enc G F49_0x1 ((), ()))) n x.1.1 x.1.2.1 x.1.2.2.1
theorem F49_0_eq (n : Nat) (R : Type) (rec : SSh.den G F49_0s → Option R) (x : SSh.den G F49_0s) (K : AE → St G → Option R) :
  F49_0_step n (fun u0 => K .ret (SSh.enc G F49_0x0 ((u0, ()), ()))) (K (.exit 0) (SSh.enc G F49_0x1 ((), ()))) (fun x1415 x1416 x1417 => rec ((x1415, (x1416, (x1417, ()))), ())) x.1.1 x.1.2.1 x.1.2.2.1 = exec prog G (ro G (tabOf (E38 n)) (frOf []) R) 0 (codeAt F49c [1, 1, 0, 1, 0, 0]) .no (SSh.enc G F49_0s x) (kLoop G (ro G (tabOf (E38 n)) (frOf []) R) 0 ⟨[0, 22, 23], []⟩ F49_0s ⟨⟨[], []⟩, ⟨[2], []⟩, [(0, ⟨[], []⟩)]⟩ rec K) := by kernel_rfl
theorem F49_0_ok (n : Nat) : FragOK prog G 0 (codeAt F49c [1, 1, 0, 1, 0]) (F49_0z n) :=
  frag_loop (Z := fun R k (x : SSh.den G F49_0s) K => F49_0_it n (fun u0 => K .ret (SSh.enc G F49_0x0 ((u0, ()), ()))) (K (.exit 0) (SSh.enc G F49_0x1 ((), ()))) k x.1.1 x.1.2.1 x.1.2.2.1) laws fnok (E38_ok n).tab (AllF.of (l := []) (by kernel_rfl) AllF.nil) (fun _ _ _ => rfl) (fun R k y K => F49_0_eq n R (fun (x : SSh.den G F49_0s) => F49_0_it n (fun u0 => K .ret (SSh.enc G F49_0x0 ((u0, ()), ()))) (K (.exit 0) (SSh.enc G F49_0x1 ((), ()))) k x.1.1 x.1.2.1 x.1.2.2.1) y K) n
noncomputable def F49 (n : Nat) (a1382 : ByteArray) : Option (Bool × Unit) :=
  (bif (decide (((a1382.size) : Int) < (1 : Int))) then
  some (false, ())
  else (bif (decide (((a1382.size) : Int) > (12 : Int))) then
  some (false, ())
  else (bif (decide ((0 : Int) < ((a1382.size) : Int))) then
  (andThen (F72 n (strOf a1382 (0 : Nat))) fun r1391 =>
  (bif r1391.1 then
  some (false, ())
  else (andThen (F73 n a1382) fun r1413 =>
  (bif r1413.1 then
  some (false, ())
  else (F49_0 n a1382 ((a1382.size) : Int) (0 : Int) (fun z1435 =>
  some (z1435, ())) (
  some (true, ())))))))
  else none)))
noncomputable def F49e (n : Nat) : Ent G := ⟨49, (.cons .str .nil), [], .bool, [], fun x y => F49 n x.1⟩
theorem F49_eq (n : Nat) (x : ShL.den G (.cons .str .nil)) (y : denO G []) : (F49e n).F x y = runFn prog G (ro G (tabOf (E38 n)) (frOf [F49_0z n]) _) Go.Proofs.Try.f49 (.nd .no (.nd .no (.nd (.nd .no (.nd (.use 0) .no)) .no))) [(0, .fz)] (ShL.enc G (.cons .str .nil) x) (encO G [] y) (decR .bool []) := by kernel_rfl
theorem F49_ok (n : Nat) : EntOK prog G (F49e n) :=
  ent_ok (fr := frOf [F49_0z n]) (ann := (.nd .no (.nd .no (.nd (.nd .no (.nd (.use 0) .no)) .no)))) (frm := [(0, .fz)]) laws fnok (E38_ok n).tab (e := F49e n) (fn := Go.Proofs.Try.f49) (by kernel_rfl) (AllF.ofB (cd := F49c) (l := [(0, codeAt F49c [1, 1, 0, 1, 0])]) (by kernel_rfl) (by kernel_rfl) (AllF.cons (F49_0_ok n) AllF.nil)) (F49_eq n)
noncomputable def E39 (n : Nat) : List (Ent G) := F49e n :: E38 n
theorem E39_ok (n : Nat) : AllE prog G (E39 n) := AllE.cons (F49_ok n) (E38_ok n)
noncomputable def F27_1x0 : SSh := ⟨224, [(2, (.ptr 0 0)), (3, (.ptr 1 0)), (8, .bool), (9, .bool), (138, (.int .i64)), (158, .bool)], [(.box 25 (.cons (.imm 4) .nil)), (.box 51 (.cons (.int .i64) (.cons .str (.cons (.int .i64) (.cons (.imm 3) (.cons (.imm 3) (.cons (.imm 2) (.cons (.imm 3) .nil))))))))]⟩
noncomputable def F27_1s : SSh := ⟨224, [(2, (.ptr 0 0)), (3, (.ptr 1 0)), (8, .bool), (9, .bool), (138, (.int .i64))], [(.box 25 (.cons (.imm 4) .nil)), (.box 51 (.cons (.int .i64) (.cons .str (.cons (.int .i64) (.cons (.imm 3) (.cons (.imm 3) (.cons (.imm 2) (.cons (.imm 3) .nil))))))))]⟩
noncomputable def F27_1 {R : Type} (n : Nat) (x1457 : Bool) (x1458 : Bool) (x1459 : Int) (x1460 : List Obj) (x1461 : Int) (x1462 : ByteArray) (x1463 : Int) (x1464 : List Val) (x1465 : List Val) (x1466 : List ByteArray) (x1467 : List Val) (k0 : Bool → Bool → Int → Bool → List Obj → Int → ByteArray → Int → List Val → List Val → List ByteArray → List Val → Option R) : Option R :=
  (bif (x1459 == (7 : Int)) then
  (k0 x1457 x1458 x1459 true x1460 x1461 x1462 x1463 x1464 x1465 x1466 x1467)
  else (k0 x1457 x1458 x1459 (x1459 == (8 : Int)) x1460 x1461 x1462 x1463 x1464 x1465 x1466 x1467))
noncomputable def F27_1z (n : Nat) : Sm G := inZ G 0 ⟨[2, 3, 8, 9, 138], []⟩ F27_1s fun R x K => F27_1 n x.1.2.2.1 x.1.2.2.2.1 x.1.2.2.2.2.1 x.2.1.1 x.2.2.1.1 x.2.2.1.2.1 x.2.2.1.2.2.1 x.2.2.1.2.2.2.1 x.2.2.1.2.2.2.2.1 x.2.2.1.2.2.2.2.2.1 x.2.2.1.2.2.2.2.2.2.1 (fun u0 u1 u2 u3 u4 u5 u6 u7 u8 u9 u10 u11 => K .normal (SSh.enc G F27_1x0 (((), ((), (u0, (u1, (u2, (u3, ())))))), ((u4, ()), ((u5, (u6, (u7, (u8, (u9, (u10, (u11, ()))))))), ())))))
theorem F27_1_eq (n : Nat) (R : Type) (x : SSh.den G F27_1s) (K : AE → St G → Option R) :
  F27_1 n x.1.2.2.1 x.1.2.2.2.1 x.1.2.2.2.2.1 x.2.1.1 x.2.2.1.1 x.2.2.1.2.1 x.2.2.1.2.2.1 x.2.2.1.2.2.2.1 x.2.2.1.2.2.2.2.1 x.2.2.1.2.2.2.2.2.1 x.2.2.1.2.2.2.2.2.2.1 (fun u0 u1 u2 u3 u4 u5 u6 u7 u8 u9 u10 u11 => K .normal (SSh.enc G F27_1x0 (((), ((), (u0, (u1, (u2, (u3, ())))))), ((u4, ()), ((u5, (u6, (u7, (u8, (u9, (u10, (u11, ()))))))), ()))))) = exec prog G (ro G (tabOf (E39 n)) (frOf [F27_0z n]) R) 0 (codeAt F27c [1, 1, 1, 1, 1, 1, 1, 1, 0, 1, 0, 1, 1, 1, 1, 0]) .no (SSh.enc G F27_1s x) (kNrm G (ro G (tabOf (E39 n)) (frOf [F27_0z n]) R) 0 ⟨⟨[2, 3, 8, 9, 138, 158], []⟩, ⟨[4], []⟩, [(2, ⟨[], []⟩)]⟩ K) := by kernel_rfl
theorem F27_1_ok (n : Nat) : FragOK prog G 0 (codeAt F27c [1, 1, 1, 1, 1, 1, 1, 1, 0, 1, 0, 1, 1, 1, 1, 0]) (F27_1z n) :=
  frag_plain laws fnok (E39_ok n).tab (AllF.of (l := []) (by kernel_rfl) AllF.nil) (F27_1_eq n)
-- 50 slices.Contains[[]loop.example/slowworm/impl.Value,loop.example/slowworm/impl.Value]
end Go.Proofs.Ytfknenaecihchaa.Am
