/- The functions of the seat of heaps, printed. -/
import Derived.Test.YtfknenaecihchaaAmBldO
namespace Go.Proofs.Ytfknenaecihchaa.Am
open Go Go.Proofs.Try
set_option autoImplicit false
set_option linter.unusedVariables false
set_option maxRecDepth 100000
noncomputable def E0 (n : Nat) : List (Ent G) := [L102e, L53e]
theorem E0_ok (n : Nat) : AllE prog G (E0 n) := AllE.cons L102_ok (AllE.cons L53_ok AllE.nil)
-- 3 loop.example/slowworm/laws.FnHeapNewShows
noncomputable def F3c : Code := bodyOf Go.Proofs.Try.f3
-- 22 loop.example/slowworm/impl.errorNames
noncomputable def F22c : Code := bodyOf Go.Proofs.Try.f22
noncomputable def F22 (n : Nat)  : Option (List ByteArray × Unit) :=
  some ((({ data := #[69, 114, 114, 111, 114] } : ByteArray) :: (({ data := #[84, 121, 112, 101, 69, 114, 114, 111, 114] } : ByteArray) :: (({ data := #[78, 97, 109, 101, 69, 114, 114, 111, 114] } : ByteArray) :: (({ data := #[86, 97, 108, 117, 101, 69, 114, 114, 111, 114] } : ByteArray) :: (({ data := #[73, 110, 100, 101, 120, 69, 114, 114, 111, 114] } : ByteArray) :: (({ data := #[75, 101, 121, 69, 114, 114, 111, 114] } : ByteArray) :: (({ data := #[90, 101, 114, 111, 69, 114, 114, 111, 114] } : ByteArray) :: (({ data := #[65, 116, 116, 114, 69, 114, 114, 111, 114] } : ByteArray) :: (({ data := #[83, 105, 122, 101, 69, 114, 114, 111, 114] } : ByteArray) :: (({ data := #[83, 116, 111, 112, 69, 114, 114, 111, 114] } : ByteArray) :: (({ data := #[82, 117, 110, 69, 114, 114, 111, 114] } : ByteArray) :: (({ data := #[73, 109, 112, 111, 114, 116, 69, 114, 114, 111, 114] } : ByteArray) :: (({ data := #[65, 115, 115, 101, 114, 116, 69, 114, 114, 111, 114] } : ByteArray) :: []))))))))))))), ())
noncomputable def F22e (n : Nat) : Ent G := ⟨22, .nil, [], (.imm 2), [], fun x y => F22 n⟩
theorem F22_eq (n : Nat) (x : ShL.den G .nil) (y : denO G []) : (F22e n).F x y = runFn prog G (ro G (tabOf (E0 n)) (frOf []) _) Go.Proofs.Try.f22 .no [(0, .fz)] (ShL.enc G .nil x) (encO G [] y) (decR (.imm 2) []) := by kernel_rfl
theorem F22_ok (n : Nat) : EntOK prog G (F22e n) :=
  ent_ok (fr := frOf []) (ann := .no) (frm := [(0, .fz)]) laws fnok (E0_ok n).tab (e := F22e n) (fn := Go.Proofs.Try.f22) (by kernel_rfl) (AllF.ofB (cd := F22c) (l := []) (by kernel_rfl) (by kernel_rfl) AllF.nil) (F22_eq n)
noncomputable def E1 (n : Nat) : List (Ent G) := F22e n :: E0 n
theorem E1_ok (n : Nat) : AllE prog G (E1 n) := AllE.cons (F22_ok n) (E0_ok n)
-- 23 loop.example/slowworm/impl.refTo
noncomputable def F23c : Code := bodyOf Go.Proofs.Try.f23
noncomputable def F23 (n : Nat) (a15 : Int) : Option ((Int × (ByteArray × (Int × Unit))) × Unit) :=
  some (((4 : Int), (({ data := #[] } : ByteArray), (a15, ()))), ())
noncomputable def F23e (n : Nat) : Ent G := ⟨23, (.cons (.int .i64) .nil), [], (.agg (.cons (.int .i64) (.cons .str (.cons (.int .i64) .nil)))), [], fun x y => F23 n x.1⟩
theorem F23_eq (n : Nat) (x : ShL.den G (.cons (.int .i64) .nil)) (y : denO G []) : (F23e n).F x y = runFn prog G (ro G (tabOf (E1 n)) (frOf []) _) Go.Proofs.Try.f23 .no [(0, .fz)] (ShL.enc G (.cons (.int .i64) .nil) x) (encO G [] y) (decR (.agg (.cons (.int .i64) (.cons .str (.cons (.int .i64) .nil)))) []) := by kernel_rfl
theorem F23_ok (n : Nat) : EntOK prog G (F23e n) :=
  ent_ok (fr := frOf []) (ann := .no) (frm := [(0, .fz)]) laws fnok (E1_ok n).tab (e := F23e n) (fn := Go.Proofs.Try.f23) (by kernel_rfl) (AllF.ofB (cd := F23c) (l := []) (by kernel_rfl) (by kernel_rfl) AllF.nil) (F23_eq n)
noncomputable def E2 (n : Nat) : List (Ent G) := F23e n :: E1 n
theorem E2_ok (n : Nat) : AllE prog G (E2 n) := AllE.cons (F23_ok n) (E1_ok n)
-- 7 loop.example/slowworm/impl.HeapNew
noncomputable def F7c : Code := bodyOf Go.Proofs.Try.f7
noncomputable def F7_0x0 : SSh := ⟨53, [(0, (.ptr 0 0)), (1, (.ptr 1 0)), (4, (.ptr 2 0)), (8, (.imm 2)), (9, (.int .i64)), (10, (.int .i64))], [(.box 25 (.cons .nil0 .nil)), (.box 25 (.cons (.own 3) .nil)), (.box 51 (.cons (.int .i64) (.cons .str (.cons (.int .i64) (.cons (.own 4) (.cons (.own 5) (.cons .nil0 (.cons .nil0 .nil)))))))), (.arr 4 true), (.arr 3 true), (.arr 3 true)]⟩
noncomputable def F7_0x1 : SSh := ⟨53, [(0, (.ptr 0 0)), (1, (.ptr 1 0)), (4, (.ptr 2 0)), (8, (.imm 2)), (9, (.int .i64)), (10, (.int .i64))], [(.box 25 (.cons .nil0 .nil)), (.box 25 (.cons (.own 3) .nil)), (.box 51 (.cons (.int .i64) (.cons .str (.cons (.int .i64) (.cons (.own 4) (.cons .nil0 (.cons .nil0 (.cons .nil0 .nil)))))))), (.arr 4 true), (.arr 3 true)]⟩
noncomputable def F7_0s : SSh := ⟨53, [(0, (.ptr 0 0)), (1, (.ptr 1 0)), (2, (.int .i64)), (4, (.ptr 2 0)), (8, (.imm 2)), (9, (.int .i64)), (10, (.int .i64))], [(.box 25 (.cons .nil0 .nil)), (.box 25 (.cons (.own 3) .nil)), (.box 51 (.cons (.int .i64) (.cons .str (.cons (.int .i64) (.cons (.own 4) (.cons .nil0 (.cons .nil0 (.cons .nil0 .nil)))))))), (.arr 4 true), (.arr 3 true)]⟩
noncomputable def F7_0 {R : Type} (n : Nat) (x71 : Int) (x72 : List ByteArray) (x73 : Int) (x74 : Int) (x75 : Int) (x76 : ByteArray) (x77 : Int) (x78 : List Obj) (x79 : List Val) (k0 : List ByteArray → Int → Int → Int → ByteArray → Int → List Obj → List Val → List Val → Option R) (k1 : List ByteArray → Int → Int → Int → ByteArray → Int → List Obj → List Val → Option R) : Option R :=
  (bif (decide (x71 > (0 : Int))) then
  (andThen (F23 n (0 : Int)) fun r81 =>
  (andThen (F23 n (0 : Int)) fun r83 =>
  let v84 := ((Val.mk r83.1.1 r83.1.2.1 r83.1.2.2.1) :: [])
  (bif (decide (((x79.length) + (v84.length)) ≤ (68719476736 : Nat))) then
  (k0 x72 x73 x74 x75 x76 x77 x78 (x79 ++ v84) ((Val.mk r81.1.1 r81.1.2.1 r81.1.2.2.1) :: []))
  else none)))
  else (k1 x72 x73 x74 x75 x76 x77 x78 x79))
noncomputable def F7_0z (n : Nat) : Sm G := inZ G 0 ⟨[0, 1, 2, 4, 8, 9, 10], []⟩ F7_0s fun R x K => F7_0 n x.1.2.2.1 x.1.2.2.2.2.1 x.1.2.2.2.2.2.1 x.1.2.2.2.2.2.2.1 x.2.2.2.1.1 x.2.2.2.1.2.1 x.2.2.2.1.2.2.1 x.2.2.2.2.1 x.2.2.2.2.2.1 (fun u0 u1 u2 u3 u4 u5 u6 u7 u8 => K .normal (SSh.enc G F7_0x0 (((), ((), ((), (u0, (u1, (u2, ())))))), (((), ()), (((), ()), ((u3, (u4, (u5, ((), ((), ((), ((), ()))))))), (u6, (u7, (u8, ()))))))))) (fun u0 u1 u2 u3 u4 u5 u6 u7 => K .normal (SSh.enc G F7_0x1 (((), ((), ((), (u0, (u1, (u2, ())))))), (((), ()), (((), ()), ((u3, (u4, (u5, ((), ((), ((), ((), ()))))))), (u6, (u7, ()))))))))
theorem F7_0_eq (n : Nat) (R : Type) (x : SSh.den G F7_0s) (K : AE → St G → Option R) :
  F7_0 n x.1.2.2.1 x.1.2.2.2.2.1 x.1.2.2.2.2.2.1 x.1.2.2.2.2.2.2.1 x.2.2.2.1.1 x.2.2.2.1.2.1 x.2.2.2.1.2.2.1 x.2.2.2.2.1 x.2.2.2.2.2.1 (fun u0 u1 u2 u3 u4 u5 u6 u7 u8 => K .normal (SSh.enc G F7_0x0 (((), ((), ((), (u0, (u1, (u2, ())))))), (((), ()), (((), ()), ((u3, (u4, (u5, ((), ((), ((), ((), ()))))))), (u6, (u7, (u8, ()))))))))) (fun u0 u1 u2 u3 u4 u5 u6 u7 => K .normal (SSh.enc G F7_0x1 (((), ((), ((), (u0, (u1, (u2, ())))))), (((), ()), (((), ()), ((u3, (u4, (u5, ((), ((), ((), ((), ()))))))), (u6, (u7, ())))))))) = exec prog G (ro G (tabOf (E2 n)) (frOf []) R) 0 (codeAt F7c [1, 1, 0, 1, 0, 0, 1, 1, 0, 0, 1, 1, 0]) .no (SSh.enc G F7_0s x) (kNrm G (ro G (tabOf (E2 n)) (frOf []) R) 0 ⟨⟨[0, 1, 4, 8, 9, 10], []⟩, ⟨[0], []⟩, [(1, ⟨[0, 1, 8, 9, 10], []⟩), (0, ⟨[0, 1], []⟩)]⟩ K) := by kernel_rfl
theorem F7_0_ok (n : Nat) : FragOK prog G 0 (codeAt F7c [1, 1, 0, 1, 0, 0, 1, 1, 0, 0, 1, 1, 0]) (F7_0z n) :=
  frag_plain laws fnok (E2_ok n).tab (AllF.of (l := []) (by kernel_rfl) AllF.nil) (F7_0_eq n)
noncomputable def F7_1x0 : SSh := ⟨53, [(0, (.ptr 0 0)), (1, (.ptr 1 0)), (8, (.imm 2)), (9, (.int .i64)), (10, (.int .i64))], [(.box 25 (.cons .nil0 .nil)), (.box 25 (.cons (.own 2) .nil)), (.arr 4 true)]⟩
noncomputable def F7_1s : SSh := ⟨53, [(0, (.ptr 0 0)), (1, (.ptr 1 0)), (8, (.imm 2)), (9, (.int .i64)), (10, (.int .i64))], [(.box 25 (.cons .nil0 .nil)), (.box 25 (.cons (.own 2) .nil)), (.arr 4 true)]⟩
noncomputable def F7_1 {R : Type} (n : Nat) (x63 : List ByteArray) (x64 : Int) (x65 : Int) (x66 : List Obj) (k0 : List ByteArray → Int → Int → List Obj → Option R) : Option R :=
  (bif (decide ((0 : Int) ≤ x65)) then
  (bif (decide (x65 < ((x63.length) : Int))) then
  (andThen (F23 n x65) fun r69 =>
  (F7_0 n x65 x63 x64 x65 (5 : Int) (x63.getD (x65.toNat) ({ data := #[] } : ByteArray)) (0 : Int) x66 ((Val.mk r69.1.1 r69.1.2.1 r69.1.2.2.1) :: []) (fun z86 z87 z88 z89 z90 z91 z92 z93 z94 =>
  let v95 := ((Obj.mk z89 z90 z91 z93 z94 [] []) :: [])
  (bif (decide (((z92.length) + (v95.length)) ≤ (68719476736 : Nat))) then
  (k0 z86 z87 z88 (z92 ++ v95))
  else none)) (fun z97 z98 z99 z100 z101 z102 z103 z104 =>
  let v105 := ((Obj.mk z100 z101 z102 z104 [] [] []) :: [])
  (bif (decide (((z103.length) + (v105.length)) ≤ (68719476736 : Nat))) then
  (k0 z97 z98 z99 (z103 ++ v105))
  else none))))
  else none)
  else none)
noncomputable def F7_1z (n : Nat) : Sm G := inZ G 0 ⟨[0, 1, 8, 9, 10], []⟩ F7_1s fun R x K => F7_1 n x.1.2.2.1 x.1.2.2.2.1 x.1.2.2.2.2.1 x.2.2.2.1 (fun u0 u1 u2 u3 => K .normal (SSh.enc G F7_1x0 (((), ((), (u0, (u1, (u2, ()))))), (((), ()), (((), ()), (u3, ()))))))
theorem F7_1_eq (n : Nat) (R : Type) (x : SSh.den G F7_1s) (K : AE → St G → Option R) :
  F7_1 n x.1.2.2.1 x.1.2.2.2.1 x.1.2.2.2.2.1 x.2.2.2.1 (fun u0 u1 u2 u3 => K .normal (SSh.enc G F7_1x0 (((), ((), (u0, (u1, (u2, ()))))), (((), ()), (((), ()), (u3, ())))))) = exec prog G (ro G (tabOf (E2 n)) (frOf [F7_0z n]) R) 0 (codeAt F7c [1, 1, 0, 1, 0, 0, 1, 1, 0]) (.nd (.nd .no (.nd .no (.nd (.use 0) .no))) .no) (SSh.enc G F7_1s x) (kNrm G (ro G (tabOf (E2 n)) (frOf [F7_0z n]) R) 0 ⟨⟨[0, 1, 8, 9, 10], []⟩, ⟨[0], []⟩, [(0, ⟨[0, 1], []⟩)]⟩ K) := by kernel_rfl
theorem F7_1_ok (n : Nat) : FragOK prog G 0 (codeAt F7c [1, 1, 0, 1, 0, 0, 1, 1, 0]) (F7_1z n) :=
  frag_plain laws fnok (E2_ok n).tab (AllF.of (l := [(0, codeAt F7c [1, 1, 0, 1, 0, 0, 1, 1, 0, 0, 1, 1, 0])]) (by kernel_rfl) (AllF.cons (F7_0_ok n) AllF.nil)) (F7_1_eq n)
noncomputable def F7_2x0 : SSh := ⟨53, [(0, (.ptr 0 0)), (1, (.ptr 1 0))], [(.box 25 (.cons .nil0 .nil)), (.box 25 (.cons (.own 2) .nil)), (.arr 4 true)]⟩
noncomputable def F7_2s : SSh := ⟨53, [(0, (.ptr 0 0)), (1, (.ptr 1 0)), (8, (.imm 2)), (9, (.int .i64)), (10, (.int .i64))], [(.box 25 (.cons .nil0 .nil)), (.box 25 (.cons (.own 2) .nil)), (.arr 4 true)]⟩
noncomputable def F7_2_step {R : Type} (n : Nat) (k0 : List Obj → Option R) (rec : List ByteArray → Int → Int → List Obj → Option R) (x58 : List ByteArray) (x59 : Int) (x60 : Int) (x61 : List Obj) : Option R :=
  (bif (decide (x60 < x59)) then
  (F7_1 n x58 x59 x60 x61 (fun z107 z108 z109 z110 =>
  (rec z107 z108 (IntKind.wrap .i64 (z109 + (1 : Int))) z110)))
  else (k0 x61))
noncomputable def F7_2_it {R : Type} (n : Nat) (k0 : List Obj → Option R) : Nat → List ByteArray → Int → Int → List Obj → Option R
  | 0, _, _, _, _ => none
  | k + 1, x58, x59, x60, x61 => F7_2_step n k0 (F7_2_it n k0 k) x58 x59 x60 x61
noncomputable def F7_2 {R : Type} (n : Nat) (x58 : List ByteArray) (x59 : Int) (x60 : Int) (x61 : List Obj) (k0 : List Obj → Option R) : Option R := F7_2_it n k0 n x58 x59 x60 x61
noncomputable def F7_2z (n : Nat) : Sm G := inZ G 0 ⟨[0, 1, 8, 9, 10], [(1, (.cell 0 (.own 4)))]⟩ F7_2s fun R x K => F7_2_it n (fun u0 => K (.exit 0) (SSh.enc G F7_2x0 (((), ((), ())), (((), ()), (((), ()), (u0, ())))))) n x.1.2.2.1 x.1.2.2.2.1 x.1.2.2.2.2.1 x.2.2.2.1
theorem F7_2_eq (n : Nat) (R : Type) (rec : SSh.den G F7_2s → Option R) (x : SSh.den G F7_2s) (K : AE → St G → Option R) :
  F7_2_step n (fun u0 => K (.exit 0) (SSh.enc G F7_2x0 (((), ((), ())), (((), ()), (((), ()), (u0, ())))))) (fun x58 x59 x60 x61 => rec (((), ((), (x58, (x59, (x60, ()))))), (((), ()), (((), ()), (x61, ()))))) x.1.2.2.1 x.1.2.2.2.1 x.1.2.2.2.2.1 x.2.2.2.1 = exec prog G (ro G (tabOf (E2 n)) (frOf [F7_0z n, F7_1z n]) R) 0 (codeAt F7c [1, 1, 0, 1, 0, 0]) (.nd .no (.nd .no (.nd (.use 1) .no))) (SSh.enc G F7_2s x) (kLoop G (ro G (tabOf (E2 n)) (frOf [F7_0z n, F7_1z n]) R) 0 ⟨[0, 1, 8, 9, 10], [(1, (.cell 0 (.own 4)))]⟩ F7_2s ⟨⟨[0, 1], []⟩, ⟨[0], []⟩, [(0, ⟨[0, 1], []⟩)]⟩ rec K) := by kernel_rfl
theorem F7_2_ok (n : Nat) : FragOK prog G 0 (codeAt F7c [1, 1, 0, 1, 0]) (F7_2z n) :=
  frag_loop (Z := fun R k (x : SSh.den G F7_2s) K => F7_2_it n (fun u0 => K (.exit 0) (SSh.enc G F7_2x0 (((), ((), ())), (((), ()), (((), ()), (u0, ())))))) k x.1.2.2.1 x.1.2.2.2.1 x.1.2.2.2.2.1 x.2.2.2.1) laws fnok (E2_ok n).tab (AllF.of (l := [(1, codeAt F7c [1, 1, 0, 1, 0, 0, 1, 1, 0])]) (by kernel_rfl) (AllF.cons (F7_1_ok n) AllF.nil)) (fun _ _ _ => rfl) (fun R k y K => F7_2_eq n R (fun (x : SSh.den G F7_2s) => F7_2_it n (fun u0 => K (.exit 0) (SSh.enc G F7_2x0 (((), ((), ())), (((), ()), (((), ()), (u0, ())))))) k x.1.2.2.1 x.1.2.2.2.1 x.1.2.2.2.2.1 x.2.2.2.1) y K) n
-- 24 loop.example/slowworm/impl.builtNames
noncomputable def F24c : Code := bodyOf Go.Proofs.Try.f24
noncomputable def F24 (n : Nat)  : Option (List ByteArray × Unit) :=
  some ((({ data := #[112, 114, 105, 110, 116] } : ByteArray) :: (({ data := #[108, 101, 110] } : ByteArray) :: (({ data := #[114, 97, 110, 103, 101] } : ByteArray) :: (({ data := #[115, 116, 114] } : ByteArray) :: (({ data := #[110, 101, 120, 116] } : ByteArray) :: (({ data := #[105, 115, 97] } : ByteArray) :: [])))))), ())
noncomputable def F24e (n : Nat) : Ent G := ⟨24, .nil, [], (.imm 2), [], fun x y => F24 n⟩
theorem F24_eq (n : Nat) (x : ShL.den G .nil) (y : denO G []) : (F24e n).F x y = runFn prog G (ro G (tabOf (E2 n)) (frOf []) _) Go.Proofs.Try.f24 .no [(0, .fz)] (ShL.enc G .nil x) (encO G [] y) (decR (.imm 2) []) := by kernel_rfl
theorem F24_ok (n : Nat) : EntOK prog G (F24e n) :=
  ent_ok (fr := frOf []) (ann := .no) (frm := [(0, .fz)]) laws fnok (E2_ok n).tab (e := F24e n) (fn := Go.Proofs.Try.f24) (by kernel_rfl) (AllF.ofB (cd := F24c) (l := []) (by kernel_rfl) (by kernel_rfl) AllF.nil) (F24_eq n)
noncomputable def E3 (n : Nat) : List (Ent G) := F24e n :: E2 n
theorem E3_ok (n : Nat) : AllE prog G (E3 n) := AllE.cons (F24_ok n) (E2_ok n)
noncomputable def F7_3x0 : SSh := ⟨53, [(0, (.ptr 0 0)), (1, (.ptr 1 0))], [(.box 25 (.cons .nil0 .nil)), (.box 25 (.cons (.own 2) .nil)), (.arr 4 true)]⟩
noncomputable def F7_3s : SSh := ⟨53, [(0, (.ptr 0 0)), (1, (.ptr 1 0)), (38, (.imm 2)), (39, (.int .i64)), (40, (.int .i64))], [(.box 25 (.cons .nil0 .nil)), (.box 25 (.cons (.own 2) .nil)), (.arr 4 true)]⟩
noncomputable def F7_3_step {R : Type} (n : Nat) (k0 : List Obj → Option R) (rec : List ByteArray → Int → Int → List Obj → Option R) (x116 : List ByteArray) (x117 : Int) (x118 : Int) (x119 : List Obj) : Option R :=
  (bif (decide (x118 < x117)) then
  (bif (decide ((0 : Int) ≤ x118)) then
  (bif (decide (x118 < ((x116.length) : Int))) then
  let v123 := ((Obj.mk (10 : Int) (x116.getD (x118.toNat) ({ data := #[] } : ByteArray)) (0 : Int) [] [] [] []) :: [])
  (bif (decide (((x119.length) + (v123.length)) ≤ (68719476736 : Nat))) then
  (rec x116 x117 (IntKind.wrap .i64 (x118 + (1 : Int))) (x119 ++ v123))
  else none)
  else none)
  else none)
  else (k0 x119))
noncomputable def F7_3_it {R : Type} (n : Nat) (k0 : List Obj → Option R) : Nat → List ByteArray → Int → Int → List Obj → Option R
  | 0, _, _, _, _ => none
  | k + 1, x116, x117, x118, x119 => F7_3_step n k0 (F7_3_it n k0 k) x116 x117 x118 x119
noncomputable def F7_3 {R : Type} (n : Nat) (x116 : List ByteArray) (x117 : Int) (x118 : Int) (x119 : List Obj) (k0 : List Obj → Option R) : Option R := F7_3_it n k0 n x116 x117 x118 x119
noncomputable def F7_3z (n : Nat) : Sm G := inZ G 0 ⟨[0, 1, 38, 39, 40], []⟩ F7_3s fun R x K => F7_3_it n (fun u0 => K (.exit 2) (SSh.enc G F7_3x0 (((), ((), ())), (((), ()), (((), ()), (u0, ())))))) n x.1.2.2.1 x.1.2.2.2.1 x.1.2.2.2.2.1 x.2.2.2.1
theorem F7_3_eq (n : Nat) (R : Type) (rec : SSh.den G F7_3s → Option R) (x : SSh.den G F7_3s) (K : AE → St G → Option R) :
  F7_3_step n (fun u0 => K (.exit 2) (SSh.enc G F7_3x0 (((), ((), ())), (((), ()), (((), ()), (u0, ())))))) (fun x116 x117 x118 x119 => rec (((), ((), (x116, (x117, (x118, ()))))), (((), ()), (((), ()), (x119, ()))))) x.1.2.2.1 x.1.2.2.2.1 x.1.2.2.2.2.1 x.2.2.2.1 = exec prog G (ro G (tabOf (E3 n)) (frOf [F7_0z n, F7_1z n, F7_2z n]) R) 0 (codeAt F7c [1, 1, 1, 0, 1, 0, 0]) .no (SSh.enc G F7_3s x) (kLoop G (ro G (tabOf (E3 n)) (frOf [F7_0z n, F7_1z n, F7_2z n]) R) 0 ⟨[0, 1, 38, 39, 40], []⟩ F7_3s ⟨⟨[0, 1], []⟩, ⟨[0], []⟩, [(2, ⟨[0, 1], []⟩)]⟩ rec K) := by kernel_rfl
theorem F7_3_ok (n : Nat) : FragOK prog G 0 (codeAt F7c [1, 1, 1, 0, 1, 0]) (F7_3z n) :=
  frag_loop (Z := fun R k (x : SSh.den G F7_3s) K => F7_3_it n (fun u0 => K (.exit 2) (SSh.enc G F7_3x0 (((), ((), ())), (((), ()), (((), ()), (u0, ())))))) k x.1.2.2.1 x.1.2.2.2.1 x.1.2.2.2.2.1 x.2.2.2.1) laws fnok (E3_ok n).tab (AllF.of (l := []) (by kernel_rfl) AllF.nil) (fun _ _ _ => rfl) (fun R k y K => F7_3_eq n R (fun (x : SSh.den G F7_3s) => F7_3_it n (fun u0 => K (.exit 2) (SSh.enc G F7_3x0 (((), ((), ())), (((), ()), (((), ()), (u0, ())))))) k x.1.2.2.1 x.1.2.2.2.1 x.1.2.2.2.2.1 x.2.2.2.1) y K) n
noncomputable def F7 (n : Nat)  : Option ((List Obj × Unit) × Unit) :=
  (andThen (F22 n) fun r56 =>
  (F7_2 n r56.1 ((r56.1.length) : Int) (0 : Int) [] (fun z112 =>
  (andThen (F24 n) fun r114 =>
  (F7_3 n r114.1 ((r114.1.length) : Int) (0 : Int) z112 (fun z126 =>
  some ((z126, ()), ())))))))
noncomputable def F7e (n : Nat) : Ent G := ⟨7, .nil, [], (.agg (.cons (.imm 4) .nil)), [], fun x y => F7 n⟩
theorem F7_eq (n : Nat) (x : ShL.den G .nil) (y : denO G []) : (F7e n).F x y = runFn prog G (ro G (tabOf (E3 n)) (frOf [F7_0z n, F7_1z n, F7_2z n, F7_3z n]) _) Go.Proofs.Try.f7 (.nd .no (.nd .no (.nd (.nd .no (.nd (.use 2) .no)) (.nd (.nd .no (.nd (.use 3) .no)) .no)))) [(0, .fz)] (ShL.enc G .nil x) (encO G [] y) (decR (.agg (.cons (.imm 4) .nil)) []) := by kernel_rfl
theorem F7_ok (n : Nat) : EntOK prog G (F7e n) :=
  ent_ok (fr := frOf [F7_0z n, F7_1z n, F7_2z n, F7_3z n]) (ann := (.nd .no (.nd .no (.nd (.nd .no (.nd (.use 2) .no)) (.nd (.nd .no (.nd (.use 3) .no)) .no))))) (frm := [(0, .fz)]) laws fnok (E3_ok n).tab (e := F7e n) (fn := Go.Proofs.Try.f7) (by kernel_rfl) (AllF.ofB (cd := F7c) (l := [(2, codeAt F7c [1, 1, 0, 1, 0]), (3, codeAt F7c [1, 1, 1, 0, 1, 0])]) (by kernel_rfl) (by kernel_rfl) (AllF.cons (F7_2_ok n) (AllF.cons (F7_3_ok n) AllF.nil))) (F7_eq n)
noncomputable def E4 (n : Nat) : List (Ent G) := F7e n :: E3 n
theorem E4_ok (n : Nat) : AllE prog G (E4 n) := AllE.cons (F7_ok n) (E3_ok n)
noncomputable def F3_0x0 : SSh := ⟨30, [(3, (.ptr 0 0)), (4, (.int .i64))], [(.box 25 (.cons (.imm 4) .nil))]⟩
noncomputable def F3_0s : SSh := ⟨30, [(0, (.imm 1)), (3, (.ptr 0 0)), (4, (.int .i64))], [(.box 25 (.cons (.imm 4) .nil))]⟩
noncomputable def F3_0 {R : Type} (n : Nat) (x128 : List Int) (x129 : Int) (x130 : List Obj) (k0 : Int → List Obj → Option R) : Option R :=
  (bif (decide (((x128.length) : Int) > (0 : Int))) then
  (bif (decide ((0 : Int) < ((x128.length) : Int))) then
  (k0 ((IntKind.wrap .i64 (x128.getD (0 : Nat) (0 : Int))).tmod (19 : Int)) x130)
  else none)
  else (k0 x129 x130))
noncomputable def F3_0z (n : Nat) : Sm G := inZ G 0 ⟨[0, 3, 4], []⟩ F3_0s fun R x K => F3_0 n x.1.1 x.1.2.2.1 x.2.1.1 (fun u0 u1 => K .normal (SSh.enc G F3_0x0 (((), (u0, ())), ((u1, ()), ()))))
theorem F3_0_eq (n : Nat) (R : Type) (x : SSh.den G F3_0s) (K : AE → St G → Option R) :
  F3_0 n x.1.1 x.1.2.2.1 x.2.1.1 (fun u0 u1 => K .normal (SSh.enc G F3_0x0 (((), (u0, ())), ((u1, ()), ())))) = exec prog G (ro G (tabOf (E4 n)) (frOf []) R) 0 (codeAt F3c [1, 1, 1, 1, 0]) .no (SSh.enc G F3_0s x) (kNrm G (ro G (tabOf (E4 n)) (frOf []) R) 0 ⟨⟨[3, 4], []⟩, ⟨[2], []⟩, []⟩ K) := by kernel_rfl
theorem F3_0_ok (n : Nat) : FragOK prog G 0 (codeAt F3c [1, 1, 1, 1, 0]) (F3_0z n) :=
  frag_plain laws fnok (E4_ok n).tab (AllF.of (l := []) (by kernel_rfl) AllF.nil) (F3_0_eq n)
-- 9 loop.example/slowworm/spec.HeapNew
noncomputable def F9c : Code := bodyOf Go.Proofs.Try.f9
-- 44 loop.example/slowworm/spec.errorNames
noncomputable def F44c : Code := bodyOf Go.Proofs.Try.f44
noncomputable def F44 (n : Nat)  : Option (List ByteArray × Unit) :=
  some ((({ data := #[69, 114, 114, 111, 114] } : ByteArray) :: (({ data := #[84, 121, 112, 101, 69, 114, 114, 111, 114] } : ByteArray) :: (({ data := #[78, 97, 109, 101, 69, 114, 114, 111, 114] } : ByteArray) :: (({ data := #[86, 97, 108, 117, 101, 69, 114, 114, 111, 114] } : ByteArray) :: (({ data := #[73, 110, 100, 101, 120, 69, 114, 114, 111, 114] } : ByteArray) :: (({ data := #[75, 101, 121, 69, 114, 114, 111, 114] } : ByteArray) :: (({ data := #[90, 101, 114, 111, 69, 114, 114, 111, 114] } : ByteArray) :: (({ data := #[65, 116, 116, 114, 69, 114, 114, 111, 114] } : ByteArray) :: (({ data := #[83, 105, 122, 101, 69, 114, 114, 111, 114] } : ByteArray) :: (({ data := #[83, 116, 111, 112, 69, 114, 114, 111, 114] } : ByteArray) :: (({ data := #[82, 117, 110, 69, 114, 114, 111, 114] } : ByteArray) :: (({ data := #[73, 109, 112, 111, 114, 116, 69, 114, 114, 111, 114] } : ByteArray) :: (({ data := #[65, 115, 115, 101, 114, 116, 69, 114, 114, 111, 114] } : ByteArray) :: []))))))))))))), ())
noncomputable def F44e (n : Nat) : Ent G := ⟨44, .nil, [], (.imm 2), [], fun x y => F44 n⟩
theorem F44_eq (n : Nat) (x : ShL.den G .nil) (y : denO G []) : (F44e n).F x y = runFn prog G (ro G (tabOf (E4 n)) (frOf []) _) Go.Proofs.Try.f44 .no [(0, .fz)] (ShL.enc G .nil x) (encO G [] y) (decR (.imm 2) []) := by kernel_rfl
theorem F44_ok (n : Nat) : EntOK prog G (F44e n) :=
  ent_ok (fr := frOf []) (ann := .no) (frm := [(0, .fz)]) laws fnok (E4_ok n).tab (e := F44e n) (fn := Go.Proofs.Try.f44) (by kernel_rfl) (AllF.ofB (cd := F44c) (l := []) (by kernel_rfl) (by kernel_rfl) AllF.nil) (F44_eq n)
noncomputable def E5 (n : Nat) : List (Ent G) := F44e n :: E4 n
theorem E5_ok (n : Nat) : AllE prog G (E5 n) := AllE.cons (F44_ok n) (E4_ok n)
-- 45 loop.example/slowworm/spec.refTo
noncomputable def F45c : Code := bodyOf Go.Proofs.Try.f45
noncomputable def F45 (n : Nat) (a149 : Int) : Option ((Int × (ByteArray × (Int × Unit))) × Unit) :=
  some (((4 : Int), (({ data := #[] } : ByteArray), (a149, ()))), ())
noncomputable def F45e (n : Nat) : Ent G := ⟨45, (.cons (.int .i64) .nil), [], (.agg (.cons (.int .i64) (.cons .str (.cons (.int .i64) .nil)))), [], fun x y => F45 n x.1⟩
theorem F45_eq (n : Nat) (x : ShL.den G (.cons (.int .i64) .nil)) (y : denO G []) : (F45e n).F x y = runFn prog G (ro G (tabOf (E5 n)) (frOf []) _) Go.Proofs.Try.f45 .no [(0, .fz)] (ShL.enc G (.cons (.int .i64) .nil) x) (encO G [] y) (decR (.agg (.cons (.int .i64) (.cons .str (.cons (.int .i64) .nil)))) []) := by kernel_rfl
theorem F45_ok (n : Nat) : EntOK prog G (F45e n) :=
  ent_ok (fr := frOf []) (ann := .no) (frm := [(0, .fz)]) laws fnok (E5_ok n).tab (e := F45e n) (fn := Go.Proofs.Try.f45) (by kernel_rfl) (AllF.ofB (cd := F45c) (l := []) (by kernel_rfl) (by kernel_rfl) AllF.nil) (F45_eq n)
noncomputable def E6 (n : Nat) : List (Ent G) := F45e n :: E5 n
theorem E6_ok (n : Nat) : AllE prog G (E6 n) := AllE.cons (F45_ok n) (E5_ok n)
-- 26 loop.example/slowworm/spec.newHeap
noncomputable def F26c : Code := bodyOf Go.Proofs.Try.f26
noncomputable def F26_0x0 : SSh := ⟨58, [(0, (.ptr 0 0)), (1, (.ptr 1 0)), (2, (.imm 2)), (3, (.int .i64)), (4, (.ptr 2 0))], [(.box 25 (.cons .nil0 .nil)), (.box 25 (.cons (.own 3) .nil)), (.box 51 (.cons (.int .i64) (.cons .str (.cons (.int .i64) (.cons (.own 4) (.cons (.own 5) (.cons .nil0 (.cons .nil0 .nil)))))))), (.arr 4 true), (.arr 3 true), (.arr 3 true)]⟩
noncomputable def F26_0x1 : SSh := ⟨58, [(0, (.ptr 0 0)), (1, (.ptr 1 0)), (2, (.imm 2)), (3, (.int .i64)), (4, (.ptr 2 0))], [(.box 25 (.cons .nil0 .nil)), (.box 25 (.cons (.own 3) .nil)), (.box 51 (.cons (.int .i64) (.cons .str (.cons (.int .i64) (.cons (.own 4) (.cons .nil0 (.cons .nil0 (.cons .nil0 .nil)))))))), (.arr 4 true), (.arr 3 true)]⟩
noncomputable def F26_0s : SSh := ⟨58, [(0, (.ptr 0 0)), (1, (.ptr 1 0)), (2, (.imm 2)), (3, (.int .i64)), (4, (.ptr 2 0))], [(.box 25 (.cons .nil0 .nil)), (.box 25 (.cons (.own 3) .nil)), (.box 51 (.cons (.int .i64) (.cons .str (.cons (.int .i64) (.cons (.own 4) (.cons .nil0 (.cons .nil0 (.cons .nil0 .nil)))))))), (.arr 4 true), (.arr 3 true)]⟩
noncomputable def F26_0 {R : Type} (n : Nat) (x198 : List ByteArray) (x199 : Int) (x200 : Int) (x201 : ByteArray) (x202 : Int) (x203 : List Obj) (x204 : List Val) (k0 : List ByteArray → Int → Int → ByteArray → Int → List Obj → List Val → List Val → Option R) (k1 : List ByteArray → Int → Int → ByteArray → Int → List Obj → List Val → Option R) : Option R :=
  (bif (decide (x199 > (0 : Int))) then
  (andThen (F45 n (0 : Int)) fun r206 =>
  (andThen (F45 n (0 : Int)) fun r208 =>
  let v209 := ((Val.mk r208.1.1 r208.1.2.1 r208.1.2.2.1) :: [])
  (bif (decide (((x204.length) + (v209.length)) ≤ (68719476736 : Nat))) then
  (k0 x198 x199 x200 x201 x202 x203 (x204 ++ v209) ((Val.mk r206.1.1 r206.1.2.1 r206.1.2.2.1) :: []))
  else none)))
  else (k1 x198 x199 x200 x201 x202 x203 x204))
noncomputable def F26_0z (n : Nat) : Sm G := inZ G 0 ⟨[0, 1, 2, 3, 4], []⟩ F26_0s fun R x K => F26_0 n x.1.2.2.1 x.1.2.2.2.1 x.2.2.2.1.1 x.2.2.2.1.2.1 x.2.2.2.1.2.2.1 x.2.2.2.2.1 x.2.2.2.2.2.1 (fun u0 u1 u2 u3 u4 u5 u6 u7 => K .normal (SSh.enc G F26_0x0 (((), ((), (u0, (u1, ((), ()))))), (((), ()), (((), ()), ((u2, (u3, (u4, ((), ((), ((), ((), ()))))))), (u5, (u6, (u7, ()))))))))) (fun u0 u1 u2 u3 u4 u5 u6 => K .normal (SSh.enc G F26_0x1 (((), ((), (u0, (u1, ((), ()))))), (((), ()), (((), ()), ((u2, (u3, (u4, ((), ((), ((), ((), ()))))))), (u5, (u6, ()))))))))
theorem F26_0_eq (n : Nat) (R : Type) (x : SSh.den G F26_0s) (K : AE → St G → Option R) :
  F26_0 n x.1.2.2.1 x.1.2.2.2.1 x.2.2.2.1.1 x.2.2.2.1.2.1 x.2.2.2.1.2.2.1 x.2.2.2.2.1 x.2.2.2.2.2.1 (fun u0 u1 u2 u3 u4 u5 u6 u7 => K .normal (SSh.enc G F26_0x0 (((), ((), (u0, (u1, ((), ()))))), (((), ()), (((), ()), ((u2, (u3, (u4, ((), ((), ((), ((), ()))))))), (u5, (u6, (u7, ()))))))))) (fun u0 u1 u2 u3 u4 u5 u6 => K .normal (SSh.enc G F26_0x1 (((), ((), (u0, (u1, ((), ()))))), (((), ()), (((), ()), ((u2, (u3, (u4, ((), ((), ((), ((), ()))))))), (u5, (u6, ())))))))) = exec prog G (ro G (tabOf (E6 n)) (frOf []) R) 0 (codeAt F26c [1, 1, 1, 0, 1, 0, 0, 1, 0, 0, 1, 0]) .no (SSh.enc G F26_0s x) (kNrm G (ro G (tabOf (E6 n)) (frOf []) R) 0 ⟨⟨[0, 1, 2, 3, 4], []⟩, ⟨[0], []⟩, [(1, ⟨[0, 1, 2, 3], []⟩), (0, ⟨[0, 1], []⟩)]⟩ K) := by kernel_rfl
theorem F26_0_ok (n : Nat) : FragOK prog G 0 (codeAt F26c [1, 1, 1, 0, 1, 0, 0, 1, 0, 0, 1, 0]) (F26_0z n) :=
  frag_plain laws fnok (E6_ok n).tab (AllF.of (l := []) (by kernel_rfl) AllF.nil) (F26_0_eq n)
noncomputable def F26_1x0 : SSh := ⟨58, [(0, (.ptr 0 0)), (1, (.ptr 1 0)), (2, (.imm 2)), (3, (.int .i64))], [(.box 25 (.cons .nil0 .nil)), (.box 25 (.cons (.own 2) .nil)), (.arr 4 true)]⟩
noncomputable def F26_1s : SSh := ⟨58, [(0, (.ptr 0 0)), (1, (.ptr 1 0)), (2, (.imm 2)), (3, (.int .i64))], [(.box 25 (.cons .nil0 .nil)), (.box 25 (.cons (.own 2) .nil)), (.arr 4 true)]⟩
noncomputable def F26_1 {R : Type} (n : Nat) (x191 : List ByteArray) (x192 : Int) (x193 : List Obj) (k0 : List ByteArray → Int → List Obj → Option R) : Option R :=
  (bif (decide ((0 : Int) ≤ x192)) then
  (bif (decide (x192 < ((x191.length) : Int))) then
  (andThen (F45 n x192) fun r196 =>
  (F26_0 n x191 x192 (5 : Int) (x191.getD (x192.toNat) ({ data := #[] } : ByteArray)) (0 : Int) x193 ((Val.mk r196.1.1 r196.1.2.1 r196.1.2.2.1) :: []) (fun z211 z212 z213 z214 z215 z216 z217 z218 =>
  let v219 := ((Obj.mk z213 z214 z215 z217 z218 [] []) :: [])
  (bif (decide (((z216.length) + (v219.length)) ≤ (68719476736 : Nat))) then
  (k0 z211 z212 (z216 ++ v219))
  else none)) (fun z221 z222 z223 z224 z225 z226 z227 =>
  let v228 := ((Obj.mk z223 z224 z225 z227 [] [] []) :: [])
  (bif (decide (((z226.length) + (v228.length)) ≤ (68719476736 : Nat))) then
  (k0 z221 z222 (z226 ++ v228))
  else none))))
  else none)
  else none)
noncomputable def F26_1z (n : Nat) : Sm G := inZ G 0 ⟨[0, 1, 2, 3], []⟩ F26_1s fun R x K => F26_1 n x.1.2.2.1 x.1.2.2.2.1 x.2.2.2.1 (fun u0 u1 u2 => K .normal (SSh.enc G F26_1x0 (((), ((), (u0, (u1, ())))), (((), ()), (((), ()), (u2, ()))))))
theorem F26_1_eq (n : Nat) (R : Type) (x : SSh.den G F26_1s) (K : AE → St G → Option R) :
  F26_1 n x.1.2.2.1 x.1.2.2.2.1 x.2.2.2.1 (fun u0 u1 u2 => K .normal (SSh.enc G F26_1x0 (((), ((), (u0, (u1, ())))), (((), ()), (((), ()), (u2, ())))))) = exec prog G (ro G (tabOf (E6 n)) (frOf [F26_0z n]) R) 0 (codeAt F26c [1, 1, 1, 0, 1, 0, 0, 1, 0]) (.nd (.nd .no (.nd (.use 0) .no)) .no) (SSh.enc G F26_1s x) (kNrm G (ro G (tabOf (E6 n)) (frOf [F26_0z n]) R) 0 ⟨⟨[0, 1, 2, 3], []⟩, ⟨[0], []⟩, [(0, ⟨[0, 1], []⟩)]⟩ K) := by kernel_rfl
theorem F26_1_ok (n : Nat) : FragOK prog G 0 (codeAt F26c [1, 1, 1, 0, 1, 0, 0, 1, 0]) (F26_1z n) :=
  frag_plain laws fnok (E6_ok n).tab (AllF.of (l := [(0, codeAt F26c [1, 1, 1, 0, 1, 0, 0, 1, 0, 0, 1, 0])]) (by kernel_rfl) (AllF.cons (F26_0_ok n) AllF.nil)) (F26_1_eq n)
noncomputable def F26_2x0 : SSh := ⟨58, [(0, (.ptr 0 0)), (1, (.ptr 1 0))], [(.box 25 (.cons .nil0 .nil)), (.box 25 (.cons (.own 2) .nil)), (.arr 4 true)]⟩
noncomputable def F26_2s : SSh := ⟨58, [(0, (.ptr 0 0)), (1, (.ptr 1 0)), (2, (.imm 2)), (3, (.int .i64))], [(.box 25 (.cons .nil0 .nil)), (.box 25 (.cons (.own 2) .nil)), (.arr 4 true)]⟩
noncomputable def F26_2_step {R : Type} (n : Nat) (k0 : List Obj → Option R) (rec : List ByteArray → Int → List Obj → Option R) (x186 : List ByteArray) (x187 : Int) (x188 : List Obj) : Option R :=
  (bif (decide (x187 < ((x186.length) : Int))) then
  (F26_1 n x186 x187 x188 (fun z230 z231 z232 =>
  (rec z230 (IntKind.wrap .i64 (z231 + (1 : Int))) z232)))
  else (k0 x188))
noncomputable def F26_2_it {R : Type} (n : Nat) (k0 : List Obj → Option R) : Nat → List ByteArray → Int → List Obj → Option R
  | 0, _, _, _ => none
  | k + 1, x186, x187, x188 => F26_2_step n k0 (F26_2_it n k0 k) x186 x187 x188
noncomputable def F26_2 {R : Type} (n : Nat) (x186 : List ByteArray) (x187 : Int) (x188 : List Obj) (k0 : List Obj → Option R) : Option R := F26_2_it n k0 n x186 x187 x188
noncomputable def F26_2z (n : Nat) : Sm G := inZ G 0 ⟨[0, 1, 2, 3], [(1, (.cell 0 (.own 4)))]⟩ F26_2s fun R x K => F26_2_it n (fun u0 => K (.exit 0) (SSh.enc G F26_2x0 (((), ((), ())), (((), ()), (((), ()), (u0, ())))))) n x.1.2.2.1 x.1.2.2.2.1 x.2.2.2.1
theorem F26_2_eq (n : Nat) (R : Type) (rec : SSh.den G F26_2s → Option R) (x : SSh.den G F26_2s) (K : AE → St G → Option R) :
  F26_2_step n (fun u0 => K (.exit 0) (SSh.enc G F26_2x0 (((), ((), ())), (((), ()), (((), ()), (u0, ())))))) (fun x186 x187 x188 => rec (((), ((), (x186, (x187, ())))), (((), ()), (((), ()), (x188, ()))))) x.1.2.2.1 x.1.2.2.2.1 x.2.2.2.1 = exec prog G (ro G (tabOf (E6 n)) (frOf [F26_0z n, F26_1z n]) R) 0 (codeAt F26c [1, 1, 1, 0, 1, 0, 0]) (.nd .no (.nd (.use 1) .no)) (SSh.enc G F26_2s x) (kLoop G (ro G (tabOf (E6 n)) (frOf [F26_0z n, F26_1z n]) R) 0 ⟨[0, 1, 2, 3], [(1, (.cell 0 (.own 4)))]⟩ F26_2s ⟨⟨[0, 1], []⟩, ⟨[0], []⟩, [(0, ⟨[0, 1], []⟩)]⟩ rec K) := by kernel_rfl
theorem F26_2_ok (n : Nat) : FragOK prog G 0 (codeAt F26c [1, 1, 1, 0, 1, 0]) (F26_2z n) :=
  frag_loop (Z := fun R k (x : SSh.den G F26_2s) K => F26_2_it n (fun u0 => K (.exit 0) (SSh.enc G F26_2x0 (((), ((), ())), (((), ()), (((), ()), (u0, ())))))) k x.1.2.2.1 x.1.2.2.2.1 x.2.2.2.1) laws fnok (E6_ok n).tab (AllF.of (l := [(1, codeAt F26c [1, 1, 1, 0, 1, 0, 0, 1, 0])]) (by kernel_rfl) (AllF.cons (F26_1_ok n) AllF.nil)) (fun _ _ _ => rfl) (fun R k y K => F26_2_eq n R (fun (x : SSh.den G F26_2s) => F26_2_it n (fun u0 => K (.exit 0) (SSh.enc G F26_2x0 (((), ((), ())), (((), ()), (((), ()), (u0, ())))))) k x.1.2.2.1 x.1.2.2.2.1 x.2.2.2.1) y K) n
-- 46 loop.example/slowworm/spec.builtNames
noncomputable def F46c : Code := bodyOf Go.Proofs.Try.f46
noncomputable def F46 (n : Nat)  : Option (List ByteArray × Unit) :=
  some ((({ data := #[112, 114, 105, 110, 116] } : ByteArray) :: (({ data := #[108, 101, 110] } : ByteArray) :: (({ data := #[114, 97, 110, 103, 101] } : ByteArray) :: (({ data := #[115, 116, 114] } : ByteArray) :: (({ data := #[110, 101, 120, 116] } : ByteArray) :: (({ data := #[105, 115, 97] } : ByteArray) :: [])))))), ())
noncomputable def F46e (n : Nat) : Ent G := ⟨46, .nil, [], (.imm 2), [], fun x y => F46 n⟩
theorem F46_eq (n : Nat) (x : ShL.den G .nil) (y : denO G []) : (F46e n).F x y = runFn prog G (ro G (tabOf (E6 n)) (frOf []) _) Go.Proofs.Try.f46 .no [(0, .fz)] (ShL.enc G .nil x) (encO G [] y) (decR (.imm 2) []) := by kernel_rfl
theorem F46_ok (n : Nat) : EntOK prog G (F46e n) :=
  ent_ok (fr := frOf []) (ann := .no) (frm := [(0, .fz)]) laws fnok (E6_ok n).tab (e := F46e n) (fn := Go.Proofs.Try.f46) (by kernel_rfl) (AllF.ofB (cd := F46c) (l := []) (by kernel_rfl) (by kernel_rfl) AllF.nil) (F46_eq n)
noncomputable def E7 (n : Nat) : List (Ent G) := F46e n :: E6 n
theorem E7_ok (n : Nat) : AllE prog G (E7 n) := AllE.cons (F46_ok n) (E6_ok n)
noncomputable def F26_3x0 : SSh := ⟨58, [(0, (.ptr 0 0)), (1, (.ptr 1 0))], [(.box 25 (.cons .nil0 .nil)), (.box 25 (.cons (.own 2) .nil)), (.arr 4 true)]⟩
noncomputable def F26_3s : SSh := ⟨58, [(0, (.ptr 0 0)), (1, (.ptr 1 0)), (5, (.imm 2)), (6, (.int .i64))], [(.box 25 (.cons .nil0 .nil)), (.box 25 (.cons (.own 2) .nil)), (.arr 4 true)]⟩
noncomputable def F26_3_step {R : Type} (n : Nat) (k0 : List Obj → Option R) (rec : List ByteArray → Int → List Obj → Option R) (x237 : List ByteArray) (x238 : Int) (x239 : List Obj) : Option R :=
  (bif (decide (x238 < ((x237.length) : Int))) then
  (bif (decide ((0 : Int) ≤ x238)) then
  (bif (decide (x238 < ((x237.length) : Int))) then
  let v244 := ((Obj.mk (10 : Int) (x237.getD (x238.toNat) ({ data := #[] } : ByteArray)) (0 : Int) [] [] [] []) :: [])
  (bif (decide (((x239.length) + (v244.length)) ≤ (68719476736 : Nat))) then
  (rec x237 (IntKind.wrap .i64 (x238 + (1 : Int))) (x239 ++ v244))
  else none)
  else none)
  else none)
  else (k0 x239))
noncomputable def F26_3_it {R : Type} (n : Nat) (k0 : List Obj → Option R) : Nat → List ByteArray → Int → List Obj → Option R
  | 0, _, _, _ => none
  | k + 1, x237, x238, x239 => F26_3_step n k0 (F26_3_it n k0 k) x237 x238 x239
noncomputable def F26_3 {R : Type} (n : Nat) (x237 : List ByteArray) (x238 : Int) (x239 : List Obj) (k0 : List Obj → Option R) : Option R := F26_3_it n k0 n x237 x238 x239
noncomputable def F26_3z (n : Nat) : Sm G := inZ G 0 ⟨[0, 1, 5, 6], []⟩ F26_3s fun R x K => F26_3_it n (fun u0 => K (.exit 2) (SSh.enc G F26_3x0 (((), ((), ())), (((), ()), (((), ()), (u0, ())))))) n x.1.2.2.1 x.1.2.2.2.1 x.2.2.2.1
theorem F26_3_eq (n : Nat) (R : Type) (rec : SSh.den G F26_3s → Option R) (x : SSh.den G F26_3s) (K : AE → St G → Option R) :
  F26_3_step n (fun u0 => K (.exit 2) (SSh.enc G F26_3x0 (((), ((), ())), (((), ()), (((), ()), (u0, ())))))) (fun x237 x238 x239 => rec (((), ((), (x237, (x238, ())))), (((), ()), (((), ()), (x239, ()))))) x.1.2.2.1 x.1.2.2.2.1 x.2.2.2.1 = exec prog G (ro G (tabOf (E7 n)) (frOf [F26_0z n, F26_1z n, F26_2z n]) R) 0 (codeAt F26c [1, 1, 1, 1, 1, 0, 1, 0, 0]) .no (SSh.enc G F26_3s x) (kLoop G (ro G (tabOf (E7 n)) (frOf [F26_0z n, F26_1z n, F26_2z n]) R) 0 ⟨[0, 1, 5, 6], []⟩ F26_3s ⟨⟨[0, 1], []⟩, ⟨[0], []⟩, [(2, ⟨[0, 1], []⟩)]⟩ rec K) := by kernel_rfl
theorem F26_3_ok (n : Nat) : FragOK prog G 0 (codeAt F26c [1, 1, 1, 1, 1, 0, 1, 0]) (F26_3z n) :=
  frag_loop (Z := fun R k (x : SSh.den G F26_3s) K => F26_3_it n (fun u0 => K (.exit 2) (SSh.enc G F26_3x0 (((), ((), ())), (((), ()), (((), ()), (u0, ())))))) k x.1.2.2.1 x.1.2.2.2.1 x.2.2.2.1) laws fnok (E7_ok n).tab (AllF.of (l := []) (by kernel_rfl) AllF.nil) (fun _ _ _ => rfl) (fun R k y K => F26_3_eq n R (fun (x : SSh.den G F26_3s) => F26_3_it n (fun u0 => K (.exit 2) (SSh.enc G F26_3x0 (((), ((), ())), (((), ()), (((), ()), (u0, ())))))) k x.1.2.2.1 x.1.2.2.2.1 x.2.2.2.1) y K) n
noncomputable def F26 (n : Nat)  : Option ((List Obj × Unit) × Unit) :=
  (andThen (F44 n) fun r185 =>
  (F26_2 n r185.1 (0 : Int) [] (fun z234 =>
  (andThen (F46 n) fun r236 =>
  (F26_3 n r236.1 (0 : Int) z234 (fun z247 =>
  some ((z247, ()), ())))))))
noncomputable def F26e (n : Nat) : Ent G := ⟨26, .nil, [], (.agg (.cons (.imm 4) .nil)), [], fun x y => F26 n⟩
theorem F26_eq (n : Nat) (x : ShL.den G .nil) (y : denO G []) : (F26e n).F x y = runFn prog G (ro G (tabOf (E7 n)) (frOf [F26_0z n, F26_1z n, F26_2z n, F26_3z n]) _) Go.Proofs.Try.f26 (.nd .no (.nd .no (.nd .no (.nd (.nd .no (.nd (.use 2) .no)) (.nd .no (.nd (.nd .no (.nd (.use 3) .no)) .no)))))) [(0, .fz)] (ShL.enc G .nil x) (encO G [] y) (decR (.agg (.cons (.imm 4) .nil)) []) := by kernel_rfl
theorem F26_ok (n : Nat) : EntOK prog G (F26e n) :=
  ent_ok (fr := frOf [F26_0z n, F26_1z n, F26_2z n, F26_3z n]) (ann := (.nd .no (.nd .no (.nd .no (.nd (.nd .no (.nd (.use 2) .no)) (.nd .no (.nd (.nd .no (.nd (.use 3) .no)) .no))))))) (frm := [(0, .fz)]) laws fnok (E7_ok n).tab (e := F26e n) (fn := Go.Proofs.Try.f26) (by kernel_rfl) (AllF.ofB (cd := F26c) (l := [(2, codeAt F26c [1, 1, 1, 0, 1, 0]), (3, codeAt F26c [1, 1, 1, 1, 1, 0, 1, 0])]) (by kernel_rfl) (by kernel_rfl) (AllF.cons (F26_2_ok n) (AllF.cons (F26_3_ok n) AllF.nil))) (F26_eq n)
noncomputable def E8 (n : Nat) : List (Ent G) := F26e n :: E7 n
theorem E8_ok (n : Nat) : AllE prog G (E8 n) := AllE.cons (F26_ok n) (E7_ok n)
noncomputable def F9 (n : Nat)  : Option ((List Obj × Unit) × Unit) :=
  (andThen (F26 n) fun r248 =>
  some ((r248.1.1, ()), ()))
noncomputable def F9e (n : Nat) : Ent G := ⟨9, .nil, [], (.agg (.cons (.imm 4) .nil)), [], fun x y => F9 n⟩
theorem F9_eq (n : Nat) (x : ShL.den G .nil) (y : denO G []) : (F9e n).F x y = runFn prog G (ro G (tabOf (E8 n)) (frOf []) _) Go.Proofs.Try.f9 .no [(0, .fz)] (ShL.enc G .nil x) (encO G [] y) (decR (.agg (.cons (.imm 4) .nil)) []) := by kernel_rfl
theorem F9_ok (n : Nat) : EntOK prog G (F9e n) :=
  ent_ok (fr := frOf []) (ann := .no) (frm := [(0, .fz)]) laws fnok (E8_ok n).tab (e := F9e n) (fn := Go.Proofs.Try.f9) (by kernel_rfl) (AllF.ofB (cd := F9c) (l := []) (by kernel_rfl) (by kernel_rfl) AllF.nil) (F9_eq n)
noncomputable def E9 (n : Nat) : List (Ent G) := F9e n :: E8 n
theorem E9_ok (n : Nat) : AllE prog G (E9 n) := AllE.cons (F9_ok n) (E8_ok n)
-- 8 loop.example/slowworm/spec.SameHeap
noncomputable def F8c : Code := bodyOf Go.Proofs.Try.f8
-- 25 loop.example/slowworm/spec.SameObject
noncomputable def F25c : Code := bodyOf Go.Proofs.Try.f25
-- 42 loop.example/slowworm/spec.sameVals
noncomputable def F42c : Code := bodyOf Go.Proofs.Try.f42
noncomputable def F42_0x0 : SSh := ⟨26, [(4, .bool)], []⟩
noncomputable def F42_0x1 : SSh := ⟨26, [], []⟩
noncomputable def F42_0s : SSh := ⟨26, [(0, (.imm 3)), (1, (.imm 3)), (5, (.int .i64))], []⟩
noncomputable def F42_0_step {R : Type} (n : Nat) (k0 : Bool → Option R) (k1 : Option R) (rec : List Val → List Val → Int → Option R) (x298 : List Val) (x299 : List Val) (x300 : Int) : Option R :=
  (bif (decide (x300 < ((x298.length) : Int))) then
  (bif (decide ((0 : Int) ≤ x300)) then
  (bif (decide (x300 < ((x298.length) : Int))) then
  let v303 := (x298.getD (x300.toNat) (Val.mk (0 : Int) ({ data := #[] } : ByteArray) (0 : Int)))
  (bif (decide ((0 : Int) ≤ x300)) then
  (bif (decide (x300 < ((x299.length) : Int))) then
  let v307 := (x299.getD (x300.toNat) (Val.mk (0 : Int) ({ data := #[] } : ByteArray) (0 : Int)))
  (bif (!((v303.kind == v307.kind) && ((v303.text == v307.text) && (v303.ref == v307.ref)))) then
  (k0 false)
  else (rec x298 x299 (IntKind.wrap .i64 (x300 + (1 : Int)))))
  else none)
  else none)
  else none)
  else none)
  else k1)
noncomputable def F42_0_it {R : Type} (n : Nat) (k0 : Bool → Option R) (k1 : Option R) : Nat → List Val → List Val → Int → Option R
  | 0, _, _, _ => none
  | k + 1, x298, x299, x300 => F42_0_step n k0 k1 (F42_0_it n k0 k1 k) x298 x299 x300
noncomputable def F42_0 {R : Type} (n : Nat) (x298 : List Val) (x299 : List Val) (x300 : Int) (k0 : Bool → Option R) (k1 : Option R) : Option R := F42_0_it n k0 k1 n x298 x299 x300
noncomputable def F42_0z (n : Nat) : Sm G := inZ G 0 ⟨[0, 1, 5], []⟩ F42_0s fun R x K => F42_0_it n (fun u0 => K .ret (SSh.enc G F42_0x0 ((u0, ()), ()))) (K (.exit 0) (SSh.enc G F42_0x1 ((), ()))) n x.1.1 x.1.2.1 x.1.2.2.1
theorem F42_0_eq (n : Nat) (R : Type) (rec : SSh.den G F42_0s → Option R) (x : SSh.den G F42_0s) (K : AE → St G → Option R) :
  F42_0_step n (fun u0 => K .ret (SSh.enc G F42_0x0 ((u0, ()), ()))) (K (.exit 0) (SSh.enc G F42_0x1 ((), ()))) (fun x298 x299 x300 => rec ((x298, (x299, (x300, ()))), ())) x.1.1 x.1.2.1 x.1.2.2.1 = exec prog G (ro G (tabOf (E9 n)) (frOf []) R) 0 (codeAt F42c [1, 1, 0, 1, 0, 0]) .no (SSh.enc G F42_0s x) (kLoop G (ro G (tabOf (E9 n)) (frOf []) R) 0 ⟨[0, 1, 5], []⟩ F42_0s ⟨⟨[], []⟩, ⟨[4], []⟩, [(0, ⟨[], []⟩)]⟩ rec K) := by kernel_rfl
theorem F42_0_ok (n : Nat) : FragOK prog G 0 (codeAt F42c [1, 1, 0, 1, 0]) (F42_0z n) :=
  frag_loop (Z := fun R k (x : SSh.den G F42_0s) K => F42_0_it n (fun u0 => K .ret (SSh.enc G F42_0x0 ((u0, ()), ()))) (K (.exit 0) (SSh.enc G F42_0x1 ((), ()))) k x.1.1 x.1.2.1 x.1.2.2.1) laws fnok (E9_ok n).tab (AllF.of (l := []) (by kernel_rfl) AllF.nil) (fun _ _ _ => rfl) (fun R k y K => F42_0_eq n R (fun (x : SSh.den G F42_0s) => F42_0_it n (fun u0 => K .ret (SSh.enc G F42_0x0 ((u0, ()), ()))) (K (.exit 0) (SSh.enc G F42_0x1 ((), ()))) k x.1.1 x.1.2.1 x.1.2.2.1) y K) n
noncomputable def F42 (n : Nat) (a293 : List Val) (a294 : List Val) : Option (Bool × Unit) :=
  (bif (((a293.length) : Int) != ((a294.length) : Int)) then
  some (false, ())
  else (F42_0 n a293 a294 (0 : Int) (fun z313 =>
  some (z313, ())) (
  some (true, ()))))
noncomputable def F42e (n : Nat) : Ent G := ⟨42, (.cons (.imm 3) (.cons (.imm 3) .nil)), [], .bool, [], fun x y => F42 n x.1 x.2.1⟩
theorem F42_eq (n : Nat) (x : ShL.den G (.cons (.imm 3) (.cons (.imm 3) .nil))) (y : denO G []) : (F42e n).F x y = runFn prog G (ro G (tabOf (E9 n)) (frOf [F42_0z n]) _) Go.Proofs.Try.f42 (.nd .no (.nd .no (.nd (.nd .no (.nd (.use 0) .no)) .no))) [(0, .fz)] (ShL.enc G (.cons (.imm 3) (.cons (.imm 3) .nil)) x) (encO G [] y) (decR .bool []) := by kernel_rfl
theorem F42_ok (n : Nat) : EntOK prog G (F42e n) :=
  ent_ok (fr := frOf [F42_0z n]) (ann := (.nd .no (.nd .no (.nd (.nd .no (.nd (.use 0) .no)) .no)))) (frm := [(0, .fz)]) laws fnok (E9_ok n).tab (e := F42e n) (fn := Go.Proofs.Try.f42) (by kernel_rfl) (AllF.ofB (cd := F42c) (l := [(0, codeAt F42c [1, 1, 0, 1, 0])]) (by kernel_rfl) (by kernel_rfl) (AllF.cons (F42_0_ok n) AllF.nil)) (F42_eq n)
noncomputable def E10 (n : Nat) : List (Ent G) := F42e n :: E9 n
theorem E10_ok (n : Nat) : AllE prog G (E10 n) := AllE.cons (F42_ok n) (E9_ok n)
-- 43 loop.example/slowworm/spec.sameTexts
noncomputable def F43c : Code := bodyOf Go.Proofs.Try.f43
noncomputable def F43_0x0 : SSh := ⟨26, [(4, .bool)], []⟩
noncomputable def F43_0x1 : SSh := ⟨26, [], []⟩
noncomputable def F43_0s : SSh := ⟨26, [(0, (.imm 2)), (1, (.imm 2)), (5, (.int .i64))], []⟩
noncomputable def F43_0_step {R : Type} (n : Nat) (k0 : Bool → Option R) (k1 : Option R) (rec : List ByteArray → List ByteArray → Int → Option R) (x321 : List ByteArray) (x322 : List ByteArray) (x323 : Int) : Option R :=
  (bif (decide (x323 < ((x321.length) : Int))) then
  (bif (decide ((0 : Int) ≤ x323)) then
  (bif (decide (x323 < ((x321.length) : Int))) then
  (bif (decide ((0 : Int) ≤ x323)) then
  (bif (decide (x323 < ((x322.length) : Int))) then
  (bif (!(((x321.getD (x323.toNat) ({ data := #[] } : ByteArray)).toList) == ((x322.getD (x323.toNat) ({ data := #[] } : ByteArray)).toList))) then
  (k0 false)
  else (rec x321 x322 (IntKind.wrap .i64 (x323 + (1 : Int)))))
  else none)
  else none)
  else none)
  else none)
  else k1)
noncomputable def F43_0_it {R : Type} (n : Nat) (k0 : Bool → Option R) (k1 : Option R) : Nat → List ByteArray → List ByteArray → Int → Option R
  | 0, _, _, _ => none
  | k + 1, x321, x322, x323 => F43_0_step n k0 k1 (F43_0_it n k0 k1 k) x321 x322 x323
noncomputable def F43_0 {R : Type} (n : Nat) (x321 : List ByteArray) (x322 : List ByteArray) (x323 : Int) (k0 : Bool → Option R) (k1 : Option R) : Option R := F43_0_it n k0 k1 n x321 x322 x323
noncomputable def F43_0z (n : Nat) : Sm G := inZ G 0 ⟨[0, 1, 5], []⟩ F43_0s fun R x K => F43_0_it n (fun u0 => K .ret (SSh.enc G F43_0x0 ((u0, ()), ()))) (K (.exit 0) (SSh.enc G F43_0x1 ((), ()))) n x.1.1 x.1.2.1 x.1.2.2.1
theorem F43_0_eq (n : Nat) (R : Type) (rec : SSh.den G F43_0s → Option R) (x : SSh.den G F43_0s) (K : AE → St G → Option R) :
  F43_0_step n (fun u0 => K .ret (SSh.enc G F43_0x0 ((u0, ()), ()))) (K (.exit 0) (SSh.enc G F43_0x1 ((), ()))) (fun x321 x322 x323 => rec ((x321, (x322, (x323, ()))), ())) x.1.1 x.1.2.1 x.1.2.2.1 = exec prog G (ro G (tabOf (E10 n)) (frOf []) R) 0 (codeAt F43c [1, 1, 0, 1, 0, 0]) .no (SSh.enc G F43_0s x) (kLoop G (ro G (tabOf (E10 n)) (frOf []) R) 0 ⟨[0, 1, 5], []⟩ F43_0s ⟨⟨[], []⟩, ⟨[4], []⟩, [(0, ⟨[], []⟩)]⟩ rec K) := by kernel_rfl
theorem F43_0_ok (n : Nat) : FragOK prog G 0 (codeAt F43c [1, 1, 0, 1, 0]) (F43_0z n) :=
  frag_loop (Z := fun R k (x : SSh.den G F43_0s) K => F43_0_it n (fun u0 => K .ret (SSh.enc G F43_0x0 ((u0, ()), ()))) (K (.exit 0) (SSh.enc G F43_0x1 ((), ()))) k x.1.1 x.1.2.1 x.1.2.2.1) laws fnok (E10_ok n).tab (AllF.of (l := []) (by kernel_rfl) AllF.nil) (fun _ _ _ => rfl) (fun R k y K => F43_0_eq n R (fun (x : SSh.den G F43_0s) => F43_0_it n (fun u0 => K .ret (SSh.enc G F43_0x0 ((u0, ()), ()))) (K (.exit 0) (SSh.enc G F43_0x1 ((), ()))) k x.1.1 x.1.2.1 x.1.2.2.1) y K) n
noncomputable def F43 (n : Nat) (a316 : List ByteArray) (a317 : List ByteArray) : Option (Bool × Unit) :=
  (bif (((a316.length) : Int) != ((a317.length) : Int)) then
  some (false, ())
  else (F43_0 n a316 a317 (0 : Int) (fun z332 =>
  some (z332, ())) (
  some (true, ()))))
noncomputable def F43e (n : Nat) : Ent G := ⟨43, (.cons (.imm 2) (.cons (.imm 2) .nil)), [], .bool, [], fun x y => F43 n x.1 x.2.1⟩
theorem F43_eq (n : Nat) (x : ShL.den G (.cons (.imm 2) (.cons (.imm 2) .nil))) (y : denO G []) : (F43e n).F x y = runFn prog G (ro G (tabOf (E10 n)) (frOf [F43_0z n]) _) Go.Proofs.Try.f43 (.nd .no (.nd .no (.nd (.nd .no (.nd (.use 0) .no)) .no))) [(0, .fz)] (ShL.enc G (.cons (.imm 2) (.cons (.imm 2) .nil)) x) (encO G [] y) (decR .bool []) := by kernel_rfl
theorem F43_ok (n : Nat) : EntOK prog G (F43e n) :=
  ent_ok (fr := frOf [F43_0z n]) (ann := (.nd .no (.nd .no (.nd (.nd .no (.nd (.use 0) .no)) .no)))) (frm := [(0, .fz)]) laws fnok (E10_ok n).tab (e := F43e n) (fn := Go.Proofs.Try.f43) (by kernel_rfl) (AllF.ofB (cd := F43c) (l := [(0, codeAt F43c [1, 1, 0, 1, 0])]) (by kernel_rfl) (by kernel_rfl) (AllF.cons (F43_0_ok n) AllF.nil)) (F43_eq n)
noncomputable def E11 (n : Nat) : List (Ent G) := F43e n :: E10 n
theorem E11_ok (n : Nat) : AllE prog G (E11 n) := AllE.cons (F43_ok n) (E10_ok n)
noncomputable def F25 (n : Nat) (a276 : Int) (a277 : ByteArray) (a278 : Int) (a279 : List Val) (a280 : List Val) (a281 : List ByteArray) (a282 : List Val) (a283 : Int) (a284 : ByteArray) (a285 : Int) (a286 : List Val) (a287 : List Val) (a288 : List ByteArray) (a289 : List Val) : Option (Bool × Unit) :=
  (bif (a276 == a283) then
  (bif ((a277.toList) == (a284.toList)) then
  (bif (a278 == a285) then
  (andThen (F42 n a279 a286) fun r314 =>
  (bif r314.1 then
  (andThen (F42 n a280 a287) fun r315 =>
  (bif r315.1 then
  (andThen (F43 n a281 a288) fun r333 =>
  (bif r333.1 then
  (andThen (F42 n a282 a289) fun r334 =>
  some (r334.1, ()))
  else some (false, ())))
  else some (false, ())))
  else some (false, ())))
  else some (false, ()))
  else some (false, ()))
  else some (false, ()))
noncomputable def F25e (n : Nat) : Ent G := ⟨25, (.cons (.agg (.cons (.int .i64) (.cons .str (.cons (.int .i64) (.cons (.imm 3) (.cons (.imm 3) (.cons (.imm 2) (.cons (.imm 3) .nil)))))))) (.cons (.agg (.cons (.int .i64) (.cons .str (.cons (.int .i64) (.cons (.imm 3) (.cons (.imm 3) (.cons (.imm 2) (.cons (.imm 3) .nil)))))))) .nil)), [], .bool, [], fun x y => F25 n x.1.1 x.1.2.1 x.1.2.2.1 x.1.2.2.2.1 x.1.2.2.2.2.1 x.1.2.2.2.2.2.1 x.1.2.2.2.2.2.2.1 x.2.1.1 x.2.1.2.1 x.2.1.2.2.1 x.2.1.2.2.2.1 x.2.1.2.2.2.2.1 x.2.1.2.2.2.2.2.1 x.2.1.2.2.2.2.2.2.1⟩
theorem F25_eq (n : Nat) (x : ShL.den G (.cons (.agg (.cons (.int .i64) (.cons .str (.cons (.int .i64) (.cons (.imm 3) (.cons (.imm 3) (.cons (.imm 2) (.cons (.imm 3) .nil)))))))) (.cons (.agg (.cons (.int .i64) (.cons .str (.cons (.int .i64) (.cons (.imm 3) (.cons (.imm 3) (.cons (.imm 2) (.cons (.imm 3) .nil)))))))) .nil))) (y : denO G []) : (F25e n).F x y = runFn prog G (ro G (tabOf (E11 n)) (frOf []) _) Go.Proofs.Try.f25 .no [(0, .fz)] (ShL.enc G (.cons (.agg (.cons (.int .i64) (.cons .str (.cons (.int .i64) (.cons (.imm 3) (.cons (.imm 3) (.cons (.imm 2) (.cons (.imm 3) .nil)))))))) (.cons (.agg (.cons (.int .i64) (.cons .str (.cons (.int .i64) (.cons (.imm 3) (.cons (.imm 3) (.cons (.imm 2) (.cons (.imm 3) .nil)))))))) .nil)) x) (encO G [] y) (decR .bool []) := by kernel_rfl
theorem F25_ok (n : Nat) : EntOK prog G (F25e n) :=
  ent_ok (fr := frOf []) (ann := .no) (frm := [(0, .fz)]) laws fnok (E11_ok n).tab (e := F25e n) (fn := Go.Proofs.Try.f25) (by kernel_rfl) (AllF.ofB (cd := F25c) (l := []) (by kernel_rfl) (by kernel_rfl) AllF.nil) (F25_eq n)
noncomputable def E12 (n : Nat) : List (Ent G) := F25e n :: E11 n
theorem E12_ok (n : Nat) : AllE prog G (E12 n) := AllE.cons (F25_ok n) (E11_ok n)
noncomputable def F8_0x0 : SSh := ⟨32, [(4, .bool)], []⟩
noncomputable def F8_0x1 : SSh := ⟨32, [], []⟩
noncomputable def F8_0s : SSh := ⟨32, [(2, (.ptr 0 0)), (3, (.ptr 1 0)), (5, (.int .i64))], [(.box 25 (.cons (.imm 4) .nil)), (.box 25 (.cons (.imm 4) .nil))]⟩
noncomputable def F8_0_step {R : Type} (n : Nat) (k0 : Bool → Option R) (k1 : Option R) (rec : Int → List Obj → List Obj → Option R) (x255 : Int) (x256 : List Obj) (x257 : List Obj) : Option R :=
  (bif (decide (x255 < ((x256.length) : Int))) then
  (bif (decide ((0 : Int) ≤ x255)) then
  (bif (decide (x255 < ((x256.length) : Int))) then
  let v260 := (x256.getD (x255.toNat) (Obj.mk (0 : Int) ({ data := #[] } : ByteArray) (0 : Int) [] [] [] []))
  (bif (decide ((0 : Int) ≤ x255)) then
  (bif (decide (x255 < ((x257.length) : Int))) then
  let v268 := (x257.getD (x255.toNat) (Obj.mk (0 : Int) ({ data := #[] } : ByteArray) (0 : Int) [] [] [] []))
  (andThen (F25 n v260.kind v260.name v260.at_ v260.items v260.keys v260.names v260.vals v268.kind v268.name v268.at_ v268.items v268.keys v268.names v268.vals) fun r335 =>
  (bif (!r335.1) then
  (k0 false)
  else (rec (IntKind.wrap .i64 (x255 + (1 : Int))) x256 x257)))
  else none)
  else none)
  else none)
  else none)
  else k1)
noncomputable def F8_0_it {R : Type} (n : Nat) (k0 : Bool → Option R) (k1 : Option R) : Nat → Int → List Obj → List Obj → Option R
  | 0, _, _, _ => none
  | k + 1, x255, x256, x257 => F8_0_step n k0 k1 (F8_0_it n k0 k1 k) x255 x256 x257
noncomputable def F8_0 {R : Type} (n : Nat) (x255 : Int) (x256 : List Obj) (x257 : List Obj) (k0 : Bool → Option R) (k1 : Option R) : Option R := F8_0_it n k0 k1 n x255 x256 x257
noncomputable def F8_0z (n : Nat) : Sm G := inZ G 0 ⟨[2, 3, 5], []⟩ F8_0s fun R x K => F8_0_it n (fun u0 => K .ret (SSh.enc G F8_0x0 ((u0, ()), ()))) (K (.exit 0) (SSh.enc G F8_0x1 ((), ()))) n x.1.2.2.1 x.2.1.1 x.2.2.1.1
theorem F8_0_eq (n : Nat) (R : Type) (rec : SSh.den G F8_0s → Option R) (x : SSh.den G F8_0s) (K : AE → St G → Option R) :
  F8_0_step n (fun u0 => K .ret (SSh.enc G F8_0x0 ((u0, ()), ()))) (K (.exit 0) (SSh.enc G F8_0x1 ((), ()))) (fun x255 x256 x257 => rec (((), ((), (x255, ()))), ((x256, ()), ((x257, ()), ())))) x.1.2.2.1 x.2.1.1 x.2.2.1.1 = exec prog G (ro G (tabOf (E12 n)) (frOf []) R) 0 (codeAt F8c [1, 1, 0, 1, 0, 0]) .no (SSh.enc G F8_0s x) (kLoop G (ro G (tabOf (E12 n)) (frOf []) R) 0 ⟨[2, 3, 5], []⟩ F8_0s ⟨⟨[], []⟩, ⟨[4], []⟩, [(0, ⟨[], []⟩)]⟩ rec K) := by kernel_rfl
theorem F8_0_ok (n : Nat) : FragOK prog G 0 (codeAt F8c [1, 1, 0, 1, 0]) (F8_0z n) :=
  frag_loop (Z := fun R k (x : SSh.den G F8_0s) K => F8_0_it n (fun u0 => K .ret (SSh.enc G F8_0x0 ((u0, ()), ()))) (K (.exit 0) (SSh.enc G F8_0x1 ((), ()))) k x.1.2.2.1 x.2.1.1 x.2.2.1.1) laws fnok (E12_ok n).tab (AllF.of (l := []) (by kernel_rfl) AllF.nil) (fun _ _ _ => rfl) (fun R k y K => F8_0_eq n R (fun (x : SSh.den G F8_0s) => F8_0_it n (fun u0 => K .ret (SSh.enc G F8_0x0 ((u0, ()), ()))) (K (.exit 0) (SSh.enc G F8_0x1 ((), ()))) k x.1.2.2.1 x.2.1.1 x.2.2.1.1) y K) n
noncomputable def F8 (n : Nat) (a250 : List Obj) (a251 : List Obj) : Option (Bool × Unit) :=
  (bif (((a250.length) : Int) != ((a251.length) : Int)) then
  some (false, ())
  else (F8_0 n (0 : Int) a250 a251 (fun z338 =>
  some (z338, ())) (
  some (true, ()))))
noncomputable def F8e (n : Nat) : Ent G := ⟨8, (.cons (.agg (.cons (.imm 4) .nil)) (.cons (.agg (.cons (.imm 4) .nil)) .nil)), [], .bool, [], fun x y => F8 n x.1.1 x.2.1.1⟩
theorem F8_eq (n : Nat) (x : ShL.den G (.cons (.agg (.cons (.imm 4) .nil)) (.cons (.agg (.cons (.imm 4) .nil)) .nil))) (y : denO G []) : (F8e n).F x y = runFn prog G (ro G (tabOf (E12 n)) (frOf [F8_0z n]) _) Go.Proofs.Try.f8 (.nd .no (.nd .no (.nd (.nd .no (.nd (.use 0) .no)) .no))) [(0, .fz)] (ShL.enc G (.cons (.agg (.cons (.imm 4) .nil)) (.cons (.agg (.cons (.imm 4) .nil)) .nil)) x) (encO G [] y) (decR .bool []) := by kernel_rfl
theorem F8_ok (n : Nat) : EntOK prog G (F8e n) :=
  ent_ok (fr := frOf [F8_0z n]) (ann := (.nd .no (.nd .no (.nd (.nd .no (.nd (.use 0) .no)) .no)))) (frm := [(0, .fz)]) laws fnok (E12_ok n).tab (e := F8e n) (fn := Go.Proofs.Try.f8) (by kernel_rfl) (AllF.ofB (cd := F8c) (l := [(0, codeAt F8c [1, 1, 0, 1, 0])]) (by kernel_rfl) (by kernel_rfl) (AllF.cons (F8_0_ok n) AllF.nil)) (F8_eq n)
noncomputable def E13 (n : Nat) : List (Ent G) := F8e n :: E12 n
theorem E13_ok (n : Nat) : AllE prog G (E13 n) := AllE.cons (F8_ok n) (E12_ok n)
-- 10 loop.example/slowworm/impl.HeapOk
noncomputable def F10c : Code := bodyOf Go.Proofs.Try.f10
-- 27 (loop.example/slowworm/impl.Heap).objectOk
noncomputable def F27c : Code := bodyOf Go.Proofs.Try.f27
-- 47 loop.example/slowworm/impl.within
noncomputable def F47c : Code := bodyOf Go.Proofs.Try.f47
noncomputable def F47 (n : Nat) (a366 : Int) (a367 : Int) (a368 : Int) : Option (Bool × Unit) :=
  (bif (decide (a366 ≥ a367)) then
  some ((decide (a366 ≤ a368)), ())
  else some (false, ()))
noncomputable def F47e (n : Nat) : Ent G := ⟨47, (.cons (.int .i64) (.cons (.int .i64) (.cons (.int .i64) .nil))), [], .bool, [], fun x y => F47 n x.1 x.2.1 x.2.2.1⟩
theorem F47_eq (n : Nat) (x : ShL.den G (.cons (.int .i64) (.cons (.int .i64) (.cons (.int .i64) .nil)))) (y : denO G []) : (F47e n).F x y = runFn prog G (ro G (tabOf (E13 n)) (frOf []) _) Go.Proofs.Try.f47 .no [(0, .fz)] (ShL.enc G (.cons (.int .i64) (.cons (.int .i64) (.cons (.int .i64) .nil))) x) (encO G [] y) (decR .bool []) := by kernel_rfl
theorem F47_ok (n : Nat) : EntOK prog G (F47e n) :=
  ent_ok (fr := frOf []) (ann := .no) (frm := [(0, .fz)]) laws fnok (E13_ok n).tab (e := F47e n) (fn := Go.Proofs.Try.f47) (by kernel_rfl) (AllF.ofB (cd := F47c) (l := []) (by kernel_rfl) (by kernel_rfl) AllF.nil) (F47_eq n)
noncomputable def E14 (n : Nat) : List (Ent G) := F47e n :: E13 n
theorem E14_ok (n : Nat) : AllE prog G (E14 n) := AllE.cons (F47_ok n) (E13_ok n)
-- 39 (loop.example/slowworm/impl.Heap).valuesOk
noncomputable def F39c : Code := bodyOf Go.Proofs.Try.f39
-- 28 (loop.example/slowworm/impl.Heap).valueOk
noncomputable def F28c : Code := bodyOf Go.Proofs.Try.f28
noncomputable def F28 (n : Nat) (a385 : List Obj) (a386 : Int) (a387 : ByteArray) (a388 : Int) : Option (Bool × Unit) :=
  (bif (a386 == (0 : Int)) then
  some (((a386 == (0 : Int)) && ((a387 == ({ data := #[] } : ByteArray)) && (a388 == (0 : Int)))), ())
  else (bif (a386 == (1 : Int)) then
  (bif ((a387.toList) == (({ data := #[] } : ByteArray).toList)) then
  (andThen (F47 n a388 (0 : Int) (1 : Int)) fun r393 =>
  some (r393.1, ()))
  else some (false, ()))
  else (bif (a386 == (2 : Int)) then
  none
  else (bif (a386 == (3 : Int)) then
  (bif (decide (((a387.size) : Int) ≤ (400 : Int))) then
  some ((a388 == (0 : Int)), ())
  else some (false, ()))
  else (bif (a386 == (4 : Int)) then
  (bif ((a387.toList) == (({ data := #[] } : ByteArray).toList)) then
  (andThen (F47 n a388 (0 : Int) (IntKind.wrap .i64 (((a385.length) : Int) - (1 : Int)))) fun r403 =>
  some (r403.1, ()))
  else some (false, ()))
  else some (false, ()))))))
noncomputable def F28e (n : Nat) : Ent G := ⟨28, (.cons (.agg (.cons (.imm 4) .nil)) (.cons (.agg (.cons (.int .i64) (.cons .str (.cons (.int .i64) .nil)))) .nil)), [], .bool, [], fun x y => F28 n x.1.1 x.2.1.1 x.2.1.2.1 x.2.1.2.2.1⟩
theorem F28_eq (n : Nat) (x : ShL.den G (.cons (.agg (.cons (.imm 4) .nil)) (.cons (.agg (.cons (.int .i64) (.cons .str (.cons (.int .i64) .nil)))) .nil))) (y : denO G []) : (F28e n).F x y = runFn prog G (ro G (tabOf (E14 n)) (frOf []) _) Go.Proofs.Try.f28 .no [(0, .fz)] (ShL.enc G (.cons (.agg (.cons (.imm 4) .nil)) (.cons (.agg (.cons (.int .i64) (.cons .str (.cons (.int .i64) .nil)))) .nil)) x) (encO G [] y) (decR .bool []) := by kernel_rfl
theorem F28_ok (n : Nat) : EntOK prog G (F28e n) :=
  ent_ok (fr := frOf []) (ann := .no) (frm := [(0, .fz)]) laws fnok (E14_ok n).tab (e := F28e n) (fn := Go.Proofs.Try.f28) (by kernel_rfl) (AllF.ofB (cd := F28c) (l := []) (by kernel_rfl) (by kernel_rfl) AllF.nil) (F28_eq n)
noncomputable def E15 (n : Nat) : List (Ent G) := F28e n :: E14 n
theorem E15_ok (n : Nat) : AllE prog G (E15 n) := AllE.cons (F28_ok n) (E14_ok n)
noncomputable def F39_0x0 : SSh := ⟨18, [(4, .bool)], []⟩
noncomputable def F39_0x1 : SSh := ⟨18, [], []⟩
noncomputable def F39_0s : SSh := ⟨18, [(2, (.ptr 0 0)), (7, (.imm 3)), (8, (.int .i64)), (9, (.int .i64))], [(.box 25 (.cons (.imm 4) .nil))]⟩
noncomputable def F39_0_step {R : Type} (n : Nat) (k0 : Bool → Option R) (k1 : Option R) (rec : List Val → Int → Int → List Obj → Option R) (x376 : List Val) (x377 : Int) (x378 : Int) (x379 : List Obj) : Option R :=
  (bif (decide (x378 < x377)) then
  (bif (decide ((0 : Int) ≤ x378)) then
  (bif (decide (x378 < ((x376.length) : Int))) then
  let v381 := (x376.getD (x378.toNat) (Val.mk (0 : Int) ({ data := #[] } : ByteArray) (0 : Int)))
  (andThen (F28 n x379 v381.kind v381.text v381.ref) fun r404 =>
  (bif (!r404.1) then
  (k0 false)
  else (rec x376 x377 (IntKind.wrap .i64 (x378 + (1 : Int))) x379)))
  else none)
  else none)
  else k1)
noncomputable def F39_0_it {R : Type} (n : Nat) (k0 : Bool → Option R) (k1 : Option R) : Nat → List Val → Int → Int → List Obj → Option R
  | 0, _, _, _, _ => none
  | k + 1, x376, x377, x378, x379 => F39_0_step n k0 k1 (F39_0_it n k0 k1 k) x376 x377 x378 x379
noncomputable def F39_0 {R : Type} (n : Nat) (x376 : List Val) (x377 : Int) (x378 : Int) (x379 : List Obj) (k0 : Bool → Option R) (k1 : Option R) : Option R := F39_0_it n k0 k1 n x376 x377 x378 x379
noncomputable def F39_0z (n : Nat) : Sm G := inZ G 0 ⟨[2, 7, 8, 9], []⟩ F39_0s fun R x K => F39_0_it n (fun u0 => K .ret (SSh.enc G F39_0x0 ((u0, ()), ()))) (K (.exit 0) (SSh.enc G F39_0x1 ((), ()))) n x.1.2.1 x.1.2.2.1 x.1.2.2.2.1 x.2.1.1
theorem F39_0_eq (n : Nat) (R : Type) (rec : SSh.den G F39_0s → Option R) (x : SSh.den G F39_0s) (K : AE → St G → Option R) :
  F39_0_step n (fun u0 => K .ret (SSh.enc G F39_0x0 ((u0, ()), ()))) (K (.exit 0) (SSh.enc G F39_0x1 ((), ()))) (fun x376 x377 x378 x379 => rec (((), (x376, (x377, (x378, ())))), ((x379, ()), ()))) x.1.2.1 x.1.2.2.1 x.1.2.2.2.1 x.2.1.1 = exec prog G (ro G (tabOf (E15 n)) (frOf []) R) 0 (codeAt F39c [1, 0, 1, 0, 0]) .no (SSh.enc G F39_0s x) (kLoop G (ro G (tabOf (E15 n)) (frOf []) R) 0 ⟨[2, 7, 8, 9], []⟩ F39_0s ⟨⟨[], []⟩, ⟨[4], []⟩, [(0, ⟨[], []⟩)]⟩ rec K) := by kernel_rfl
theorem F39_0_ok (n : Nat) : FragOK prog G 0 (codeAt F39c [1, 0, 1, 0]) (F39_0z n) :=
  frag_loop (Z := fun R k (x : SSh.den G F39_0s) K => F39_0_it n (fun u0 => K .ret (SSh.enc G F39_0x0 ((u0, ()), ()))) (K (.exit 0) (SSh.enc G F39_0x1 ((), ()))) k x.1.2.1 x.1.2.2.1 x.1.2.2.2.1 x.2.1.1) laws fnok (E15_ok n).tab (AllF.of (l := []) (by kernel_rfl) AllF.nil) (fun _ _ _ => rfl) (fun R k y K => F39_0_eq n R (fun (x : SSh.den G F39_0s) => F39_0_it n (fun u0 => K .ret (SSh.enc G F39_0x0 ((u0, ()), ()))) (K (.exit 0) (SSh.enc G F39_0x1 ((), ()))) k x.1.2.1 x.1.2.2.1 x.1.2.2.2.1 x.2.1.1) y K) n
noncomputable def F39 (n : Nat) (a373 : List Obj) (a374 : List Val) : Option (Bool × Unit) :=
  (F39_0 n a374 ((a374.length) : Int) (0 : Int) a373 (fun z407 =>
  some (z407, ())) (
  some (true, ())))
noncomputable def F39e (n : Nat) : Ent G := ⟨39, (.cons (.agg (.cons (.imm 4) .nil)) (.cons (.imm 3) .nil)), [], .bool, [], fun x y => F39 n x.1.1 x.2.1⟩
theorem F39_eq (n : Nat) (x : ShL.den G (.cons (.agg (.cons (.imm 4) .nil)) (.cons (.imm 3) .nil))) (y : denO G []) : (F39e n).F x y = runFn prog G (ro G (tabOf (E15 n)) (frOf [F39_0z n]) _) Go.Proofs.Try.f39 (.nd .no (.nd (.nd .no (.nd (.use 0) .no)) .no)) [(0, .fz)] (ShL.enc G (.cons (.agg (.cons (.imm 4) .nil)) (.cons (.imm 3) .nil)) x) (encO G [] y) (decR .bool []) := by kernel_rfl
theorem F39_ok (n : Nat) : EntOK prog G (F39e n) :=
  ent_ok (fr := frOf [F39_0z n]) (ann := (.nd .no (.nd (.nd .no (.nd (.use 0) .no)) .no))) (frm := [(0, .fz)]) laws fnok (E15_ok n).tab (e := F39e n) (fn := Go.Proofs.Try.f39) (by kernel_rfl) (AllF.ofB (cd := F39c) (l := [(0, codeAt F39c [1, 0, 1, 0])]) (by kernel_rfl) (by kernel_rfl) (AllF.cons (F39_0_ok n) AllF.nil)) (F39_eq n)
noncomputable def E16 (n : Nat) : List (Ent G) := F39e n :: E15 n
theorem E16_ok (n : Nat) : AllE prog G (E16 n) := AllE.cons (F39_ok n) (E15_ok n)
-- 48 slices.Contains[[]string,string]
noncomputable def F48c : Code := bodyOf Go.Proofs.Try.f48
-- 71 slices.Index[[]string,string]
noncomputable def F71c : Code := bodyOf Go.Proofs.Try.f71
noncomputable def F71_0x0 : SSh := ⟨19, [(4, (.int .i64))], []⟩
noncomputable def F71_0x1 : SSh := ⟨19, [], []⟩
noncomputable def F71_0s : SSh := ⟨19, [(0, (.imm 2)), (1, .str), (7, (.int .i64)), (8, (.int .i64))], []⟩
noncomputable def F71_0_step {R : Type} (n : Nat) (k0 : Int → Option R) (k1 : Option R) (rec : List ByteArray → ByteArray → Int → Int → Option R) (x446 : List ByteArray) (x447 : ByteArray) (x448 : Int) (x449 : Int) : Option R :=
  (bif (decide (x449 < x448)) then
  (bif (decide ((0 : Int) ≤ x449)) then
  (bif (decide (x449 < ((x446.length) : Int))) then
  (bif ((x447.toList) == ((x446.getD (x449.toNat) ({ data := #[] } : ByteArray)).toList)) then
  (k0 x449)
  else (rec x446 x447 x448 (IntKind.wrap .i64 (x449 + (1 : Int)))))
  else none)
  else none)
  else k1)
noncomputable def F71_0_it {R : Type} (n : Nat) (k0 : Int → Option R) (k1 : Option R) : Nat → List ByteArray → ByteArray → Int → Int → Option R
  | 0, _, _, _, _ => none
  | k + 1, x446, x447, x448, x449 => F71_0_step n k0 k1 (F71_0_it n k0 k1 k) x446 x447 x448 x449
noncomputable def F71_0 {R : Type} (n : Nat) (x446 : List ByteArray) (x447 : ByteArray) (x448 : Int) (x449 : Int) (k0 : Int → Option R) (k1 : Option R) : Option R := F71_0_it n k0 k1 n x446 x447 x448 x449
noncomputable def F71_0z (n : Nat) : Sm G := inZ G 0 ⟨[0, 1, 7, 8], []⟩ F71_0s fun R x K => F71_0_it n (fun u0 => K .ret (SSh.enc G F71_0x0 ((u0, ()), ()))) (K (.exit 0) (SSh.enc G F71_0x1 ((), ()))) n x.1.1 x.1.2.1 x.1.2.2.1 x.1.2.2.2.1
theorem F71_0_eq (n : Nat) (R : Type) (rec : SSh.den G F71_0s → Option R) (x : SSh.den G F71_0s) (K : AE → St G → Option R) :
  F71_0_step n (fun u0 => K .ret (SSh.enc G F71_0x0 ((u0, ()), ()))) (K (.exit 0) (SSh.enc G F71_0x1 ((), ()))) (fun x446 x447 x448 x449 => rec ((x446, (x447, (x448, (x449, ())))), ())) x.1.1 x.1.2.1 x.1.2.2.1 x.1.2.2.2.1 = exec prog G (ro G (tabOf (E16 n)) (frOf []) R) 0 (codeAt F71c [1, 0, 1, 0, 0]) .no (SSh.enc G F71_0s x) (kLoop G (ro G (tabOf (E16 n)) (frOf []) R) 0 ⟨[0, 1, 7, 8], []⟩ F71_0s ⟨⟨[], []⟩, ⟨[4], []⟩, [(0, ⟨[], []⟩)]⟩ rec K) := by kernel_rfl
theorem F71_0_ok (n : Nat) : FragOK prog G 0 (codeAt F71c [1, 0, 1, 0]) (F71_0z n) :=
  frag_loop (Z := fun R k (x : SSh.den G F71_0s) K => F71_0_it n (fun u0 => K .ret (SSh.enc G F71_0x0 ((u0, ()), ()))) (K (.exit 0) (SSh.enc G F71_0x1 ((), ()))) k x.1.1 x.1.2.1 x.1.2.2.1 x.1.2.2.2.1) laws fnok (E16_ok n).tab (AllF.of (l := []) (by kernel_rfl) AllF.nil) (fun _ _ _ => rfl) (fun R k y K => F71_0_eq n R (fun (x : SSh.den G F71_0s) => F71_0_it n (fun u0 => K .ret (SSh.enc G F71_0x0 ((u0, ()), ()))) (K (.exit 0) (SSh.enc G F71_0x1 ((), ()))) k x.1.1 x.1.2.1 x.1.2.2.1 x.1.2.2.2.1) y K) n
noncomputable def F71 (n : Nat) (a443 : List ByteArray) (a444 : ByteArray) : Option (Int × Unit) :=
  (F71_0 n a443 a444 ((a443.length) : Int) (0 : Int) (fun z455 =>
  some (z455, ())) (
  some ((-1 : Int), ())))
noncomputable def F71e (n : Nat) : Ent G := ⟨71, (.cons (.imm 2) (.cons .str .nil)), [], (.int .i64), [], fun x y => F71 n x.1 x.2.1⟩
theorem F71_eq (n : Nat) (x : ShL.den G (.cons (.imm 2) (.cons .str .nil))) (y : denO G []) : (F71e n).F x y = runFn prog G (ro G (tabOf (E16 n)) (frOf [F71_0z n]) _) Go.Proofs.Try.f71 (.nd .no (.nd (.nd .no (.nd (.use 0) .no)) .no)) [(0, .fz)] (ShL.enc G (.cons (.imm 2) (.cons .str .nil)) x) (encO G [] y) (decR (.int .i64) []) := by kernel_rfl
theorem F71_ok (n : Nat) : EntOK prog G (F71e n) :=
  ent_ok (fr := frOf [F71_0z n]) (ann := (.nd .no (.nd (.nd .no (.nd (.use 0) .no)) .no))) (frm := [(0, .fz)]) laws fnok (E16_ok n).tab (e := F71e n) (fn := Go.Proofs.Try.f71) (by kernel_rfl) (AllF.ofB (cd := F71c) (l := [(0, codeAt F71c [1, 0, 1, 0])]) (by kernel_rfl) (by kernel_rfl) (AllF.cons (F71_0_ok n) AllF.nil)) (F71_eq n)
noncomputable def E17 (n : Nat) : List (Ent G) := F71e n :: E16 n
theorem E17_ok (n : Nat) : AllE prog G (E17 n) := AllE.cons (F71_ok n) (E16_ok n)
noncomputable def F48 (n : Nat) (a441 : List ByteArray) (a442 : ByteArray) : Option (Bool × Unit) :=
  (andThen (F71 n a441 a442) fun r456 =>
  some ((decide (r456.1 ≥ (0 : Int))), ()))
noncomputable def F48e (n : Nat) : Ent G := ⟨48, (.cons (.imm 2) (.cons .str .nil)), [], .bool, [], fun x y => F48 n x.1 x.2.1⟩
theorem F48_eq (n : Nat) (x : ShL.den G (.cons (.imm 2) (.cons .str .nil))) (y : denO G []) : (F48e n).F x y = runFn prog G (ro G (tabOf (E17 n)) (frOf []) _) Go.Proofs.Try.f48 .no [(0, .fz)] (ShL.enc G (.cons (.imm 2) (.cons .str .nil)) x) (encO G [] y) (decR .bool []) := by kernel_rfl
theorem F48_ok (n : Nat) : EntOK prog G (F48e n) :=
  ent_ok (fr := frOf []) (ann := .no) (frm := [(0, .fz)]) laws fnok (E17_ok n).tab (e := F48e n) (fn := Go.Proofs.Try.f48) (by kernel_rfl) (AllF.ofB (cd := F48c) (l := []) (by kernel_rfl) (by kernel_rfl) AllF.nil) (F48_eq n)
noncomputable def E18 (n : Nat) : List (Ent G) := F48e n :: E17 n
theorem E18_ok (n : Nat) : AllE prog G (E18 n) := AllE.cons (F48_ok n) (E17_ok n)
noncomputable def F27_0x0 : SSh := ⟨224, [(4, .bool)], []⟩
noncomputable def F27_0x1 : SSh := ⟨224, [(2, (.ptr 0 0)), (3, (.ptr 1 0))], [(.box 25 (.cons (.imm 4) .nil)), (.box 51 (.cons (.int .i64) (.cons .str (.cons (.int .i64) (.cons (.imm 3) (.cons (.imm 3) (.cons (.imm 2) (.cons (.imm 3) .nil))))))))]⟩
noncomputable def F27_0s : SSh := ⟨224, [(2, (.ptr 0 0)), (3, (.ptr 1 0)), (69, (.imm 2)), (70, (.int .i64)), (71, (.int .i64))], [(.box 25 (.cons (.imm 4) .nil)), (.box 51 (.cons (.int .i64) (.cons .str (.cons (.int .i64) (.cons (.imm 3) (.cons (.imm 3) (.cons (.imm 2) (.cons (.imm 3) .nil))))))))]⟩
noncomputable def F27_0_step {R : Type} (n : Nat) (k0 : Bool → Option R) (k1 : List Obj → Int → ByteArray → Int → List Val → List Val → List ByteArray → List Val → Option R) (rec : List ByteArray → Int → Int → List Obj → Int → ByteArray → Int → List Val → List Val → List ByteArray → List Val → Option R) (x426 : List ByteArray) (x427 : Int) (x428 : Int) (x429 : List Obj) (x430 : Int) (x431 : ByteArray) (x432 : Int) (x433 : List Val) (x434 : List Val) (x435 : List ByteArray) (x436 : List Val) : Option R :=
  (bif (decide (x428 < x427)) then
  (bif (decide ((0 : Int) ≤ x428)) then
  (bif (decide (x428 < ((x426.length) : Int))) then
  (bif (decide ((0 : Int) ≤ x428)) then
  (bif (decide (x428 ≤ ((x435.length) : Int))) then
  (andThen (F48 n ((x435.take (x428.toNat)).drop (0 : Nat)) (x426.getD (x428.toNat) ({ data := #[] } : ByteArray))) fun r458 =>
  (bif r458.1 then
  (k0 false)
  else (rec x426 x427 (IntKind.wrap .i64 (x428 + (1 : Int))) x429 x430 x431 x432 x433 x434 x435 x436)))
  else none)
  else none)
  else none)
  else none)
  else (k1 x429 x430 x431 x432 x433 x434 x435 x436))
noncomputable def F27_0_it {R : Type} (n : Nat) (k0 : Bool → Option R) (k1 : List Obj → Int → ByteArray → Int → List Val → List Val → List ByteArray → List Val → Option R) : Nat → List ByteArray → Int → Int → List Obj → Int → ByteArray → Int → List Val → List Val → List ByteArray → List Val → Option R
  | 0, _, _, _, _, _, _, _, _, _, _, _ => none
  | k + 1, x426, x427, x428, x429, x430, x431, x432, x433, x434, x435, x436 => F27_0_step n k0 k1 (F27_0_it n k0 k1 k) x426 x427 x428 x429 x430 x431 x432 x433 x434 x435 x436
noncomputable def F27_0 {R : Type} (n : Nat) (x426 : List ByteArray) (x427 : Int) (x428 : Int) (x429 : List Obj) (x430 : Int) (x431 : ByteArray) (x432 : Int) (x433 : List Val) (x434 : List Val) (x435 : List ByteArray) (x436 : List Val) (k0 : Bool → Option R) (k1 : List Obj → Int → ByteArray → Int → List Val → List Val → List ByteArray → List Val → Option R) : Option R := F27_0_it n k0 k1 n x426 x427 x428 x429 x430 x431 x432 x433 x434 x435 x436
noncomputable def F27_0z (n : Nat) : Sm G := inZ G 0 ⟨[2, 3, 69, 70, 71], []⟩ F27_0s fun R x K => F27_0_it n (fun u0 => K .ret (SSh.enc G F27_0x0 ((u0, ()), ()))) (fun u0 u1 u2 u3 u4 u5 u6 u7 => K (.exit 0) (SSh.enc G F27_0x1 (((), ((), ())), ((u0, ()), ((u1, (u2, (u3, (u4, (u5, (u6, (u7, ()))))))), ()))))) n x.1.2.2.1 x.1.2.2.2.1 x.1.2.2.2.2.1 x.2.1.1 x.2.2.1.1 x.2.2.1.2.1 x.2.2.1.2.2.1 x.2.2.1.2.2.2.1 x.2.2.1.2.2.2.2.1 x.2.2.1.2.2.2.2.2.1 x.2.2.1.2.2.2.2.2.2.1
theorem F27_0_eq (n : Nat) (R : Type) (rec : SSh.den G F27_0s → Option R) (x : SSh.den G F27_0s) (K : AE → St G → Option R) :
  F27_0_step n (fun u0 => K .ret (SSh.enc G F27_0x0 ((u0, ()), ()))) (fun u0 u1 u2 u3 u4 u5 u6 u7 => K (.exit 0) (SSh.enc G F27_0x1 (((), ((), ())), ((u0, ()), ((u1, (u2, (u3, (u4, (u5, (u6, (u7, ()))))))), ()))))) (fun x426 x427 x428 x429 x430 x431 x432 x433 x434 x435 x436 => rec (((), ((), (x426, (x427, (x428, ()))))), ((x429, ()), ((x430, (x431, (x432, (x433, (x434, (x435, (x436, ()))))))), ())))) x.1.2.2.1 x.1.2.2.2.1 x.1.2.2.2.2.1 x.2.1.1 x.2.2.1.1 x.2.2.1.2.1 x.2.2.1.2.2.1 x.2.2.1.2.2.2.1 x.2.2.1.2.2.2.2.1 x.2.2.1.2.2.2.2.2.1 x.2.2.1.2.2.2.2.2.2.1 = exec prog G (ro G (tabOf (E18 n)) (frOf []) R) 0 (codeAt F27c [1, 1, 1, 0, 1, 0, 0]) .no (SSh.enc G F27_0s x) (kLoop G (ro G (tabOf (E18 n)) (frOf []) R) 0 ⟨[2, 3, 69, 70, 71], []⟩ F27_0s ⟨⟨[2, 3], []⟩, ⟨[4], []⟩, [(0, ⟨[2, 3], []⟩)]⟩ rec K) := by kernel_rfl
theorem F27_0_ok (n : Nat) : FragOK prog G 0 (codeAt F27c [1, 1, 1, 0, 1, 0]) (F27_0z n) :=
  frag_loop (Z := fun R k (x : SSh.den G F27_0s) K => F27_0_it n (fun u0 => K .ret (SSh.enc G F27_0x0 ((u0, ()), ()))) (fun u0 u1 u2 u3 u4 u5 u6 u7 => K (.exit 0) (SSh.enc G F27_0x1 (((), ((), ())), ((u0, ()), ((u1, (u2, (u3, (u4, (u5, (u6, (u7, ()))))))), ()))))) k x.1.2.2.1 x.1.2.2.2.1 x.1.2.2.2.2.1 x.2.1.1 x.2.2.1.1 x.2.2.1.2.1 x.2.2.1.2.2.1 x.2.2.1.2.2.2.1 x.2.2.1.2.2.2.2.1 x.2.2.1.2.2.2.2.2.1 x.2.2.1.2.2.2.2.2.2.1) laws fnok (E18_ok n).tab (AllF.of (l := []) (by kernel_rfl) AllF.nil) (fun _ _ _ => rfl) (fun R k y K => F27_0_eq n R (fun (x : SSh.den G F27_0s) => F27_0_it n (fun u0 => K .ret (SSh.enc G F27_0x0 ((u0, ()), ()))) (fun u0 u1 u2 u3 u4 u5 u6 u7 => K (.exit 0) (SSh.enc G F27_0x1 (((), ((), ())), ((u0, ()), ((u1, (u2, (u3, (u4, (u5, (u6, (u7, ()))))))), ()))))) k x.1.2.2.1 x.1.2.2.2.1 x.1.2.2.2.2.1 x.2.1.1 x.2.2.1.1 x.2.2.1.2.1 x.2.2.1.2.2.1 x.2.2.1.2.2.2.1 x.2.2.1.2.2.2.2.1 x.2.2.1.2.2.2.2.2.1 x.2.2.1.2.2.2.2.2.2.1) y K) n
-- 49 loop.example/slowworm/impl.NameOk
noncomputable def F49c : Code := bodyOf Go.Proofs.Try.f49
-- 72 loop.example/slowworm/impl.isDigit
noncomputable def F72c : Code := bodyOf Go.Proofs.Try.f72
noncomputable def F72 (n : Nat) (a482 : Int) : Option (Bool × Unit) :=
  (bif (decide (a482 ≥ (48 : Int))) then
  some ((decide (a482 ≤ (57 : Int))), ())
  else some (false, ()))
noncomputable def F72e (n : Nat) : Ent G := ⟨72, (.cons (.int .u8) .nil), [], .bool, [], fun x y => F72 n x.1⟩
theorem F72_eq (n : Nat) (x : ShL.den G (.cons (.int .u8) .nil)) (y : denO G []) : (F72e n).F x y = runFn prog G (ro G (tabOf (E18 n)) (frOf []) _) Go.Proofs.Try.f72 .no [(0, .fz)] (ShL.enc G (.cons (.int .u8) .nil) x) (encO G [] y) (decR .bool []) := by kernel_rfl
theorem F72_ok (n : Nat) : EntOK prog G (F72e n) :=
  ent_ok (fr := frOf []) (ann := .no) (frm := [(0, .fz)]) laws fnok (E18_ok n).tab (e := F72e n) (fn := Go.Proofs.Try.f72) (by kernel_rfl) (AllF.ofB (cd := F72c) (l := []) (by kernel_rfl) (by kernel_rfl) AllF.nil) (F72_eq n)
noncomputable def E19 (n : Nat) : List (Ent G) := F72e n :: E18 n
theorem E19_ok (n : Nat) : AllE prog G (E19 n) := AllE.cons (F72_ok n) (E18_ok n)
-- 73 loop.example/slowworm/impl.IsKeyword
noncomputable def F73c : Code := bodyOf Go.Proofs.Try.f73
-- 99 loop.example/slowworm/impl.keywords
noncomputable def F99c : Code := bodyOf Go.Proofs.Try.f99
noncomputable def F99 (n : Nat)  : Option (List ByteArray × Unit) :=
  some ((({ data := #[78, 111, 110, 101] } : ByteArray) :: (({ data := #[84, 114, 117, 101] } : ByteArray) :: (({ data := #[70, 97, 108, 115, 101] } : ByteArray) :: (({ data := #[97, 110, 100] } : ByteArray) :: (({ data := #[111, 114] } : ByteArray) :: (({ data := #[110, 111, 116] } : ByteArray) :: (({ data := #[105, 110] } : ByteArray) :: (({ data := #[105, 115] } : ByteArray) :: (({ data := #[105, 102] } : ByteArray) :: (({ data := #[101, 108, 105, 102] } : ByteArray) :: (({ data := #[101, 108, 115, 101] } : ByteArray) :: (({ data := #[119, 104, 105, 108, 101] } : ByteArray) :: (({ data := #[102, 111, 114] } : ByteArray) :: (({ data := #[98, 114, 101, 97, 107] } : ByteArray) :: (({ data := #[99, 111, 110, 116, 105, 110, 117, 101] } : ByteArray) :: (({ data := #[112, 97, 115, 115] } : ByteArray) :: (({ data := #[100, 101, 102] } : ByteArray) :: (({ data := #[114, 101, 116, 117, 114, 110] } : ByteArray) :: (({ data := #[108, 97, 109, 98, 100, 97] } : ByteArray) :: (({ data := #[99, 108, 97, 115, 115] } : ByteArray) :: (({ data := #[116, 114, 121] } : ByteArray) :: (({ data := #[101, 120, 99, 101, 112, 116] } : ByteArray) :: (({ data := #[102, 105, 110, 97, 108, 108, 121] } : ByteArray) :: (({ data := #[114, 97, 105, 115, 101] } : ByteArray) :: (({ data := #[97, 115] } : ByteArray) :: (({ data := #[103, 108, 111, 98, 97, 108] } : ByteArray) :: (({ data := #[110, 111, 110, 108, 111, 99, 97, 108] } : ByteArray) :: (({ data := #[121, 105, 101, 108, 100] } : ByteArray) :: (({ data := #[105, 109, 112, 111, 114, 116] } : ByteArray) :: (({ data := #[100, 101, 108] } : ByteArray) :: (({ data := #[97, 115, 115, 101, 114, 116] } : ByteArray) :: []))))))))))))))))))))))))))))))), ())
noncomputable def F99e (n : Nat) : Ent G := ⟨99, .nil, [], (.imm 2), [], fun x y => F99 n⟩
theorem F99_eq (n : Nat) (x : ShL.den G .nil) (y : denO G []) : (F99e n).F x y = runFn prog G (ro G (tabOf (E19 n)) (frOf []) _) Go.Proofs.Try.f99 .no [(0, .fz)] (ShL.enc G .nil x) (encO G [] y) (decR (.imm 2) []) := by kernel_rfl
theorem F99_ok (n : Nat) : EntOK prog G (F99e n) :=
  ent_ok (fr := frOf []) (ann := .no) (frm := [(0, .fz)]) laws fnok (E19_ok n).tab (e := F99e n) (fn := Go.Proofs.Try.f99) (by kernel_rfl) (AllF.ofB (cd := F99c) (l := []) (by kernel_rfl) (by kernel_rfl) AllF.nil) (F99_eq n)
noncomputable def E20 (n : Nat) : List (Ent G) := F99e n :: E19 n
theorem E20_ok (n : Nat) : AllE prog G (E20 n) := AllE.cons (F99_ok n) (E19_ok n)
noncomputable def F73 (n : Nat) (a486 : ByteArray) : Option (Bool × Unit) :=
  (andThen (F99 n) fun r488 =>
  (andThen (F48 n r488.1 a486) fun r489 =>
  some (r489.1, ())))
noncomputable def F73e (n : Nat) : Ent G := ⟨73, (.cons .str .nil), [], .bool, [], fun x y => F73 n x.1⟩
theorem F73_eq (n : Nat) (x : ShL.den G (.cons .str .nil)) (y : denO G []) : (F73e n).F x y = runFn prog G (ro G (tabOf (E20 n)) (frOf []) _) Go.Proofs.Try.f73 .no [(0, .fz)] (ShL.enc G (.cons .str .nil) x) (encO G [] y) (decR .bool []) := by kernel_rfl
theorem F73_ok (n : Nat) : EntOK prog G (F73e n) :=
  ent_ok (fr := frOf []) (ann := .no) (frm := [(0, .fz)]) laws fnok (E20_ok n).tab (e := F73e n) (fn := Go.Proofs.Try.f73) (by kernel_rfl) (AllF.ofB (cd := F73c) (l := []) (by kernel_rfl) (by kernel_rfl) AllF.nil) (F73_eq n)
noncomputable def E21 (n : Nat) : List (Ent G) := F73e n :: E20 n
theorem E21_ok (n : Nat) : AllE prog G (E21 n) := AllE.cons (F73_ok n) (E20_ok n)
-- 74 loop.example/slowworm/impl.isLetter
noncomputable def F74c : Code := bodyOf Go.Proofs.Try.f74
noncomputable def F74 (n : Nat) (a497 : Int) : Option (Bool × Unit) :=
  (bif (a497 == (95 : Int)) then
  some (true, ())
  else (bif (decide (a497 ≥ (97 : Int))) then
  (bif (decide (a497 ≤ (122 : Int))) then
  some (true, ())
  else (bif (decide (a497 ≥ (65 : Int))) then
  some ((decide (a497 ≤ (90 : Int))), ())
  else some (false, ())))
  else (bif (decide (a497 ≥ (65 : Int))) then
  some ((decide (a497 ≤ (90 : Int))), ())
  else some (false, ()))))
noncomputable def F74e (n : Nat) : Ent G := ⟨74, (.cons (.int .u8) .nil), [], .bool, [], fun x y => F74 n x.1⟩
theorem F74_eq (n : Nat) (x : ShL.den G (.cons (.int .u8) .nil)) (y : denO G []) : (F74e n).F x y = runFn prog G (ro G (tabOf (E21 n)) (frOf []) _) Go.Proofs.Try.f74 .no [(0, .fz)] (ShL.enc G (.cons (.int .u8) .nil) x) (encO G [] y) (decR .bool []) := by kernel_rfl
theorem F74_ok (n : Nat) : EntOK prog G (F74e n) :=
  ent_ok (fr := frOf []) (ann := .no) (frm := [(0, .fz)]) laws fnok (E21_ok n).tab (e := F74e n) (fn := Go.Proofs.Try.f74) (by kernel_rfl) (AllF.ofB (cd := F74c) (l := []) (by kernel_rfl) (by kernel_rfl) AllF.nil) (F74_eq n)
noncomputable def E22 (n : Nat) : List (Ent G) := F74e n :: E21 n
theorem E22_ok (n : Nat) : AllE prog G (E22 n) := AllE.cons (F74_ok n) (E21_ok n)
noncomputable def F49_0x0 : SSh := ⟨39, [(2, .bool)], []⟩
noncomputable def F49_0x1 : SSh := ⟨39, [], []⟩
noncomputable def F49_0s : SSh := ⟨39, [(0, .str), (22, (.int .i64)), (23, (.int .i64))], []⟩
noncomputable def F49_0_step {R : Type} (n : Nat) (k0 : Bool → Option R) (k1 : Option R) (rec : ByteArray → Int → Int → Option R) (x492 : ByteArray) (x493 : Int) (x494 : Int) : Option R :=
  (bif (decide (x494 < x493)) then
  (bif (decide ((0 : Int) ≤ x494)) then
  (bif (decide (x494 < ((x492.size) : Int))) then
  (andThen (F74 n (strOf x492 (x494.toNat))) fun r505 =>
  (bif (!r505.1) then
  (bif (decide ((0 : Int) ≤ x494)) then
  (bif (decide (x494 < ((x492.size) : Int))) then
  (andThen (F72 n (strOf x492 (x494.toNat))) fun r508 =>
  (bif (!r508.1) then
  (k0 false)
  else (rec x492 x493 (IntKind.wrap .i64 (x494 + (1 : Int))))))
  else none)
  else none)
  else (rec x492 x493 (IntKind.wrap .i64 (x494 + (1 : Int))))))
  else none)
  else none)
  else k1)
noncomputable def F49_0_it {R : Type} (n : Nat) (k0 : Bool → Option R) (k1 : Option R) : Nat → ByteArray → Int → Int → Option R
  | 0, _, _, _ => none
  | k + 1, x492, x493, x494 => F49_0_step n k0 k1 (F49_0_it n k0 k1 k) x492 x493 x494
noncomputable def F49_0 {R : Type} (n : Nat) (x492 : ByteArray) (x493 : Int) (x494 : Int) (k0 : Bool → Option R) (k1 : Option R) : Option R := F49_0_it n k0 k1 n x492 x493 x494
noncomputable def F49_0z (n : Nat) : Sm G := inZ G 0 ⟨[0, 22, 23], []⟩ F49_0s fun R x K => F49_0_it n (fun u0 => K .ret (SSh.enc G F49_0x0 ((u0, ()), ()))) (K (.exit 0) (SSh.enc G F49_0x1 ((), ()))) n x.1.1 x.1.2.1 x.1.2.2.1
theorem F49_0_eq (n : Nat) (R : Type) (rec : SSh.den G F49_0s → Option R) (x : SSh.den G F49_0s) (K : AE → St G → Option R) :
  F49_0_step n (fun u0 => K .ret (SSh.enc G F49_0x0 ((u0, ()), ()))) (K (.exit 0) (SSh.enc G F49_0x1 ((), ()))) (fun x492 x493 x494 => rec ((x492, (x493, (x494, ()))), ())) x.1.1 x.1.2.1 x.1.2.2.1 = exec prog G (ro G (tabOf (E22 n)) (frOf []) R) 0 (codeAt F49c [1, 1, 0, 1, 0, 0]) .no (SSh.enc G F49_0s x) (kLoop G (ro G (tabOf (E22 n)) (frOf []) R) 0 ⟨[0, 22, 23], []⟩ F49_0s ⟨⟨[], []⟩, ⟨[2], []⟩, [(0, ⟨[], []⟩)]⟩ rec K) := by kernel_rfl
theorem F49_0_ok (n : Nat) : FragOK prog G 0 (codeAt F49c [1, 1, 0, 1, 0]) (F49_0z n) :=
  frag_loop (Z := fun R k (x : SSh.den G F49_0s) K => F49_0_it n (fun u0 => K .ret (SSh.enc G F49_0x0 ((u0, ()), ()))) (K (.exit 0) (SSh.enc G F49_0x1 ((), ()))) k x.1.1 x.1.2.1 x.1.2.2.1) laws fnok (E22_ok n).tab (AllF.of (l := []) (by kernel_rfl) AllF.nil) (fun _ _ _ => rfl) (fun R k y K => F49_0_eq n R (fun (x : SSh.den G F49_0s) => F49_0_it n (fun u0 => K .ret (SSh.enc G F49_0x0 ((u0, ()), ()))) (K (.exit 0) (SSh.enc G F49_0x1 ((), ()))) k x.1.1 x.1.2.1 x.1.2.2.1) y K) n
noncomputable def F49 (n : Nat) (a476 : ByteArray) : Option (Bool × Unit) :=
  (bif (decide (((a476.size) : Int) < (1 : Int))) then
  some (false, ())
  else (bif (decide (((a476.size) : Int) > (12 : Int))) then
  some (false, ())
  else (bif (decide ((0 : Int) < ((a476.size) : Int))) then
  (andThen (F72 n (strOf a476 (0 : Nat))) fun r485 =>
  (bif r485.1 then
  some (false, ())
  else (andThen (F73 n a476) fun r490 =>
  (bif r490.1 then
  some (false, ())
  else (F49_0 n a476 ((a476.size) : Int) (0 : Int) (fun z512 =>
  some (z512, ())) (
  some (true, ())))))))
  else none)))
noncomputable def F49e (n : Nat) : Ent G := ⟨49, (.cons .str .nil), [], .bool, [], fun x y => F49 n x.1⟩
theorem F49_eq (n : Nat) (x : ShL.den G (.cons .str .nil)) (y : denO G []) : (F49e n).F x y = runFn prog G (ro G (tabOf (E22 n)) (frOf [F49_0z n]) _) Go.Proofs.Try.f49 (.nd .no (.nd .no (.nd (.nd .no (.nd (.use 0) .no)) .no))) [(0, .fz)] (ShL.enc G (.cons .str .nil) x) (encO G [] y) (decR .bool []) := by kernel_rfl
theorem F49_ok (n : Nat) : EntOK prog G (F49e n) :=
  ent_ok (fr := frOf [F49_0z n]) (ann := (.nd .no (.nd .no (.nd (.nd .no (.nd (.use 0) .no)) .no)))) (frm := [(0, .fz)]) laws fnok (E22_ok n).tab (e := F49e n) (fn := Go.Proofs.Try.f49) (by kernel_rfl) (AllF.ofB (cd := F49c) (l := [(0, codeAt F49c [1, 1, 0, 1, 0])]) (by kernel_rfl) (by kernel_rfl) (AllF.cons (F49_0_ok n) AllF.nil)) (F49_eq n)
noncomputable def E23 (n : Nat) : List (Ent G) := F49e n :: E22 n
theorem E23_ok (n : Nat) : AllE prog G (E23 n) := AllE.cons (F49_ok n) (E22_ok n)
noncomputable def F27_1x0 : SSh := ⟨224, [(2, (.ptr 0 0)), (3, (.ptr 1 0)), (8, .bool), (9, .bool), (138, (.int .i64)), (158, .bool)], [(.box 25 (.cons (.imm 4) .nil)), (.box 51 (.cons (.int .i64) (.cons .str (.cons (.int .i64) (.cons (.imm 3) (.cons (.imm 3) (.cons (.imm 2) (.cons (.imm 3) .nil))))))))]⟩
noncomputable def F27_1s : SSh := ⟨224, [(2, (.ptr 0 0)), (3, (.ptr 1 0)), (8, .bool), (9, .bool), (138, (.int .i64))], [(.box 25 (.cons (.imm 4) .nil)), (.box 51 (.cons (.int .i64) (.cons .str (.cons (.int .i64) (.cons (.imm 3) (.cons (.imm 3) (.cons (.imm 2) (.cons (.imm 3) .nil))))))))]⟩
noncomputable def F27_1 {R : Type} (n : Nat) (x534 : Bool) (x535 : Bool) (x536 : Int) (x537 : List Obj) (x538 : Int) (x539 : ByteArray) (x540 : Int) (x541 : List Val) (x542 : List Val) (x543 : List ByteArray) (x544 : List Val) (k0 : Bool → Bool → Int → Bool → List Obj → Int → ByteArray → Int → List Val → List Val → List ByteArray → List Val → Option R) : Option R :=
  (bif (x536 == (7 : Int)) then
  (k0 x534 x535 x536 true x537 x538 x539 x540 x541 x542 x543 x544)
  else (k0 x534 x535 x536 (x536 == (8 : Int)) x537 x538 x539 x540 x541 x542 x543 x544))
noncomputable def F27_1z (n : Nat) : Sm G := inZ G 0 ⟨[2, 3, 8, 9, 138], []⟩ F27_1s fun R x K => F27_1 n x.1.2.2.1 x.1.2.2.2.1 x.1.2.2.2.2.1 x.2.1.1 x.2.2.1.1 x.2.2.1.2.1 x.2.2.1.2.2.1 x.2.2.1.2.2.2.1 x.2.2.1.2.2.2.2.1 x.2.2.1.2.2.2.2.2.1 x.2.2.1.2.2.2.2.2.2.1 (fun u0 u1 u2 u3 u4 u5 u6 u7 u8 u9 u10 u11 => K .normal (SSh.enc G F27_1x0 (((), ((), (u0, (u1, (u2, (u3, ())))))), ((u4, ()), ((u5, (u6, (u7, (u8, (u9, (u10, (u11, ()))))))), ())))))
theorem F27_1_eq (n : Nat) (R : Type) (x : SSh.den G F27_1s) (K : AE → St G → Option R) :
  F27_1 n x.1.2.2.1 x.1.2.2.2.1 x.1.2.2.2.2.1 x.2.1.1 x.2.2.1.1 x.2.2.1.2.1 x.2.2.1.2.2.1 x.2.2.1.2.2.2.1 x.2.2.1.2.2.2.2.1 x.2.2.1.2.2.2.2.2.1 x.2.2.1.2.2.2.2.2.2.1 (fun u0 u1 u2 u3 u4 u5 u6 u7 u8 u9 u10 u11 => K .normal (SSh.enc G F27_1x0 (((), ((), (u0, (u1, (u2, (u3, ())))))), ((u4, ()), ((u5, (u6, (u7, (u8, (u9, (u10, (u11, ()))))))), ()))))) = exec prog G (ro G (tabOf (E23 n)) (frOf [F27_0z n]) R) 0 (codeAt F27c [1, 1, 1, 1, 1, 1, 1, 1, 0, 1, 0, 1, 1, 1, 1, 0]) .no (SSh.enc G F27_1s x) (kNrm G (ro G (tabOf (E23 n)) (frOf [F27_0z n]) R) 0 ⟨⟨[2, 3, 8, 9, 138, 158], []⟩, ⟨[4], []⟩, [(2, ⟨[], []⟩)]⟩ K) := by kernel_rfl
theorem F27_1_ok (n : Nat) : FragOK prog G 0 (codeAt F27c [1, 1, 1, 1, 1, 1, 1, 1, 0, 1, 0, 1, 1, 1, 1, 0]) (F27_1z n) :=
  frag_plain laws fnok (E23_ok n).tab (AllF.of (l := []) (by kernel_rfl) AllF.nil) (F27_1_eq n)
-- 50 slices.Contains[[]loop.example/slowworm/impl.Value,loop.example/slowworm/impl.Value]
noncomputable def F50c : Code := bodyOf Go.Proofs.Try.f50
-- 75 slices.Index[[]loop.example/slowworm/impl.Value,loop.example/slowworm/impl.Value]
noncomputable def F75c : Code := bodyOf Go.Proofs.Try.f75
noncomputable def F75_0x0 : SSh := ⟨19, [(4, (.int .i64))], []⟩
noncomputable def F75_0x1 : SSh := ⟨19, [], []⟩
noncomputable def F75_0s : SSh := ⟨19, [(0, (.imm 3)), (3, (.ptr 0 0)), (7, (.int .i64)), (8, (.int .i64))], [(.box 31 (.cons (.int .i64) (.cons .str (.cons (.int .i64) .nil))))]⟩
noncomputable def F75_0_step {R : Type} (n : Nat) (k0 : Int → Option R) (k1 : Option R) (rec : List Val → Int → Int → Int → ByteArray → Int → Option R) (x587 : List Val) (x588 : Int) (x589 : Int) (x590 : Int) (x591 : ByteArray) (x592 : Int) : Option R :=
  (bif (decide (x589 < x588)) then
  (bif (decide ((0 : Int) ≤ x589)) then
  (bif (decide (x589 < ((x587.length) : Int))) then
  let v594 := (x587.getD (x589.toNat) (Val.mk (0 : Int) ({ data := #[] } : ByteArray) (0 : Int)))
  (bif ((x590 == v594.kind) && ((x591 == v594.text) && (x592 == v594.ref))) then
  (k0 x589)
  else (rec x587 x588 (IntKind.wrap .i64 (x589 + (1 : Int))) x590 x591 x592))
  else none)
  else none)
  else k1)
noncomputable def F75_0_it {R : Type} (n : Nat) (k0 : Int → Option R) (k1 : Option R) : Nat → List Val → Int → Int → Int → ByteArray → Int → Option R
  | 0, _, _, _, _, _, _ => none
  | k + 1, x587, x588, x589, x590, x591, x592 => F75_0_step n k0 k1 (F75_0_it n k0 k1 k) x587 x588 x589 x590 x591 x592
noncomputable def F75_0 {R : Type} (n : Nat) (x587 : List Val) (x588 : Int) (x589 : Int) (x590 : Int) (x591 : ByteArray) (x592 : Int) (k0 : Int → Option R) (k1 : Option R) : Option R := F75_0_it n k0 k1 n x587 x588 x589 x590 x591 x592
noncomputable def F75_0z (n : Nat) : Sm G := inZ G 0 ⟨[0, 3, 7, 8], []⟩ F75_0s fun R x K => F75_0_it n (fun u0 => K .ret (SSh.enc G F75_0x0 ((u0, ()), ()))) (K (.exit 0) (SSh.enc G F75_0x1 ((), ()))) n x.1.1 x.1.2.2.1 x.1.2.2.2.1 x.2.1.1 x.2.1.2.1 x.2.1.2.2.1
theorem F75_0_eq (n : Nat) (R : Type) (rec : SSh.den G F75_0s → Option R) (x : SSh.den G F75_0s) (K : AE → St G → Option R) :
  F75_0_step n (fun u0 => K .ret (SSh.enc G F75_0x0 ((u0, ()), ()))) (K (.exit 0) (SSh.enc G F75_0x1 ((), ()))) (fun x587 x588 x589 x590 x591 x592 => rec ((x587, ((), (x588, (x589, ())))), ((x590, (x591, (x592, ()))), ()))) x.1.1 x.1.2.2.1 x.1.2.2.2.1 x.2.1.1 x.2.1.2.1 x.2.1.2.2.1 = exec prog G (ro G (tabOf (E23 n)) (frOf []) R) 0 (codeAt F75c [1, 0, 1, 0, 0]) .no (SSh.enc G F75_0s x) (kLoop G (ro G (tabOf (E23 n)) (frOf []) R) 0 ⟨[0, 3, 7, 8], []⟩ F75_0s ⟨⟨[], []⟩, ⟨[4], []⟩, [(0, ⟨[], []⟩)]⟩ rec K) := by kernel_rfl
theorem F75_0_ok (n : Nat) : FragOK prog G 0 (codeAt F75c [1, 0, 1, 0]) (F75_0z n) :=
  frag_loop (Z := fun R k (x : SSh.den G F75_0s) K => F75_0_it n (fun u0 => K .ret (SSh.enc G F75_0x0 ((u0, ()), ()))) (K (.exit 0) (SSh.enc G F75_0x1 ((), ()))) k x.1.1 x.1.2.2.1 x.1.2.2.2.1 x.2.1.1 x.2.1.2.1 x.2.1.2.2.1) laws fnok (E23_ok n).tab (AllF.of (l := []) (by kernel_rfl) AllF.nil) (fun _ _ _ => rfl) (fun R k y K => F75_0_eq n R (fun (x : SSh.den G F75_0s) => F75_0_it n (fun u0 => K .ret (SSh.enc G F75_0x0 ((u0, ()), ()))) (K (.exit 0) (SSh.enc G F75_0x1 ((), ()))) k x.1.1 x.1.2.2.1 x.1.2.2.2.1 x.2.1.1 x.2.1.2.1 x.2.1.2.2.1) y K) n
noncomputable def F75 (n : Nat) (a582 : List Val) (a583 : Int) (a584 : ByteArray) (a585 : Int) : Option (Int × Unit) :=
  (F75_0 n a582 ((a582.length) : Int) (0 : Int) a583 a584 a585 (fun z600 =>
  some (z600, ())) (
  some ((-1 : Int), ())))
noncomputable def F75e (n : Nat) : Ent G := ⟨75, (.cons (.imm 3) (.cons (.agg (.cons (.int .i64) (.cons .str (.cons (.int .i64) .nil)))) .nil)), [], (.int .i64), [], fun x y => F75 n x.1 x.2.1.1 x.2.1.2.1 x.2.1.2.2.1⟩
theorem F75_eq (n : Nat) (x : ShL.den G (.cons (.imm 3) (.cons (.agg (.cons (.int .i64) (.cons .str (.cons (.int .i64) .nil)))) .nil))) (y : denO G []) : (F75e n).F x y = runFn prog G (ro G (tabOf (E23 n)) (frOf [F75_0z n]) _) Go.Proofs.Try.f75 (.nd .no (.nd (.nd .no (.nd (.use 0) .no)) .no)) [(0, .fz)] (ShL.enc G (.cons (.imm 3) (.cons (.agg (.cons (.int .i64) (.cons .str (.cons (.int .i64) .nil)))) .nil)) x) (encO G [] y) (decR (.int .i64) []) := by kernel_rfl
theorem F75_ok (n : Nat) : EntOK prog G (F75e n) :=
  ent_ok (fr := frOf [F75_0z n]) (ann := (.nd .no (.nd (.nd .no (.nd (.use 0) .no)) .no))) (frm := [(0, .fz)]) laws fnok (E23_ok n).tab (e := F75e n) (fn := Go.Proofs.Try.f75) (by kernel_rfl) (AllF.ofB (cd := F75c) (l := [(0, codeAt F75c [1, 0, 1, 0])]) (by kernel_rfl) (by kernel_rfl) (AllF.cons (F75_0_ok n) AllF.nil)) (F75_eq n)
noncomputable def E24 (n : Nat) : List (Ent G) := F75e n :: E23 n
theorem E24_ok (n : Nat) : AllE prog G (E24 n) := AllE.cons (F75_ok n) (E23_ok n)
noncomputable def F50 (n : Nat) (a578 : List Val) (a579 : Int) (a580 : ByteArray) (a581 : Int) : Option (Bool × Unit) :=
  (andThen (F75 n a578 a579 a580 a581) fun r601 =>
  some ((decide (r601.1 ≥ (0 : Int))), ()))
noncomputable def F50e (n : Nat) : Ent G := ⟨50, (.cons (.imm 3) (.cons (.agg (.cons (.int .i64) (.cons .str (.cons (.int .i64) .nil)))) .nil)), [], .bool, [], fun x y => F50 n x.1 x.2.1.1 x.2.1.2.1 x.2.1.2.2.1⟩
theorem F50_eq (n : Nat) (x : ShL.den G (.cons (.imm 3) (.cons (.agg (.cons (.int .i64) (.cons .str (.cons (.int .i64) .nil)))) .nil))) (y : denO G []) : (F50e n).F x y = runFn prog G (ro G (tabOf (E24 n)) (frOf []) _) Go.Proofs.Try.f50 .no [(0, .fz)] (ShL.enc G (.cons (.imm 3) (.cons (.agg (.cons (.int .i64) (.cons .str (.cons (.int .i64) .nil)))) .nil)) x) (encO G [] y) (decR .bool []) := by kernel_rfl
theorem F50_ok (n : Nat) : EntOK prog G (F50e n) :=
  ent_ok (fr := frOf []) (ann := .no) (frm := [(0, .fz)]) laws fnok (E24_ok n).tab (e := F50e n) (fn := Go.Proofs.Try.f50) (by kernel_rfl) (AllF.ofB (cd := F50c) (l := []) (by kernel_rfl) (by kernel_rfl) AllF.nil) (F50_eq n)
noncomputable def E25 (n : Nat) : List (Ent G) := F50e n :: E24 n
theorem E25_ok (n : Nat) : AllE prog G (E25 n) := AllE.cons (F50_ok n) (E24_ok n)
noncomputable def F27_2x0 : SSh := ⟨224, [(4, .bool)], []⟩
noncomputable def F27_2x1 : SSh := ⟨224, [(3, (.ptr 0 0))], [(.box 51 (.cons (.int .i64) (.cons .str (.cons (.int .i64) (.cons (.imm 3) (.cons (.imm 3) (.cons (.imm 2) (.cons (.imm 3) .nil))))))))]⟩
noncomputable def F27_2s : SSh := ⟨224, [(3, (.ptr 0 0)), (165, (.imm 3)), (166, (.int .i64)), (167, (.int .i64))], [(.box 51 (.cons (.int .i64) (.cons .str (.cons (.int .i64) (.cons (.imm 3) (.cons (.imm 3) (.cons (.imm 2) (.cons (.imm 3) .nil))))))))]⟩
noncomputable def F27_2_step {R : Type} (n : Nat) (k0 : Bool → Option R) (k1 : Int → ByteArray → Int → List Val → List Val → List ByteArray → List Val → Option R) (rec : List Val → Int → Int → Int → ByteArray → Int → List Val → List Val → List ByteArray → List Val → Option R) (x561 : List Val) (x562 : Int) (x563 : Int) (x564 : Int) (x565 : ByteArray) (x566 : Int) (x567 : List Val) (x568 : List Val) (x569 : List ByteArray) (x570 : List Val) : Option R :=
  (bif (decide (x563 < x562)) then
  (bif (decide ((0 : Int) ≤ x563)) then
  (bif (decide (x563 < ((x561.length) : Int))) then
  let v572 := (x561.getD (x563.toNat) (Val.mk (0 : Int) ({ data := #[] } : ByteArray) (0 : Int)))
  let v573 := v572.kind
  (bif (v573 == (4 : Int)) then
  (k0 false)
  else (bif (decide ((0 : Int) ≤ x563)) then
  (bif (decide (x563 ≤ ((x568.length) : Int))) then
  (andThen (F50 n ((x568.take (x563.toNat)).drop (0 : Nat)) v573 v572.text v572.ref) fun r603 =>
  (bif r603.1 then
  (k0 false)
  else (rec x561 x562 (IntKind.wrap .i64 (x563 + (1 : Int))) x564 x565 x566 x567 x568 x569 x570)))
  else none)
  else none))
  else none)
  else none)
  else (k1 x564 x565 x566 x567 x568 x569 x570))
noncomputable def F27_2_it {R : Type} (n : Nat) (k0 : Bool → Option R) (k1 : Int → ByteArray → Int → List Val → List Val → List ByteArray → List Val → Option R) : Nat → List Val → Int → Int → Int → ByteArray → Int → List Val → List Val → List ByteArray → List Val → Option R
  | 0, _, _, _, _, _, _, _, _, _, _ => none
  | k + 1, x561, x562, x563, x564, x565, x566, x567, x568, x569, x570 => F27_2_step n k0 k1 (F27_2_it n k0 k1 k) x561 x562 x563 x564 x565 x566 x567 x568 x569 x570
noncomputable def F27_2 {R : Type} (n : Nat) (x561 : List Val) (x562 : Int) (x563 : Int) (x564 : Int) (x565 : ByteArray) (x566 : Int) (x567 : List Val) (x568 : List Val) (x569 : List ByteArray) (x570 : List Val) (k0 : Bool → Option R) (k1 : Int → ByteArray → Int → List Val → List Val → List ByteArray → List Val → Option R) : Option R := F27_2_it n k0 k1 n x561 x562 x563 x564 x565 x566 x567 x568 x569 x570
noncomputable def F27_2z (n : Nat) : Sm G := inZ G 0 ⟨[3, 165, 166, 167], []⟩ F27_2s fun R x K => F27_2_it n (fun u0 => K .ret (SSh.enc G F27_2x0 ((u0, ()), ()))) (fun u0 u1 u2 u3 u4 u5 u6 => K (.exit 3) (SSh.enc G F27_2x1 (((), ()), ((u0, (u1, (u2, (u3, (u4, (u5, (u6, ()))))))), ())))) n x.1.2.1 x.1.2.2.1 x.1.2.2.2.1 x.2.1.1 x.2.1.2.1 x.2.1.2.2.1 x.2.1.2.2.2.1 x.2.1.2.2.2.2.1 x.2.1.2.2.2.2.2.1 x.2.1.2.2.2.2.2.2.1
theorem F27_2_eq (n : Nat) (R : Type) (rec : SSh.den G F27_2s → Option R) (x : SSh.den G F27_2s) (K : AE → St G → Option R) :
  F27_2_step n (fun u0 => K .ret (SSh.enc G F27_2x0 ((u0, ()), ()))) (fun u0 u1 u2 u3 u4 u5 u6 => K (.exit 3) (SSh.enc G F27_2x1 (((), ()), ((u0, (u1, (u2, (u3, (u4, (u5, (u6, ()))))))), ())))) (fun x561 x562 x563 x564 x565 x566 x567 x568 x569 x570 => rec (((), (x561, (x562, (x563, ())))), ((x564, (x565, (x566, (x567, (x568, (x569, (x570, ()))))))), ()))) x.1.2.1 x.1.2.2.1 x.1.2.2.2.1 x.2.1.1 x.2.1.2.1 x.2.1.2.2.1 x.2.1.2.2.2.1 x.2.1.2.2.2.2.1 x.2.1.2.2.2.2.2.1 x.2.1.2.2.2.2.2.2.1 = exec prog G (ro G (tabOf (E25 n)) (frOf [F27_0z n, F27_1z n]) R) 0 (codeAt F27c [1, 1, 1, 1, 1, 1, 1, 1, 0, 1, 0, 1, 1, 1, 1, 1, 1, 1, 0, 0, 1, 0, 0]) .no (SSh.enc G F27_2s x) (kLoop G (ro G (tabOf (E25 n)) (frOf [F27_0z n, F27_1z n]) R) 0 ⟨[3, 165, 166, 167], []⟩ F27_2s ⟨⟨[3], []⟩, ⟨[4], []⟩, [(3, ⟨[3], []⟩), (2, ⟨[], []⟩)]⟩ rec K) := by kernel_rfl
theorem F27_2_ok (n : Nat) : FragOK prog G 0 (codeAt F27c [1, 1, 1, 1, 1, 1, 1, 1, 0, 1, 0, 1, 1, 1, 1, 1, 1, 1, 0, 0, 1, 0]) (F27_2z n) :=
  frag_loop (Z := fun R k (x : SSh.den G F27_2s) K => F27_2_it n (fun u0 => K .ret (SSh.enc G F27_2x0 ((u0, ()), ()))) (fun u0 u1 u2 u3 u4 u5 u6 => K (.exit 3) (SSh.enc G F27_2x1 (((), ()), ((u0, (u1, (u2, (u3, (u4, (u5, (u6, ()))))))), ())))) k x.1.2.1 x.1.2.2.1 x.1.2.2.2.1 x.2.1.1 x.2.1.2.1 x.2.1.2.2.1 x.2.1.2.2.2.1 x.2.1.2.2.2.2.1 x.2.1.2.2.2.2.2.1 x.2.1.2.2.2.2.2.2.1) laws fnok (E25_ok n).tab (AllF.of (l := []) (by kernel_rfl) AllF.nil) (fun _ _ _ => rfl) (fun R k y K => F27_2_eq n R (fun (x : SSh.den G F27_2s) => F27_2_it n (fun u0 => K .ret (SSh.enc G F27_2x0 ((u0, ()), ()))) (fun u0 u1 u2 u3 u4 u5 u6 => K (.exit 3) (SSh.enc G F27_2x1 (((), ()), ((u0, (u1, (u2, (u3, (u4, (u5, (u6, ()))))))), ())))) k x.1.2.1 x.1.2.2.1 x.1.2.2.2.1 x.2.1.1 x.2.1.2.1 x.2.1.2.2.1 x.2.1.2.2.2.1 x.2.1.2.2.2.2.1 x.2.1.2.2.2.2.2.1 x.2.1.2.2.2.2.2.2.1) y K) n
noncomputable def F27_3x0 : SSh := ⟨224, [(4, .bool)], []⟩
noncomputable def F27_3x1 : SSh := ⟨224, [], []⟩
noncomputable def F27_3s : SSh := ⟨224, [(2, (.ptr 0 0)), (3, (.ptr 1 0)), (8, .bool), (9, .bool)], [(.box 25 (.cons (.imm 4) .nil)), (.box 51 (.cons (.int .i64) (.cons .str (.cons (.int .i64) (.cons (.imm 3) (.cons (.imm 3) (.cons (.imm 2) (.cons (.imm 3) .nil))))))))]⟩
noncomputable def F27_3 {R : Type} (n : Nat) (x520 : Bool) (x521 : Bool) (x522 : List Obj) (x523 : Int) (x524 : ByteArray) (x525 : Int) (x526 : List Val) (x527 : List Val) (x528 : List ByteArray) (x529 : List Val) (k0 : Bool → Option R) (k1 : Option R) : Option R :=
  (bif (x523 == (0 : Int)) then
  (bif x520 then
  (bif x521 then
  (k0 (x525 == (0 : Int)))
  else (k0 false))
  else (k0 false))
  else (bif (x523 == (1 : Int)) then
  (bif x520 then
  (k0 (x525 == (0 : Int)))
  else (k0 false))
  else (F27_1 n x520 x521 x523 x522 x523 x524 x525 x526 x527 x528 x529 (fun z547 z548 z549 z550 z551 z552 z553 z554 z555 z556 z557 z558 =>
  (bif z550 then
  (k0 z547)
  else (bif (z549 == (2 : Int)) then
  (F27_2 n z556 ((z556.length) : Int) (0 : Int) z552 z553 z554 z555 z556 z557 z558 (fun z605 =>
  (k0 z605)) (fun z606 z607 z608 z609 z610 z611 z612 =>
  (bif (((z610.length) : Int) == ((z609.length) : Int)) then
  (k0 (z608 == (0 : Int)))
  else (k0 false))))
  else (bif (z549 == (4 : Int)) then
  (bif (decide (((z555.length) : Int) ≤ (1 : Int))) then
  (bif z547 then
  (k0 (z554 == (0 : Int)))
  else (k0 false))
  else (k0 false))
  else (bif (z549 == (6 : Int)) then
  (bif z548 then
  (bif z547 then
  (k0 (decide (z554 < ((z551.length) : Int))))
  else (k0 false))
  else (k0 false))
  else k1))))))))
noncomputable def F27_3z (n : Nat) : Sm G := inZ G 0 ⟨[2, 3, 8, 9], []⟩ F27_3s fun R x K => F27_3 n x.1.2.2.1 x.1.2.2.2.1 x.2.1.1 x.2.2.1.1 x.2.2.1.2.1 x.2.2.1.2.2.1 x.2.2.1.2.2.2.1 x.2.2.1.2.2.2.2.1 x.2.2.1.2.2.2.2.2.1 x.2.2.1.2.2.2.2.2.2.1 (fun u0 => K .ret (SSh.enc G F27_3x0 ((u0, ()), ()))) (K .normal (SSh.enc G F27_3x1 ((), ())))
theorem F27_3_eq (n : Nat) (R : Type) (x : SSh.den G F27_3s) (K : AE → St G → Option R) :
  F27_3 n x.1.2.2.1 x.1.2.2.2.1 x.2.1.1 x.2.2.1.1 x.2.2.1.2.1 x.2.2.1.2.2.1 x.2.2.1.2.2.2.1 x.2.2.1.2.2.2.2.1 x.2.2.1.2.2.2.2.2.1 x.2.2.1.2.2.2.2.2.2.1 (fun u0 => K .ret (SSh.enc G F27_3x0 ((u0, ()), ()))) (K .normal (SSh.enc G F27_3x1 ((), ()))) = exec prog G (ro G (tabOf (E25 n)) (frOf [F27_0z n, F27_1z n, F27_2z n]) R) 0 (codeAt F27c [1, 1, 1, 1, 1, 1, 1, 1, 0]) (.nd .no (.nd (.nd .no (.nd .no (.nd .no (.nd .no (.nd (.use 1) (.nd .no (.nd .no (.nd (.nd (.nd .no (.nd (.use 2) .no)) .no) .no)))))))) .no)) (SSh.enc G F27_3s x) (kNrm G (ro G (tabOf (E25 n)) (frOf [F27_0z n, F27_1z n, F27_2z n]) R) 0 ⟨⟨[], []⟩, ⟨[4], []⟩, []⟩ K) := by kernel_rfl
theorem F27_3_ok (n : Nat) : FragOK prog G 0 (codeAt F27c [1, 1, 1, 1, 1, 1, 1, 1, 0]) (F27_3z n) :=
  frag_plain laws fnok (E25_ok n).tab (AllF.of (l := [(1, codeAt F27c [1, 1, 1, 1, 1, 1, 1, 1, 0, 1, 0, 1, 1, 1, 1, 0]), (2, codeAt F27c [1, 1, 1, 1, 1, 1, 1, 1, 0, 1, 0, 1, 1, 1, 1, 1, 1, 1, 0, 0, 1, 0])]) (by kernel_rfl) (AllF.cons (F27_1_ok n) (AllF.cons (F27_2_ok n) AllF.nil))) (F27_3_eq n)
noncomputable def F27 (n : Nat) (a358 : List Obj) (a359 : Int) (a360 : ByteArray) (a361 : Int) (a362 : List Val) (a363 : List Val) (a364 : List ByteArray) (a365 : List Val) : Option (Bool × Unit) :=
  (andThen (F47 n a359 (0 : Int) (10 : Int)) fun r371 =>
  (bif (!r371.1) then
  some (false, ())
  else (andThen (F39 n a358 a362) fun r408 =>
  (bif (!r408.1) then
  some (false, ())
  else (andThen (F39 n a358 a363) fun r410 =>
  (bif (!r410.1) then
  some (false, ())
  else (andThen (F39 n a358 a365) fun r412 =>
  (bif (!r412.1) then
  some (false, ())
  else (bif (decide (((a362.length) : Int) > (60 : Int))) then
  some (false, ())
  else (bif (decide (((a363.length) : Int) > (60 : Int))) then
  some (false, ())
  else (bif (decide (((a365.length) : Int) > (60 : Int))) then
  some (false, ())
  else (bif (((a364.length) : Int) != ((a365.length) : Int)) then
  some (false, ())
  else (andThen (F47 n a361 (0 : Int) (1000000 : Int)) fun r423 =>
  (bif (!r423.1) then
  some (false, ())
  else (F27_0 n a364 ((a364.length) : Int) (0 : Int) a358 a359 a360 a361 a362 a363 a364 a365 (fun z460 =>
  some (z460, ())) (fun z461 z462 z463 z464 z465 z466 z467 z468 =>
  (bif (decide (((z467.length) : Int) > (0 : Int))) then
  (bif (z462 != (5 : Int)) then
  (bif (z462 != (6 : Int)) then
  some (false, ())
  else (bif (z462 == (3 : Int)) then
  (bif (!(true == (!((z463.toList) == (({ data := #[] } : ByteArray).toList))))) then
  some (false, ())
  else (andThen (F49 n z463) fun r513 =>
  (bif (!r513.1) then
  (bif (!((z463.toList) == (({ data := #[108, 97, 109, 98, 100, 97] } : ByteArray).toList))) then
  some (false, ())
  else (F27_3 n (((z466.length) : Int) == (0 : Int)) (((z465.length) : Int) == (0 : Int)) z461 z462 z463 z464 z465 z466 z467 z468 (fun z624 =>
  some (z624, ())) (
  some (true, ()))))
  else (F27_3 n (((z466.length) : Int) == (0 : Int)) (((z465.length) : Int) == (0 : Int)) z461 z462 z463 z464 z465 z466 z467 z468 (fun z629 =>
  some (z629, ())) (
  some (true, ()))))))
  else (bif (z462 == (5 : Int)) then
  (bif (!(true == (!((z463.toList) == (({ data := #[] } : ByteArray).toList))))) then
  some (false, ())
  else (andThen (F49 n z463) fun r633 =>
  (bif (!r633.1) then
  (bif (!((z463.toList) == (({ data := #[108, 97, 109, 98, 100, 97] } : ByteArray).toList))) then
  some (false, ())
  else (F27_3 n (((z466.length) : Int) == (0 : Int)) (((z465.length) : Int) == (0 : Int)) z461 z462 z463 z464 z465 z466 z467 z468 (fun z640 =>
  some (z640, ())) (
  some (true, ()))))
  else (F27_3 n (((z466.length) : Int) == (0 : Int)) (((z465.length) : Int) == (0 : Int)) z461 z462 z463 z464 z465 z466 z467 z468 (fun z645 =>
  some (z645, ())) (
  some (true, ()))))))
  else let v646 := (z462 == (10 : Int))
  (bif (!(v646 == (!((z463.toList) == (({ data := #[] } : ByteArray).toList))))) then
  some (false, ())
  else (bif v646 then
  (andThen (F49 n z463) fun r649 =>
  (bif (!r649.1) then
  (bif (!((z463.toList) == (({ data := #[108, 97, 109, 98, 100, 97] } : ByteArray).toList))) then
  some (false, ())
  else (F27_3 n (((z466.length) : Int) == (0 : Int)) (((z465.length) : Int) == (0 : Int)) z461 z462 z463 z464 z465 z466 z467 z468 (fun z656 =>
  some (z656, ())) (
  some (true, ()))))
  else (F27_3 n (((z466.length) : Int) == (0 : Int)) (((z465.length) : Int) == (0 : Int)) z461 z462 z463 z464 z465 z466 z467 z468 (fun z661 =>
  some (z661, ())) (
  some (true, ())))))
  else (F27_3 n (((z466.length) : Int) == (0 : Int)) (((z465.length) : Int) == (0 : Int)) z461 z462 z463 z464 z465 z466 z467 z468 (fun z666 =>
  some (z666, ())) (
  some (true, ()))))))))
  else (bif (z462 == (3 : Int)) then
  (bif (!(true == (!((z463.toList) == (({ data := #[] } : ByteArray).toList))))) then
  some (false, ())
  else (andThen (F49 n z463) fun r670 =>
  (bif (!r670.1) then
  (bif (!((z463.toList) == (({ data := #[108, 97, 109, 98, 100, 97] } : ByteArray).toList))) then
  some (false, ())
  else (F27_3 n (((z466.length) : Int) == (0 : Int)) (((z465.length) : Int) == (0 : Int)) z461 z462 z463 z464 z465 z466 z467 z468 (fun z677 =>
  some (z677, ())) (
  some (true, ()))))
  else (F27_3 n (((z466.length) : Int) == (0 : Int)) (((z465.length) : Int) == (0 : Int)) z461 z462 z463 z464 z465 z466 z467 z468 (fun z682 =>
  some (z682, ())) (
  some (true, ()))))))
  else (bif (z462 == (5 : Int)) then
  (bif (!(true == (!((z463.toList) == (({ data := #[] } : ByteArray).toList))))) then
  some (false, ())
  else (andThen (F49 n z463) fun r686 =>
  (bif (!r686.1) then
  (bif (!((z463.toList) == (({ data := #[108, 97, 109, 98, 100, 97] } : ByteArray).toList))) then
  some (false, ())
  else (F27_3 n (((z466.length) : Int) == (0 : Int)) (((z465.length) : Int) == (0 : Int)) z461 z462 z463 z464 z465 z466 z467 z468 (fun z693 =>
  some (z693, ())) (
  some (true, ()))))
  else (F27_3 n (((z466.length) : Int) == (0 : Int)) (((z465.length) : Int) == (0 : Int)) z461 z462 z463 z464 z465 z466 z467 z468 (fun z698 =>
  some (z698, ())) (
  some (true, ()))))))
  else let v699 := (z462 == (10 : Int))
  (bif (!(v699 == (!((z463.toList) == (({ data := #[] } : ByteArray).toList))))) then
  some (false, ())
  else (bif v699 then
  (andThen (F49 n z463) fun r702 =>
  (bif (!r702.1) then
  (bif (!((z463.toList) == (({ data := #[108, 97, 109, 98, 100, 97] } : ByteArray).toList))) then
  some (false, ())
  else (F27_3 n (((z466.length) : Int) == (0 : Int)) (((z465.length) : Int) == (0 : Int)) z461 z462 z463 z464 z465 z466 z467 z468 (fun z709 =>
  some (z709, ())) (
  some (true, ()))))
  else (F27_3 n (((z466.length) : Int) == (0 : Int)) (((z465.length) : Int) == (0 : Int)) z461 z462 z463 z464 z465 z466 z467 z468 (fun z714 =>
  some (z714, ())) (
  some (true, ())))))
  else (F27_3 n (((z466.length) : Int) == (0 : Int)) (((z465.length) : Int) == (0 : Int)) z461 z462 z463 z464 z465 z466 z467 z468 (fun z719 =>
  some (z719, ())) (
  some (true, ()))))))))
  else (bif (z462 == (3 : Int)) then
  (bif (!(true == (!((z463.toList) == (({ data := #[] } : ByteArray).toList))))) then
  some (false, ())
  else (andThen (F49 n z463) fun r723 =>
  (bif (!r723.1) then
  (bif (!((z463.toList) == (({ data := #[108, 97, 109, 98, 100, 97] } : ByteArray).toList))) then
  some (false, ())
  else (F27_3 n (((z466.length) : Int) == (0 : Int)) (((z465.length) : Int) == (0 : Int)) z461 z462 z463 z464 z465 z466 z467 z468 (fun z730 =>
  some (z730, ())) (
  some (true, ()))))
  else (F27_3 n (((z466.length) : Int) == (0 : Int)) (((z465.length) : Int) == (0 : Int)) z461 z462 z463 z464 z465 z466 z467 z468 (fun z735 =>
  some (z735, ())) (
  some (true, ()))))))
  else (bif (z462 == (5 : Int)) then
  (bif (!(true == (!((z463.toList) == (({ data := #[] } : ByteArray).toList))))) then
  some (false, ())
  else (andThen (F49 n z463) fun r739 =>
  (bif (!r739.1) then
  (bif (!((z463.toList) == (({ data := #[108, 97, 109, 98, 100, 97] } : ByteArray).toList))) then
  some (false, ())
  else (F27_3 n (((z466.length) : Int) == (0 : Int)) (((z465.length) : Int) == (0 : Int)) z461 z462 z463 z464 z465 z466 z467 z468 (fun z746 =>
  some (z746, ())) (
  some (true, ()))))
  else (F27_3 n (((z466.length) : Int) == (0 : Int)) (((z465.length) : Int) == (0 : Int)) z461 z462 z463 z464 z465 z466 z467 z468 (fun z751 =>
  some (z751, ())) (
  some (true, ()))))))
  else let v752 := (z462 == (10 : Int))
  (bif (!(v752 == (!((z463.toList) == (({ data := #[] } : ByteArray).toList))))) then
  some (false, ())
  else (bif v752 then
  (andThen (F49 n z463) fun r755 =>
  (bif (!r755.1) then
  (bif (!((z463.toList) == (({ data := #[108, 97, 109, 98, 100, 97] } : ByteArray).toList))) then
  some (false, ())
  else (F27_3 n (((z466.length) : Int) == (0 : Int)) (((z465.length) : Int) == (0 : Int)) z461 z462 z463 z464 z465 z466 z467 z468 (fun z762 =>
  some (z762, ())) (
  some (true, ()))))
  else (F27_3 n (((z466.length) : Int) == (0 : Int)) (((z465.length) : Int) == (0 : Int)) z461 z462 z463 z464 z465 z466 z467 z468 (fun z767 =>
  some (z767, ())) (
  some (true, ())))))
  else (F27_3 n (((z466.length) : Int) == (0 : Int)) (((z465.length) : Int) == (0 : Int)) z461 z462 z463 z464 z465 z466 z467 z468 (fun z772 =>
  some (z772, ())) (
  some (true, ()))))))))))))))))))))))))
noncomputable def F27e (n : Nat) : Ent G := ⟨27, (.cons (.agg (.cons (.imm 4) .nil)) (.cons (.agg (.cons (.int .i64) (.cons .str (.cons (.int .i64) (.cons (.imm 3) (.cons (.imm 3) (.cons (.imm 2) (.cons (.imm 3) .nil)))))))) .nil)), [], .bool, [], fun x y => F27 n x.1.1 x.2.1.1 x.2.1.2.1 x.2.1.2.2.1 x.2.1.2.2.2.1 x.2.1.2.2.2.2.1 x.2.1.2.2.2.2.2.1 x.2.1.2.2.2.2.2.2.1⟩
theorem F27_eq (n : Nat) (x : ShL.den G (.cons (.agg (.cons (.imm 4) .nil)) (.cons (.agg (.cons (.int .i64) (.cons .str (.cons (.int .i64) (.cons (.imm 3) (.cons (.imm 3) (.cons (.imm 2) (.cons (.imm 3) .nil)))))))) .nil))) (y : denO G []) : (F27e n).F x y = runFn prog G (ro G (tabOf (E25 n)) (frOf [F27_0z n, F27_1z n, F27_2z n, F27_3z n]) _) Go.Proofs.Try.f27 (.nd .no (.nd .no (.nd .no (.nd (.nd .no (.nd (.use 0) .no)) (.nd .no (.nd .no (.nd .no (.nd .no (.nd (.use 3) .no))))))))) [(0, .fz)] (ShL.enc G (.cons (.agg (.cons (.imm 4) .nil)) (.cons (.agg (.cons (.int .i64) (.cons .str (.cons (.int .i64) (.cons (.imm 3) (.cons (.imm 3) (.cons (.imm 2) (.cons (.imm 3) .nil)))))))) .nil)) x) (encO G [] y) (decR .bool []) := by kernel_rfl
theorem F27_ok (n : Nat) : EntOK prog G (F27e n) :=
  ent_ok (fr := frOf [F27_0z n, F27_1z n, F27_2z n, F27_3z n]) (ann := (.nd .no (.nd .no (.nd .no (.nd (.nd .no (.nd (.use 0) .no)) (.nd .no (.nd .no (.nd .no (.nd .no (.nd (.use 3) .no)))))))))) (frm := [(0, .fz)]) laws fnok (E25_ok n).tab (e := F27e n) (fn := Go.Proofs.Try.f27) (by kernel_rfl) (AllF.ofB (cd := F27c) (l := [(0, codeAt F27c [1, 1, 1, 0, 1, 0]), (3, codeAt F27c [1, 1, 1, 1, 1, 1, 1, 1, 0])]) (by kernel_rfl) (by kernel_rfl) (AllF.cons (F27_0_ok n) (AllF.cons (F27_3_ok n) AllF.nil))) (F27_eq n)
noncomputable def E26 (n : Nat) : List (Ent G) := F27e n :: E25 n
theorem E26_ok (n : Nat) : AllE prog G (E26 n) := AllE.cons (F27_ok n) (E25_ok n)
noncomputable def F10_0x0 : SSh := ⟨21, [(2, .bool)], []⟩
noncomputable def F10_0x1 : SSh := ⟨21, [], []⟩
noncomputable def F10_0s : SSh := ⟨21, [(1, (.ptr 0 0)), (10, (.imm 4)), (11, (.int .i64)), (12, (.int .i64))], [(.box 25 (.cons (.imm 4) .nil))]⟩
noncomputable def F10_0_step {R : Type} (n : Nat) (k0 : Bool → Option R) (k1 : Option R) (rec : List Obj → Int → Int → List Obj → Option R) (x345 : List Obj) (x346 : Int) (x347 : Int) (x348 : List Obj) : Option R :=
  (bif (decide (x347 < x346)) then
  (bif (decide ((0 : Int) ≤ x347)) then
  (bif (decide (x347 < ((x345.length) : Int))) then
  let v350 := (x345.getD (x347.toNat) (Obj.mk (0 : Int) ({ data := #[] } : ByteArray) (0 : Int) [] [] [] []))
  (andThen (F27 n x348 v350.kind v350.name v350.at_ v350.items v350.keys v350.names v350.vals) fun r773 =>
  (bif (!r773.1) then
  (k0 false)
  else (rec x345 x346 (IntKind.wrap .i64 (x347 + (1 : Int))) x348)))
  else none)
  else none)
  else k1)
noncomputable def F10_0_it {R : Type} (n : Nat) (k0 : Bool → Option R) (k1 : Option R) : Nat → List Obj → Int → Int → List Obj → Option R
  | 0, _, _, _, _ => none
  | k + 1, x345, x346, x347, x348 => F10_0_step n k0 k1 (F10_0_it n k0 k1 k) x345 x346 x347 x348
noncomputable def F10_0 {R : Type} (n : Nat) (x345 : List Obj) (x346 : Int) (x347 : Int) (x348 : List Obj) (k0 : Bool → Option R) (k1 : Option R) : Option R := F10_0_it n k0 k1 n x345 x346 x347 x348
noncomputable def F10_0z (n : Nat) : Sm G := inZ G 0 ⟨[1, 10, 11, 12], []⟩ F10_0s fun R x K => F10_0_it n (fun u0 => K .ret (SSh.enc G F10_0x0 ((u0, ()), ()))) (K (.exit 0) (SSh.enc G F10_0x1 ((), ()))) n x.1.2.1 x.1.2.2.1 x.1.2.2.2.1 x.2.1.1
theorem F10_0_eq (n : Nat) (R : Type) (rec : SSh.den G F10_0s → Option R) (x : SSh.den G F10_0s) (K : AE → St G → Option R) :
  F10_0_step n (fun u0 => K .ret (SSh.enc G F10_0x0 ((u0, ()), ()))) (K (.exit 0) (SSh.enc G F10_0x1 ((), ()))) (fun x345 x346 x347 x348 => rec (((), (x345, (x346, (x347, ())))), ((x348, ()), ()))) x.1.2.1 x.1.2.2.1 x.1.2.2.2.1 x.2.1.1 = exec prog G (ro G (tabOf (E26 n)) (frOf []) R) 0 (codeAt F10c [1, 1, 0, 1, 0, 0]) .no (SSh.enc G F10_0s x) (kLoop G (ro G (tabOf (E26 n)) (frOf []) R) 0 ⟨[1, 10, 11, 12], []⟩ F10_0s ⟨⟨[], []⟩, ⟨[2], []⟩, [(0, ⟨[], []⟩)]⟩ rec K) := by kernel_rfl
theorem F10_0_ok (n : Nat) : FragOK prog G 0 (codeAt F10c [1, 1, 0, 1, 0]) (F10_0z n) :=
  frag_loop (Z := fun R k (x : SSh.den G F10_0s) K => F10_0_it n (fun u0 => K .ret (SSh.enc G F10_0x0 ((u0, ()), ()))) (K (.exit 0) (SSh.enc G F10_0x1 ((), ()))) k x.1.2.1 x.1.2.2.1 x.1.2.2.2.1 x.2.1.1) laws fnok (E26_ok n).tab (AllF.of (l := []) (by kernel_rfl) AllF.nil) (fun _ _ _ => rfl) (fun R k y K => F10_0_eq n R (fun (x : SSh.den G F10_0s) => F10_0_it n (fun u0 => K .ret (SSh.enc G F10_0x0 ((u0, ()), ()))) (K (.exit 0) (SSh.enc G F10_0x1 ((), ()))) k x.1.2.1 x.1.2.2.1 x.1.2.2.2.1 x.2.1.1) y K) n
noncomputable def F10 (n : Nat) (a341 : List Obj) : Option (Bool × Unit) :=
  (bif (decide (((a341.length) : Int) > (600 : Int))) then
  some (false, ())
  else (F10_0 n a341 ((a341.length) : Int) (0 : Int) a341 (fun z776 =>
  some (z776, ())) (
  some (true, ()))))
noncomputable def F10e (n : Nat) : Ent G := ⟨10, (.cons (.agg (.cons (.imm 4) .nil)) .nil), [], .bool, [], fun x y => F10 n x.1.1⟩
theorem F10_eq (n : Nat) (x : ShL.den G (.cons (.agg (.cons (.imm 4) .nil)) .nil)) (y : denO G []) : (F10e n).F x y = runFn prog G (ro G (tabOf (E26 n)) (frOf [F10_0z n]) _) Go.Proofs.Try.f10 (.nd .no (.nd .no (.nd (.nd .no (.nd (.use 0) .no)) .no))) [(0, .fz)] (ShL.enc G (.cons (.agg (.cons (.imm 4) .nil)) .nil) x) (encO G [] y) (decR .bool []) := by kernel_rfl
theorem F10_ok (n : Nat) : EntOK prog G (F10e n) :=
  ent_ok (fr := frOf [F10_0z n]) (ann := (.nd .no (.nd .no (.nd (.nd .no (.nd (.use 0) .no)) .no)))) (frm := [(0, .fz)]) laws fnok (E26_ok n).tab (e := F10e n) (fn := Go.Proofs.Try.f10) (by kernel_rfl) (AllF.ofB (cd := F10c) (l := [(0, codeAt F10c [1, 1, 0, 1, 0])]) (by kernel_rfl) (by kernel_rfl) (AllF.cons (F10_0_ok n) AllF.nil)) (F10_eq n)
noncomputable def E27 (n : Nat) : List (Ent G) := F10e n :: E26 n
theorem E27_ok (n : Nat) : AllE prog G (E27 n) := AllE.cons (F10_ok n) (E26_ok n)
-- 11 loop.example/slowworm/impl.HeapShow
noncomputable def F11c : Code := bodyOf Go.Proofs.Try.f11
-- 29 (loop.example/slowworm/impl.Heap).show
noncomputable def F29c : Code := bodyOf Go.Proofs.Try.f29
-- 77 (*strings.Builder).Len
noncomputable def F77c : Code := bodyOf Go.Proofs.Try.f77
noncomputable def F77 (n : Nat) (a797 : List Obj) (a798 : List Int) (a799 : List Int) : Option (Int × ((List Obj × (Unit × (Unit × (Unit × Unit)))) × (List Int × (List Int × Unit)))) :=
  some (((a798.length) : Int), ((a797, ((), ((), ((), ())))), (a798, (a799, ()))))
noncomputable def F77e (n : Nat) : Ent G := ⟨77, (.cons (.ptr 0 1) .nil), [(.box 78 (.cons (.imm 4) (.cons (.nsp 0 1) (.cons (.own 1) (.cons (.own 2) .nil))))), (.arr 1 true), (.arr 0 true)], (.int .i64), [(.box 78 (.cons (.imm 4) (.cons (.nsp 0 1) (.cons (.own 1) (.cons (.own 2) .nil))))), (.arr 1 true), (.arr 0 true)], fun x y => F77 n y.1.1 y.2.1 y.2.2.1⟩
theorem F77_eq (n : Nat) (x : ShL.den G (.cons (.ptr 0 1) .nil)) (y : denO G [(.box 78 (.cons (.imm 4) (.cons (.nsp 0 1) (.cons (.own 1) (.cons (.own 2) .nil))))), (.arr 1 true), (.arr 0 true)]) : (F77e n).F x y = runFn prog G (ro G (tabOf (E27 n)) (frOf []) _) Go.Proofs.Try.f77 .no [(0, .fz)] (ShL.enc G (.cons (.ptr 0 1) .nil) x) (encO G [(.box 78 (.cons (.imm 4) (.cons (.nsp 0 1) (.cons (.own 1) (.cons (.own 2) .nil))))), (.arr 1 true), (.arr 0 true)] y) (decR (.int .i64) [(.box 78 (.cons (.imm 4) (.cons (.nsp 0 1) (.cons (.own 1) (.cons (.own 2) .nil))))), (.arr 1 true), (.arr 0 true)]) := by kernel_rfl
theorem F77_ok (n : Nat) : EntOK prog G (F77e n) :=
  ent_ok (fr := frOf []) (ann := .no) (frm := [(0, .fz)]) laws fnok (E27_ok n).tab (e := F77e n) (fn := Go.Proofs.Try.f77) (by kernel_rfl) (AllF.ofB (cd := F77c) (l := []) (by kernel_rfl) (by kernel_rfl) AllF.nil) (F77_eq n)
noncomputable def E28 (n : Nat) : List (Ent G) := F77e n :: E27 n
theorem E28_ok (n : Nat) : AllE prog G (E28 n) := AllE.cons (F77_ok n) (E27_ok n)
-- 78 (*strings.Builder).WriteString
noncomputable def F78c : Code := bodyOf Go.Proofs.Try.f78
noncomputable def F78 (n : Nat) (a804 : ByteArray) (a805 : List Obj) (a806 : List Int) (a807 : List Int) : Option ((Int × (Unit × Unit)) × ((List Obj × (Unit × (Unit × (Unit × Unit)))) × (Unit × (List Int × (List Int × Unit))))) :=
  (andThen (L102 a805 a806 a807) fun r808 =>
  (bif (decide (((r808.2.2.1.length) + ((List.map (fun y809 => y809) (intsOfBytes a804)).length)) ≤ (68719476736 : Nat))) then
  some ((((a804.size) : Int), ((), ())), ((r808.2.1.1, ((), ((), ((), ())))), ((), (r808.2.2.2.1, ((r808.2.2.1 ++ (List.map (fun y811 => y811) (intsOfBytes a804))), ())))))
  else none))
noncomputable def F78e (n : Nat) : Ent G := ⟨78, (.cons (.ptr 0 1) (.cons .str .nil)), [(.box 78 (.cons (.imm 4) (.cons (.nsp 0 1) (.cons (.own 1) (.cons (.own 2) .nil))))), (.arr 1 true), (.arr 0 true)], (.tup (.cons (.int .i64) (.cons .nili .nil))), [(.box 78 (.cons (.imm 4) (.cons (.nsp 0 1) (.cons (.own 3) (.cons (.own 2) .nil))))), .dead, (.arr 0 true), (.arr 1 true)], fun x y => F78 n x.2.1 y.1.1 y.2.1 y.2.2.1⟩
theorem F78_eq (n : Nat) (x : ShL.den G (.cons (.ptr 0 1) (.cons .str .nil))) (y : denO G [(.box 78 (.cons (.imm 4) (.cons (.nsp 0 1) (.cons (.own 1) (.cons (.own 2) .nil))))), (.arr 1 true), (.arr 0 true)]) : (F78e n).F x y = runFn prog G (ro G (tabOf (E28 n)) (frOf []) _) Go.Proofs.Try.f78 .no [(0, .fz), (1, .fz)] (ShL.enc G (.cons (.ptr 0 1) (.cons .str .nil)) x) (encO G [(.box 78 (.cons (.imm 4) (.cons (.nsp 0 1) (.cons (.own 1) (.cons (.own 2) .nil))))), (.arr 1 true), (.arr 0 true)] y) (decR (.tup (.cons (.int .i64) (.cons .nili .nil))) [(.box 78 (.cons (.imm 4) (.cons (.nsp 0 1) (.cons (.own 3) (.cons (.own 2) .nil))))), .dead, (.arr 0 true), (.arr 1 true)]) := by kernel_rfl
theorem F78_ok (n : Nat) : EntOK prog G (F78e n) :=
  ent_ok (fr := frOf []) (ann := .no) (frm := [(0, .fz), (1, .fz)]) laws fnok (E28_ok n).tab (e := F78e n) (fn := Go.Proofs.Try.f78) (by kernel_rfl) (AllF.ofB (cd := F78c) (l := []) (by kernel_rfl) (by kernel_rfl) AllF.nil) (F78_eq n)
noncomputable def E29 (n : Nat) : List (Ent G) := F78e n :: E28 n
theorem E29_ok (n : Nat) : AllE prog G (E29 n) := AllE.cons (F78_ok n) (E28_ok n)
-- 104 slices.Contains[[]int,int]
noncomputable def F104c : Code := bodyOf Go.Proofs.Try.f104
-- 112 slices.Index[[]int,int]
noncomputable def F112c : Code := bodyOf Go.Proofs.Try.f112
noncomputable def F112_0x0 : SSh := ⟨19, [(4, (.int .i64))], []⟩
noncomputable def F112_0x1 : SSh := ⟨19, [], []⟩
noncomputable def F112_0s : SSh := ⟨19, [(0, (.imm 0)), (1, (.int .i64)), (7, (.int .i64)), (8, (.int .i64))], []⟩
noncomputable def F112_0_step {R : Type} (n : Nat) (k0 : Int → Option R) (k1 : Option R) (rec : List Int → Int → Int → Int → Option R) (x894 : List Int) (x895 : Int) (x896 : Int) (x897 : Int) : Option R :=
  (bif (decide (x897 < x896)) then
  (bif (decide ((0 : Int) ≤ x897)) then
  (bif (decide (x897 < ((x894.length) : Int))) then
  (bif (x895 == (x894.getD (x897.toNat) (0 : Int))) then
  (k0 x897)
  else (rec x894 x895 x896 (IntKind.wrap .i64 (x897 + (1 : Int)))))
  else none)
  else none)
  else k1)
noncomputable def F112_0_it {R : Type} (n : Nat) (k0 : Int → Option R) (k1 : Option R) : Nat → List Int → Int → Int → Int → Option R
  | 0, _, _, _, _ => none
  | k + 1, x894, x895, x896, x897 => F112_0_step n k0 k1 (F112_0_it n k0 k1 k) x894 x895 x896 x897
noncomputable def F112_0 {R : Type} (n : Nat) (x894 : List Int) (x895 : Int) (x896 : Int) (x897 : Int) (k0 : Int → Option R) (k1 : Option R) : Option R := F112_0_it n k0 k1 n x894 x895 x896 x897
noncomputable def F112_0z (n : Nat) : Sm G := inZ G 0 ⟨[0, 1, 7, 8], []⟩ F112_0s fun R x K => F112_0_it n (fun u0 => K .ret (SSh.enc G F112_0x0 ((u0, ()), ()))) (K (.exit 0) (SSh.enc G F112_0x1 ((), ()))) n x.1.1 x.1.2.1 x.1.2.2.1 x.1.2.2.2.1
theorem F112_0_eq (n : Nat) (R : Type) (rec : SSh.den G F112_0s → Option R) (x : SSh.den G F112_0s) (K : AE → St G → Option R) :
  F112_0_step n (fun u0 => K .ret (SSh.enc G F112_0x0 ((u0, ()), ()))) (K (.exit 0) (SSh.enc G F112_0x1 ((), ()))) (fun x894 x895 x896 x897 => rec ((x894, (x895, (x896, (x897, ())))), ())) x.1.1 x.1.2.1 x.1.2.2.1 x.1.2.2.2.1 = exec prog G (ro G (tabOf (E29 n)) (frOf []) R) 0 (codeAt F112c [1, 0, 1, 0, 0]) .no (SSh.enc G F112_0s x) (kLoop G (ro G (tabOf (E29 n)) (frOf []) R) 0 ⟨[0, 1, 7, 8], []⟩ F112_0s ⟨⟨[], []⟩, ⟨[4], []⟩, [(0, ⟨[], []⟩)]⟩ rec K) := by kernel_rfl
theorem F112_0_ok (n : Nat) : FragOK prog G 0 (codeAt F112c [1, 0, 1, 0]) (F112_0z n) :=
  frag_loop (Z := fun R k (x : SSh.den G F112_0s) K => F112_0_it n (fun u0 => K .ret (SSh.enc G F112_0x0 ((u0, ()), ()))) (K (.exit 0) (SSh.enc G F112_0x1 ((), ()))) k x.1.1 x.1.2.1 x.1.2.2.1 x.1.2.2.2.1) laws fnok (E29_ok n).tab (AllF.of (l := []) (by kernel_rfl) AllF.nil) (fun _ _ _ => rfl) (fun R k y K => F112_0_eq n R (fun (x : SSh.den G F112_0s) => F112_0_it n (fun u0 => K .ret (SSh.enc G F112_0x0 ((u0, ()), ()))) (K (.exit 0) (SSh.enc G F112_0x1 ((), ()))) k x.1.1 x.1.2.1 x.1.2.2.1 x.1.2.2.2.1) y K) n
noncomputable def F112 (n : Nat) (a891 : List Int) (a892 : Int) : Option (Int × Unit) :=
  (F112_0 n a891 a892 ((a891.length) : Int) (0 : Int) (fun z903 =>
  some (z903, ())) (
  some ((-1 : Int), ())))
noncomputable def F112e (n : Nat) : Ent G := ⟨112, (.cons (.imm 0) (.cons (.int .i64) .nil)), [], (.int .i64), [], fun x y => F112 n x.1 x.2.1⟩
theorem F112_eq (n : Nat) (x : ShL.den G (.cons (.imm 0) (.cons (.int .i64) .nil))) (y : denO G []) : (F112e n).F x y = runFn prog G (ro G (tabOf (E29 n)) (frOf [F112_0z n]) _) Go.Proofs.Try.f112 (.nd .no (.nd (.nd .no (.nd (.use 0) .no)) .no)) [(0, .fz)] (ShL.enc G (.cons (.imm 0) (.cons (.int .i64) .nil)) x) (encO G [] y) (decR (.int .i64) []) := by kernel_rfl
theorem F112_ok (n : Nat) : EntOK prog G (F112e n) :=
  ent_ok (fr := frOf [F112_0z n]) (ann := (.nd .no (.nd (.nd .no (.nd (.use 0) .no)) .no))) (frm := [(0, .fz)]) laws fnok (E29_ok n).tab (e := F112e n) (fn := Go.Proofs.Try.f112) (by kernel_rfl) (AllF.ofB (cd := F112c) (l := [(0, codeAt F112c [1, 0, 1, 0])]) (by kernel_rfl) (by kernel_rfl) (AllF.cons (F112_0_ok n) AllF.nil)) (F112_eq n)
noncomputable def E30 (n : Nat) : List (Ent G) := F112e n :: E29 n
theorem E30_ok (n : Nat) : AllE prog G (E30 n) := AllE.cons (F112_ok n) (E29_ok n)
noncomputable def F104 (n : Nat) (a889 : List Int) (a890 : Int) : Option (Bool × Unit) :=
  (andThen (F112 n a889 a890) fun r904 =>
  some ((decide (r904.1 ≥ (0 : Int))), ()))
noncomputable def F104e (n : Nat) : Ent G := ⟨104, (.cons (.imm 0) (.cons (.int .i64) .nil)), [], .bool, [], fun x y => F104 n x.1 x.2.1⟩
theorem F104_eq (n : Nat) (x : ShL.den G (.cons (.imm 0) (.cons (.int .i64) .nil))) (y : denO G []) : (F104e n).F x y = runFn prog G (ro G (tabOf (E30 n)) (frOf []) _) Go.Proofs.Try.f104 .no [(0, .fz)] (ShL.enc G (.cons (.imm 0) (.cons (.int .i64) .nil)) x) (encO G [] y) (decR .bool []) := by kernel_rfl
theorem F104_ok (n : Nat) : EntOK prog G (F104e n) :=
  ent_ok (fr := frOf []) (ann := .no) (frm := [(0, .fz)]) laws fnok (E30_ok n).tab (e := F104e n) (fn := Go.Proofs.Try.f104) (by kernel_rfl) (AllF.ofB (cd := F104c) (l := []) (by kernel_rfl) (by kernel_rfl) AllF.nil) (F104_eq n)
noncomputable def E31 (n : Nat) : List (Ent G) := F104e n :: E30 n
theorem E31_ok (n : Nat) : AllE prog G (E31 n) := AllE.cons (F104_ok n) (E30_ok n)
abbrev Q52RC : Type := (Int → ByteArray → Int → Bool → List Obj → List Int → List Int → Option (Unit × ((List Obj × (Unit × (Unit × (Unit × Unit)))) × (Unit × (Unit × (List Int × (List Int × Unit))))))) × (Int → List Obj → List Int → List Int → Option (Unit × ((List Obj × (Unit × (Unit × (Unit × Unit)))) × (Unit × (Unit × (List Int × (List Int × Unit))))))) × Unit
noncomputable def Q52L (n : Nat) (rc : Q52RC) : List (Ent G) := ⟨52, (.cons (.ptr 0 0) (.cons (.agg (.cons (.int .i64) (.cons .str (.cons (.int .i64) .nil)))) (.cons .bool .nil))), [(.box 78 (.cons (.imm 4) (.cons (.nsp 0 1) (.cons (.own 1) (.cons (.own 2) .nil))))), (.arr 1 true), (.arr 0 true)], (.tup .nil), [(.box 78 (.cons (.imm 4) (.cons (.nsp 0 1) (.cons (.own 3) (.cons (.own 4) .nil))))), .dead, .dead, (.arr 1 true), (.arr 0 true)], fun x y => rc.1 x.2.1.1 x.2.1.2.1 x.2.1.2.2.1 x.2.2.1 y.1.1 y.2.1 y.2.2.1⟩ :: ⟨80, (.cons (.ptr 0 0) (.cons (.int .i64) .nil)), [(.box 78 (.cons (.imm 4) (.cons (.nsp 0 1) (.cons (.own 1) (.cons (.own 2) .nil))))), (.arr 1 true), (.arr 0 true)], (.tup .nil), [(.box 78 (.cons (.imm 4) (.cons (.nsp 0 1) (.cons (.own 3) (.cons (.own 4) .nil))))), .dead, .dead, (.arr 1 true), (.arr 0 true)], fun x y => rc.2.1 x.2.1 y.1.1 y.2.1 y.2.2.1⟩ :: E31 n
-- 52 (*loop.example/slowworm/impl.shower).value
noncomputable def F52bc : Code := bodyOf Go.Proofs.Try.f52
noncomputable def F52b (n : Nat) (rc : Q52RC) (a1287 : Int) (a1288 : ByteArray) (a1289 : Int) (a1290 : Bool) (a1291 : List Obj) (a1292 : List Int) (a1293 : List Int) : Option (Unit × ((List Obj × (Unit × (Unit × (Unit × Unit)))) × (Unit × (Unit × (List Int × (List Int × Unit)))))) :=
  (andThen (F77 n a1291 a1292 a1293) fun r1294 =>
  (bif (decide (r1294.1 > (400 : Int))) then
  some ((), ((r1294.2.1.1, ((), ((), ((), ())))), ((), ((), (r1294.2.2.1, (r1294.2.2.2.1, ()))))))
  else (bif (a1287 == (0 : Int)) then
  (andThen (F78 n ({ data := #[78, 111, 110, 101] } : ByteArray) r1294.2.1.1 r1294.2.2.1 r1294.2.2.2.1) fun r1297 =>
  some ((), ((r1297.2.1.1, ((), ((), ((), ())))), ((), ((), (r1297.2.2.2.2.1, (r1297.2.2.2.1, ())))))))
  else (bif (a1287 == (1 : Int)) then
  let v1299 := (({ data := #[70, 97, 108, 115, 101] } : ByteArray) :: (({ data := #[84, 114, 117, 101] } : ByteArray) :: []))
  (bif (decide ((0 : Int) ≤ a1289)) then
  (bif (decide (a1289 < ((v1299.length) : Int))) then
  (andThen (F78 n (v1299.getD (a1289.toNat) ({ data := #[] } : ByteArray)) r1294.2.1.1 r1294.2.2.1 r1294.2.2.2.1) fun r1302 =>
  some ((), ((r1302.2.1.1, ((), ((), ((), ())))), ((), ((), (r1302.2.2.2.2.1, (r1302.2.2.2.1, ())))))))
  else none)
  else none)
  else (bif (a1287 == (2 : Int)) then
  (andThen (F78 n a1288 r1294.2.1.1 r1294.2.2.1 r1294.2.2.2.1) fun r1304 =>
  some ((), ((r1304.2.1.1, ((), ((), ((), ())))), ((), ((), (r1304.2.2.2.2.1, (r1304.2.2.2.1, ())))))))
  else (bif (a1287 == (3 : Int)) then
  (bif a1290 then
  none
  else (andThen (F78 n a1288 r1294.2.1.1 r1294.2.2.1 r1294.2.2.2.1) fun r1306 =>
  some ((), ((r1306.2.1.1, ((), ((), ((), ())))), ((), ((), (r1306.2.2.2.2.1, (r1306.2.2.2.1, ()))))))))
  else (andThen (rc.2.1 a1289 r1294.2.1.1 r1294.2.2.1 r1294.2.2.2.1) fun r1307 =>
  some ((), ((r1307.2.1.1, ((), ((), ((), ())))), ((), ((), (r1307.2.2.2.2.1, (r1307.2.2.2.2.2.1, ())))))))))))))
noncomputable def F52be (n : Nat) (rc : Q52RC) : Ent G := ⟨52, (.cons (.ptr 0 0) (.cons (.agg (.cons (.int .i64) (.cons .str (.cons (.int .i64) .nil)))) (.cons .bool .nil))), [(.box 78 (.cons (.imm 4) (.cons (.nsp 0 1) (.cons (.own 1) (.cons (.own 2) .nil))))), (.arr 1 true), (.arr 0 true)], (.tup .nil), [(.box 78 (.cons (.imm 4) (.cons (.nsp 0 1) (.cons (.own 3) (.cons (.own 4) .nil))))), .dead, .dead, (.arr 1 true), (.arr 0 true)], fun x y => F52b n rc x.2.1.1 x.2.1.2.1 x.2.1.2.2.1 x.2.2.1 y.1.1 y.2.1 y.2.2.1⟩
theorem F52b_eq (n : Nat) (rc : Q52RC) (x : ShL.den G (.cons (.ptr 0 0) (.cons (.agg (.cons (.int .i64) (.cons .str (.cons (.int .i64) .nil)))) (.cons .bool .nil)))) (y : denO G [(.box 78 (.cons (.imm 4) (.cons (.nsp 0 1) (.cons (.own 1) (.cons (.own 2) .nil))))), (.arr 1 true), (.arr 0 true)]) : (F52be n rc).F x y = runFn prog G (ro G (tabOf (Q52L n rc)) (frOf []) _) Go.Proofs.Try.f52 .no [(0, (.obj 0 2 (.mv 1))), (0, (.obj 0 3 (.mv 0)))] (ShL.enc G (.cons (.ptr 0 0) (.cons (.agg (.cons (.int .i64) (.cons .str (.cons (.int .i64) .nil)))) (.cons .bool .nil))) x) (encO G [(.box 78 (.cons (.imm 4) (.cons (.nsp 0 1) (.cons (.own 1) (.cons (.own 2) .nil))))), (.arr 1 true), (.arr 0 true)] y) (decR (.tup .nil) [(.box 78 (.cons (.imm 4) (.cons (.nsp 0 1) (.cons (.own 3) (.cons (.own 4) .nil))))), .dead, .dead, (.arr 1 true), (.arr 0 true)]) := by kernel_rfl
theorem F52b_ok (n : Nat) (rc : Q52RC) (h : AllE prog G (Q52L n rc)) : EntOK prog G (F52be n rc) :=
  ent_ok (fr := frOf []) (ann := .no) (frm := [(0, (.obj 0 2 (.mv 1))), (0, (.obj 0 3 (.mv 0)))]) laws fnok h.tab (e := F52be n rc) (fn := Go.Proofs.Try.f52) (by kernel_rfl) (AllF.ofB (cd := F52bc) (l := []) (by kernel_rfl) (by kernel_rfl) AllF.nil) (F52b_eq n rc)
-- 80 (*loop.example/slowworm/impl.shower).object
noncomputable def F80bc : Code := bodyOf Go.Proofs.Try.f80
noncomputable def F80b_0x0 : SSh := ⟨192, [(0, (.ptr 0 0)), (1, (.int .i64)), (4, (.ptr 3 0)), (17, (.int .i64)), (22, .bool)], [(.box 78 (.cons (.imm 4) (.cons (.nsp 0 1) (.cons (.own 1) (.cons (.own 2) .nil))))), (.arr 1 true), (.arr 0 true), (.box 51 (.cons (.int .i64) (.cons .str (.cons (.int .i64) (.cons (.imm 3) (.cons (.imm 3) (.cons (.imm 2) (.cons (.imm 3) .nil))))))))]⟩
noncomputable def F80b_0s : SSh := ⟨192, [(0, (.ptr 0 0)), (1, (.int .i64)), (4, (.ptr 3 0)), (17, (.int .i64))], [(.box 78 (.cons (.imm 4) (.cons (.nsp 0 1) (.cons (.own 1) (.cons (.own 2) .nil))))), (.arr 1 true), (.arr 0 true), (.box 51 (.cons (.int .i64) (.cons .str (.cons (.int .i64) (.cons (.imm 3) (.cons (.imm 3) (.cons (.imm 2) (.cons (.imm 3) .nil))))))))]⟩
noncomputable def F80b_0 {R : Type} (n : Nat) (rc : Q52RC) (x1320 : Int) (x1321 : Int) (x1322 : List Obj) (x1323 : List Int) (x1324 : List Int) (x1325 : Int) (x1326 : ByteArray) (x1327 : Int) (x1328 : List Val) (x1329 : List Val) (x1330 : List ByteArray) (x1331 : List Val) (k0 : Int → Int → Bool → List Obj → List Int → List Int → Int → ByteArray → Int → List Val → List Val → List ByteArray → List Val → Option R) : Option R :=
  (bif (x1321 == (1 : Int)) then
  (k0 x1320 x1321 true x1322 x1323 x1324 x1325 x1326 x1327 x1328 x1329 x1330 x1331)
  else (k0 x1320 x1321 (x1321 == (2 : Int)) x1322 x1323 x1324 x1325 x1326 x1327 x1328 x1329 x1330 x1331))
noncomputable def F80b_0z (n : Nat) (rc : Q52RC) : Sm G := inZ G 3 ⟨[0, 1, 4, 17], []⟩ F80b_0s fun R x K => F80b_0 n rc x.1.2.1 x.1.2.2.2.1 x.2.1.1 x.2.2.1 x.2.2.2.1 x.2.2.2.2.1.1 x.2.2.2.2.1.2.1 x.2.2.2.2.1.2.2.1 x.2.2.2.2.1.2.2.2.1 x.2.2.2.2.1.2.2.2.2.1 x.2.2.2.2.1.2.2.2.2.2.1 x.2.2.2.2.1.2.2.2.2.2.2.1 (fun u0 u1 u2 u3 u4 u5 u6 u7 u8 u9 u10 u11 u12 => K .normal (SSh.enc G F80b_0x0 (((), (u0, ((), (u1, (u2, ()))))), ((u3, ((), ((), ((), ())))), (u4, (u5, ((u6, (u7, (u8, (u9, (u10, (u11, (u12, ()))))))), ())))))))
theorem F80b_0_eq (n : Nat) (rc : Q52RC) (R : Type) (x : SSh.den G F80b_0s) (K : AE → St G → Option R) :
  F80b_0 n rc x.1.2.1 x.1.2.2.2.1 x.2.1.1 x.2.2.1 x.2.2.2.1 x.2.2.2.2.1.1 x.2.2.2.2.1.2.1 x.2.2.2.2.1.2.2.1 x.2.2.2.2.1.2.2.2.1 x.2.2.2.2.1.2.2.2.2.1 x.2.2.2.2.1.2.2.2.2.2.1 x.2.2.2.2.1.2.2.2.2.2.2.1 (fun u0 u1 u2 u3 u4 u5 u6 u7 u8 u9 u10 u11 u12 => K .normal (SSh.enc G F80b_0x0 (((), (u0, ((), (u1, (u2, ()))))), ((u3, ((), ((), ((), ())))), (u4, (u5, ((u6, (u7, (u8, (u9, (u10, (u11, (u12, ()))))))), ()))))))) = exec prog G (ro G (tabOf (Q52L n rc)) (frOf []) R) 3 (codeAt F80bc [1, 1, 0, 0]) .no (SSh.enc G F80b_0s x) (kNrm G (ro G (tabOf (Q52L n rc)) (frOf []) R) 3 ⟨⟨[0, 1, 4, 17, 22], []⟩, ⟨[], []⟩, [(0, ⟨[], []⟩)]⟩ K) := by kernel_rfl
theorem F80b_0_ok (n : Nat) (rc : Q52RC) (h : AllE prog G (Q52L n rc)) : FragOK prog G 3 (codeAt F80bc [1, 1, 0, 0]) (F80b_0z n rc) :=
  frag_plain laws fnok h.tab (AllF.of (l := []) (by kernel_rfl) AllF.nil) (F80b_0_eq n rc)
noncomputable def F80b_1x0 : SSh := ⟨192, [(0, (.ptr 0 0)), (1, (.int .i64)), (4, (.ptr 3 0)), (5, (.own 4))], [(.box 78 (.cons (.imm 4) (.cons (.nsp 0 1) (.cons (.own 1) (.cons (.own 2) .nil))))), (.arr 1 true), (.arr 0 true), (.box 51 (.cons (.int .i64) (.cons .str (.cons (.int .i64) (.cons (.imm 3) (.cons (.imm 3) (.cons (.imm 2) (.cons (.imm 3) .nil)))))))), (.arr 2 true)]⟩
noncomputable def F80b_1s : SSh := ⟨192, [(0, (.ptr 0 0)), (1, (.int .i64)), (4, (.ptr 3 0)), (5, (.own 4))], [(.box 78 (.cons (.imm 4) (.cons (.nsp 0 1) (.cons (.own 1) (.cons (.own 2) .nil))))), (.arr 1 true), (.arr 0 true), (.box 51 (.cons (.int .i64) (.cons .str (.cons (.int .i64) (.cons (.imm 3) (.cons (.imm 3) (.cons (.imm 2) (.cons (.imm 3) .nil)))))))), (.arr 2 true)]⟩
noncomputable def F80b_1 {R : Type} (n : Nat) (rc : Q52RC) (x1348 : Int) (x1349 : List Obj) (x1350 : List Int) (x1351 : List Int) (x1352 : Int) (x1353 : ByteArray) (x1354 : Int) (x1355 : List Val) (x1356 : List Val) (x1357 : List ByteArray) (x1358 : List Val) (x1359 : List ByteArray) (k0 : Int → List Obj → List Int → List Int → Int → ByteArray → Int → List Val → List Val → List ByteArray → List Val → List ByteArray → Option R) : Option R :=
  (bif (x1352 == (2 : Int)) then
  (k0 x1348 x1349 x1350 x1351 x1352 x1353 x1354 x1355 x1356 x1357 x1358 (({ data := #[123] } : ByteArray) :: (({ data := #[125] } : ByteArray) :: [])))
  else (k0 x1348 x1349 x1350 x1351 x1352 x1353 x1354 x1355 x1356 x1357 x1358 x1359))
noncomputable def F80b_1z (n : Nat) (rc : Q52RC) : Sm G := inZ G 3 ⟨[0, 1, 4, 5], []⟩ F80b_1s fun R x K => F80b_1 n rc x.1.2.1 x.2.1.1 x.2.2.1 x.2.2.2.1 x.2.2.2.2.1.1 x.2.2.2.2.1.2.1 x.2.2.2.2.1.2.2.1 x.2.2.2.2.1.2.2.2.1 x.2.2.2.2.1.2.2.2.2.1 x.2.2.2.2.1.2.2.2.2.2.1 x.2.2.2.2.1.2.2.2.2.2.2.1 x.2.2.2.2.2.1 (fun u0 u1 u2 u3 u4 u5 u6 u7 u8 u9 u10 u11 => K .normal (SSh.enc G F80b_1x0 (((), (u0, ((), ((), ())))), ((u1, ((), ((), ((), ())))), (u2, (u3, ((u4, (u5, (u6, (u7, (u8, (u9, (u10, ()))))))), (u11, ()))))))))
theorem F80b_1_eq (n : Nat) (rc : Q52RC) (R : Type) (x : SSh.den G F80b_1s) (K : AE → St G → Option R) :
  F80b_1 n rc x.1.2.1 x.2.1.1 x.2.2.1 x.2.2.2.1 x.2.2.2.2.1.1 x.2.2.2.2.1.2.1 x.2.2.2.2.1.2.2.1 x.2.2.2.2.1.2.2.2.1 x.2.2.2.2.1.2.2.2.2.1 x.2.2.2.2.1.2.2.2.2.2.1 x.2.2.2.2.1.2.2.2.2.2.2.1 x.2.2.2.2.2.1 (fun u0 u1 u2 u3 u4 u5 u6 u7 u8 u9 u10 u11 => K .normal (SSh.enc G F80b_1x0 (((), (u0, ((), ((), ())))), ((u1, ((), ((), ((), ())))), (u2, (u3, ((u4, (u5, (u6, (u7, (u8, (u9, (u10, ()))))))), (u11, ())))))))) = exec prog G (ro G (tabOf (Q52L n rc)) (frOf [F80b_0z n rc]) R) 3 (codeAt F80bc [1, 1, 0, 1, 0, 1, 0]) .no (SSh.enc G F80b_1s x) (kNrm G (ro G (tabOf (Q52L n rc)) (frOf [F80b_0z n rc]) R) 3 ⟨⟨[0, 1, 4, 5], []⟩, ⟨[], []⟩, [(0, ⟨[], []⟩)]⟩ K) := by kernel_rfl
theorem F80b_1_ok (n : Nat) (rc : Q52RC) (h : AllE prog G (Q52L n rc)) : FragOK prog G 3 (codeAt F80bc [1, 1, 0, 1, 0, 1, 0]) (F80b_1z n rc) :=
  frag_plain laws fnok h.tab (AllF.of (l := []) (by kernel_rfl) AllF.nil) (F80b_1_eq n rc)
noncomputable def F80b_2x0 : SSh := ⟨192, [(0, (.ptr 0 0)), (4, (.ptr 3 0)), (5, (.own 4)), (6, (.int .i64)), (7, (.ptr 5 0)), (74, (.imm 3)), (75, (.int .i64)), (76, (.int .i64))], [(.box 78 (.cons (.imm 4) (.cons (.nsp 0 1) (.cons (.own 6) (.cons (.own 7) .nil))))), .dead, .dead, (.box 51 (.cons (.int .i64) (.cons .str (.cons (.int .i64) (.cons (.imm 3) (.cons (.imm 3) (.cons (.imm 2) (.cons (.imm 3) .nil)))))))), (.arr 2 true), (.box 31 (.cons (.int .i64) (.cons .str (.cons (.int .i64) .nil)))), (.arr 1 true), (.arr 0 true)]⟩
noncomputable def F80b_2s : SSh := ⟨192, [(0, (.ptr 0 0)), (4, (.ptr 3 0)), (5, (.own 4)), (6, (.int .i64)), (7, (.ptr 5 0)), (74, (.imm 3)), (75, (.int .i64)), (76, (.int .i64))], [(.box 78 (.cons (.imm 4) (.cons (.nsp 0 1) (.cons (.own 6) (.cons (.own 7) .nil))))), .dead, .dead, (.box 51 (.cons (.int .i64) (.cons .str (.cons (.int .i64) (.cons (.imm 3) (.cons (.imm 3) (.cons (.imm 2) (.cons (.imm 3) .nil)))))))), (.arr 2 true), (.box 31 (.cons (.int .i64) (.cons .str (.cons (.int .i64) .nil)))), (.arr 1 true), (.arr 0 true)]⟩
noncomputable def F80b_2 {R : Type} (n : Nat) (rc : Q52RC) (x1425 : Int) (x1426 : List Val) (x1427 : Int) (x1428 : Int) (x1429 : List Obj) (x1430 : Int) (x1431 : ByteArray) (x1432 : Int) (x1433 : List Val) (x1434 : List Val) (x1435 : List ByteArray) (x1436 : List Val) (x1437 : List ByteArray) (x1438 : Int) (x1439 : ByteArray) (x1440 : Int) (x1441 : List Int) (x1442 : List Int) (k0 : Int → List Val → Int → Int → List Obj → Int → ByteArray → Int → List Val → List Val → List ByteArray → List Val → List ByteArray → Int → ByteArray → Int → List Int → List Int → Option R) : Option R :=
  (bif (decide (x1425 > (0 : Int))) then
  (andThen (F78 n ({ data := #[44, 32] } : ByteArray) x1429 x1441 x1442) fun r1444 =>
  (k0 x1425 x1426 x1427 x1428 r1444.2.1.1 x1430 x1431 x1432 x1433 x1434 x1435 x1436 x1437 x1438 x1439 x1440 r1444.2.2.2.2.1 r1444.2.2.2.1))
  else (k0 x1425 x1426 x1427 x1428 x1429 x1430 x1431 x1432 x1433 x1434 x1435 x1436 x1437 x1438 x1439 x1440 x1441 x1442))
noncomputable def F80b_2z (n : Nat) (rc : Q52RC) : Sm G := inZ G 3 ⟨[0, 4, 5, 6, 7, 74, 75, 76], []⟩ F80b_2s fun R x K => F80b_2 n rc x.1.2.2.2.1 x.1.2.2.2.2.2.1 x.1.2.2.2.2.2.2.1 x.1.2.2.2.2.2.2.2.1 x.2.1.1 x.2.2.2.2.1.1 x.2.2.2.2.1.2.1 x.2.2.2.2.1.2.2.1 x.2.2.2.2.1.2.2.2.1 x.2.2.2.2.1.2.2.2.2.1 x.2.2.2.2.1.2.2.2.2.2.1 x.2.2.2.2.1.2.2.2.2.2.2.1 x.2.2.2.2.2.1 x.2.2.2.2.2.2.1.1 x.2.2.2.2.2.2.1.2.1 x.2.2.2.2.2.2.1.2.2.1 x.2.2.2.2.2.2.2.1 x.2.2.2.2.2.2.2.2.1 (fun u0 u1 u2 u3 u4 u5 u6 u7 u8 u9 u10 u11 u12 u13 u14 u15 u16 u17 => K .normal (SSh.enc G F80b_2x0 (((), ((), ((), (u0, ((), (u1, (u2, (u3, ())))))))), ((u4, ((), ((), ((), ())))), ((), ((), ((u5, (u6, (u7, (u8, (u9, (u10, (u11, ()))))))), (u12, ((u13, (u14, (u15, ()))), (u16, (u17, ())))))))))))
theorem F80b_2_eq (n : Nat) (rc : Q52RC) (R : Type) (x : SSh.den G F80b_2s) (K : AE → St G → Option R) :
  F80b_2 n rc x.1.2.2.2.1 x.1.2.2.2.2.2.1 x.1.2.2.2.2.2.2.1 x.1.2.2.2.2.2.2.2.1 x.2.1.1 x.2.2.2.2.1.1 x.2.2.2.2.1.2.1 x.2.2.2.2.1.2.2.1 x.2.2.2.2.1.2.2.2.1 x.2.2.2.2.1.2.2.2.2.1 x.2.2.2.2.1.2.2.2.2.2.1 x.2.2.2.2.1.2.2.2.2.2.2.1 x.2.2.2.2.2.1 x.2.2.2.2.2.2.1.1 x.2.2.2.2.2.2.1.2.1 x.2.2.2.2.2.2.1.2.2.1 x.2.2.2.2.2.2.2.1 x.2.2.2.2.2.2.2.2.1 (fun u0 u1 u2 u3 u4 u5 u6 u7 u8 u9 u10 u11 u12 u13 u14 u15 u16 u17 => K .normal (SSh.enc G F80b_2x0 (((), ((), ((), (u0, ((), (u1, (u2, (u3, ())))))))), ((u4, ((), ((), ((), ())))), ((), ((), ((u5, (u6, (u7, (u8, (u9, (u10, (u11, ()))))))), (u12, ((u13, (u14, (u15, ()))), (u16, (u17, ()))))))))))) = exec prog G (ro G (tabOf (Q52L n rc)) (frOf [F80b_0z n rc, F80b_1z n rc]) R) 3 (codeAt F80bc [1, 1, 0, 1, 0, 1, 1, 1, 1, 1, 0, 1, 0, 0, 1, 1, 0, 0, 1, 0]) .no (SSh.enc G F80b_2s x) (kNrm G (ro G (tabOf (Q52L n rc)) (frOf [F80b_0z n rc, F80b_1z n rc]) R) 3 ⟨⟨[0, 4, 5, 6, 7, 74, 75, 76], []⟩, ⟨[], []⟩, [(2, ⟨[0, 4, 5, 74, 75, 76], []⟩), (1, ⟨[0, 5], []⟩), (0, ⟨[], []⟩)]⟩ K) := by kernel_rfl
theorem F80b_2_ok (n : Nat) (rc : Q52RC) (h : AllE prog G (Q52L n rc)) : FragOK prog G 3 (codeAt F80bc [1, 1, 0, 1, 0, 1, 1, 1, 1, 1, 0, 1, 0, 0, 1, 1, 0, 0, 1, 0]) (F80b_2z n rc) :=
  frag_plain laws fnok h.tab (AllF.of (l := []) (by kernel_rfl) AllF.nil) (F80b_2_eq n rc)
noncomputable def F80b_3x0 : SSh := ⟨192, [(0, (.ptr 0 0)), (4, (.ptr 3 0)), (5, (.own 4)), (7, (.ptr 5 0)), (74, (.imm 3)), (75, (.int .i64)), (76, (.int .i64))], [(.box 78 (.cons (.imm 4) (.cons (.nsp 0 1) (.cons (.own 6) (.cons (.own 7) .nil))))), .dead, .dead, (.box 51 (.cons (.int .i64) (.cons .str (.cons (.int .i64) (.cons (.imm 3) (.cons (.imm 3) (.cons (.imm 2) (.cons (.imm 3) .nil)))))))), (.arr 2 true), (.box 31 (.cons (.int .i64) (.cons .str (.cons (.int .i64) .nil)))), (.arr 1 true), (.arr 0 true)]⟩
noncomputable def F80b_3s : SSh := ⟨192, [(0, (.ptr 0 0)), (4, (.ptr 3 0)), (5, (.own 4)), (6, (.int .i64)), (7, (.ptr 5 0)), (74, (.imm 3)), (75, (.int .i64)), (76, (.int .i64))], [(.box 78 (.cons (.imm 4) (.cons (.nsp 0 1) (.cons (.own 6) (.cons (.own 7) .nil))))), .dead, .dead, (.box 51 (.cons (.int .i64) (.cons .str (.cons (.int .i64) (.cons (.imm 3) (.cons (.imm 3) (.cons (.imm 2) (.cons (.imm 3) .nil)))))))), (.arr 2 true), (.box 31 (.cons (.int .i64) (.cons .str (.cons (.int .i64) .nil)))), (.arr 1 true), (.arr 0 true)]⟩
noncomputable def F80b_3 {R : Type} (n : Nat) (rc : Q52RC) (x1463 : Int) (x1464 : List Val) (x1465 : Int) (x1466 : Int) (x1467 : List Obj) (x1468 : Int) (x1469 : ByteArray) (x1470 : Int) (x1471 : List Val) (x1472 : List Val) (x1473 : List ByteArray) (x1474 : List Val) (x1475 : List ByteArray) (x1476 : Int) (x1477 : ByteArray) (x1478 : Int) (x1479 : List Int) (x1480 : List Int) (k0 : List Val → Int → Int → List Obj → Int → ByteArray → Int → List Val → List Val → List ByteArray → List Val → List ByteArray → Int → ByteArray → Int → List Int → List Int → Option R) : Option R :=
  (bif (x1468 == (2 : Int)) then
  (bif (decide ((0 : Int) ≤ x1463)) then
  (bif (decide (x1463 < ((x1472.length) : Int))) then
  let v1482 := (x1472.getD (x1463.toNat) (Val.mk (0 : Int) ({ data := #[] } : ByteArray) (0 : Int)))
  (andThen (rc.1 v1482.kind v1482.text v1482.ref true x1467 x1479 x1480) fun r1486 =>
  (andThen (F78 n ({ data := #[58, 32] } : ByteArray) r1486.2.1.1 r1486.2.2.2.2.1 r1486.2.2.2.2.2.1) fun r1487 =>
  (k0 x1464 x1465 x1466 r1487.2.1.1 x1468 x1469 x1470 x1471 x1472 x1473 x1474 x1475 x1476 x1477 x1478 r1487.2.2.2.2.1 r1487.2.2.2.1)))
  else none)
  else none)
  else (k0 x1464 x1465 x1466 x1467 x1468 x1469 x1470 x1471 x1472 x1473 x1474 x1475 x1476 x1477 x1478 x1479 x1480))
noncomputable def F80b_3z (n : Nat) (rc : Q52RC) : Sm G := inZ G 3 ⟨[0, 4, 5, 6, 7, 74, 75, 76], []⟩ F80b_3s fun R x K => F80b_3 n rc x.1.2.2.2.1 x.1.2.2.2.2.2.1 x.1.2.2.2.2.2.2.1 x.1.2.2.2.2.2.2.2.1 x.2.1.1 x.2.2.2.2.1.1 x.2.2.2.2.1.2.1 x.2.2.2.2.1.2.2.1 x.2.2.2.2.1.2.2.2.1 x.2.2.2.2.1.2.2.2.2.1 x.2.2.2.2.1.2.2.2.2.2.1 x.2.2.2.2.1.2.2.2.2.2.2.1 x.2.2.2.2.2.1 x.2.2.2.2.2.2.1.1 x.2.2.2.2.2.2.1.2.1 x.2.2.2.2.2.2.1.2.2.1 x.2.2.2.2.2.2.2.1 x.2.2.2.2.2.2.2.2.1 (fun u0 u1 u2 u3 u4 u5 u6 u7 u8 u9 u10 u11 u12 u13 u14 u15 u16 => K .normal (SSh.enc G F80b_3x0 (((), ((), ((), ((), (u0, (u1, (u2, ()))))))), ((u3, ((), ((), ((), ())))), ((), ((), ((u4, (u5, (u6, (u7, (u8, (u9, (u10, ()))))))), (u11, ((u12, (u13, (u14, ()))), (u15, (u16, ())))))))))))
theorem F80b_3_eq (n : Nat) (rc : Q52RC) (R : Type) (x : SSh.den G F80b_3s) (K : AE → St G → Option R) :
  F80b_3 n rc x.1.2.2.2.1 x.1.2.2.2.2.2.1 x.1.2.2.2.2.2.2.1 x.1.2.2.2.2.2.2.2.1 x.2.1.1 x.2.2.2.2.1.1 x.2.2.2.2.1.2.1 x.2.2.2.2.1.2.2.1 x.2.2.2.2.1.2.2.2.1 x.2.2.2.2.1.2.2.2.2.1 x.2.2.2.2.1.2.2.2.2.2.1 x.2.2.2.2.1.2.2.2.2.2.2.1 x.2.2.2.2.2.1 x.2.2.2.2.2.2.1.1 x.2.2.2.2.2.2.1.2.1 x.2.2.2.2.2.2.1.2.2.1 x.2.2.2.2.2.2.2.1 x.2.2.2.2.2.2.2.2.1 (fun u0 u1 u2 u3 u4 u5 u6 u7 u8 u9 u10 u11 u12 u13 u14 u15 u16 => K .normal (SSh.enc G F80b_3x0 (((), ((), ((), ((), (u0, (u1, (u2, ()))))))), ((u3, ((), ((), ((), ())))), ((), ((), ((u4, (u5, (u6, (u7, (u8, (u9, (u10, ()))))))), (u11, ((u12, (u13, (u14, ()))), (u15, (u16, ()))))))))))) = exec prog G (ro G (tabOf (Q52L n rc)) (frOf [F80b_0z n rc, F80b_1z n rc, F80b_2z n rc]) R) 3 (codeAt F80bc [1, 1, 0, 1, 0, 1, 1, 1, 1, 1, 0, 1, 0, 0, 1, 1, 0, 0, 1, 1, 0]) .no (SSh.enc G F80b_3s x) (kNrm G (ro G (tabOf (Q52L n rc)) (frOf [F80b_0z n rc, F80b_1z n rc, F80b_2z n rc]) R) 3 ⟨⟨[0, 4, 5, 7, 74, 75, 76], []⟩, ⟨[], []⟩, [(2, ⟨[0, 4, 5, 74, 75, 76], []⟩), (1, ⟨[0, 5], []⟩), (0, ⟨[], []⟩)]⟩ K) := by kernel_rfl
theorem F80b_3_ok (n : Nat) (rc : Q52RC) (h : AllE prog G (Q52L n rc)) : FragOK prog G 3 (codeAt F80bc [1, 1, 0, 1, 0, 1, 1, 1, 1, 1, 0, 1, 0, 0, 1, 1, 0, 0, 1, 1, 0]) (F80b_3z n rc) :=
  frag_plain laws fnok h.tab (AllF.of (l := []) (by kernel_rfl) AllF.nil) (F80b_3_eq n rc)
noncomputable def F80b_4x0 : SSh := ⟨192, [(0, (.ptr 0 0)), (4, (.ptr 3 0)), (5, (.own 4)), (74, (.imm 3)), (75, (.int .i64)), (76, (.int .i64))], [(.box 78 (.cons (.imm 4) (.cons (.nsp 0 1) (.cons (.own 5) (.cons (.own 6) .nil))))), .dead, .dead, (.box 51 (.cons (.int .i64) (.cons .str (.cons (.int .i64) (.cons (.imm 3) (.cons (.imm 3) (.cons (.imm 2) (.cons (.imm 3) .nil)))))))), (.arr 2 true), (.arr 1 true), (.arr 0 true)]⟩
noncomputable def F80b_4s : SSh := ⟨192, [(0, (.ptr 0 0)), (4, (.ptr 3 0)), (5, (.own 4)), (74, (.imm 3)), (75, (.int .i64)), (76, (.int .i64))], [(.box 78 (.cons (.imm 4) (.cons (.nsp 0 1) (.cons (.own 5) (.cons (.own 6) .nil))))), .dead, .dead, (.box 51 (.cons (.int .i64) (.cons .str (.cons (.int .i64) (.cons (.imm 3) (.cons (.imm 3) (.cons (.imm 2) (.cons (.imm 3) .nil)))))))), (.arr 2 true), (.arr 1 true), (.arr 0 true)]⟩
noncomputable def F80b_4 {R : Type} (n : Nat) (rc : Q52RC) (x1407 : List Val) (x1408 : Int) (x1409 : Int) (x1410 : List Obj) (x1411 : Int) (x1412 : ByteArray) (x1413 : Int) (x1414 : List Val) (x1415 : List Val) (x1416 : List ByteArray) (x1417 : List Val) (x1418 : List ByteArray) (x1419 : List Int) (x1420 : List Int) (k0 : List Val → Int → Int → List Obj → Int → ByteArray → Int → List Val → List Val → List ByteArray → List Val → List ByteArray → List Int → List Int → Option R) : Option R :=
  (bif (decide ((0 : Int) ≤ x1409)) then
  (bif (decide (x1409 < ((x1407.length) : Int))) then
  let v1421 := (x1407.getD (x1409.toNat) (Val.mk (0 : Int) ({ data := #[] } : ByteArray) (0 : Int)))
  (F80b_2 n rc x1409 x1407 x1408 x1409 x1410 x1411 x1412 x1413 x1414 x1415 x1416 x1417 x1418 v1421.kind v1421.text v1421.ref x1419 x1420 (fun z1445 z1446 z1447 z1448 z1449 z1450 z1451 z1452 z1453 z1454 z1455 z1456 z1457 z1458 z1459 z1460 z1461 z1462 =>
  (F80b_3 n rc z1445 z1446 z1447 z1448 z1449 z1450 z1451 z1452 z1453 z1454 z1455 z1456 z1457 z1458 z1459 z1460 z1461 z1462 (fun z1488 z1489 z1490 z1491 z1492 z1493 z1494 z1495 z1496 z1497 z1498 z1499 z1500 z1501 z1502 z1503 z1504 =>
  (andThen (rc.1 z1500 z1501 z1502 true z1491 z1503 z1504) fun r1505 =>
  (k0 z1488 z1489 z1490 r1505.2.1.1 z1492 z1493 z1494 z1495 z1496 z1497 z1498 z1499 r1505.2.2.2.2.1 r1505.2.2.2.2.2.1))))))
  else none)
  else none)
noncomputable def F80b_4z (n : Nat) (rc : Q52RC) : Sm G := inZ G 3 ⟨[0, 4, 5, 74, 75, 76], []⟩ F80b_4s fun R x K => F80b_4 n rc x.1.2.2.2.1 x.1.2.2.2.2.1 x.1.2.2.2.2.2.1 x.2.1.1 x.2.2.2.2.1.1 x.2.2.2.2.1.2.1 x.2.2.2.2.1.2.2.1 x.2.2.2.2.1.2.2.2.1 x.2.2.2.2.1.2.2.2.2.1 x.2.2.2.2.1.2.2.2.2.2.1 x.2.2.2.2.1.2.2.2.2.2.2.1 x.2.2.2.2.2.1 x.2.2.2.2.2.2.1 x.2.2.2.2.2.2.2.1 (fun u0 u1 u2 u3 u4 u5 u6 u7 u8 u9 u10 u11 u12 u13 => K .normal (SSh.enc G F80b_4x0 (((), ((), ((), (u0, (u1, (u2, ())))))), ((u3, ((), ((), ((), ())))), ((), ((), ((u4, (u5, (u6, (u7, (u8, (u9, (u10, ()))))))), (u11, (u12, (u13, ()))))))))))
theorem F80b_4_eq (n : Nat) (rc : Q52RC) (R : Type) (x : SSh.den G F80b_4s) (K : AE → St G → Option R) :
  F80b_4 n rc x.1.2.2.2.1 x.1.2.2.2.2.1 x.1.2.2.2.2.2.1 x.2.1.1 x.2.2.2.2.1.1 x.2.2.2.2.1.2.1 x.2.2.2.2.1.2.2.1 x.2.2.2.2.1.2.2.2.1 x.2.2.2.2.1.2.2.2.2.1 x.2.2.2.2.1.2.2.2.2.2.1 x.2.2.2.2.1.2.2.2.2.2.2.1 x.2.2.2.2.2.1 x.2.2.2.2.2.2.1 x.2.2.2.2.2.2.2.1 (fun u0 u1 u2 u3 u4 u5 u6 u7 u8 u9 u10 u11 u12 u13 => K .normal (SSh.enc G F80b_4x0 (((), ((), ((), (u0, (u1, (u2, ())))))), ((u3, ((), ((), ((), ())))), ((), ((), ((u4, (u5, (u6, (u7, (u8, (u9, (u10, ()))))))), (u11, (u12, (u13, ())))))))))) = exec prog G (ro G (tabOf (Q52L n rc)) (frOf [F80b_0z n rc, F80b_1z n rc, F80b_2z n rc, F80b_3z n rc]) R) 3 (codeAt F80bc [1, 1, 0, 1, 0, 1, 1, 1, 1, 1, 0, 1, 0, 0, 1, 1, 0]) (.nd (.nd .no (.nd (.use 2) (.nd (.use 3) .no))) .no) (SSh.enc G F80b_4s x) (kNrm G (ro G (tabOf (Q52L n rc)) (frOf [F80b_0z n rc, F80b_1z n rc, F80b_2z n rc, F80b_3z n rc]) R) 3 ⟨⟨[0, 4, 5, 74, 75, 76], []⟩, ⟨[], []⟩, [(1, ⟨[0, 5], []⟩), (0, ⟨[], []⟩)]⟩ K) := by kernel_rfl
theorem F80b_4_ok (n : Nat) (rc : Q52RC) (h : AllE prog G (Q52L n rc)) : FragOK prog G 3 (codeAt F80bc [1, 1, 0, 1, 0, 1, 1, 1, 1, 1, 0, 1, 0, 0, 1, 1, 0]) (F80b_4z n rc) :=
  frag_plain laws fnok h.tab (AllF.of (l := [(2, codeAt F80bc [1, 1, 0, 1, 0, 1, 1, 1, 1, 1, 0, 1, 0, 0, 1, 1, 0, 0, 1, 0]), (3, codeAt F80bc [1, 1, 0, 1, 0, 1, 1, 1, 1, 1, 0, 1, 0, 0, 1, 1, 0, 0, 1, 1, 0])]) (by kernel_rfl) (AllF.cons (F80b_2_ok n rc h) (AllF.cons (F80b_3_ok n rc h) AllF.nil))) (F80b_4_eq n rc)
noncomputable def F80b_5x0 : SSh := ⟨192, [(0, (.ptr 0 0)), (5, (.own 3))], [(.box 78 (.cons (.imm 4) (.cons (.nsp 0 1) (.cons (.own 4) (.cons (.own 5) .nil))))), .dead, .dead, (.arr 2 true), (.arr 1 true), (.arr 0 true)]⟩
noncomputable def F80b_5s : SSh := ⟨192, [(0, (.ptr 0 0)), (4, (.ptr 3 0)), (5, (.own 4)), (74, (.imm 3)), (75, (.int .i64)), (76, (.int .i64))], [(.box 78 (.cons (.imm 4) (.cons (.nsp 0 1) (.cons (.own 5) (.cons (.own 6) .nil))))), .dead, .dead, (.box 51 (.cons (.int .i64) (.cons .str (.cons (.int .i64) (.cons (.imm 3) (.cons (.imm 3) (.cons (.imm 2) (.cons (.imm 3) .nil)))))))), (.arr 2 true), (.arr 1 true), (.arr 0 true)]⟩
noncomputable def F80b_5_step {R : Type} (n : Nat) (rc : Q52RC) (k0 : List Obj → List ByteArray → List Int → List Int → Option R) (rec : List Val → Int → Int → List Obj → Int → ByteArray → Int → List Val → List Val → List ByteArray → List Val → List ByteArray → List Int → List Int → Option R) (x1392 : List Val) (x1393 : Int) (x1394 : Int) (x1395 : List Obj) (x1396 : Int) (x1397 : ByteArray) (x1398 : Int) (x1399 : List Val) (x1400 : List Val) (x1401 : List ByteArray) (x1402 : List Val) (x1403 : List ByteArray) (x1404 : List Int) (x1405 : List Int) : Option R :=
  (bif (decide (x1394 < x1393)) then
  (F80b_4 n rc x1392 x1393 x1394 x1395 x1396 x1397 x1398 x1399 x1400 x1401 x1402 x1403 x1404 x1405 (fun z1506 z1507 z1508 z1509 z1510 z1511 z1512 z1513 z1514 z1515 z1516 z1517 z1518 z1519 =>
  (rec z1506 z1507 (IntKind.wrap .i64 (z1508 + (1 : Int))) z1509 z1510 z1511 z1512 z1513 z1514 z1515 z1516 z1517 z1518 z1519)))
  else (k0 x1395 x1403 x1404 x1405))
noncomputable def F80b_5_it {R : Type} (n : Nat) (rc : Q52RC) (k0 : List Obj → List ByteArray → List Int → List Int → Option R) : Nat → List Val → Int → Int → List Obj → Int → ByteArray → Int → List Val → List Val → List ByteArray → List Val → List ByteArray → List Int → List Int → Option R
  | 0, _, _, _, _, _, _, _, _, _, _, _, _, _, _ => none
  | k + 1, x1392, x1393, x1394, x1395, x1396, x1397, x1398, x1399, x1400, x1401, x1402, x1403, x1404, x1405 => F80b_5_step n rc k0 (F80b_5_it n rc k0 k) x1392 x1393 x1394 x1395 x1396 x1397 x1398 x1399 x1400 x1401 x1402 x1403 x1404 x1405
noncomputable def F80b_5 {R : Type} (n : Nat) (rc : Q52RC) (x1392 : List Val) (x1393 : Int) (x1394 : Int) (x1395 : List Obj) (x1396 : Int) (x1397 : ByteArray) (x1398 : Int) (x1399 : List Val) (x1400 : List Val) (x1401 : List ByteArray) (x1402 : List Val) (x1403 : List ByteArray) (x1404 : List Int) (x1405 : List Int) (k0 : List Obj → List ByteArray → List Int → List Int → Option R) : Option R := F80b_5_it n rc k0 n x1392 x1393 x1394 x1395 x1396 x1397 x1398 x1399 x1400 x1401 x1402 x1403 x1404 x1405
noncomputable def F80b_5z (n : Nat) (rc : Q52RC) : Sm G := inZ G 3 ⟨[0, 4, 5, 74, 75, 76], []⟩ F80b_5s fun R x K => F80b_5_it n rc (fun u0 u1 u2 u3 => K (.exit 1) (SSh.enc G F80b_5x0 (((), ((), ())), ((u0, ((), ((), ((), ())))), ((), ((), (u1, (u2, (u3, ()))))))))) n x.1.2.2.2.1 x.1.2.2.2.2.1 x.1.2.2.2.2.2.1 x.2.1.1 x.2.2.2.2.1.1 x.2.2.2.2.1.2.1 x.2.2.2.2.1.2.2.1 x.2.2.2.2.1.2.2.2.1 x.2.2.2.2.1.2.2.2.2.1 x.2.2.2.2.1.2.2.2.2.2.1 x.2.2.2.2.1.2.2.2.2.2.2.1 x.2.2.2.2.2.1 x.2.2.2.2.2.2.1 x.2.2.2.2.2.2.2.1
theorem F80b_5_eq (n : Nat) (rc : Q52RC) (R : Type) (rec : SSh.den G F80b_5s → Option R) (x : SSh.den G F80b_5s) (K : AE → St G → Option R) :
  F80b_5_step n rc (fun u0 u1 u2 u3 => K (.exit 1) (SSh.enc G F80b_5x0 (((), ((), ())), ((u0, ((), ((), ((), ())))), ((), ((), (u1, (u2, (u3, ()))))))))) (fun x1392 x1393 x1394 x1395 x1396 x1397 x1398 x1399 x1400 x1401 x1402 x1403 x1404 x1405 => rec (((), ((), ((), (x1392, (x1393, (x1394, ())))))), ((x1395, ((), ((), ((), ())))), ((), ((), ((x1396, (x1397, (x1398, (x1399, (x1400, (x1401, (x1402, ()))))))), (x1403, (x1404, (x1405, ()))))))))) x.1.2.2.2.1 x.1.2.2.2.2.1 x.1.2.2.2.2.2.1 x.2.1.1 x.2.2.2.2.1.1 x.2.2.2.2.1.2.1 x.2.2.2.2.1.2.2.1 x.2.2.2.2.1.2.2.2.1 x.2.2.2.2.1.2.2.2.2.1 x.2.2.2.2.1.2.2.2.2.2.1 x.2.2.2.2.1.2.2.2.2.2.2.1 x.2.2.2.2.2.1 x.2.2.2.2.2.2.1 x.2.2.2.2.2.2.2.1 = exec prog G (ro G (tabOf (Q52L n rc)) (frOf [F80b_0z n rc, F80b_1z n rc, F80b_2z n rc, F80b_3z n rc, F80b_4z n rc]) R) 3 (codeAt F80bc [1, 1, 0, 1, 0, 1, 1, 1, 1, 1, 0, 1, 0, 0]) (.nd .no (.nd .no (.nd (.use 4) .no))) (SSh.enc G F80b_5s x) (kLoop G (ro G (tabOf (Q52L n rc)) (frOf [F80b_0z n rc, F80b_1z n rc, F80b_2z n rc, F80b_3z n rc, F80b_4z n rc]) R) 3 ⟨[0, 4, 5, 74, 75, 76], []⟩ F80b_5s ⟨⟨[0, 5], []⟩, ⟨[], []⟩, [(1, ⟨[0, 5], []⟩), (0, ⟨[], []⟩)]⟩ rec K) := by kernel_rfl
theorem F80b_5_ok (n : Nat) (rc : Q52RC) (h : AllE prog G (Q52L n rc)) : FragOK prog G 3 (codeAt F80bc [1, 1, 0, 1, 0, 1, 1, 1, 1, 1, 0, 1, 0]) (F80b_5z n rc) :=
  frag_loop (Z := fun R k (x : SSh.den G F80b_5s) K => F80b_5_it n rc (fun u0 u1 u2 u3 => K (.exit 1) (SSh.enc G F80b_5x0 (((), ((), ())), ((u0, ((), ((), ((), ())))), ((), ((), (u1, (u2, (u3, ()))))))))) k x.1.2.2.2.1 x.1.2.2.2.2.1 x.1.2.2.2.2.2.1 x.2.1.1 x.2.2.2.2.1.1 x.2.2.2.2.1.2.1 x.2.2.2.2.1.2.2.1 x.2.2.2.2.1.2.2.2.1 x.2.2.2.2.1.2.2.2.2.1 x.2.2.2.2.1.2.2.2.2.2.1 x.2.2.2.2.1.2.2.2.2.2.2.1 x.2.2.2.2.2.1 x.2.2.2.2.2.2.1 x.2.2.2.2.2.2.2.1) laws fnok h.tab (AllF.of (l := [(4, codeAt F80bc [1, 1, 0, 1, 0, 1, 1, 1, 1, 1, 0, 1, 0, 0, 1, 1, 0])]) (by kernel_rfl) (AllF.cons (F80b_4_ok n rc h) AllF.nil)) (fun _ _ _ => rfl) (fun R k y K => F80b_5_eq n rc R (fun (x : SSh.den G F80b_5s) => F80b_5_it n rc (fun u0 u1 u2 u3 => K (.exit 1) (SSh.enc G F80b_5x0 (((), ((), ())), ((u0, ((), ((), ((), ())))), ((), ((), (u1, (u2, (u3, ()))))))))) k x.1.2.2.2.1 x.1.2.2.2.2.1 x.1.2.2.2.2.2.1 x.2.1.1 x.2.2.2.2.1.1 x.2.2.2.2.1.2.1 x.2.2.2.2.1.2.2.1 x.2.2.2.2.1.2.2.2.1 x.2.2.2.2.1.2.2.2.2.1 x.2.2.2.2.1.2.2.2.2.2.1 x.2.2.2.2.1.2.2.2.2.2.2.1 x.2.2.2.2.2.1 x.2.2.2.2.2.2.1 x.2.2.2.2.2.2.2.1) y K) n
noncomputable def F80b (n : Nat) (rc : Q52RC) (a1308 : Int) (a1309 : List Obj) (a1310 : List Int) (a1311 : List Int) : Option (Unit × ((List Obj × (Unit × (Unit × (Unit × Unit)))) × (Unit × (Unit × (List Int × (List Int × Unit)))))) :=
  (bif (decide ((0 : Int) ≤ a1308)) then
  (bif (decide (a1308 < ((a1309.length) : Int))) then
  let v1312 := (a1309.getD (a1308.toNat) (Obj.mk (0 : Int) ({ data := #[] } : ByteArray) (0 : Int) [] [] [] []))
  let v1313 := v1312.kind
  (F80b_0 n rc a1308 v1313 a1309 a1310 a1311 v1313 v1312.name v1312.at_ v1312.items v1312.keys v1312.names v1312.vals (fun z1334 z1335 z1336 z1337 z1338 z1339 z1340 z1341 z1342 z1343 z1344 z1345 z1346 =>
  (bif z1336 then
  (F80b_1 n rc z1334 z1337 z1338 z1339 z1340 z1341 z1342 z1343 z1344 z1345 z1346 (({ data := #[91] } : ByteArray) :: (({ data := #[93] } : ByteArray) :: [])) (fun z1362 z1363 z1364 z1365 z1366 z1367 z1368 z1369 z1370 z1371 z1372 z1373 =>
  (andThen (F104 n z1365 z1362) fun r1374 =>
  (bif r1374.1 then
  (bif (decide ((0 : Int) < ((z1373.length) : Int))) then
  let v1375 := (z1373.getD (0 : Nat) ({ data := #[] } : ByteArray))
  (bif (decide (((v1375.size) + (2 : Nat)) ≤ (68719476736 : Nat))) then
  let v1376 := (v1375 ++ ({ data := #[46, 46] } : ByteArray))
  (bif (decide ((1 : Int) < ((z1373.length) : Int))) then
  let v1377 := (z1373.getD (1 : Nat) ({ data := #[] } : ByteArray))
  (bif (decide (((v1376.size) + (v1377.size)) ≤ (68719476736 : Nat))) then
  (andThen (F78 n (v1376 ++ v1377) z1363 z1364 z1365) fun r1379 =>
  some ((), ((r1379.2.1.1, ((), ((), ((), ())))), ((), ((), (r1379.2.2.2.2.1, (r1379.2.2.2.1, ())))))))
  else none)
  else none)
  else none)
  else none)
  else (bif (decide (((z1365.length) : Int) ≥ (6 : Int))) then
  (bif (decide ((0 : Int) < ((z1373.length) : Int))) then
  let v1382 := (z1373.getD (0 : Nat) ({ data := #[] } : ByteArray))
  (bif (decide (((v1382.size) + (2 : Nat)) ≤ (68719476736 : Nat))) then
  let v1383 := (v1382 ++ ({ data := #[46, 46] } : ByteArray))
  (bif (decide ((1 : Int) < ((z1373.length) : Int))) then
  let v1384 := (z1373.getD (1 : Nat) ({ data := #[] } : ByteArray))
  (bif (decide (((v1383.size) + (v1384.size)) ≤ (68719476736 : Nat))) then
  (andThen (F78 n (v1383 ++ v1384) z1363 z1364 z1365) fun r1386 =>
  some ((), ((r1386.2.1.1, ((), ((), ((), ())))), ((), ((), (r1386.2.2.2.2.1, (r1386.2.2.2.1, ())))))))
  else none)
  else none)
  else none)
  else none)
  else let v1387 := (z1362 :: [])
  (bif (decide (((z1365.length) + (v1387.length)) ≤ (68719476736 : Nat))) then
  (bif (decide ((0 : Int) < ((z1373.length) : Int))) then
  (andThen (F78 n (z1373.getD (0 : Nat) ({ data := #[] } : ByteArray)) z1363 z1364 (z1365 ++ v1387)) fun r1390 =>
  (F80b_5 n rc z1369 ((z1369.length) : Int) (0 : Int) r1390.2.1.1 z1366 z1367 z1368 z1369 z1370 z1371 z1372 z1373 r1390.2.2.2.2.1 r1390.2.2.2.1 (fun z1521 z1522 z1523 z1524 =>
  (bif (decide ((1 : Int) < ((z1522.length) : Int))) then
  (andThen (F78 n (z1522.getD (1 : Nat) ({ data := #[] } : ByteArray)) z1521 z1523 z1524) fun r1526 =>
  let v1528 := (IntKind.wrap .i64 (((r1526.2.2.2.1.length) : Int) - (1 : Int)))
  (bif (decide ((0 : Int) ≤ v1528)) then
  (bif (decide (v1528 ≤ ((r1526.2.2.2.1.length) : Int))) then
  some ((), ((r1526.2.1.1, ((), ((), ((), ())))), ((), ((), (r1526.2.2.2.2.1, ((r1526.2.2.2.1.take (v1528.toNat)), ()))))))
  else none)
  else none))
  else none))))
  else none)
  else none))))))
  else (bif (z1335 == (3 : Int)) then
  (bif (decide (((5 : Nat) + (z1341.size)) ≤ (68719476736 : Nat))) then
  let v1532 := (({ data := #[60, 100, 101, 102, 32] } : ByteArray) ++ z1341)
  (bif (decide (((v1532.size) + (1 : Nat)) ≤ (68719476736 : Nat))) then
  (andThen (F78 n (v1532 ++ ({ data := #[62] } : ByteArray)) z1337 z1338 z1339) fun r1534 =>
  some ((), ((r1534.2.1.1, ((), ((), ((), ())))), ((), ((), (r1534.2.2.2.2.1, (r1534.2.2.2.1, ())))))))
  else none)
  else none)
  else (bif (z1335 == (5 : Int)) then
  (bif (decide (((7 : Nat) + (z1341.size)) ≤ (68719476736 : Nat))) then
  let v1536 := (({ data := #[60, 99, 108, 97, 115, 115, 32] } : ByteArray) ++ z1341)
  (bif (decide (((v1536.size) + (1 : Nat)) ≤ (68719476736 : Nat))) then
  (andThen (F78 n (v1536 ++ ({ data := #[62] } : ByteArray)) z1337 z1338 z1339) fun r1538 =>
  some ((), ((r1538.2.1.1, ((), ((), ((), ())))), ((), ((), (r1538.2.2.2.2.1, (r1538.2.2.2.1, ())))))))
  else none)
  else none)
  else (bif (z1335 == (6 : Int)) then
  (bif (decide ((0 : Int) ≤ z1342)) then
  (bif (decide (z1342 < ((z1337.length) : Int))) then
  let v1541 := (z1337.getD (z1342.toNat) (Obj.mk (0 : Int) ({ data := #[] } : ByteArray) (0 : Int) [] [] [] [])).name
  (bif (decide (((1 : Nat) + (v1541.size)) ≤ (68719476736 : Nat))) then
  let v1542 := (({ data := #[60] } : ByteArray) ++ v1541)
  (bif (decide (((v1542.size) + (1 : Nat)) ≤ (68719476736 : Nat))) then
  (andThen (F78 n (v1542 ++ ({ data := #[62] } : ByteArray)) z1337 z1338 z1339) fun r1544 =>
  some ((), ((r1544.2.1.1, ((), ((), ((), ())))), ((), ((), (r1544.2.2.2.2.1, (r1544.2.2.2.1, ())))))))
  else none)
  else none)
  else none)
  else none)
  else (bif (z1335 == (10 : Int)) then
  (bif (decide (((7 : Nat) + (z1341.size)) ≤ (68719476736 : Nat))) then
  let v1546 := (({ data := #[60, 98, 117, 105, 108, 116, 32] } : ByteArray) ++ z1341)
  (bif (decide (((v1546.size) + (1 : Nat)) ≤ (68719476736 : Nat))) then
  (andThen (F78 n (v1546 ++ ({ data := #[62] } : ByteArray)) z1337 z1338 z1339) fun r1548 =>
  some ((), ((r1548.2.1.1, ((), ((), ((), ())))), ((), ((), (r1548.2.2.2.2.1, (r1548.2.2.2.1, ())))))))
  else none)
  else none)
  else (bif (z1335 == (7 : Int)) then
  (andThen (F78 n ({ data := #[60, 98, 111, 117, 110, 100, 62] } : ByteArray) z1337 z1338 z1339) fun r1550 =>
  some ((), ((r1550.2.1.1, ((), ((), ((), ())))), ((), ((), (r1550.2.2.2.2.1, (r1550.2.2.2.1, ())))))))
  else (bif (z1335 == (8 : Int)) then
  (andThen (F78 n ({ data := #[60, 105, 116, 101, 114, 62] } : ByteArray) z1337 z1338 z1339) fun r1552 =>
  some ((), ((r1552.2.1.1, ((), ((), ((), ())))), ((), ((), (r1552.2.2.2.2.1, (r1552.2.2.2.1, ())))))))
  else (bif (z1335 == (9 : Int)) then
  (andThen (F78 n ({ data := #[60, 103, 101, 110, 101, 114, 97, 116, 111, 114, 62] } : ByteArray) z1337 z1338 z1339) fun r1554 =>
  some ((), ((r1554.2.1.1, ((), ((), ((), ())))), ((), ((), (r1554.2.2.2.2.1, (r1554.2.2.2.1, ())))))))
  else (andThen (F78 n ({ data := #[60, 99, 101, 108, 108, 62] } : ByteArray) z1337 z1338 z1339) fun r1555 =>
  some ((), ((r1555.2.1.1, ((), ((), ((), ())))), ((), ((), (r1555.2.2.2.2.1, (r1555.2.2.2.1, ())))))))))))))))))
  else none)
  else none)
noncomputable def F80be (n : Nat) (rc : Q52RC) : Ent G := ⟨80, (.cons (.ptr 0 0) (.cons (.int .i64) .nil)), [(.box 78 (.cons (.imm 4) (.cons (.nsp 0 1) (.cons (.own 1) (.cons (.own 2) .nil))))), (.arr 1 true), (.arr 0 true)], (.tup .nil), [(.box 78 (.cons (.imm 4) (.cons (.nsp 0 1) (.cons (.own 3) (.cons (.own 4) .nil))))), .dead, .dead, (.arr 1 true), (.arr 0 true)], fun x y => F80b n rc x.2.1 y.1.1 y.2.1 y.2.2.1⟩
theorem F80b_eq (n : Nat) (rc : Q52RC) (x : ShL.den G (.cons (.ptr 0 0) (.cons (.int .i64) .nil))) (y : denO G [(.box 78 (.cons (.imm 4) (.cons (.nsp 0 1) (.cons (.own 1) (.cons (.own 2) .nil))))), (.arr 1 true), (.arr 0 true)]) : (F80be n rc).F x y = runFn prog G (ro G (tabOf (Q52L n rc)) (frOf [F80b_0z n rc, F80b_1z n rc, F80b_2z n rc, F80b_3z n rc, F80b_4z n rc, F80b_5z n rc]) _) Go.Proofs.Try.f80 (.nd .no (.nd .no (.nd (.nd (.use 0) (.nd (.nd .no (.nd (.use 1) (.nd .no (.nd .no (.nd .no (.nd (.nd .no (.nd (.use 5) .no)) .no)))))) .no)) .no))) [(0, (.obj 0 2 (.mv 1))), (0, (.obj 0 3 (.mv 0)))] (ShL.enc G (.cons (.ptr 0 0) (.cons (.int .i64) .nil)) x) (encO G [(.box 78 (.cons (.imm 4) (.cons (.nsp 0 1) (.cons (.own 1) (.cons (.own 2) .nil))))), (.arr 1 true), (.arr 0 true)] y) (decR (.tup .nil) [(.box 78 (.cons (.imm 4) (.cons (.nsp 0 1) (.cons (.own 3) (.cons (.own 4) .nil))))), .dead, .dead, (.arr 1 true), (.arr 0 true)]) := by kernel_rfl
theorem F80b_ok (n : Nat) (rc : Q52RC) (h : AllE prog G (Q52L n rc)) : EntOK prog G (F80be n rc) :=
  ent_ok (fr := frOf [F80b_0z n rc, F80b_1z n rc, F80b_2z n rc, F80b_3z n rc, F80b_4z n rc, F80b_5z n rc]) (ann := (.nd .no (.nd .no (.nd (.nd (.use 0) (.nd (.nd .no (.nd (.use 1) (.nd .no (.nd .no (.nd .no (.nd (.nd .no (.nd (.use 5) .no)) .no)))))) .no)) .no)))) (frm := [(0, (.obj 0 2 (.mv 1))), (0, (.obj 0 3 (.mv 0)))]) laws fnok h.tab (e := F80be n rc) (fn := Go.Proofs.Try.f80) (by kernel_rfl) (AllF.ofB (cd := F80bc) (l := [(0, codeAt F80bc [1, 1, 0, 0]), (1, codeAt F80bc [1, 1, 0, 1, 0, 1, 0]), (5, codeAt F80bc [1, 1, 0, 1, 0, 1, 1, 1, 1, 1, 0, 1, 0])]) (by kernel_rfl) (by kernel_rfl) (AllF.cons (F80b_0_ok n rc h) (AllF.cons (F80b_1_ok n rc h) (AllF.cons (F80b_5_ok n rc h) AllF.nil)))) (F80b_eq n rc)
noncomputable def Q52it (n : Nat) : Nat → Q52RC
  | 0 => (fun _ _ _ _ _ _ _ => none, fun _ _ _ _ => none, ())
  | k + 1 => (F52b n (Q52it n k), F80b n (Q52it n k), ())
theorem Q52it_ok (n : Nat) : ∀ k, AllE prog G (Q52L n (Q52it n k))
  | 0 => (AllE.cons (EntOK.none fun _ _ => rfl) (AllE.cons (EntOK.none fun _ _ => rfl) (E31_ok n)))
  | k + 1 => (AllE.cons (F52b_ok n _ (Q52it_ok n k)) (AllE.cons (F80b_ok n _ (Q52it_ok n k)) (E31_ok n)))
noncomputable def F52 (n : Nat) (a0 : Int) (a1 : ByteArray) (a2 : Int) (a3 : Bool) (a4 : List Obj) (a5 : List Int) (a6 : List Int) : Option (Unit × ((List Obj × (Unit × (Unit × (Unit × Unit)))) × (Unit × (Unit × (List Int × (List Int × Unit)))))) := (Q52it n n).1 a0 a1 a2 a3 a4 a5 a6
noncomputable def F52e (n : Nat) : Ent G := ⟨52, (.cons (.ptr 0 0) (.cons (.agg (.cons (.int .i64) (.cons .str (.cons (.int .i64) .nil)))) (.cons .bool .nil))), [(.box 78 (.cons (.imm 4) (.cons (.nsp 0 1) (.cons (.own 1) (.cons (.own 2) .nil))))), (.arr 1 true), (.arr 0 true)], (.tup .nil), [(.box 78 (.cons (.imm 4) (.cons (.nsp 0 1) (.cons (.own 3) (.cons (.own 4) .nil))))), .dead, .dead, (.arr 1 true), (.arr 0 true)], fun x y => F52 n x.2.1.1 x.2.1.2.1 x.2.1.2.2.1 x.2.2.1 y.1.1 y.2.1 y.2.2.1⟩
noncomputable def F80 (n : Nat) (a0 : Int) (a1 : List Obj) (a2 : List Int) (a3 : List Int) : Option (Unit × ((List Obj × (Unit × (Unit × (Unit × Unit)))) × (Unit × (Unit × (List Int × (List Int × Unit)))))) := (Q52it n n).2.1 a0 a1 a2 a3
noncomputable def F80e (n : Nat) : Ent G := ⟨80, (.cons (.ptr 0 0) (.cons (.int .i64) .nil)), [(.box 78 (.cons (.imm 4) (.cons (.nsp 0 1) (.cons (.own 1) (.cons (.own 2) .nil))))), (.arr 1 true), (.arr 0 true)], (.tup .nil), [(.box 78 (.cons (.imm 4) (.cons (.nsp 0 1) (.cons (.own 3) (.cons (.own 4) .nil))))), .dead, .dead, (.arr 1 true), (.arr 0 true)], fun x y => F80 n x.2.1 y.1.1 y.2.1 y.2.2.1⟩
noncomputable def E32 (n : Nat) : List (Ent G) := F52e n :: F80e n :: E31 n
theorem E32_ok (n : Nat) : AllE prog G (E32 n) := Q52it_ok n n
noncomputable def F29 (n : Nat) (a786 : List Obj) (a787 : Int) (a788 : ByteArray) (a789 : Int) : Option (ByteArray × Unit) :=
  (andThen (F52 n a787 a788 a789 false a786 [] []) fun r1556 =>
  (andThen (L53 r1556.2.1.1 r1556.2.2.2.2.1 r1556.2.2.2.2.2.1) fun r1557 =>
  let v1558 := ((r1557.1.size) : Int)
  let v1559 := (if ((400 : Int) < v1558) then (400 : Int) else v1558)
  (bif (decide ((0 : Int) ≤ v1559)) then
  (bif (decide (v1559 ≤ ((r1557.1.size) : Int))) then
  some ((r1557.1.extract (0 : Nat) (v1559.toNat)), ())
  else none)
  else none)))
noncomputable def F29e (n : Nat) : Ent G := ⟨29, (.cons (.agg (.cons (.imm 4) .nil)) (.cons (.agg (.cons (.int .i64) (.cons .str (.cons (.int .i64) .nil)))) .nil)), [], .str, [], fun x y => F29 n x.1.1 x.2.1.1 x.2.1.2.1 x.2.1.2.2.1⟩
theorem F29_eq (n : Nat) (x : ShL.den G (.cons (.agg (.cons (.imm 4) .nil)) (.cons (.agg (.cons (.int .i64) (.cons .str (.cons (.int .i64) .nil)))) .nil))) (y : denO G []) : (F29e n).F x y = runFn prog G (ro G (tabOf (E32 n)) (frOf []) _) Go.Proofs.Try.f29 .no [(0, .fz)] (ShL.enc G (.cons (.agg (.cons (.imm 4) .nil)) (.cons (.agg (.cons (.int .i64) (.cons .str (.cons (.int .i64) .nil)))) .nil)) x) (encO G [] y) (decR .str []) := by kernel_rfl
theorem F29_ok (n : Nat) : EntOK prog G (F29e n) :=
  ent_ok (fr := frOf []) (ann := .no) (frm := [(0, .fz)]) laws fnok (E32_ok n).tab (e := F29e n) (fn := Go.Proofs.Try.f29) (by kernel_rfl) (AllF.ofB (cd := F29c) (l := []) (by kernel_rfl) (by kernel_rfl) AllF.nil) (F29_eq n)
noncomputable def E33 (n : Nat) : List (Ent G) := F29e n :: E32 n
theorem E33_ok (n : Nat) : AllE prog G (E33 n) := AllE.cons (F29_ok n) (E32_ok n)
noncomputable def F11 (n : Nat) (a778 : List Obj) (a779 : Int) (a780 : ByteArray) (a781 : Int) : Option (ByteArray × Unit) :=
  (andThen (F10 n a778) fun r782 =>
  (bif (!r782.1) then
  some (({ data := #[] } : ByteArray), ())
  else (andThen (F28 n a778 a779 a780 a781) fun r784 =>
  (bif (!r784.1) then
  some (({ data := #[] } : ByteArray), ())
  else (andThen (F29 n a778 a779 a780 a781) fun r1561 =>
  some (r1561.1, ()))))))
noncomputable def F11e (n : Nat) : Ent G := ⟨11, (.cons (.agg (.cons (.imm 4) .nil)) (.cons (.agg (.cons (.int .i64) (.cons .str (.cons (.int .i64) .nil)))) .nil)), [], .str, [], fun x y => F11 n x.1.1 x.2.1.1 x.2.1.2.1 x.2.1.2.2.1⟩
theorem F11_eq (n : Nat) (x : ShL.den G (.cons (.agg (.cons (.imm 4) .nil)) (.cons (.agg (.cons (.int .i64) (.cons .str (.cons (.int .i64) .nil)))) .nil))) (y : denO G []) : (F11e n).F x y = runFn prog G (ro G (tabOf (E33 n)) (frOf []) _) Go.Proofs.Try.f11 .no [(0, .fz)] (ShL.enc G (.cons (.agg (.cons (.imm 4) .nil)) (.cons (.agg (.cons (.int .i64) (.cons .str (.cons (.int .i64) .nil)))) .nil)) x) (encO G [] y) (decR .str []) := by kernel_rfl
theorem F11_ok (n : Nat) : EntOK prog G (F11e n) :=
  ent_ok (fr := frOf []) (ann := .no) (frm := [(0, .fz)]) laws fnok (E33_ok n).tab (e := F11e n) (fn := Go.Proofs.Try.f11) (by kernel_rfl) (AllF.ofB (cd := F11c) (l := []) (by kernel_rfl) (by kernel_rfl) AllF.nil) (F11_eq n)
noncomputable def E34 (n : Nat) : List (Ent G) := F11e n :: E33 n
theorem E34_ok (n : Nat) : AllE prog G (E34 n) := AllE.cons (F11_ok n) (E33_ok n)
noncomputable def F3 (n : Nat) (a0 : List Int) : Option (Bool × Unit) :=
  (bif (decide (((a0.length) : Int) > (1048576 : Int))) then
  some (true, ())
  else (andThen (F7 n) fun r127 =>
  (F3_0 n a0 (0 : Int) r127.1.1 (fun z137 z138 =>
  (andThen (F9 n) fun r249 =>
  (andThen (F8 n z138 r249.1.1) fun r339 =>
  (bif (!r339.1) then
  some (false, ())
  else (andThen (F10 n z138) fun r777 =>
  (bif r777.1 then
  (andThen (F11 n z138 (4 : Int) ({ data := #[] } : ByteArray) z137) fun r1562 =>
  some ((!((r1562.1.toList) == (({ data := #[] } : ByteArray).toList))), ()))
  else some (false, ()))))))))))
noncomputable def F3e (n : Nat) : Ent G := ⟨3, (.cons (.imm 1) .nil), [], .bool, [], fun x y => F3 n x.1⟩
theorem F3_eq (n : Nat) (x : ShL.den G (.cons (.imm 1) .nil)) (y : denO G []) : (F3e n).F x y = runFn prog G (ro G (tabOf (E34 n)) (frOf [F3_0z n]) _) Go.Proofs.Try.f3 (.nd .no (.nd .no (.nd .no (.nd .no (.nd (.use 0) .no))))) [(0, .fz)] (ShL.enc G (.cons (.imm 1) .nil) x) (encO G [] y) (decR .bool []) := by kernel_rfl
theorem F3_ok (n : Nat) : EntOK prog G (F3e n) :=
  ent_ok (fr := frOf [F3_0z n]) (ann := (.nd .no (.nd .no (.nd .no (.nd .no (.nd (.use 0) .no)))))) (frm := [(0, .fz)]) laws fnok (E34_ok n).tab (e := F3e n) (fn := Go.Proofs.Try.f3) (by kernel_rfl) (AllF.ofB (cd := F3c) (l := [(0, codeAt F3c [1, 1, 1, 1, 0])]) (by kernel_rfl) (by kernel_rfl) (AllF.cons (F3_0_ok n) AllF.nil)) (F3_eq n)
noncomputable def E35 (n : Nat) : List (Ent G) := F3e n :: E34 n
theorem E35_ok (n : Nat) : AllE prog G (E35 n) := AllE.cons (F3_ok n) (E34_ok n)
end Go.Proofs.Ytfknenaecihchaa.Am
