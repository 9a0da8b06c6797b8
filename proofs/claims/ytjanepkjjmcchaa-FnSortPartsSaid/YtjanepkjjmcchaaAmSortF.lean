/- The functions of the seat of sorting, printed. -/
import Derived.Test.YtjanepkjjmcchaaAmSortE
namespace Go.Proofs.Ytjanepkjjmcchaa.Am
open Go Go.Proofs.Try
set_option autoImplicit false
set_option linter.unusedVariables false
set_option maxRecDepth 100000
noncomputable def F43c : Code := bodyOf Go.Proofs.Try.f43
noncomputable def F43_0x0 : SSh := ⟨38, [(0, (.imm 3)), (3, (.ptr 0 0)), (5, (.int .i64))], [(.box 46 (.cons (.int .i64) (.cons (.int .i64) .nil)))]⟩
noncomputable def F43_0s : SSh := ⟨38, [(0, (.imm 3)), (3, (.ptr 0 0)), (5, (.int .i64))], [(.box 46 (.cons (.int .i64) (.cons (.int .i64) .nil)))]⟩
noncomputable def F43_0_step {R : Type} (n : Nat) (k0 : List Itm → Int → Int → Int → Option R) (rec : List Itm → Int → Int → Int → Option R) (x1073 : List Itm) (x1074 : Int) (x1075 : Int) (x1076 : Int) : Option R :=
  (bif (decide (x1074 > (0 : Int))) then
  let v1078 := (IntKind.wrap .i64 (x1074 - (1 : Int)))
  (bif (decide ((0 : Int) ≤ v1078)) then
  (bif (decide (v1078 < ((x1073.length) : Int))) then
  (bif (decide ((x1073.getD (v1078.toNat) (Itm.mk (0 : Int) (0 : Int))).key > x1075)) then
  (rec x1073 (IntKind.wrap .i64 (x1074 - (1 : Int))) x1075 x1076)
  else (k0 x1073 x1074 x1075 x1076))
  else none)
  else none)
  else (k0 x1073 x1074 x1075 x1076))
noncomputable def F43_0_it {R : Type} (n : Nat) (k0 : List Itm → Int → Int → Int → Option R) : Nat → List Itm → Int → Int → Int → Option R
  | 0, _, _, _, _ => none
  | k + 1, x1073, x1074, x1075, x1076 => F43_0_step n k0 (F43_0_it n k0 k) x1073 x1074 x1075 x1076
noncomputable def F43_0 {R : Type} (n : Nat) (x1073 : List Itm) (x1074 : Int) (x1075 : Int) (x1076 : Int) (k0 : List Itm → Int → Int → Int → Option R) : Option R := F43_0_it n k0 n x1073 x1074 x1075 x1076
noncomputable def F43_0z (n : Nat) : Sm G := inZ G 0 ⟨[0, 3, 5], []⟩ F43_0s fun R x K => F43_0_it n (fun u0 u1 u2 u3 => K (.exit 0) (SSh.enc G F43_0x0 ((u0, ((), (u1, ()))), ((u2, (u3, ())), ())))) n x.1.1 x.1.2.2.1 x.2.1.1 x.2.1.2.1
theorem F43_0_eq (n : Nat) (R : Type) (rec : SSh.den G F43_0s → Option R) (x : SSh.den G F43_0s) (K : AE → St G → Option R) :
  F43_0_step n (fun u0 u1 u2 u3 => K (.exit 0) (SSh.enc G F43_0x0 ((u0, ((), (u1, ()))), ((u2, (u3, ())), ())))) (fun x1073 x1074 x1075 x1076 => rec ((x1073, ((), (x1074, ()))), ((x1075, (x1076, ())), ()))) x.1.1 x.1.2.2.1 x.2.1.1 x.2.1.2.1 = exec prog G (ro G (tabOf (E19 n)) (frOf []) R) 0 (codeAt F43c [1, 1, 0, 0, 0]) .no (SSh.enc G F43_0s x) (kLoop G (ro G (tabOf (E19 n)) (frOf []) R) 0 ⟨[0, 3, 5], []⟩ F43_0s ⟨⟨[0, 3, 5], []⟩, ⟨[4], []⟩, [(0, ⟨[0, 3, 5], []⟩)]⟩ rec K) := by kernel_rfl
theorem F43_0_ok (n : Nat) : FragOK prog G 0 (codeAt F43c [1, 1, 0, 0]) (F43_0z n) :=
  frag_loop (Z := fun R k (x : SSh.den G F43_0s) K => F43_0_it n (fun u0 u1 u2 u3 => K (.exit 0) (SSh.enc G F43_0x0 ((u0, ((), (u1, ()))), ((u2, (u3, ())), ())))) k x.1.1 x.1.2.2.1 x.2.1.1 x.2.1.2.1) laws fnok (E19_ok n).tab (AllF.of (l := []) (by kernel_rfl) AllF.nil) (fun _ _ _ => rfl) (fun R k y K => F43_0_eq n R (fun (x : SSh.den G F43_0s) => F43_0_it n (fun u0 u1 u2 u3 => K (.exit 0) (SSh.enc G F43_0x0 ((u0, ((), (u1, ()))), ((u2, (u3, ())), ())))) k x.1.1 x.1.2.2.1 x.2.1.1 x.2.1.2.1) y K) n
noncomputable def F43 (n : Nat) (a1069 : List Itm) (a1070 : Int) (a1071 : Int) : Option (List Itm × Unit) :=
  (F43_0 n a1069 ((a1069.length) : Int) a1070 a1071 (fun z1083 z1084 z1085 z1086 =>
  let v1087 := []
  (bif (decide ((0 : Int) ≤ z1084)) then
  (bif (decide (z1084 ≤ ((z1083.length) : Int))) then
  let v1088 := ((z1083.take (z1084.toNat)).drop (0 : Nat))
  (bif (decide (((v1087.length) + (v1088.length)) ≤ (68719476736 : Nat))) then
  let v1089 := (v1087 ++ v1088)
  let v1090 := ((Itm.mk z1085 z1086) :: [])
  (bif (decide (((v1089.length) + (v1090.length)) ≤ (68719476736 : Nat))) then
  let v1091 := (v1089 ++ v1090)
  (bif (decide ((0 : Int) ≤ z1084)) then
  (bif (decide (z1084 ≤ ((z1083.length) : Int))) then
  (bif (decide (((z1083.length) : Int) ≤ ((z1083.length) : Int))) then
  let v1092 := ((z1083.take (((z1083.length) : Int).toNat)).drop (z1084.toNat))
  (bif (decide (((v1091.length) + (v1092.length)) ≤ (68719476736 : Nat))) then
  some ((v1091 ++ v1092), ())
  else none)
  else none)
  else none)
  else none)
  else none)
  else none)
  else none)
  else none)))
noncomputable def F43e (n : Nat) : Ent G := ⟨43, (.cons (.imm 3) (.cons (.agg (.cons (.int .i64) (.cons (.int .i64) .nil))) .nil)), [], (.imm 3), [], fun x y => F43 n x.1 x.2.1.1 x.2.1.2.1⟩
theorem F43_eq (n : Nat) (x : ShL.den G (.cons (.imm 3) (.cons (.agg (.cons (.int .i64) (.cons (.int .i64) .nil))) .nil))) (y : denO G []) : (F43e n).F x y = runFn prog G (ro G (tabOf (E19 n)) (frOf [F43_0z n]) _) Go.Proofs.Try.f43 (.nd .no (.nd .no (.nd (.nd (.use 0) .no) .no))) [(0, .fz)] (ShL.enc G (.cons (.imm 3) (.cons (.agg (.cons (.int .i64) (.cons (.int .i64) .nil))) .nil)) x) (encO G [] y) (decR (.imm 3) []) := by kernel_rfl
theorem F43_ok (n : Nat) : EntOK prog G (F43e n) :=
  ent_ok (fr := frOf [F43_0z n]) (ann := (.nd .no (.nd .no (.nd (.nd (.use 0) .no) .no)))) (frm := [(0, .fz)]) laws fnok (E19_ok n).tab (e := F43e n) (fn := Go.Proofs.Try.f43) (by kernel_rfl) (AllF.ofB (cd := F43c) (l := [(0, codeAt F43c [1, 1, 0, 0])]) (by kernel_rfl) (by kernel_rfl) (AllF.cons (F43_0_ok n) AllF.nil)) (F43_eq n)
noncomputable def E20 (n : Nat) : List (Ent G) := F43e n :: E19 n
theorem E20_ok (n : Nat) : AllE prog G (E20 n) := AllE.cons (F43_ok n) (E19_ok n)
-- 25 loop.example/slowworm/spec.runsOf
noncomputable def F25c : Code := bodyOf Go.Proofs.Try.f25
noncomputable def F25_0x0 : SSh := ⟨74, [(0, (.imm 3)), (3, (.own 0)), (4, (.int .i64)), (5, (.int .i64)), (6, (.int .i64)), (7, .bool), (8, (.own 1)), (9, (.int .i64)), (10, (.int .i64))], [(.arr 6 true), (.arr 3 true)]⟩
noncomputable def F25_0s : SSh := ⟨74, [(0, (.imm 3)), (3, (.own 0)), (4, (.int .i64)), (5, (.int .i64)), (6, (.int .i64)), (7, .bool), (8, (.own 1)), (9, (.int .i64)), (10, (.int .i64))], [(.arr 6 true), (.arr 3 true)]⟩
noncomputable def F25_0 {R : Type} (n : Nat) (x1126 : List Itm) (x1127 : Int) (x1128 : Int) (x1129 : Int) (x1130 : Bool) (x1131 : Int) (x1132 : Int) (x1133 : List (List Itm)) (x1134 : List Itm) (k0 : List Itm → Int → Int → Int → Bool → Int → Int → List (List Itm) → List Itm → Option R) : Option R :=
  (bif x1130 then
  (k0 x1126 x1127 x1128 x1129 x1130 x1131 (IntKind.wrap .i64 ((IntKind.wrap .i64 ((IntKind.wrap .i64 (x1128 + x1129)) - (1 : Int))) - x1131)) x1133 x1134)
  else (k0 x1126 x1127 x1128 x1129 x1130 x1131 x1132 x1133 x1134))
noncomputable def F25_0z (n : Nat) : Sm G := inZ G 0 ⟨[0, 3, 4, 5, 6, 7, 8, 9, 10], []⟩ F25_0s fun R x K => F25_0 n x.1.1 x.1.2.2.1 x.1.2.2.2.1 x.1.2.2.2.2.1 x.1.2.2.2.2.2.1 x.1.2.2.2.2.2.2.2.1 x.1.2.2.2.2.2.2.2.2.1 x.2.1 x.2.2.1 (fun u0 u1 u2 u3 u4 u5 u6 u7 u8 => K .normal (SSh.enc G F25_0x0 ((u0, ((), (u1, (u2, (u3, (u4, ((), (u5, (u6, ()))))))))), (u7, (u8, ())))))
theorem F25_0_eq (n : Nat) (R : Type) (x : SSh.den G F25_0s) (K : AE → St G → Option R) :
  F25_0 n x.1.1 x.1.2.2.1 x.1.2.2.2.1 x.1.2.2.2.2.1 x.1.2.2.2.2.2.1 x.1.2.2.2.2.2.2.2.1 x.1.2.2.2.2.2.2.2.2.1 x.2.1 x.2.2.1 (fun u0 u1 u2 u3 u4 u5 u6 u7 u8 => K .normal (SSh.enc G F25_0x0 ((u0, ((), (u1, (u2, (u3, (u4, ((), (u5, (u6, ()))))))))), (u7, (u8, ()))))) = exec prog G (ro G (tabOf (E20 n)) (frOf []) R) 0 (codeAt F25c [1, 1, 1, 0, 1, 0, 0, 1, 0, 1, 1, 0, 1, 0, 0, 1, 0, 0, 1, 0]) .no (SSh.enc G F25_0s x) (kNrm G (ro G (tabOf (E20 n)) (frOf []) R) 0 ⟨⟨[0, 3, 4, 5, 6, 7, 8, 9, 10], []⟩, ⟨[2], []⟩, [(3, ⟨[0, 3, 4, 5, 6, 7, 8, 9], []⟩), (2, ⟨[0, 3, 4, 5, 6, 8], []⟩), (1, ⟨[0, 3, 4, 5], []⟩), (0, ⟨[3], []⟩)]⟩ K) := by kernel_rfl
theorem F25_0_ok (n : Nat) : FragOK prog G 0 (codeAt F25c [1, 1, 1, 0, 1, 0, 0, 1, 0, 1, 1, 0, 1, 0, 0, 1, 0, 0, 1, 0]) (F25_0z n) :=
  frag_plain laws fnok (E20_ok n).tab (AllF.of (l := []) (by kernel_rfl) AllF.nil) (F25_0_eq n)
noncomputable def F25_1x0 : SSh := ⟨74, [(0, (.imm 3)), (3, (.own 0)), (4, (.int .i64)), (5, (.int .i64)), (6, (.int .i64)), (7, .bool), (8, (.own 1)), (9, (.int .i64))], [(.arr 6 true), (.arr 3 true)]⟩
noncomputable def F25_1s : SSh := ⟨74, [(0, (.imm 3)), (3, (.own 0)), (4, (.int .i64)), (5, (.int .i64)), (6, (.int .i64)), (7, .bool), (8, (.own 1)), (9, (.int .i64))], [(.arr 6 true), (.arr 3 true)]⟩
noncomputable def F25_1 {R : Type} (n : Nat) (x1117 : List Itm) (x1118 : Int) (x1119 : Int) (x1120 : Int) (x1121 : Bool) (x1122 : Int) (x1123 : List (List Itm)) (x1124 : List Itm) (k0 : List Itm → Int → Int → Int → Bool → Int → List (List Itm) → List Itm → Option R) : Option R :=
  (F25_0 n x1117 x1118 x1119 x1120 x1121 x1122 (IntKind.wrap .i64 (x1119 + x1122)) x1123 x1124 (fun z1138 z1139 z1140 z1141 z1142 z1143 z1144 z1145 z1146 =>
  (bif (decide ((0 : Int) ≤ z1144)) then
  (bif (decide (z1144 < ((z1138.length) : Int))) then
  let v1147 := (z1138.getD (z1144.toNat) (Itm.mk (0 : Int) (0 : Int)))
  let v1150 := ((Itm.mk v1147.key v1147.tag) :: [])
  (bif (decide (((z1146.length) + (v1150.length)) ≤ (68719476736 : Nat))) then
  (k0 z1138 z1139 z1140 z1141 z1142 z1143 z1145 (z1146 ++ v1150))
  else none)
  else none)
  else none)))
noncomputable def F25_1z (n : Nat) : Sm G := inZ G 0 ⟨[0, 3, 4, 5, 6, 7, 8, 9], []⟩ F25_1s fun R x K => F25_1 n x.1.1 x.1.2.2.1 x.1.2.2.2.1 x.1.2.2.2.2.1 x.1.2.2.2.2.2.1 x.1.2.2.2.2.2.2.2.1 x.2.1 x.2.2.1 (fun u0 u1 u2 u3 u4 u5 u6 u7 => K .normal (SSh.enc G F25_1x0 ((u0, ((), (u1, (u2, (u3, (u4, ((), (u5, ())))))))), (u6, (u7, ())))))
theorem F25_1_eq (n : Nat) (R : Type) (x : SSh.den G F25_1s) (K : AE → St G → Option R) :
  F25_1 n x.1.1 x.1.2.2.1 x.1.2.2.2.1 x.1.2.2.2.2.1 x.1.2.2.2.2.2.1 x.1.2.2.2.2.2.2.2.1 x.2.1 x.2.2.1 (fun u0 u1 u2 u3 u4 u5 u6 u7 => K .normal (SSh.enc G F25_1x0 ((u0, ((), (u1, (u2, (u3, (u4, ((), (u5, ())))))))), (u6, (u7, ()))))) = exec prog G (ro G (tabOf (E20 n)) (frOf [F25_0z n]) R) 0 (codeAt F25c [1, 1, 1, 0, 1, 0, 0, 1, 0, 1, 1, 0, 1, 0, 0, 1, 0]) (.nd (.nd .no (.nd (.use 0) .no)) .no) (SSh.enc G F25_1s x) (kNrm G (ro G (tabOf (E20 n)) (frOf [F25_0z n]) R) 0 ⟨⟨[0, 3, 4, 5, 6, 7, 8, 9], []⟩, ⟨[2], []⟩, [(2, ⟨[0, 3, 4, 5, 6, 8], []⟩), (1, ⟨[0, 3, 4, 5], []⟩), (0, ⟨[3], []⟩)]⟩ K) := by kernel_rfl
theorem F25_1_ok (n : Nat) : FragOK prog G 0 (codeAt F25c [1, 1, 1, 0, 1, 0, 0, 1, 0, 1, 1, 0, 1, 0, 0, 1, 0]) (F25_1z n) :=
  frag_plain laws fnok (E20_ok n).tab (AllF.of (l := [(0, codeAt F25c [1, 1, 1, 0, 1, 0, 0, 1, 0, 1, 1, 0, 1, 0, 0, 1, 0, 0, 1, 0])]) (by kernel_rfl) (AllF.cons (F25_0_ok n) AllF.nil)) (F25_1_eq n)
noncomputable def F25_2x0 : SSh := ⟨74, [(0, (.imm 3)), (3, (.own 0)), (4, (.int .i64)), (5, (.int .i64)), (6, (.int .i64)), (8, (.own 1))], [(.arr 6 true), (.arr 3 true)]⟩
noncomputable def F25_2s : SSh := ⟨74, [(0, (.imm 3)), (3, (.own 0)), (4, (.int .i64)), (5, (.int .i64)), (6, (.int .i64)), (7, .bool), (8, (.own 1)), (9, (.int .i64))], [(.arr 6 true), (.arr 3 true)]⟩
noncomputable def F25_2_step {R : Type} (n : Nat) (k0 : List Itm → Int → Int → Int → List (List Itm) → List Itm → Option R) (rec : List Itm → Int → Int → Int → Bool → Int → List (List Itm) → List Itm → Option R) (x1108 : List Itm) (x1109 : Int) (x1110 : Int) (x1111 : Int) (x1112 : Bool) (x1113 : Int) (x1114 : List (List Itm)) (x1115 : List Itm) : Option R :=
  (bif (decide (x1113 < x1111)) then
  (F25_1 n x1108 x1109 x1110 x1111 x1112 x1113 x1114 x1115 (fun z1152 z1153 z1154 z1155 z1156 z1157 z1158 z1159 =>
  (rec z1152 z1153 z1154 z1155 z1156 (IntKind.wrap .i64 (z1157 + (1 : Int))) z1158 z1159)))
  else (k0 x1108 x1109 x1110 x1111 x1114 x1115))
noncomputable def F25_2_it {R : Type} (n : Nat) (k0 : List Itm → Int → Int → Int → List (List Itm) → List Itm → Option R) : Nat → List Itm → Int → Int → Int → Bool → Int → List (List Itm) → List Itm → Option R
  | 0, _, _, _, _, _, _, _, _ => none
  | k + 1, x1108, x1109, x1110, x1111, x1112, x1113, x1114, x1115 => F25_2_step n k0 (F25_2_it n k0 k) x1108 x1109 x1110 x1111 x1112 x1113 x1114 x1115
noncomputable def F25_2 {R : Type} (n : Nat) (x1108 : List Itm) (x1109 : Int) (x1110 : Int) (x1111 : Int) (x1112 : Bool) (x1113 : Int) (x1114 : List (List Itm)) (x1115 : List Itm) (k0 : List Itm → Int → Int → Int → List (List Itm) → List Itm → Option R) : Option R := F25_2_it n k0 n x1108 x1109 x1110 x1111 x1112 x1113 x1114 x1115
noncomputable def F25_2z (n : Nat) : Sm G := inZ G 0 ⟨[0, 3, 4, 5, 6, 7, 8, 9], []⟩ F25_2s fun R x K => F25_2_it n (fun u0 u1 u2 u3 u4 u5 => K (.exit 2) (SSh.enc G F25_2x0 ((u0, ((), (u1, (u2, (u3, ((), ())))))), (u4, (u5, ()))))) n x.1.1 x.1.2.2.1 x.1.2.2.2.1 x.1.2.2.2.2.1 x.1.2.2.2.2.2.1 x.1.2.2.2.2.2.2.2.1 x.2.1 x.2.2.1
theorem F25_2_eq (n : Nat) (R : Type) (rec : SSh.den G F25_2s → Option R) (x : SSh.den G F25_2s) (K : AE → St G → Option R) :
  F25_2_step n (fun u0 u1 u2 u3 u4 u5 => K (.exit 2) (SSh.enc G F25_2x0 ((u0, ((), (u1, (u2, (u3, ((), ())))))), (u4, (u5, ()))))) (fun x1108 x1109 x1110 x1111 x1112 x1113 x1114 x1115 => rec ((x1108, ((), (x1109, (x1110, (x1111, (x1112, ((), (x1113, ())))))))), (x1114, (x1115, ())))) x.1.1 x.1.2.2.1 x.1.2.2.2.1 x.1.2.2.2.2.1 x.1.2.2.2.2.2.1 x.1.2.2.2.2.2.2.2.1 x.2.1 x.2.2.1 = exec prog G (ro G (tabOf (E20 n)) (frOf [F25_0z n, F25_1z n]) R) 0 (codeAt F25c [1, 1, 1, 0, 1, 0, 0, 1, 0, 1, 1, 0, 1, 0, 0]) (.nd .no (.nd (.use 1) .no)) (SSh.enc G F25_2s x) (kLoop G (ro G (tabOf (E20 n)) (frOf [F25_0z n, F25_1z n]) R) 0 ⟨[0, 3, 4, 5, 6, 7, 8, 9], []⟩ F25_2s ⟨⟨[0, 3, 4, 5, 6, 8], []⟩, ⟨[2], []⟩, [(2, ⟨[0, 3, 4, 5, 6, 8], []⟩), (1, ⟨[0, 3, 4, 5], []⟩), (0, ⟨[3], []⟩)]⟩ rec K) := by kernel_rfl
theorem F25_2_ok (n : Nat) : FragOK prog G 0 (codeAt F25c [1, 1, 1, 0, 1, 0, 0, 1, 0, 1, 1, 0, 1, 0]) (F25_2z n) :=
  frag_loop (Z := fun R k (x : SSh.den G F25_2s) K => F25_2_it n (fun u0 u1 u2 u3 u4 u5 => K (.exit 2) (SSh.enc G F25_2x0 ((u0, ((), (u1, (u2, (u3, ((), ())))))), (u4, (u5, ()))))) k x.1.1 x.1.2.2.1 x.1.2.2.2.1 x.1.2.2.2.2.1 x.1.2.2.2.2.2.1 x.1.2.2.2.2.2.2.2.1 x.2.1 x.2.2.1) laws fnok (E20_ok n).tab (AllF.of (l := [(1, codeAt F25c [1, 1, 1, 0, 1, 0, 0, 1, 0, 1, 1, 0, 1, 0, 0, 1, 0])]) (by kernel_rfl) (AllF.cons (F25_1_ok n) AllF.nil)) (fun _ _ _ => rfl) (fun R k y K => F25_2_eq n R (fun (x : SSh.den G F25_2s) => F25_2_it n (fun u0 u1 u2 u3 u4 u5 => K (.exit 2) (SSh.enc G F25_2x0 ((u0, ((), (u1, (u2, (u3, ((), ())))))), (u4, (u5, ()))))) k x.1.1 x.1.2.2.1 x.1.2.2.2.1 x.1.2.2.2.2.1 x.1.2.2.2.2.2.1 x.1.2.2.2.2.2.2.2.1 x.2.1 x.2.2.1) y K) n
noncomputable def F25_3x0 : SSh := ⟨74, [(0, (.imm 3)), (3, (.own 0)), (4, (.int .i64)), (5, (.int .i64)), (8, (.imm 3))], [(.arr 6 true)]⟩
noncomputable def F25_3s : SSh := ⟨74, [(0, (.imm 3)), (3, (.own 0)), (4, (.int .i64)), (5, (.int .i64)), (8, (.imm 3))], [(.arr 6 true)]⟩
noncomputable def F25_3_step {R : Type} (n : Nat) (k0 : List Itm → Int → Int → List Itm → List (List Itm) → Option R) (rec : List Itm → Int → Int → List Itm → List (List Itm) → Option R) (x1168 : List Itm) (x1169 : Int) (x1170 : Int) (x1171 : List Itm) (x1172 : List (List Itm)) : Option R :=
  (bif (decide (((x1171.length) : Int) < x1169)) then
  (bif (decide (x1170 < ((x1168.length) : Int))) then
  (bif (decide ((0 : Int) ≤ x1170)) then
  (bif (decide (x1170 < ((x1168.length) : Int))) then
  let v1177 := (x1168.getD (x1170.toNat) (Itm.mk (0 : Int) (0 : Int)))
  (andThen (F43 n x1171 v1177.key v1177.tag) fun r1180 =>
  (rec x1168 x1169 (IntKind.wrap .i64 (x1170 + (1 : Int))) r1180.1 x1172))
  else none)
  else none)
  else (k0 x1168 x1169 x1170 x1171 x1172))
  else (k0 x1168 x1169 x1170 x1171 x1172))
noncomputable def F25_3_it {R : Type} (n : Nat) (k0 : List Itm → Int → Int → List Itm → List (List Itm) → Option R) : Nat → List Itm → Int → Int → List Itm → List (List Itm) → Option R
  | 0, _, _, _, _, _ => none
  | k + 1, x1168, x1169, x1170, x1171, x1172 => F25_3_step n k0 (F25_3_it n k0 k) x1168 x1169 x1170 x1171 x1172
noncomputable def F25_3 {R : Type} (n : Nat) (x1168 : List Itm) (x1169 : Int) (x1170 : Int) (x1171 : List Itm) (x1172 : List (List Itm)) (k0 : List Itm → Int → Int → List Itm → List (List Itm) → Option R) : Option R := F25_3_it n k0 n x1168 x1169 x1170 x1171 x1172
noncomputable def F25_3z (n : Nat) : Sm G := inZ G 0 ⟨[0, 3, 4, 5, 8], [(8, .fz)]⟩ F25_3s fun R x K => F25_3_it n (fun u0 u1 u2 u3 u4 => K (.exit 4) (SSh.enc G F25_3x0 ((u0, ((), (u1, (u2, (u3, ()))))), (u4, ())))) n x.1.1 x.1.2.2.1 x.1.2.2.2.1 x.1.2.2.2.2.1 x.2.1
theorem F25_3_eq (n : Nat) (R : Type) (rec : SSh.den G F25_3s → Option R) (x : SSh.den G F25_3s) (K : AE → St G → Option R) :
  F25_3_step n (fun u0 u1 u2 u3 u4 => K (.exit 4) (SSh.enc G F25_3x0 ((u0, ((), (u1, (u2, (u3, ()))))), (u4, ())))) (fun x1168 x1169 x1170 x1171 x1172 => rec ((x1168, ((), (x1169, (x1170, (x1171, ()))))), (x1172, ()))) x.1.1 x.1.2.2.1 x.1.2.2.2.1 x.1.2.2.2.2.1 x.2.1 = exec prog G (ro G (tabOf (E20 n)) (frOf [F25_0z n, F25_1z n, F25_2z n]) R) 0 (codeAt F25c [1, 1, 1, 0, 1, 0, 0, 1, 0, 1, 1, 1, 1, 0, 0, 0]) .no (SSh.enc G F25_3s x) (kLoop G (ro G (tabOf (E20 n)) (frOf [F25_0z n, F25_1z n, F25_2z n]) R) 0 ⟨[0, 3, 4, 5, 8], [(8, .fz)]⟩ F25_3s ⟨⟨[0, 3, 4, 5, 8], []⟩, ⟨[2], []⟩, [(4, ⟨[0, 3, 4, 5, 8], []⟩), (1, ⟨[0, 3, 4, 5], []⟩), (0, ⟨[3], []⟩)]⟩ rec K) := by kernel_rfl
theorem F25_3_ok (n : Nat) : FragOK prog G 0 (codeAt F25c [1, 1, 1, 0, 1, 0, 0, 1, 0, 1, 1, 1, 1, 0, 0]) (F25_3z n) :=
  frag_loop (Z := fun R k (x : SSh.den G F25_3s) K => F25_3_it n (fun u0 u1 u2 u3 u4 => K (.exit 4) (SSh.enc G F25_3x0 ((u0, ((), (u1, (u2, (u3, ()))))), (u4, ())))) k x.1.1 x.1.2.2.1 x.1.2.2.2.1 x.1.2.2.2.2.1 x.2.1) laws fnok (E20_ok n).tab (AllF.of (l := []) (by kernel_rfl) AllF.nil) (fun _ _ _ => rfl) (fun R k y K => F25_3_eq n R (fun (x : SSh.den G F25_3s) => F25_3_it n (fun u0 u1 u2 u3 u4 => K (.exit 4) (SSh.enc G F25_3x0 ((u0, ((), (u1, (u2, (u3, ()))))), (u4, ())))) k x.1.1 x.1.2.2.1 x.1.2.2.2.1 x.1.2.2.2.2.1 x.2.1) y K) n
noncomputable def F25_4x0 : SSh := ⟨74, [(3, (.own 0))], [(.arr 6 true)]⟩
noncomputable def F25_4s : SSh := ⟨74, [(0, (.imm 3)), (3, (.own 0)), (4, (.int .i64)), (5, (.int .i64))], [(.arr 6 true)]⟩
noncomputable def F25_4_step {R : Type} (n : Nat) (k0 : List (List Itm) → Option R) (rec : List Itm → Int → Int → List (List Itm) → Option R) (x1100 : List Itm) (x1101 : Int) (x1102 : Int) (x1103 : List (List Itm)) : Option R :=
  (bif (decide (x1102 < ((x1100.length) : Int))) then
  (andThen (F42 n x1100 x1102) fun r1106 =>
  (F25_2 n x1100 x1101 x1102 r1106.1.1 r1106.1.2.1 (0 : Int) x1103 [] (fun z1161 z1162 z1163 z1164 z1165 z1166 =>
  (F25_3 n z1161 z1162 (IntKind.wrap .i64 (z1163 + z1164)) z1166 z1165 (fun z1182 z1183 z1184 z1185 z1186 =>
  let v1187 := (z1185 :: [])
  (bif (decide (((z1186.length) + (v1187.length)) ≤ (68719476736 : Nat))) then
  (rec z1182 z1183 z1184 (z1186 ++ v1187))
  else none))))))
  else (k0 x1103))
noncomputable def F25_4_it {R : Type} (n : Nat) (k0 : List (List Itm) → Option R) : Nat → List Itm → Int → Int → List (List Itm) → Option R
  | 0, _, _, _, _ => none
  | k + 1, x1100, x1101, x1102, x1103 => F25_4_step n k0 (F25_4_it n k0 k) x1100 x1101 x1102 x1103
noncomputable def F25_4 {R : Type} (n : Nat) (x1100 : List Itm) (x1101 : Int) (x1102 : Int) (x1103 : List (List Itm)) (k0 : List (List Itm) → Option R) : Option R := F25_4_it n k0 n x1100 x1101 x1102 x1103
noncomputable def F25_4z (n : Nat) : Sm G := inZ G 0 ⟨[0, 3, 4, 5], []⟩ F25_4s fun R x K => F25_4_it n (fun u0 => K (.exit 0) (SSh.enc G F25_4x0 (((), ()), (u0, ())))) n x.1.1 x.1.2.2.1 x.1.2.2.2.1 x.2.1
theorem F25_4_eq (n : Nat) (R : Type) (rec : SSh.den G F25_4s → Option R) (x : SSh.den G F25_4s) (K : AE → St G → Option R) :
  F25_4_step n (fun u0 => K (.exit 0) (SSh.enc G F25_4x0 (((), ()), (u0, ())))) (fun x1100 x1101 x1102 x1103 => rec ((x1100, ((), (x1101, (x1102, ())))), (x1103, ()))) x.1.1 x.1.2.2.1 x.1.2.2.2.1 x.2.1 = exec prog G (ro G (tabOf (E20 n)) (frOf [F25_0z n, F25_1z n, F25_2z n, F25_3z n]) R) 0 (codeAt F25c [1, 1, 1, 0, 1, 0, 0]) (.nd .no (.nd (.nd .no (.nd .no (.nd (.nd .no (.nd (.use 2) .no)) (.nd .no (.nd (.nd (.use 3) .no) .no))))) .no)) (SSh.enc G F25_4s x) (kLoop G (ro G (tabOf (E20 n)) (frOf [F25_0z n, F25_1z n, F25_2z n, F25_3z n]) R) 0 ⟨[0, 3, 4, 5], []⟩ F25_4s ⟨⟨[3], []⟩, ⟨[2], []⟩, [(0, ⟨[3], []⟩)]⟩ rec K) := by kernel_rfl
theorem F25_4_ok (n : Nat) : FragOK prog G 0 (codeAt F25c [1, 1, 1, 0, 1, 0]) (F25_4z n) :=
  frag_loop (Z := fun R k (x : SSh.den G F25_4s) K => F25_4_it n (fun u0 => K (.exit 0) (SSh.enc G F25_4x0 (((), ()), (u0, ())))) k x.1.1 x.1.2.2.1 x.1.2.2.2.1 x.2.1) laws fnok (E20_ok n).tab (AllF.of (l := [(2, codeAt F25c [1, 1, 1, 0, 1, 0, 0, 1, 0, 1, 1, 0, 1, 0]), (3, codeAt F25c [1, 1, 1, 0, 1, 0, 0, 1, 0, 1, 1, 1, 1, 0, 0])]) (by kernel_rfl) (AllF.cons (F25_2_ok n) (AllF.cons (F25_3_ok n) AllF.nil))) (fun _ _ _ => rfl) (fun R k y K => F25_4_eq n R (fun (x : SSh.den G F25_4s) => F25_4_it n (fun u0 => K (.exit 0) (SSh.enc G F25_4x0 (((), ()), (u0, ())))) k x.1.1 x.1.2.2.1 x.1.2.2.2.1 x.2.1) y K) n
noncomputable def F25 (n : Nat) (a1096 : List Itm) : Option (List (List Itm) × Unit) :=
  (andThen (F41 n ((a1096.length) : Int)) fun r1099 =>
  (F25_4 n a1096 r1099.1 (0 : Int) [] (fun z1189 =>
  some (z1189, ()))))
noncomputable def F25e (n : Nat) : Ent G := ⟨25, (.cons (.imm 3) .nil), [], (.imm 6), [], fun x y => F25 n x.1⟩
theorem F25_eq (n : Nat) (x : ShL.den G (.cons (.imm 3) .nil)) (y : denO G []) : (F25e n).F x y = runFn prog G (ro G (tabOf (E20 n)) (frOf [F25_0z n, F25_1z n, F25_2z n, F25_3z n, F25_4z n]) _) Go.Proofs.Try.f25 (.nd .no (.nd .no (.nd .no (.nd (.nd .no (.nd (.use 4) .no)) .no)))) [(0, .fz)] (ShL.enc G (.cons (.imm 3) .nil) x) (encO G [] y) (decR (.imm 6) []) := by kernel_rfl
theorem F25_ok (n : Nat) : EntOK prog G (F25e n) :=
  ent_ok (fr := frOf [F25_0z n, F25_1z n, F25_2z n, F25_3z n, F25_4z n]) (ann := (.nd .no (.nd .no (.nd .no (.nd (.nd .no (.nd (.use 4) .no)) .no))))) (frm := [(0, .fz)]) laws fnok (E20_ok n).tab (e := F25e n) (fn := Go.Proofs.Try.f25) (by kernel_rfl) (AllF.ofB (cd := F25c) (l := [(4, codeAt F25c [1, 1, 1, 0, 1, 0])]) (by kernel_rfl) (by kernel_rfl) (AllF.cons (F25_4_ok n) AllF.nil)) (F25_eq n)
noncomputable def E21 (n : Nat) : List (Ent G) := F25e n :: E20 n
theorem E21_ok (n : Nat) : AllE prog G (E21 n) := AllE.cons (F25_ok n) (E20_ok n)
-- 44 loop.example/slowworm/spec.mergeAt
noncomputable def F44c : Code := bodyOf Go.Proofs.Try.f44
noncomputable def F44 (n : Nat) (a1236 : List Int) (a1237 : Bool) : Option (Int × Unit) :=
  let v1239 := (IntKind.wrap .i64 (((a1236.length) : Int) - (2 : Int)))
  (bif (decide (v1239 < (0 : Int))) then
  some ((-1 : Int), ())
  else (bif (decide (v1239 > (0 : Int))) then
  let v1242 := (IntKind.wrap .i64 (v1239 - (1 : Int)))
  (bif (decide ((0 : Int) ≤ v1242)) then
  (bif (decide (v1242 < ((a1236.length) : Int))) then
  (bif (decide ((0 : Int) ≤ v1239)) then
  (bif (decide (v1239 < ((a1236.length) : Int))) then
  let v1247 := (IntKind.wrap .i64 (v1239 + (1 : Int)))
  (bif (decide ((0 : Int) ≤ v1247)) then
  (bif (decide (v1247 < ((a1236.length) : Int))) then
  (bif (decide ((a1236.getD (v1242.toNat) (0 : Int)) ≤ (IntKind.wrap .i64 ((a1236.getD (v1239.toNat) (0 : Int)) + (a1236.getD (v1247.toNat) (0 : Int)))))) then
  let v1252 := (IntKind.wrap .i64 (v1239 - (1 : Int)))
  (bif (decide ((0 : Int) ≤ v1252)) then
  (bif (decide (v1252 < ((a1236.length) : Int))) then
  let v1255 := (IntKind.wrap .i64 (v1239 + (1 : Int)))
  (bif (decide ((0 : Int) ≤ v1255)) then
  (bif (decide (v1255 < ((a1236.length) : Int))) then
  (bif (decide ((a1236.getD (v1252.toNat) (0 : Int)) < (a1236.getD (v1255.toNat) (0 : Int)))) then
  some ((IntKind.wrap .i64 (v1239 - (1 : Int))), ())
  else some (v1239, ()))
  else none)
  else none)
  else none)
  else none)
  else (bif (decide (v1239 > (1 : Int))) then
  let v1261 := (IntKind.wrap .i64 (v1239 - (2 : Int)))
  (bif (decide ((0 : Int) ≤ v1261)) then
  (bif (decide (v1261 < ((a1236.length) : Int))) then
  let v1264 := (IntKind.wrap .i64 (v1239 - (1 : Int)))
  (bif (decide ((0 : Int) ≤ v1264)) then
  (bif (decide (v1264 < ((a1236.length) : Int))) then
  (bif (decide ((0 : Int) ≤ v1239)) then
  (bif (decide (v1239 < ((a1236.length) : Int))) then
  let v1270 := (decide ((a1236.getD (v1261.toNat) (0 : Int)) ≤ (IntKind.wrap .i64 ((a1236.getD (v1264.toNat) (0 : Int)) + (a1236.getD (v1239.toNat) (0 : Int))))))
  (bif v1270 then
  let v1271 := (IntKind.wrap .i64 (v1239 - (1 : Int)))
  (bif (decide ((0 : Int) ≤ v1271)) then
  (bif (decide (v1271 < ((a1236.length) : Int))) then
  let v1274 := (IntKind.wrap .i64 (v1239 + (1 : Int)))
  (bif (decide ((0 : Int) ≤ v1274)) then
  (bif (decide (v1274 < ((a1236.length) : Int))) then
  (bif (decide ((a1236.getD (v1271.toNat) (0 : Int)) < (a1236.getD (v1274.toNat) (0 : Int)))) then
  some ((IntKind.wrap .i64 (v1239 - (1 : Int))), ())
  else (bif v1270 then
  some (v1239, ())
  else (bif a1237 then
  some (v1239, ())
  else (bif (decide ((0 : Int) ≤ v1239)) then
  (bif (decide (v1239 < ((a1236.length) : Int))) then
  let v1281 := (IntKind.wrap .i64 (v1239 + (1 : Int)))
  (bif (decide ((0 : Int) ≤ v1281)) then
  (bif (decide (v1281 < ((a1236.length) : Int))) then
  (bif (decide ((a1236.getD (v1239.toNat) (0 : Int)) ≤ (a1236.getD (v1281.toNat) (0 : Int)))) then
  some (v1239, ())
  else some ((-1 : Int), ()))
  else none)
  else none)
  else none)
  else none))))
  else none)
  else none)
  else none)
  else none)
  else (bif a1237 then
  (bif (decide (v1239 > (0 : Int))) then
  let v1286 := (IntKind.wrap .i64 (v1239 - (1 : Int)))
  (bif (decide ((0 : Int) ≤ v1286)) then
  (bif (decide (v1286 < ((a1236.length) : Int))) then
  let v1289 := (IntKind.wrap .i64 (v1239 + (1 : Int)))
  (bif (decide ((0 : Int) ≤ v1289)) then
  (bif (decide (v1289 < ((a1236.length) : Int))) then
  (bif (decide ((a1236.getD (v1286.toNat) (0 : Int)) < (a1236.getD (v1289.toNat) (0 : Int)))) then
  some ((IntKind.wrap .i64 (v1239 - (1 : Int))), ())
  else (bif v1270 then
  some (v1239, ())
  else (bif a1237 then
  some (v1239, ())
  else (bif (decide ((0 : Int) ≤ v1239)) then
  (bif (decide (v1239 < ((a1236.length) : Int))) then
  let v1296 := (IntKind.wrap .i64 (v1239 + (1 : Int)))
  (bif (decide ((0 : Int) ≤ v1296)) then
  (bif (decide (v1296 < ((a1236.length) : Int))) then
  (bif (decide ((a1236.getD (v1239.toNat) (0 : Int)) ≤ (a1236.getD (v1296.toNat) (0 : Int)))) then
  some (v1239, ())
  else some ((-1 : Int), ()))
  else none)
  else none)
  else none)
  else none))))
  else none)
  else none)
  else none)
  else none)
  else (bif v1270 then
  some (v1239, ())
  else (bif a1237 then
  some (v1239, ())
  else (bif (decide ((0 : Int) ≤ v1239)) then
  (bif (decide (v1239 < ((a1236.length) : Int))) then
  let v1302 := (IntKind.wrap .i64 (v1239 + (1 : Int)))
  (bif (decide ((0 : Int) ≤ v1302)) then
  (bif (decide (v1302 < ((a1236.length) : Int))) then
  (bif (decide ((a1236.getD (v1239.toNat) (0 : Int)) ≤ (a1236.getD (v1302.toNat) (0 : Int)))) then
  some (v1239, ())
  else some ((-1 : Int), ()))
  else none)
  else none)
  else none)
  else none))))
  else (bif v1270 then
  some (v1239, ())
  else (bif a1237 then
  some (v1239, ())
  else (bif (decide ((0 : Int) ≤ v1239)) then
  (bif (decide (v1239 < ((a1236.length) : Int))) then
  let v1308 := (IntKind.wrap .i64 (v1239 + (1 : Int)))
  (bif (decide ((0 : Int) ≤ v1308)) then
  (bif (decide (v1308 < ((a1236.length) : Int))) then
  (bif (decide ((a1236.getD (v1239.toNat) (0 : Int)) ≤ (a1236.getD (v1308.toNat) (0 : Int)))) then
  some (v1239, ())
  else some ((-1 : Int), ()))
  else none)
  else none)
  else none)
  else none)))))
  else none)
  else none)
  else none)
  else none)
  else none)
  else none)
  else (bif a1237 then
  (bif (decide (v1239 > (0 : Int))) then
  let v1313 := (IntKind.wrap .i64 (v1239 - (1 : Int)))
  (bif (decide ((0 : Int) ≤ v1313)) then
  (bif (decide (v1313 < ((a1236.length) : Int))) then
  let v1316 := (IntKind.wrap .i64 (v1239 + (1 : Int)))
  (bif (decide ((0 : Int) ≤ v1316)) then
  (bif (decide (v1316 < ((a1236.length) : Int))) then
  (bif (decide ((a1236.getD (v1313.toNat) (0 : Int)) < (a1236.getD (v1316.toNat) (0 : Int)))) then
  some ((IntKind.wrap .i64 (v1239 - (1 : Int))), ())
  else (bif a1237 then
  some (v1239, ())
  else (bif (decide ((0 : Int) ≤ v1239)) then
  (bif (decide (v1239 < ((a1236.length) : Int))) then
  let v1323 := (IntKind.wrap .i64 (v1239 + (1 : Int)))
  (bif (decide ((0 : Int) ≤ v1323)) then
  (bif (decide (v1323 < ((a1236.length) : Int))) then
  (bif (decide ((a1236.getD (v1239.toNat) (0 : Int)) ≤ (a1236.getD (v1323.toNat) (0 : Int)))) then
  some (v1239, ())
  else some ((-1 : Int), ()))
  else none)
  else none)
  else none)
  else none)))
  else none)
  else none)
  else none)
  else none)
  else (bif a1237 then
  some (v1239, ())
  else (bif (decide ((0 : Int) ≤ v1239)) then
  (bif (decide (v1239 < ((a1236.length) : Int))) then
  let v1329 := (IntKind.wrap .i64 (v1239 + (1 : Int)))
  (bif (decide ((0 : Int) ≤ v1329)) then
  (bif (decide (v1329 < ((a1236.length) : Int))) then
  (bif (decide ((a1236.getD (v1239.toNat) (0 : Int)) ≤ (a1236.getD (v1329.toNat) (0 : Int)))) then
  some (v1239, ())
  else some ((-1 : Int), ()))
  else none)
  else none)
  else none)
  else none)))
  else (bif a1237 then
  some (v1239, ())
  else (bif (decide ((0 : Int) ≤ v1239)) then
  (bif (decide (v1239 < ((a1236.length) : Int))) then
  let v1335 := (IntKind.wrap .i64 (v1239 + (1 : Int)))
  (bif (decide ((0 : Int) ≤ v1335)) then
  (bif (decide (v1335 < ((a1236.length) : Int))) then
  (bif (decide ((a1236.getD (v1239.toNat) (0 : Int)) ≤ (a1236.getD (v1335.toNat) (0 : Int)))) then
  some (v1239, ())
  else some ((-1 : Int), ()))
  else none)
  else none)
  else none)
  else none)))))
  else none)
  else none)
  else none)
  else none)
  else none)
  else none)
  else (bif (decide (v1239 > (1 : Int))) then
  let v1340 := (IntKind.wrap .i64 (v1239 - (2 : Int)))
  (bif (decide ((0 : Int) ≤ v1340)) then
  (bif (decide (v1340 < ((a1236.length) : Int))) then
  let v1343 := (IntKind.wrap .i64 (v1239 - (1 : Int)))
  (bif (decide ((0 : Int) ≤ v1343)) then
  (bif (decide (v1343 < ((a1236.length) : Int))) then
  (bif (decide ((0 : Int) ≤ v1239)) then
  (bif (decide (v1239 < ((a1236.length) : Int))) then
  let v1349 := (decide ((a1236.getD (v1340.toNat) (0 : Int)) ≤ (IntKind.wrap .i64 ((a1236.getD (v1343.toNat) (0 : Int)) + (a1236.getD (v1239.toNat) (0 : Int))))))
  (bif v1349 then
  let v1350 := (IntKind.wrap .i64 (v1239 - (1 : Int)))
  (bif (decide ((0 : Int) ≤ v1350)) then
  (bif (decide (v1350 < ((a1236.length) : Int))) then
  let v1353 := (IntKind.wrap .i64 (v1239 + (1 : Int)))
  (bif (decide ((0 : Int) ≤ v1353)) then
  (bif (decide (v1353 < ((a1236.length) : Int))) then
  (bif (decide ((a1236.getD (v1350.toNat) (0 : Int)) < (a1236.getD (v1353.toNat) (0 : Int)))) then
  some ((IntKind.wrap .i64 (v1239 - (1 : Int))), ())
  else (bif v1349 then
  some (v1239, ())
  else (bif a1237 then
  some (v1239, ())
  else (bif (decide ((0 : Int) ≤ v1239)) then
  (bif (decide (v1239 < ((a1236.length) : Int))) then
  let v1360 := (IntKind.wrap .i64 (v1239 + (1 : Int)))
  (bif (decide ((0 : Int) ≤ v1360)) then
  (bif (decide (v1360 < ((a1236.length) : Int))) then
  (bif (decide ((a1236.getD (v1239.toNat) (0 : Int)) ≤ (a1236.getD (v1360.toNat) (0 : Int)))) then
  some (v1239, ())
  else some ((-1 : Int), ()))
  else none)
  else none)
  else none)
  else none))))
  else none)
  else none)
  else none)
  else none)
  else (bif a1237 then
  (bif (decide (v1239 > (0 : Int))) then
  let v1365 := (IntKind.wrap .i64 (v1239 - (1 : Int)))
  (bif (decide ((0 : Int) ≤ v1365)) then
  (bif (decide (v1365 < ((a1236.length) : Int))) then
  let v1368 := (IntKind.wrap .i64 (v1239 + (1 : Int)))
  (bif (decide ((0 : Int) ≤ v1368)) then
  (bif (decide (v1368 < ((a1236.length) : Int))) then
  (bif (decide ((a1236.getD (v1365.toNat) (0 : Int)) < (a1236.getD (v1368.toNat) (0 : Int)))) then
  some ((IntKind.wrap .i64 (v1239 - (1 : Int))), ())
  else (bif v1349 then
  some (v1239, ())
  else (bif a1237 then
  some (v1239, ())
  else (bif (decide ((0 : Int) ≤ v1239)) then
  (bif (decide (v1239 < ((a1236.length) : Int))) then
  let v1375 := (IntKind.wrap .i64 (v1239 + (1 : Int)))
  (bif (decide ((0 : Int) ≤ v1375)) then
  (bif (decide (v1375 < ((a1236.length) : Int))) then
  (bif (decide ((a1236.getD (v1239.toNat) (0 : Int)) ≤ (a1236.getD (v1375.toNat) (0 : Int)))) then
  some (v1239, ())
  else some ((-1 : Int), ()))
  else none)
  else none)
  else none)
  else none))))
  else none)
  else none)
  else none)
  else none)
  else (bif v1349 then
  some (v1239, ())
  else (bif a1237 then
  some (v1239, ())
  else (bif (decide ((0 : Int) ≤ v1239)) then
  (bif (decide (v1239 < ((a1236.length) : Int))) then
  let v1381 := (IntKind.wrap .i64 (v1239 + (1 : Int)))
  (bif (decide ((0 : Int) ≤ v1381)) then
  (bif (decide (v1381 < ((a1236.length) : Int))) then
  (bif (decide ((a1236.getD (v1239.toNat) (0 : Int)) ≤ (a1236.getD (v1381.toNat) (0 : Int)))) then
  some (v1239, ())
  else some ((-1 : Int), ()))
  else none)
  else none)
  else none)
  else none))))
  else (bif v1349 then
  some (v1239, ())
  else (bif a1237 then
  some (v1239, ())
  else (bif (decide ((0 : Int) ≤ v1239)) then
  (bif (decide (v1239 < ((a1236.length) : Int))) then
  let v1387 := (IntKind.wrap .i64 (v1239 + (1 : Int)))
  (bif (decide ((0 : Int) ≤ v1387)) then
  (bif (decide (v1387 < ((a1236.length) : Int))) then
  (bif (decide ((a1236.getD (v1239.toNat) (0 : Int)) ≤ (a1236.getD (v1387.toNat) (0 : Int)))) then
  some (v1239, ())
  else some ((-1 : Int), ()))
  else none)
  else none)
  else none)
  else none)))))
  else none)
  else none)
  else none)
  else none)
  else none)
  else none)
  else (bif a1237 then
  (bif (decide (v1239 > (0 : Int))) then
  let v1392 := (IntKind.wrap .i64 (v1239 - (1 : Int)))
  (bif (decide ((0 : Int) ≤ v1392)) then
  (bif (decide (v1392 < ((a1236.length) : Int))) then
  let v1395 := (IntKind.wrap .i64 (v1239 + (1 : Int)))
  (bif (decide ((0 : Int) ≤ v1395)) then
  (bif (decide (v1395 < ((a1236.length) : Int))) then
  (bif (decide ((a1236.getD (v1392.toNat) (0 : Int)) < (a1236.getD (v1395.toNat) (0 : Int)))) then
  some ((IntKind.wrap .i64 (v1239 - (1 : Int))), ())
  else (bif a1237 then
  some (v1239, ())
  else (bif (decide ((0 : Int) ≤ v1239)) then
  (bif (decide (v1239 < ((a1236.length) : Int))) then
  let v1402 := (IntKind.wrap .i64 (v1239 + (1 : Int)))
  (bif (decide ((0 : Int) ≤ v1402)) then
  (bif (decide (v1402 < ((a1236.length) : Int))) then
  (bif (decide ((a1236.getD (v1239.toNat) (0 : Int)) ≤ (a1236.getD (v1402.toNat) (0 : Int)))) then
  some (v1239, ())
  else some ((-1 : Int), ()))
  else none)
  else none)
  else none)
  else none)))
  else none)
  else none)
  else none)
  else none)
  else (bif a1237 then
  some (v1239, ())
  else (bif (decide ((0 : Int) ≤ v1239)) then
  (bif (decide (v1239 < ((a1236.length) : Int))) then
  let v1408 := (IntKind.wrap .i64 (v1239 + (1 : Int)))
  (bif (decide ((0 : Int) ≤ v1408)) then
  (bif (decide (v1408 < ((a1236.length) : Int))) then
  (bif (decide ((a1236.getD (v1239.toNat) (0 : Int)) ≤ (a1236.getD (v1408.toNat) (0 : Int)))) then
  some (v1239, ())
  else some ((-1 : Int), ()))
  else none)
  else none)
  else none)
  else none)))
  else (bif a1237 then
  some (v1239, ())
  else (bif (decide ((0 : Int) ≤ v1239)) then
  (bif (decide (v1239 < ((a1236.length) : Int))) then
  let v1414 := (IntKind.wrap .i64 (v1239 + (1 : Int)))
  (bif (decide ((0 : Int) ≤ v1414)) then
  (bif (decide (v1414 < ((a1236.length) : Int))) then
  (bif (decide ((a1236.getD (v1239.toNat) (0 : Int)) ≤ (a1236.getD (v1414.toNat) (0 : Int)))) then
  some (v1239, ())
  else some ((-1 : Int), ()))
  else none)
  else none)
  else none)
  else none))))))
noncomputable def F44e (n : Nat) : Ent G := ⟨44, (.cons (.imm 0) (.cons .bool .nil)), [], (.int .i64), [], fun x y => F44 n x.1 x.2.1⟩
theorem F44_eq (n : Nat) (x : ShL.den G (.cons (.imm 0) (.cons .bool .nil))) (y : denO G []) : (F44e n).F x y = runFn prog G (ro G (tabOf (E21 n)) (frOf []) _) Go.Proofs.Try.f44 .no [(0, .fz)] (ShL.enc G (.cons (.imm 0) (.cons .bool .nil)) x) (encO G [] y) (decR (.int .i64) []) := by kernel_rfl
theorem F44_ok (n : Nat) : EntOK prog G (F44e n) :=
  ent_ok (fr := frOf []) (ann := .no) (frm := [(0, .fz)]) laws fnok (E21_ok n).tab (e := F44e n) (fn := Go.Proofs.Try.f44) (by kernel_rfl) (AllF.ofB (cd := F44c) (l := []) (by kernel_rfl) (by kernel_rfl) AllF.nil) (F44_eq n)
noncomputable def E22 (n : Nat) : List (Ent G) := F44e n :: E21 n
theorem E22_ok (n : Nat) : AllE prog G (E22 n) := AllE.cons (F44_ok n) (E21_ok n)
-- 45 loop.example/slowworm/spec.mergeStep
noncomputable def F45c : Code := bodyOf Go.Proofs.Try.f45
noncomputable def F45 (n : Nat) (a1433 : List Int) (a1434 : Int) : Option (List Int × Unit) :=
  let v1435 := []
  (bif (decide ((0 : Int) ≤ a1434)) then
  (bif (decide (a1434 ≤ ((a1433.length) : Int))) then
  let v1436 := ((a1433.take (a1434.toNat)).drop (0 : Nat))
  (bif (decide (((v1435.length) + (v1436.length)) ≤ (68719476736 : Nat))) then
  let v1437 := (v1435 ++ v1436)
  (bif (decide ((0 : Int) ≤ a1434)) then
  (bif (decide (a1434 < ((a1433.length) : Int))) then
  let v1440 := (IntKind.wrap .i64 (a1434 + (1 : Int)))
  (bif (decide ((0 : Int) ≤ v1440)) then
  (bif (decide (v1440 < ((a1433.length) : Int))) then
  let v1444 := ((IntKind.wrap .i64 ((a1433.getD (a1434.toNat) (0 : Int)) + (a1433.getD (v1440.toNat) (0 : Int)))) :: [])
  (bif (decide (((v1437.length) + (v1444.length)) ≤ (68719476736 : Nat))) then
  let v1445 := (v1437 ++ v1444)
  let v1446 := (IntKind.wrap .i64 (a1434 + (2 : Int)))
  (bif (decide ((0 : Int) ≤ v1446)) then
  (bif (decide (v1446 ≤ ((a1433.length) : Int))) then
  (bif (decide (((a1433.length) : Int) ≤ ((a1433.length) : Int))) then
  let v1447 := ((a1433.take (((a1433.length) : Int).toNat)).drop (v1446.toNat))
  (bif (decide (((v1445.length) + (v1447.length)) ≤ (68719476736 : Nat))) then
  some ((v1445 ++ v1447), ())
  else none)
  else none)
  else none)
  else none)
  else none)
  else none)
  else none)
  else none)
  else none)
  else none)
  else none)
  else none)
noncomputable def F45e (n : Nat) : Ent G := ⟨45, (.cons (.imm 0) (.cons (.int .i64) .nil)), [], (.imm 0), [], fun x y => F45 n x.1 x.2.1⟩
theorem F45_eq (n : Nat) (x : ShL.den G (.cons (.imm 0) (.cons (.int .i64) .nil))) (y : denO G []) : (F45e n).F x y = runFn prog G (ro G (tabOf (E22 n)) (frOf []) _) Go.Proofs.Try.f45 .no [(0, .fz)] (ShL.enc G (.cons (.imm 0) (.cons (.int .i64) .nil)) x) (encO G [] y) (decR (.imm 0) []) := by kernel_rfl
theorem F45_ok (n : Nat) : EntOK prog G (F45e n) :=
  ent_ok (fr := frOf []) (ann := .no) (frm := [(0, .fz)]) laws fnok (E22_ok n).tab (e := F45e n) (fn := Go.Proofs.Try.f45) (by kernel_rfl) (AllF.ofB (cd := F45c) (l := []) (by kernel_rfl) (by kernel_rfl) AllF.nil) (F45_eq n)
noncomputable def E23 (n : Nat) : List (Ent G) := F45e n :: E22 n
theorem E23_ok (n : Nat) : AllE prog G (E23 n) := AllE.cons (F45_ok n) (E22_ok n)
-- 26 loop.example/slowworm/spec.mergePlan
noncomputable def F26c : Code := bodyOf Go.Proofs.Try.f26
noncomputable def F26_0x0 : SSh := ⟨60, [(0, (.imm 0)), (3, (.own 0)), (4, (.own 1)), (5, (.int .i64))], [(.arr 5 true), (.arr 0 true)]⟩
noncomputable def F26_0x1 : SSh := ⟨60, [(0, (.imm 0)), (3, (.own 0)), (4, (.imm 0)), (5, (.int .i64))], [(.arr 5 true)]⟩
noncomputable def F26_0s : SSh := ⟨60, [(0, (.imm 0)), (3, (.own 0)), (4, (.imm 0)), (5, (.int .i64))], [(.arr 5 true)]⟩
noncomputable def F26_0 {R : Type} (n : Nat) (x1525 : List Int) (x1526 : List Int) (x1527 : Int) (x1528 : List (List Int)) (k0 : List Int → Int → List (List Int) → List Int → Option R) (k1 : List Int → List Int → Int → List (List Int) → Option R) : Option R :=
  (bif (decide (x1527 < ((x1525.length) : Int))) then
  let v1531 := []
  (bif (decide (((v1531.length) + (x1526.length)) ≤ (68719476736 : Nat))) then
  let v1532 := (v1531 ++ x1526)
  (bif (decide ((0 : Int) ≤ x1527)) then
  (bif (decide (x1527 < ((x1525.length) : Int))) then
  let v1535 := ((x1525.getD (x1527.toNat) (0 : Int)) :: [])
  (bif (decide (((v1532.length) + (v1535.length)) ≤ (68719476736 : Nat))) then
  (k0 x1525 x1527 x1528 (v1532 ++ v1535))
  else none)
  else none)
  else none)
  else none)
  else (k1 x1525 x1526 x1527 x1528))
noncomputable def F26_0z (n : Nat) : Sm G := inZ G 0 ⟨[0, 3, 4, 5], []⟩ F26_0s fun R x K => F26_0 n x.1.1 x.1.2.2.1 x.1.2.2.2.1 x.2.1 (fun u0 u1 u2 u3 => K .normal (SSh.enc G F26_0x0 ((u0, ((), ((), (u1, ())))), (u2, (u3, ()))))) (fun u0 u1 u2 u3 => K .normal (SSh.enc G F26_0x1 ((u0, ((), (u1, (u2, ())))), (u3, ()))))
theorem F26_0_eq (n : Nat) (R : Type) (x : SSh.den G F26_0s) (K : AE → St G → Option R) :
  F26_0 n x.1.1 x.1.2.2.1 x.1.2.2.2.1 x.2.1 (fun u0 u1 u2 u3 => K .normal (SSh.enc G F26_0x0 ((u0, ((), ((), (u1, ())))), (u2, (u3, ()))))) (fun u0 u1 u2 u3 => K .normal (SSh.enc G F26_0x1 ((u0, ((), (u1, (u2, ())))), (u3, ())))) = exec prog G (ro G (tabOf (E23 n)) (frOf []) R) 0 (codeAt F26c [1, 1, 1, 0, 1, 0, 0, 1, 0, 0, 0]) .no (SSh.enc G F26_0s x) (kNrm G (ro G (tabOf (E23 n)) (frOf []) R) 0 ⟨⟨[0, 3, 4, 5], []⟩, ⟨[2], []⟩, [(1, ⟨[0, 3, 4, 5], []⟩), (0, ⟨[3], []⟩)]⟩ K) := by kernel_rfl
theorem F26_0_ok (n : Nat) : FragOK prog G 0 (codeAt F26c [1, 1, 1, 0, 1, 0, 0, 1, 0, 0, 0]) (F26_0z n) :=
  frag_plain laws fnok (E23_ok n).tab (AllF.of (l := []) (by kernel_rfl) AllF.nil) (F26_0_eq n)
noncomputable def F26_1x0 : SSh := ⟨60, [(0, (.imm 0)), (3, (.own 0)), (4, (.imm 0)), (5, (.int .i64))], [(.arr 5 true)]⟩
noncomputable def F26_1s : SSh := ⟨60, [(0, (.imm 0)), (3, (.own 0)), (4, (.imm 0)), (5, (.int .i64)), (6, (.int .i64))], [(.arr 5 true)]⟩
noncomputable def F26_1_step {R : Type} (n : Nat) (k0 : List Int → List Int → Int → List (List Int) → Option R) (rec : List Int → List Int → Int → Int → List (List Int) → Option R) (x1544 : List Int) (x1545 : List Int) (x1546 : Int) (x1547 : Int) (x1548 : List (List Int)) : Option R :=
  (bif (decide (x1547 ≥ (0 : Int))) then
  (bif (decide ((0 : Int) ≤ x1547)) then
  (bif (decide (x1547 < ((x1545.length) : Int))) then
  let v1552 := (IntKind.wrap .i64 (x1547 + (1 : Int)))
  (bif (decide ((0 : Int) ≤ v1552)) then
  (bif (decide (v1552 < ((x1545.length) : Int))) then
  let v1556 := ((x1547 :: ((x1545.getD (x1547.toNat) (0 : Int)) :: ((x1545.getD (v1552.toNat) (0 : Int)) :: []))) :: [])
  (bif (decide (((x1548.length) + (v1556.length)) ≤ (68719476736 : Nat))) then
  (andThen (F45 n x1545 x1547) fun r1558 =>
  (andThen (F44 n r1558.1 (x1546 == ((x1544.length) : Int))) fun r1561 =>
  (rec x1544 r1558.1 x1546 r1561.1 (x1548 ++ v1556))))
  else none)
  else none)
  else none)
  else none)
  else none)
  else (k0 x1544 x1545 x1546 x1548))
noncomputable def F26_1_it {R : Type} (n : Nat) (k0 : List Int → List Int → Int → List (List Int) → Option R) : Nat → List Int → List Int → Int → Int → List (List Int) → Option R
  | 0, _, _, _, _, _ => none
  | k + 1, x1544, x1545, x1546, x1547, x1548 => F26_1_step n k0 (F26_1_it n k0 k) x1544 x1545 x1546 x1547 x1548
noncomputable def F26_1 {R : Type} (n : Nat) (x1544 : List Int) (x1545 : List Int) (x1546 : Int) (x1547 : Int) (x1548 : List (List Int)) (k0 : List Int → List Int → Int → List (List Int) → Option R) : Option R := F26_1_it n k0 n x1544 x1545 x1546 x1547 x1548
noncomputable def F26_1z (n : Nat) : Sm G := inZ G 0 ⟨[0, 3, 4, 5, 6], [(4, .fz)]⟩ F26_1s fun R x K => F26_1_it n (fun u0 u1 u2 u3 => K (.exit 2) (SSh.enc G F26_1x0 ((u0, ((), (u1, (u2, ())))), (u3, ())))) n x.1.1 x.1.2.2.1 x.1.2.2.2.1 x.1.2.2.2.2.1 x.2.1
theorem F26_1_eq (n : Nat) (R : Type) (rec : SSh.den G F26_1s → Option R) (x : SSh.den G F26_1s) (K : AE → St G → Option R) :
  F26_1_step n (fun u0 u1 u2 u3 => K (.exit 2) (SSh.enc G F26_1x0 ((u0, ((), (u1, (u2, ())))), (u3, ())))) (fun x1544 x1545 x1546 x1547 x1548 => rec ((x1544, ((), (x1545, (x1546, (x1547, ()))))), (x1548, ()))) x.1.1 x.1.2.2.1 x.1.2.2.2.1 x.1.2.2.2.2.1 x.2.1 = exec prog G (ro G (tabOf (E23 n)) (frOf [F26_0z n]) R) 0 (codeAt F26c [1, 1, 1, 0, 1, 0, 0, 1, 0, 0, 1, 1, 0, 0]) .no (SSh.enc G F26_1s x) (kLoop G (ro G (tabOf (E23 n)) (frOf [F26_0z n]) R) 0 ⟨[0, 3, 4, 5, 6], [(4, .fz)]⟩ F26_1s ⟨⟨[0, 3, 4, 5], []⟩, ⟨[2], []⟩, [(2, ⟨[0, 3, 4, 5], []⟩), (1, ⟨[0, 3, 4, 5], []⟩), (0, ⟨[3], []⟩)]⟩ rec K) := by kernel_rfl
theorem F26_1_ok (n : Nat) : FragOK prog G 0 (codeAt F26c [1, 1, 1, 0, 1, 0, 0, 1, 0, 0, 1, 1, 0]) (F26_1z n) :=
  frag_loop (Z := fun R k (x : SSh.den G F26_1s) K => F26_1_it n (fun u0 u1 u2 u3 => K (.exit 2) (SSh.enc G F26_1x0 ((u0, ((), (u1, (u2, ())))), (u3, ())))) k x.1.1 x.1.2.2.1 x.1.2.2.2.1 x.1.2.2.2.2.1 x.2.1) laws fnok (E23_ok n).tab (AllF.of (l := []) (by kernel_rfl) AllF.nil) (fun _ _ _ => rfl) (fun R k y K => F26_1_eq n R (fun (x : SSh.den G F26_1s) => F26_1_it n (fun u0 u1 u2 u3 => K (.exit 2) (SSh.enc G F26_1x0 ((u0, ((), (u1, (u2, ())))), (u3, ())))) k x.1.1 x.1.2.2.1 x.1.2.2.2.1 x.1.2.2.2.2.1 x.2.1) y K) n
noncomputable def F26_2x0 : SSh := ⟨60, [(0, (.imm 0)), (3, (.own 0)), (4, (.imm 0)), (5, (.int .i64))], [(.arr 5 true)]⟩
noncomputable def F26_2s : SSh := ⟨60, [(0, (.imm 0)), (3, (.own 0)), (4, (.imm 0)), (5, (.int .i64))], [(.arr 5 true)]⟩
noncomputable def F26_2 {R : Type} (n : Nat) (x1521 : List Int) (x1522 : List Int) (x1523 : Int) (x1524 : List (List Int)) (k0 : List Int → List Int → Int → List (List Int) → Option R) : Option R :=
  (F26_0 n x1521 x1522 x1523 x1524 (fun z1537 z1538 z1539 z1540 =>
  (andThen (F44 n z1540 (z1538 == ((z1537.length) : Int))) fun r1543 =>
  (F26_1 n z1537 z1540 z1538 r1543.1 z1539 (fun z1562 z1563 z1564 z1565 =>
  (k0 z1562 z1563 z1564 z1565))))) (fun z1566 z1567 z1568 z1569 =>
  (andThen (F44 n z1567 (z1568 == ((z1566.length) : Int))) fun r1572 =>
  (F26_1 n z1566 z1567 z1568 r1572.1 z1569 (fun z1573 z1574 z1575 z1576 =>
  (k0 z1573 z1574 z1575 z1576))))))
noncomputable def F26_2z (n : Nat) : Sm G := inZ G 0 ⟨[0, 3, 4, 5], []⟩ F26_2s fun R x K => F26_2 n x.1.1 x.1.2.2.1 x.1.2.2.2.1 x.2.1 (fun u0 u1 u2 u3 => K .normal (SSh.enc G F26_2x0 ((u0, ((), (u1, (u2, ())))), (u3, ()))))
theorem F26_2_eq (n : Nat) (R : Type) (x : SSh.den G F26_2s) (K : AE → St G → Option R) :
  F26_2 n x.1.1 x.1.2.2.1 x.1.2.2.2.1 x.2.1 (fun u0 u1 u2 u3 => K .normal (SSh.enc G F26_2x0 ((u0, ((), (u1, (u2, ())))), (u3, ())))) = exec prog G (ro G (tabOf (E23 n)) (frOf [F26_0z n, F26_1z n]) R) 0 (codeAt F26c [1, 1, 1, 0, 1, 0, 0, 1, 0]) (.nd (.nd (.use 0) (.nd .no (.nd (.use 1) .no))) .no) (SSh.enc G F26_2s x) (kNrm G (ro G (tabOf (E23 n)) (frOf [F26_0z n, F26_1z n]) R) 0 ⟨⟨[0, 3, 4, 5], []⟩, ⟨[2], []⟩, [(0, ⟨[3], []⟩)]⟩ K) := by kernel_rfl
theorem F26_2_ok (n : Nat) : FragOK prog G 0 (codeAt F26c [1, 1, 1, 0, 1, 0, 0, 1, 0]) (F26_2z n) :=
  frag_plain laws fnok (E23_ok n).tab (AllF.of (l := [(0, codeAt F26c [1, 1, 1, 0, 1, 0, 0, 1, 0, 0, 0]), (1, codeAt F26c [1, 1, 1, 0, 1, 0, 0, 1, 0, 0, 1, 1, 0])]) (by kernel_rfl) (AllF.cons (F26_0_ok n) (AllF.cons (F26_1_ok n) AllF.nil))) (F26_2_eq n)
noncomputable def F26_3x0 : SSh := ⟨60, [(3, (.own 0))], [(.arr 5 true)]⟩
noncomputable def F26_3s : SSh := ⟨60, [(0, (.imm 0)), (3, (.own 0)), (4, (.imm 0)), (5, (.int .i64))], [(.arr 5 true)]⟩
noncomputable def F26_3_step {R : Type} (n : Nat) (k0 : List (List Int) → Option R) (rec : List Int → List Int → Int → List (List Int) → Option R) (x1515 : List Int) (x1516 : List Int) (x1517 : Int) (x1518 : List (List Int)) : Option R :=
  (bif (decide (x1517 ≤ ((x1515.length) : Int))) then
  (F26_2 n x1515 x1516 x1517 x1518 (fun z1577 z1578 z1579 z1580 =>
  (rec z1577 z1578 (IntKind.wrap .i64 (z1579 + (1 : Int))) z1580)))
  else (k0 x1518))
noncomputable def F26_3_it {R : Type} (n : Nat) (k0 : List (List Int) → Option R) : Nat → List Int → List Int → Int → List (List Int) → Option R
  | 0, _, _, _, _ => none
  | k + 1, x1515, x1516, x1517, x1518 => F26_3_step n k0 (F26_3_it n k0 k) x1515 x1516 x1517 x1518
noncomputable def F26_3 {R : Type} (n : Nat) (x1515 : List Int) (x1516 : List Int) (x1517 : Int) (x1518 : List (List Int)) (k0 : List (List Int) → Option R) : Option R := F26_3_it n k0 n x1515 x1516 x1517 x1518
noncomputable def F26_3z (n : Nat) : Sm G := inZ G 0 ⟨[0, 3, 4, 5], [(4, .fz)]⟩ F26_3s fun R x K => F26_3_it n (fun u0 => K (.exit 0) (SSh.enc G F26_3x0 (((), ()), (u0, ())))) n x.1.1 x.1.2.2.1 x.1.2.2.2.1 x.2.1
theorem F26_3_eq (n : Nat) (R : Type) (rec : SSh.den G F26_3s → Option R) (x : SSh.den G F26_3s) (K : AE → St G → Option R) :
  F26_3_step n (fun u0 => K (.exit 0) (SSh.enc G F26_3x0 (((), ()), (u0, ())))) (fun x1515 x1516 x1517 x1518 => rec ((x1515, ((), (x1516, (x1517, ())))), (x1518, ()))) x.1.1 x.1.2.2.1 x.1.2.2.2.1 x.2.1 = exec prog G (ro G (tabOf (E23 n)) (frOf [F26_0z n, F26_1z n, F26_2z n]) R) 0 (codeAt F26c [1, 1, 1, 0, 1, 0, 0]) (.nd .no (.nd (.use 2) .no)) (SSh.enc G F26_3s x) (kLoop G (ro G (tabOf (E23 n)) (frOf [F26_0z n, F26_1z n, F26_2z n]) R) 0 ⟨[0, 3, 4, 5], [(4, .fz)]⟩ F26_3s ⟨⟨[3], []⟩, ⟨[2], []⟩, [(0, ⟨[3], []⟩)]⟩ rec K) := by kernel_rfl
theorem F26_3_ok (n : Nat) : FragOK prog G 0 (codeAt F26c [1, 1, 1, 0, 1, 0]) (F26_3z n) :=
  frag_loop (Z := fun R k (x : SSh.den G F26_3s) K => F26_3_it n (fun u0 => K (.exit 0) (SSh.enc G F26_3x0 (((), ()), (u0, ())))) k x.1.1 x.1.2.2.1 x.1.2.2.2.1 x.2.1) laws fnok (E23_ok n).tab (AllF.of (l := [(2, codeAt F26c [1, 1, 1, 0, 1, 0, 0, 1, 0])]) (by kernel_rfl) (AllF.cons (F26_2_ok n) AllF.nil)) (fun _ _ _ => rfl) (fun R k y K => F26_3_eq n R (fun (x : SSh.den G F26_3s) => F26_3_it n (fun u0 => K (.exit 0) (SSh.enc G F26_3x0 (((), ()), (u0, ())))) k x.1.1 x.1.2.2.1 x.1.2.2.2.1 x.2.1) y K) n
noncomputable def F26 (n : Nat) (a1512 : List Int) : Option (List (List Int) × Unit) :=
  (F26_3 n a1512 [] (0 : Int) [] (fun z1582 =>
  some (z1582, ())))
noncomputable def F26e (n : Nat) : Ent G := ⟨26, (.cons (.imm 0) .nil), [], (.imm 5), [], fun x y => F26 n x.1⟩
theorem F26_eq (n : Nat) (x : ShL.den G (.cons (.imm 0) .nil)) (y : denO G []) : (F26e n).F x y = runFn prog G (ro G (tabOf (E23 n)) (frOf [F26_0z n, F26_1z n, F26_2z n, F26_3z n]) _) Go.Proofs.Try.f26 (.nd .no (.nd .no (.nd .no (.nd (.nd .no (.nd (.use 3) .no)) .no)))) [(0, .fz)] (ShL.enc G (.cons (.imm 0) .nil) x) (encO G [] y) (decR (.imm 5) []) := by kernel_rfl
theorem F26_ok (n : Nat) : EntOK prog G (F26e n) :=
  ent_ok (fr := frOf [F26_0z n, F26_1z n, F26_2z n, F26_3z n]) (ann := (.nd .no (.nd .no (.nd .no (.nd (.nd .no (.nd (.use 3) .no)) .no))))) (frm := [(0, .fz)]) laws fnok (E23_ok n).tab (e := F26e n) (fn := Go.Proofs.Try.f26) (by kernel_rfl) (AllF.ofB (cd := F26c) (l := [(3, codeAt F26c [1, 1, 1, 0, 1, 0])]) (by kernel_rfl) (by kernel_rfl) (AllF.cons (F26_3_ok n) AllF.nil)) (F26_eq n)
noncomputable def E24 (n : Nat) : List (Ent G) := F26e n :: E23 n
theorem E24_ok (n : Nat) : AllE prog G (E24 n) := AllE.cons (F26_ok n) (E23_ok n)
-- 27 loop.example/slowworm/spec.mergeItems
noncomputable def F27c : Code := bodyOf Go.Proofs.Try.f27
noncomputable def F27_0x0 : SSh := ⟨53, [(0, (.imm 3)), (1, (.imm 3)), (5, (.own 0)), (6, (.int .i64)), (7, (.int .i64))], [(.arr 3 true)]⟩
noncomputable def F27_0s : SSh := ⟨53, [(0, (.imm 3)), (1, (.imm 3)), (5, (.own 0)), (6, (.int .i64)), (7, (.int .i64))], [(.arr 3 true)]⟩
noncomputable def F27_0_step {R : Type} (n : Nat) (k0 : List Itm → List Itm → Int → Int → List Itm → Option R) (rec : List Itm → List Itm → Int → Int → List Itm → Option R) (x1668 : List Itm) (x1669 : List Itm) (x1670 : Int) (x1671 : Int) (x1672 : List Itm) : Option R :=
  (bif (decide (x1670 < ((x1668.length) : Int))) then
  (bif (decide ((0 : Int) ≤ x1670)) then
  (bif (decide (x1670 < ((x1668.length) : Int))) then
  (bif (decide ((0 : Int) ≤ x1671)) then
  (bif (decide (x1671 < ((x1669.length) : Int))) then
  (bif (decide ((x1668.getD (x1670.toNat) (Itm.mk (0 : Int) (0 : Int))).key ≤ (x1669.getD (x1671.toNat) (Itm.mk (0 : Int) (0 : Int))).key)) then
  (bif (decide ((0 : Int) ≤ x1670)) then
  (bif (decide (x1670 < ((x1668.length) : Int))) then
  let v1680 := (x1668.getD (x1670.toNat) (Itm.mk (0 : Int) (0 : Int)))
  let v1683 := ((Itm.mk v1680.key v1680.tag) :: [])
  (bif (decide (((x1672.length) + (v1683.length)) ≤ (68719476736 : Nat))) then
  (rec x1668 x1669 (IntKind.wrap .i64 (x1670 + (1 : Int))) x1671 (x1672 ++ v1683))
  else none)
  else none)
  else none)
  else (k0 x1668 x1669 x1670 x1671 x1672))
  else none)
  else none)
  else none)
  else none)
  else (k0 x1668 x1669 x1670 x1671 x1672))
noncomputable def F27_0_it {R : Type} (n : Nat) (k0 : List Itm → List Itm → Int → Int → List Itm → Option R) : Nat → List Itm → List Itm → Int → Int → List Itm → Option R
  | 0, _, _, _, _, _ => none
  | k + 1, x1668, x1669, x1670, x1671, x1672 => F27_0_step n k0 (F27_0_it n k0 k) x1668 x1669 x1670 x1671 x1672
noncomputable def F27_0 {R : Type} (n : Nat) (x1668 : List Itm) (x1669 : List Itm) (x1670 : Int) (x1671 : Int) (x1672 : List Itm) (k0 : List Itm → List Itm → Int → Int → List Itm → Option R) : Option R := F27_0_it n k0 n x1668 x1669 x1670 x1671 x1672
noncomputable def F27_0z (n : Nat) : Sm G := inZ G 0 ⟨[0, 1, 5, 6, 7], []⟩ F27_0s fun R x K => F27_0_it n (fun u0 u1 u2 u3 u4 => K (.exit 2) (SSh.enc G F27_0x0 ((u0, (u1, ((), (u2, (u3, ()))))), (u4, ())))) n x.1.1 x.1.2.1 x.1.2.2.2.1 x.1.2.2.2.2.1 x.2.1
theorem F27_0_eq (n : Nat) (R : Type) (rec : SSh.den G F27_0s → Option R) (x : SSh.den G F27_0s) (K : AE → St G → Option R) :
  F27_0_step n (fun u0 u1 u2 u3 u4 => K (.exit 2) (SSh.enc G F27_0x0 ((u0, (u1, ((), (u2, (u3, ()))))), (u4, ())))) (fun x1668 x1669 x1670 x1671 x1672 => rec ((x1668, (x1669, ((), (x1670, (x1671, ()))))), (x1672, ()))) x.1.1 x.1.2.1 x.1.2.2.2.1 x.1.2.2.2.2.1 x.2.1 = exec prog G (ro G (tabOf (E24 n)) (frOf []) R) 0 (codeAt F27c [1, 1, 1, 0, 1, 0, 0, 1, 0, 0, 0, 0, 0]) .no (SSh.enc G F27_0s x) (kLoop G (ro G (tabOf (E24 n)) (frOf []) R) 0 ⟨[0, 1, 5, 6, 7], []⟩ F27_0s ⟨⟨[0, 1, 5, 6, 7], []⟩, ⟨[4], []⟩, [(2, ⟨[0, 1, 5, 6, 7], []⟩), (1, ⟨[0, 1, 5, 6, 7], []⟩), (0, ⟨[0, 5, 6], []⟩)]⟩ rec K) := by kernel_rfl
theorem F27_0_ok (n : Nat) : FragOK prog G 0 (codeAt F27c [1, 1, 1, 0, 1, 0, 0, 1, 0, 0, 0, 0]) (F27_0z n) :=
  frag_loop (Z := fun R k (x : SSh.den G F27_0s) K => F27_0_it n (fun u0 u1 u2 u3 u4 => K (.exit 2) (SSh.enc G F27_0x0 ((u0, (u1, ((), (u2, (u3, ()))))), (u4, ())))) k x.1.1 x.1.2.1 x.1.2.2.2.1 x.1.2.2.2.2.1 x.2.1) laws fnok (E24_ok n).tab (AllF.of (l := []) (by kernel_rfl) AllF.nil) (fun _ _ _ => rfl) (fun R k y K => F27_0_eq n R (fun (x : SSh.den G F27_0s) => F27_0_it n (fun u0 u1 u2 u3 u4 => K (.exit 2) (SSh.enc G F27_0x0 ((u0, (u1, ((), (u2, (u3, ()))))), (u4, ())))) k x.1.1 x.1.2.1 x.1.2.2.2.1 x.1.2.2.2.2.1 x.2.1) y K) n
noncomputable def F27_1x0 : SSh := ⟨53, [(0, (.imm 3)), (5, (.own 0)), (6, (.int .i64))], [(.arr 3 true)]⟩
noncomputable def F27_1s : SSh := ⟨53, [(0, (.imm 3)), (1, (.imm 3)), (5, (.own 0)), (6, (.int .i64)), (7, (.int .i64))], [(.arr 3 true)]⟩
noncomputable def F27_1_step {R : Type} (n : Nat) (k0 : List Itm → Int → List Itm → Option R) (rec : List Itm → List Itm → Int → Int → List Itm → Option R) (x1661 : List Itm) (x1662 : List Itm) (x1663 : Int) (x1664 : Int) (x1665 : List Itm) : Option R :=
  (bif (decide (x1664 < ((x1662.length) : Int))) then
  (F27_0 n x1661 x1662 x1663 x1664 x1665 (fun z1686 z1687 z1688 z1689 z1690 =>
  (bif (decide ((0 : Int) ≤ z1689)) then
  (bif (decide (z1689 < ((z1687.length) : Int))) then
  let v1691 := (z1687.getD (z1689.toNat) (Itm.mk (0 : Int) (0 : Int)))
  let v1694 := ((Itm.mk v1691.key v1691.tag) :: [])
  (bif (decide (((z1690.length) + (v1694.length)) ≤ (68719476736 : Nat))) then
  (rec z1686 z1687 z1688 (IntKind.wrap .i64 (z1689 + (1 : Int))) (z1690 ++ v1694))
  else none)
  else none)
  else none)))
  else (k0 x1661 x1663 x1665))
noncomputable def F27_1_it {R : Type} (n : Nat) (k0 : List Itm → Int → List Itm → Option R) : Nat → List Itm → List Itm → Int → Int → List Itm → Option R
  | 0, _, _, _, _, _ => none
  | k + 1, x1661, x1662, x1663, x1664, x1665 => F27_1_step n k0 (F27_1_it n k0 k) x1661 x1662 x1663 x1664 x1665
noncomputable def F27_1 {R : Type} (n : Nat) (x1661 : List Itm) (x1662 : List Itm) (x1663 : Int) (x1664 : Int) (x1665 : List Itm) (k0 : List Itm → Int → List Itm → Option R) : Option R := F27_1_it n k0 n x1661 x1662 x1663 x1664 x1665
noncomputable def F27_1z (n : Nat) : Sm G := inZ G 0 ⟨[0, 1, 5, 6, 7], []⟩ F27_1s fun R x K => F27_1_it n (fun u0 u1 u2 => K (.exit 0) (SSh.enc G F27_1x0 ((u0, ((), (u1, ()))), (u2, ())))) n x.1.1 x.1.2.1 x.1.2.2.2.1 x.1.2.2.2.2.1 x.2.1
theorem F27_1_eq (n : Nat) (R : Type) (rec : SSh.den G F27_1s → Option R) (x : SSh.den G F27_1s) (K : AE → St G → Option R) :
  F27_1_step n (fun u0 u1 u2 => K (.exit 0) (SSh.enc G F27_1x0 ((u0, ((), (u1, ()))), (u2, ())))) (fun x1661 x1662 x1663 x1664 x1665 => rec ((x1661, (x1662, ((), (x1663, (x1664, ()))))), (x1665, ()))) x.1.1 x.1.2.1 x.1.2.2.2.1 x.1.2.2.2.2.1 x.2.1 = exec prog G (ro G (tabOf (E24 n)) (frOf [F27_0z n]) R) 0 (codeAt F27c [1, 1, 1, 0, 1, 0, 0]) (.nd .no (.nd (.nd (.nd (.nd (.use 0) .no) .no) .no) .no)) (SSh.enc G F27_1s x) (kLoop G (ro G (tabOf (E24 n)) (frOf [F27_0z n]) R) 0 ⟨[0, 1, 5, 6, 7], []⟩ F27_1s ⟨⟨[0, 5, 6], []⟩, ⟨[4], []⟩, [(0, ⟨[0, 5, 6], []⟩)]⟩ rec K) := by kernel_rfl
theorem F27_1_ok (n : Nat) : FragOK prog G 0 (codeAt F27c [1, 1, 1, 0, 1, 0]) (F27_1z n) :=
  frag_loop (Z := fun R k (x : SSh.den G F27_1s) K => F27_1_it n (fun u0 u1 u2 => K (.exit 0) (SSh.enc G F27_1x0 ((u0, ((), (u1, ()))), (u2, ())))) k x.1.1 x.1.2.1 x.1.2.2.2.1 x.1.2.2.2.2.1 x.2.1) laws fnok (E24_ok n).tab (AllF.of (l := [(0, codeAt F27c [1, 1, 1, 0, 1, 0, 0, 1, 0, 0, 0, 0])]) (by kernel_rfl) (AllF.cons (F27_0_ok n) AllF.nil)) (fun _ _ _ => rfl) (fun R k y K => F27_1_eq n R (fun (x : SSh.den G F27_1s) => F27_1_it n (fun u0 u1 u2 => K (.exit 0) (SSh.enc G F27_1x0 ((u0, ((), (u1, ()))), (u2, ())))) k x.1.1 x.1.2.1 x.1.2.2.2.1 x.1.2.2.2.2.1 x.2.1) y K) n
noncomputable def F27 (n : Nat) (a1658 : List Itm) (a1659 : List Itm) : Option (List Itm × Unit) :=
  (F27_1 n a1658 a1659 (0 : Int) (0 : Int) [] (fun z1697 z1698 z1699 =>
  (bif (decide ((0 : Int) ≤ z1698)) then
  (bif (decide (z1698 ≤ ((z1697.length) : Int))) then
  (bif (decide (((z1697.length) : Int) ≤ ((z1697.length) : Int))) then
  let v1700 := ((z1697.take (((z1697.length) : Int).toNat)).drop (z1698.toNat))
  (bif (decide (((z1699.length) + (v1700.length)) ≤ (68719476736 : Nat))) then
  some ((z1699 ++ v1700), ())
  else none)
  else none)
  else none)
  else none)))
noncomputable def F27e (n : Nat) : Ent G := ⟨27, (.cons (.imm 3) (.cons (.imm 3) .nil)), [], (.imm 3), [], fun x y => F27 n x.1 x.2.1⟩
theorem F27_eq (n : Nat) (x : ShL.den G (.cons (.imm 3) (.cons (.imm 3) .nil))) (y : denO G []) : (F27e n).F x y = runFn prog G (ro G (tabOf (E24 n)) (frOf [F27_0z n, F27_1z n]) _) Go.Proofs.Try.f27 (.nd .no (.nd .no (.nd .no (.nd (.nd .no (.nd (.use 1) .no)) .no)))) [(0, .fz)] (ShL.enc G (.cons (.imm 3) (.cons (.imm 3) .nil)) x) (encO G [] y) (decR (.imm 3) []) := by kernel_rfl
theorem F27_ok (n : Nat) : EntOK prog G (F27e n) :=
  ent_ok (fr := frOf [F27_0z n, F27_1z n]) (ann := (.nd .no (.nd .no (.nd .no (.nd (.nd .no (.nd (.use 1) .no)) .no))))) (frm := [(0, .fz)]) laws fnok (E24_ok n).tab (e := F27e n) (fn := Go.Proofs.Try.f27) (by kernel_rfl) (AllF.ofB (cd := F27c) (l := [(1, codeAt F27c [1, 1, 1, 0, 1, 0])]) (by kernel_rfl) (by kernel_rfl) (AllF.cons (F27_1_ok n) AllF.nil)) (F27_eq n)
noncomputable def E25 (n : Nat) : List (Ent G) := F27e n :: E24 n
theorem E25_ok (n : Nat) : AllE prog G (E25 n) := AllE.cons (F27_ok n) (E24_ok n)
-- 10 loop.example/slowworm/spec.SortItems
noncomputable def F10c : Code := bodyOf Go.Proofs.Try.f10
noncomputable def F10_0x0 : SSh := ⟨144, [(3, (.imm 6)), (4, (.own 0))], [(.arr 0 true)]⟩
noncomputable def F10_0s : SSh := ⟨144, [(3, (.imm 6)), (4, (.own 0)), (5, (.int .i64))], [(.arr 0 true)]⟩
noncomputable def F10_0_step {R : Type} (n : Nat) (k0 : List (List Itm) → List Int → Option R) (rec : List (List Itm) → Int → List Int → Option R) (x1734 : List (List Itm)) (x1735 : Int) (x1736 : List Int) : Option R :=
  (bif (decide (x1735 < ((x1734.length) : Int))) then
  (bif (decide ((0 : Int) ≤ x1735)) then
  (bif (decide (x1735 < ((x1734.length) : Int))) then
  let v1742 := ((((x1734.getD (x1735.toNat) []).length) : Int) :: [])
  (bif (decide (((x1736.length) + (v1742.length)) ≤ (68719476736 : Nat))) then
  (rec x1734 (IntKind.wrap .i64 (x1735 + (1 : Int))) (x1736 ++ v1742))
  else none)
  else none)
  else none)
  else (k0 x1734 x1736))
noncomputable def F10_0_it {R : Type} (n : Nat) (k0 : List (List Itm) → List Int → Option R) : Nat → List (List Itm) → Int → List Int → Option R
  | 0, _, _, _ => none
  | k + 1, x1734, x1735, x1736 => F10_0_step n k0 (F10_0_it n k0 k) x1734 x1735 x1736
noncomputable def F10_0 {R : Type} (n : Nat) (x1734 : List (List Itm)) (x1735 : Int) (x1736 : List Int) (k0 : List (List Itm) → List Int → Option R) : Option R := F10_0_it n k0 n x1734 x1735 x1736
noncomputable def F10_0z (n : Nat) : Sm G := inZ G 0 ⟨[3, 4, 5], []⟩ F10_0s fun R x K => F10_0_it n (fun u0 u1 => K (.exit 0) (SSh.enc G F10_0x0 ((u0, ((), ())), (u1, ())))) n x.1.1 x.1.2.2.1 x.2.1
theorem F10_0_eq (n : Nat) (R : Type) (rec : SSh.den G F10_0s → Option R) (x : SSh.den G F10_0s) (K : AE → St G → Option R) :
  F10_0_step n (fun u0 u1 => K (.exit 0) (SSh.enc G F10_0x0 ((u0, ((), ())), (u1, ())))) (fun x1734 x1735 x1736 => rec ((x1734, ((), (x1735, ()))), (x1736, ()))) x.1.1 x.1.2.2.1 x.2.1 = exec prog G (ro G (tabOf (E25 n)) (frOf []) R) 0 (codeAt F10c [1, 1, 1, 1, 0, 1, 0, 0]) .no (SSh.enc G F10_0s x) (kLoop G (ro G (tabOf (E25 n)) (frOf []) R) 0 ⟨[3, 4, 5], []⟩ F10_0s ⟨⟨[3, 4], []⟩, ⟨[2], []⟩, [(0, ⟨[3, 4], []⟩)]⟩ rec K) := by kernel_rfl
theorem F10_0_ok (n : Nat) : FragOK prog G 0 (codeAt F10c [1, 1, 1, 1, 0, 1, 0]) (F10_0z n) :=
  frag_loop (Z := fun R k (x : SSh.den G F10_0s) K => F10_0_it n (fun u0 u1 => K (.exit 0) (SSh.enc G F10_0x0 ((u0, ((), ())), (u1, ())))) k x.1.1 x.1.2.2.1 x.2.1) laws fnok (E25_ok n).tab (AllF.of (l := []) (by kernel_rfl) AllF.nil) (fun _ _ _ => rfl) (fun R k y K => F10_0_eq n R (fun (x : SSh.den G F10_0s) => F10_0_it n (fun u0 u1 => K (.exit 0) (SSh.enc G F10_0x0 ((u0, ((), ())), (u1, ())))) k x.1.1 x.1.2.2.1 x.2.1) y K) n
noncomputable def F10_1x0 : SSh := ⟨144, [(3, (.imm 6)), (6, (.imm 5)), (7, (.own 0)), (8, (.int .i64)), (9, (.int .i64))], [(.arr 6 true)]⟩
noncomputable def F10_1s : SSh := ⟨144, [(3, (.imm 6)), (6, (.imm 5)), (7, (.own 0)), (8, (.int .i64)), (9, (.int .i64))], [(.arr 6 true)]⟩
noncomputable def F10_1_step {R : Type} (n : Nat) (k0 : List (List Itm) → List (List Int) → Int → Int → List (List Itm) → Option R) (rec : List (List Itm) → List (List Int) → Int → Int → List (List Itm) → Option R) (x1756 : List (List Itm)) (x1757 : List (List Int)) (x1758 : Int) (x1759 : Int) (x1760 : List (List Itm)) : Option R :=
  (bif (decide ((0 : Int) ≤ x1759)) then
  (bif (decide (x1759 < ((x1757.length) : Int))) then
  let v1763 := (x1757.getD (x1759.toNat) [])
  (bif (decide ((0 : Int) < ((v1763.length) : Int))) then
  (bif (decide (((x1760.length) : Int) < (IntKind.wrap .i64 ((v1763.getD (0 : Nat) (0 : Int)) + (2 : Int))))) then
  (bif (decide ((0 : Int) ≤ x1758)) then
  (bif (decide (x1758 < ((x1756.length) : Int))) then
  let v1770 := ((x1756.getD (x1758.toNat) []) :: [])
  (bif (decide (((x1760.length) + (v1770.length)) ≤ (68719476736 : Nat))) then
  (rec x1756 x1757 (IntKind.wrap .i64 (x1758 + (1 : Int))) x1759 (x1760 ++ v1770))
  else none)
  else none)
  else none)
  else (bif (decide ((0 : Int) ≤ x1759)) then
  (bif (decide (x1759 < ((x1757.length) : Int))) then
  let v1774 := (x1757.getD (x1759.toNat) [])
  (bif (decide ((0 : Int) < ((v1774.length) : Int))) then
  let v1777 := (IntKind.wrap .i64 ((v1774.getD (0 : Nat) (0 : Int)) + (1 : Int)))
  (bif (decide ((0 : Int) ≤ v1777)) then
  (bif (decide (v1777 < ((x1760.length) : Int))) then
  (bif (decide ((0 : Int) ≤ x1759)) then
  (bif (decide (x1759 < ((x1757.length) : Int))) then
  let v1782 := (x1757.getD (x1759.toNat) [])
  (bif (decide ((2 : Int) < ((v1782.length) : Int))) then
  (bif ((((x1760.getD (v1777.toNat) []).length) : Int) != (v1782.getD (2 : Nat) (0 : Int))) then
  (bif (decide ((0 : Int) ≤ x1758)) then
  (bif (decide (x1758 < ((x1756.length) : Int))) then
  let v1788 := ((x1756.getD (x1758.toNat) []) :: [])
  (bif (decide (((x1760.length) + (v1788.length)) ≤ (68719476736 : Nat))) then
  (rec x1756 x1757 (IntKind.wrap .i64 (x1758 + (1 : Int))) x1759 (x1760 ++ v1788))
  else none)
  else none)
  else none)
  else (bif (decide ((0 : Int) ≤ x1759)) then
  (bif (decide (x1759 < ((x1757.length) : Int))) then
  let v1792 := (x1757.getD (x1759.toNat) [])
  (bif (decide ((0 : Int) < ((v1792.length) : Int))) then
  let v1794 := (v1792.getD (0 : Nat) (0 : Int))
  (bif (decide ((0 : Int) ≤ v1794)) then
  (bif (decide (v1794 < ((x1760.length) : Int))) then
  (bif (decide ((0 : Int) ≤ x1759)) then
  (bif (decide (x1759 < ((x1757.length) : Int))) then
  let v1799 := (x1757.getD (x1759.toNat) [])
  (bif (decide ((1 : Int) < ((v1799.length) : Int))) then
  (bif ((((x1760.getD (v1794.toNat) []).length) : Int) != (v1799.getD (1 : Nat) (0 : Int))) then
  (bif (decide ((0 : Int) ≤ x1758)) then
  (bif (decide (x1758 < ((x1756.length) : Int))) then
  let v1805 := ((x1756.getD (x1758.toNat) []) :: [])
  (bif (decide (((x1760.length) + (v1805.length)) ≤ (68719476736 : Nat))) then
  (rec x1756 x1757 (IntKind.wrap .i64 (x1758 + (1 : Int))) x1759 (x1760 ++ v1805))
  else none)
  else none)
  else none)
  else (k0 x1756 x1757 x1758 x1759 x1760))
  else none)
  else none)
  else none)
  else none)
  else none)
  else none)
  else none)
  else none))
  else none)
  else none)
  else none)
  else none)
  else none)
  else none)
  else none)
  else none))
  else none)
  else none)
  else none)
noncomputable def F10_1_it {R : Type} (n : Nat) (k0 : List (List Itm) → List (List Int) → Int → Int → List (List Itm) → Option R) : Nat → List (List Itm) → List (List Int) → Int → Int → List (List Itm) → Option R
  | 0, _, _, _, _, _ => none
  | k + 1, x1756, x1757, x1758, x1759, x1760 => F10_1_step n k0 (F10_1_it n k0 k) x1756 x1757 x1758 x1759 x1760
noncomputable def F10_1 {R : Type} (n : Nat) (x1756 : List (List Itm)) (x1757 : List (List Int)) (x1758 : Int) (x1759 : Int) (x1760 : List (List Itm)) (k0 : List (List Itm) → List (List Int) → Int → Int → List (List Itm) → Option R) : Option R := F10_1_it n k0 n x1756 x1757 x1758 x1759 x1760
noncomputable def F10_1z (n : Nat) : Sm G := inZ G 0 ⟨[3, 6, 7, 8, 9], []⟩ F10_1s fun R x K => F10_1_it n (fun u0 u1 u2 u3 u4 => K (.exit 4) (SSh.enc G F10_1x0 ((u0, (u1, ((), (u2, (u3, ()))))), (u4, ())))) n x.1.1 x.1.2.1 x.1.2.2.2.1 x.1.2.2.2.2.1 x.2.1
theorem F10_1_eq (n : Nat) (R : Type) (rec : SSh.den G F10_1s → Option R) (x : SSh.den G F10_1s) (K : AE → St G → Option R) :
  F10_1_step n (fun u0 u1 u2 u3 u4 => K (.exit 4) (SSh.enc G F10_1x0 ((u0, (u1, ((), (u2, (u3, ()))))), (u4, ())))) (fun x1756 x1757 x1758 x1759 x1760 => rec ((x1756, (x1757, ((), (x1758, (x1759, ()))))), (x1760, ()))) x.1.1 x.1.2.1 x.1.2.2.2.1 x.1.2.2.2.2.1 x.2.1 = exec prog G (ro G (tabOf (E25 n)) (frOf [F10_0z n]) R) 0 (codeAt F10c [1, 1, 1, 1, 1, 1, 1, 1, 0, 1, 0, 0, 1, 0, 0, 0, 0, 0]) .no (SSh.enc G F10_1s x) (kLoop G (ro G (tabOf (E25 n)) (frOf [F10_0z n]) R) 0 ⟨[3, 6, 7, 8, 9], []⟩ F10_1s ⟨⟨[3, 6, 7, 8, 9], []⟩, ⟨[2], []⟩, [(4, ⟨[3, 6, 7, 8, 9], []⟩), (3, ⟨[3, 6, 7, 8, 9], []⟩), (2, ⟨[3, 6, 7], []⟩)]⟩ rec K) := by kernel_rfl
theorem F10_1_ok (n : Nat) : FragOK prog G 0 (codeAt F10c [1, 1, 1, 1, 1, 1, 1, 1, 0, 1, 0, 0, 1, 0, 0, 0, 0]) (F10_1z n) :=
  frag_loop (Z := fun R k (x : SSh.den G F10_1s) K => F10_1_it n (fun u0 u1 u2 u3 u4 => K (.exit 4) (SSh.enc G F10_1x0 ((u0, (u1, ((), (u2, (u3, ()))))), (u4, ())))) k x.1.1 x.1.2.1 x.1.2.2.2.1 x.1.2.2.2.2.1 x.2.1) laws fnok (E25_ok n).tab (AllF.of (l := []) (by kernel_rfl) AllF.nil) (fun _ _ _ => rfl) (fun R k y K => F10_1_eq n R (fun (x : SSh.den G F10_1s) => F10_1_it n (fun u0 u1 u2 u3 u4 => K (.exit 4) (SSh.enc G F10_1x0 ((u0, (u1, ((), (u2, (u3, ()))))), (u4, ())))) k x.1.1 x.1.2.1 x.1.2.2.2.1 x.1.2.2.2.2.1 x.2.1) y K) n
noncomputable def F10_2x0 : SSh := ⟨144, [(3, (.imm 6)), (6, (.imm 5)), (7, (.own 0))], [(.arr 6 true)]⟩
noncomputable def F10_2s : SSh := ⟨144, [(3, (.imm 6)), (6, (.imm 5)), (7, (.own 0)), (8, (.int .i64)), (9, (.int .i64))], [(.arr 6 true)]⟩
noncomputable def F10_2_step {R : Type} (n : Nat) (k0 : List (List Itm) → List (List Int) → List (List Itm) → Option R) (rec : List (List Itm) → List (List Int) → Int → Int → List (List Itm) → Option R) (x1749 : List (List Itm)) (x1750 : List (List Int)) (x1751 : Int) (x1752 : Int) (x1753 : List (List Itm)) : Option R :=
  (bif (decide (x1752 < ((x1750.length) : Int))) then
  (F10_1 n x1749 x1750 x1751 x1752 x1753 (fun z1808 z1809 z1810 z1811 z1812 =>
  (bif (decide ((0 : Int) ≤ z1811)) then
  (bif (decide (z1811 < ((z1809.length) : Int))) then
  let v1814 := (z1809.getD (z1811.toNat) [])
  (bif (decide ((0 : Int) < ((v1814.length) : Int))) then
  let v1816 := (v1814.getD (0 : Nat) (0 : Int))
  (bif (decide ((0 : Int) ≤ v1816)) then
  (bif (decide (v1816 < ((z1812.length) : Int))) then
  let v1819 := (IntKind.wrap .i64 (v1816 + (1 : Int)))
  (bif (decide ((0 : Int) ≤ v1819)) then
  (bif (decide (v1819 < ((z1812.length) : Int))) then
  (andThen (F27 n (z1812.getD (v1816.toNat) []) (z1812.getD (v1819.toNat) [])) fun r1822 =>
  let v1823 := []
  let v1824 := (IntKind.wrap .i64 (v1816 + (2 : Int)))
  (bif (decide ((0 : Int) ≤ v1824)) then
  (bif (decide (v1824 ≤ ((z1812.length) : Int))) then
  (bif (decide (((z1812.length) : Int) ≤ ((z1812.length) : Int))) then
  let v1825 := ((z1812.take (((z1812.length) : Int).toNat)).drop (v1824.toNat))
  (bif (decide (((v1823.length) + (v1825.length)) ≤ (68719476736 : Nat))) then
  let v1826 := (v1823 ++ v1825)
  let v1827 := []
  (bif (decide ((0 : Int) ≤ v1816)) then
  (bif (decide (v1816 ≤ ((z1812.length) : Int))) then
  let v1828 := (v1816.toNat)
  (bif (decide (((v1827.length) + ((z1812.take v1828).length)) ≤ (68719476736 : Nat))) then
  let v1829 := (v1827 ++ (z1812.take v1828))
  let v1830 := (r1822.1 :: [])
  (bif (decide (((v1829.length) + (v1830.length)) ≤ (68719476736 : Nat))) then
  let v1831 := (v1829 ++ v1830)
  (bif (decide (((v1831.length) + (v1826.length)) ≤ (68719476736 : Nat))) then
  (rec z1808 z1809 z1810 (IntKind.wrap .i64 (z1811 + (1 : Int))) (v1831 ++ v1826))
  else none)
  else none)
  else none)
  else none)
  else none)
  else none)
  else none)
  else none)
  else none))
  else none)
  else none)
  else none)
  else none)
  else none)
  else none)
  else none)))
  else (k0 x1749 x1750 x1753))
noncomputable def F10_2_it {R : Type} (n : Nat) (k0 : List (List Itm) → List (List Int) → List (List Itm) → Option R) : Nat → List (List Itm) → List (List Int) → Int → Int → List (List Itm) → Option R
  | 0, _, _, _, _, _ => none
  | k + 1, x1749, x1750, x1751, x1752, x1753 => F10_2_step n k0 (F10_2_it n k0 k) x1749 x1750 x1751 x1752 x1753
noncomputable def F10_2 {R : Type} (n : Nat) (x1749 : List (List Itm)) (x1750 : List (List Int)) (x1751 : Int) (x1752 : Int) (x1753 : List (List Itm)) (k0 : List (List Itm) → List (List Int) → List (List Itm) → Option R) : Option R := F10_2_it n k0 n x1749 x1750 x1751 x1752 x1753
noncomputable def F10_2z (n : Nat) : Sm G := inZ G 0 ⟨[3, 6, 7, 8, 9], []⟩ F10_2s fun R x K => F10_2_it n (fun u0 u1 u2 => K (.exit 2) (SSh.enc G F10_2x0 ((u0, (u1, ((), ()))), (u2, ())))) n x.1.1 x.1.2.1 x.1.2.2.2.1 x.1.2.2.2.2.1 x.2.1
theorem F10_2_eq (n : Nat) (R : Type) (rec : SSh.den G F10_2s → Option R) (x : SSh.den G F10_2s) (K : AE → St G → Option R) :
  F10_2_step n (fun u0 u1 u2 => K (.exit 2) (SSh.enc G F10_2x0 ((u0, (u1, ((), ()))), (u2, ())))) (fun x1749 x1750 x1751 x1752 x1753 => rec ((x1749, (x1750, ((), (x1751, (x1752, ()))))), (x1753, ()))) x.1.1 x.1.2.1 x.1.2.2.2.1 x.1.2.2.2.2.1 x.2.1 = exec prog G (ro G (tabOf (E25 n)) (frOf [F10_0z n, F10_1z n]) R) 0 (codeAt F10c [1, 1, 1, 1, 1, 1, 1, 1, 0, 1, 0, 0]) (.nd .no (.nd (.nd (.nd (.nd (.use 1) .no) .no) .no) .no)) (SSh.enc G F10_2s x) (kLoop G (ro G (tabOf (E25 n)) (frOf [F10_0z n, F10_1z n]) R) 0 ⟨[3, 6, 7, 8, 9], []⟩ F10_2s ⟨⟨[3, 6, 7], []⟩, ⟨[2], []⟩, [(2, ⟨[3, 6, 7], []⟩)]⟩ rec K) := by kernel_rfl
theorem F10_2_ok (n : Nat) : FragOK prog G 0 (codeAt F10c [1, 1, 1, 1, 1, 1, 1, 1, 0, 1, 0]) (F10_2z n) :=
  frag_loop (Z := fun R k (x : SSh.den G F10_2s) K => F10_2_it n (fun u0 u1 u2 => K (.exit 2) (SSh.enc G F10_2x0 ((u0, (u1, ((), ()))), (u2, ())))) k x.1.1 x.1.2.1 x.1.2.2.2.1 x.1.2.2.2.2.1 x.2.1) laws fnok (E25_ok n).tab (AllF.of (l := [(1, codeAt F10c [1, 1, 1, 1, 1, 1, 1, 1, 0, 1, 0, 0, 1, 0, 0, 0, 0])]) (by kernel_rfl) (AllF.cons (F10_1_ok n) AllF.nil)) (fun _ _ _ => rfl) (fun R k y K => F10_2_eq n R (fun (x : SSh.den G F10_2s) => F10_2_it n (fun u0 u1 u2 => K (.exit 2) (SSh.enc G F10_2x0 ((u0, (u1, ((), ()))), (u2, ())))) k x.1.1 x.1.2.1 x.1.2.2.2.1 x.1.2.2.2.2.1 x.2.1) y K) n
noncomputable def F10_3x0 : SSh := ⟨144, [(7, (.imm 6))], []⟩
noncomputable def F10_3x1 : SSh := ⟨144, [(7, (.own 0))], [(.arr 6 true)]⟩
noncomputable def F10_3s : SSh := ⟨144, [(3, (.imm 6)), (6, (.imm 5)), (7, (.own 0))], [(.arr 6 true)]⟩
noncomputable def F10_3 {R : Type} (n : Nat) (x1837 : List (List Itm)) (x1838 : List (List Int)) (x1839 : List (List Itm)) (k0 : List (List Itm) → Option R) (k1 : List (List Itm) → Option R) : Option R :=
  (bif (((x1838.length) : Int) == (0 : Int)) then
  (k0 x1837)
  else (k1 x1839))
noncomputable def F10_3z (n : Nat) : Sm G := inZ G 0 ⟨[3, 6, 7], []⟩ F10_3s fun R x K => F10_3 n x.1.1 x.1.2.1 x.2.1 (fun u0 => K .normal (SSh.enc G F10_3x0 ((u0, ()), ()))) (fun u0 => K .normal (SSh.enc G F10_3x1 (((), ()), (u0, ()))))
theorem F10_3_eq (n : Nat) (R : Type) (x : SSh.den G F10_3s) (K : AE → St G → Option R) :
  F10_3 n x.1.1 x.1.2.1 x.2.1 (fun u0 => K .normal (SSh.enc G F10_3x0 ((u0, ()), ()))) (fun u0 => K .normal (SSh.enc G F10_3x1 (((), ()), (u0, ())))) = exec prog G (ro G (tabOf (E25 n)) (frOf [F10_0z n, F10_1z n, F10_2z n]) R) 0 (codeAt F10c [1, 1, 1, 1, 1, 1, 1, 1, 1, 0]) .no (SSh.enc G F10_3s x) (kNrm G (ro G (tabOf (E25 n)) (frOf [F10_0z n, F10_1z n, F10_2z n]) R) 0 ⟨⟨[7], []⟩, ⟨[2], []⟩, []⟩ K) := by kernel_rfl
theorem F10_3_ok (n : Nat) : FragOK prog G 0 (codeAt F10c [1, 1, 1, 1, 1, 1, 1, 1, 1, 0]) (F10_3z n) :=
  frag_plain laws fnok (E25_ok n).tab (AllF.of (l := []) (by kernel_rfl) AllF.nil) (F10_3_eq n)
noncomputable def F10 (n : Nat) (a1729 : List Itm) : Option (List Itm × Unit) :=
  (andThen (F24 n a1729) fun r1730 =>
  (bif (!r1730.1) then
  some ([], ())
  else (andThen (F25 n a1729) fun r1732 =>
  (F10_0 n r1732.1 (0 : Int) [] (fun z1745 z1746 =>
  (andThen (F26 n z1746) fun r1747 =>
  (F10_2 n z1745 r1747.1 (0 : Int) (0 : Int) [] (fun z1834 z1835 z1836 =>
  (F10_3 n z1834 z1835 z1836 (fun z1842 =>
  (bif (((z1842.length) : Int) == (0 : Int)) then
  some ([], ())
  else let v1845 := []
  (bif (decide ((0 : Int) < ((z1842.length) : Int))) then
  let v1847 := (z1842.getD (0 : Nat) [])
  (bif (decide (((v1845.length) + (v1847.length)) ≤ (68719476736 : Nat))) then
  some ((v1845 ++ v1847), ())
  else none)
  else none))) (fun z1849 =>
  (bif (((z1849.length) : Int) == (0 : Int)) then
  some ([], ())
  else let v1852 := []
  (bif (decide ((0 : Int) < ((z1849.length) : Int))) then
  let v1853 := (z1849.getD (0 : Nat) [])
  (bif (decide (((v1852.length) + (v1853.length)) ≤ (68719476736 : Nat))) then
  some ((v1852 ++ v1853), ())
  else none)
  else none))))))))))))
noncomputable def F10e (n : Nat) : Ent G := ⟨10, (.cons (.imm 3) .nil), [], (.imm 3), [], fun x y => F10 n x.1⟩
theorem F10_eq (n : Nat) (x : ShL.den G (.cons (.imm 3) .nil)) (y : denO G []) : (F10e n).F x y = runFn prog G (ro G (tabOf (E25 n)) (frOf [F10_0z n, F10_1z n, F10_2z n, F10_3z n]) _) Go.Proofs.Try.f10 (.nd .no (.nd .no (.nd .no (.nd .no (.nd (.nd .no (.nd (.use 0) .no)) (.nd .no (.nd .no (.nd .no (.nd (.nd .no (.nd (.use 2) .no)) (.nd (.use 3) .no)))))))))) [(0, .fz)] (ShL.enc G (.cons (.imm 3) .nil) x) (encO G [] y) (decR (.imm 3) []) := by kernel_rfl
theorem F10_ok (n : Nat) : EntOK prog G (F10e n) :=
  ent_ok (fr := frOf [F10_0z n, F10_1z n, F10_2z n, F10_3z n]) (ann := (.nd .no (.nd .no (.nd .no (.nd .no (.nd (.nd .no (.nd (.use 0) .no)) (.nd .no (.nd .no (.nd .no (.nd (.nd .no (.nd (.use 2) .no)) (.nd (.use 3) .no))))))))))) (frm := [(0, .fz)]) laws fnok (E25_ok n).tab (e := F10e n) (fn := Go.Proofs.Try.f10) (by kernel_rfl) (AllF.ofB (cd := F10c) (l := [(0, codeAt F10c [1, 1, 1, 1, 0, 1, 0]), (2, codeAt F10c [1, 1, 1, 1, 1, 1, 1, 1, 0, 1, 0]), (3, codeAt F10c [1, 1, 1, 1, 1, 1, 1, 1, 1, 0])]) (by kernel_rfl) (by kernel_rfl) (AllF.cons (F10_0_ok n) (AllF.cons (F10_2_ok n) (AllF.cons (F10_3_ok n) AllF.nil)))) (F10_eq n)
noncomputable def E26 (n : Nat) : List (Ent G) := F10e n :: E25 n
theorem E26_ok (n : Nat) : AllE prog G (E26 n) := AllE.cons (F10_ok n) (E25_ok n)
-- 9 loop.example/slowworm/spec.SameItems
noncomputable def F9c : Code := bodyOf Go.Proofs.Try.f9
-- 23 loop.example/slowworm/spec.sameItemList
noncomputable def F23c : Code := bodyOf Go.Proofs.Try.f23
noncomputable def F23_0x0 : SSh := ⟨26, [(4, .bool)], []⟩
noncomputable def F23_0x1 : SSh := ⟨26, [], []⟩
noncomputable def F23_0s : SSh := ⟨26, [(0, (.imm 3)), (1, (.imm 3)), (5, (.int .i64))], []⟩
noncomputable def F23_0_step {R : Type} (n : Nat) (k0 : Bool → Option R) (k1 : Option R) (rec : List Itm → List Itm → Int → Option R) (x1863 : List Itm) (x1864 : List Itm) (x1865 : Int) : Option R :=
  (bif (decide (x1865 < ((x1863.length) : Int))) then
  (bif (decide ((0 : Int) ≤ x1865)) then
  (bif (decide (x1865 < ((x1863.length) : Int))) then
  let v1868 := (x1863.getD (x1865.toNat) (Itm.mk (0 : Int) (0 : Int)))
  (bif (decide ((0 : Int) ≤ x1865)) then
  (bif (decide (x1865 < ((x1864.length) : Int))) then
  let v1871 := (x1864.getD (x1865.toNat) (Itm.mk (0 : Int) (0 : Int)))
  (bif (!((v1868.key == v1871.key) && (v1868.tag == v1871.tag))) then
  (k0 false)
  else (rec x1863 x1864 (IntKind.wrap .i64 (x1865 + (1 : Int)))))
  else none)
  else none)
  else none)
  else none)
  else k1)
noncomputable def F23_0_it {R : Type} (n : Nat) (k0 : Bool → Option R) (k1 : Option R) : Nat → List Itm → List Itm → Int → Option R
  | 0, _, _, _ => none
  | k + 1, x1863, x1864, x1865 => F23_0_step n k0 k1 (F23_0_it n k0 k1 k) x1863 x1864 x1865
noncomputable def F23_0 {R : Type} (n : Nat) (x1863 : List Itm) (x1864 : List Itm) (x1865 : Int) (k0 : Bool → Option R) (k1 : Option R) : Option R := F23_0_it n k0 k1 n x1863 x1864 x1865
noncomputable def F23_0z (n : Nat) : Sm G := inZ G 0 ⟨[0, 1, 5], []⟩ F23_0s fun R x K => F23_0_it n (fun u0 => K .ret (SSh.enc G F23_0x0 ((u0, ()), ()))) (K (.exit 0) (SSh.enc G F23_0x1 ((), ()))) n x.1.1 x.1.2.1 x.1.2.2.1
theorem F23_0_eq (n : Nat) (R : Type) (rec : SSh.den G F23_0s → Option R) (x : SSh.den G F23_0s) (K : AE → St G → Option R) :
  F23_0_step n (fun u0 => K .ret (SSh.enc G F23_0x0 ((u0, ()), ()))) (K (.exit 0) (SSh.enc G F23_0x1 ((), ()))) (fun x1863 x1864 x1865 => rec ((x1863, (x1864, (x1865, ()))), ())) x.1.1 x.1.2.1 x.1.2.2.1 = exec prog G (ro G (tabOf (E26 n)) (frOf []) R) 0 (codeAt F23c [1, 1, 0, 1, 0, 0]) .no (SSh.enc G F23_0s x) (kLoop G (ro G (tabOf (E26 n)) (frOf []) R) 0 ⟨[0, 1, 5], []⟩ F23_0s ⟨⟨[], []⟩, ⟨[4], []⟩, [(0, ⟨[], []⟩)]⟩ rec K) := by kernel_rfl
theorem F23_0_ok (n : Nat) : FragOK prog G 0 (codeAt F23c [1, 1, 0, 1, 0]) (F23_0z n) :=
  frag_loop (Z := fun R k (x : SSh.den G F23_0s) K => F23_0_it n (fun u0 => K .ret (SSh.enc G F23_0x0 ((u0, ()), ()))) (K (.exit 0) (SSh.enc G F23_0x1 ((), ()))) k x.1.1 x.1.2.1 x.1.2.2.1) laws fnok (E26_ok n).tab (AllF.of (l := []) (by kernel_rfl) AllF.nil) (fun _ _ _ => rfl) (fun R k y K => F23_0_eq n R (fun (x : SSh.den G F23_0s) => F23_0_it n (fun u0 => K .ret (SSh.enc G F23_0x0 ((u0, ()), ()))) (K (.exit 0) (SSh.enc G F23_0x1 ((), ()))) k x.1.1 x.1.2.1 x.1.2.2.1) y K) n
noncomputable def F23 (n : Nat) (a1858 : List Itm) (a1859 : List Itm) : Option (Bool × Unit) :=
  (bif (((a1858.length) : Int) != ((a1859.length) : Int)) then
  some (false, ())
  else (F23_0 n a1858 a1859 (0 : Int) (fun z1876 =>
  some (z1876, ())) (
  some (true, ()))))
noncomputable def F23e (n : Nat) : Ent G := ⟨23, (.cons (.imm 3) (.cons (.imm 3) .nil)), [], .bool, [], fun x y => F23 n x.1 x.2.1⟩
theorem F23_eq (n : Nat) (x : ShL.den G (.cons (.imm 3) (.cons (.imm 3) .nil))) (y : denO G []) : (F23e n).F x y = runFn prog G (ro G (tabOf (E26 n)) (frOf [F23_0z n]) _) Go.Proofs.Try.f23 (.nd .no (.nd .no (.nd (.nd .no (.nd (.use 0) .no)) .no))) [(0, .fz)] (ShL.enc G (.cons (.imm 3) (.cons (.imm 3) .nil)) x) (encO G [] y) (decR .bool []) := by kernel_rfl
theorem F23_ok (n : Nat) : EntOK prog G (F23e n) :=
  ent_ok (fr := frOf [F23_0z n]) (ann := (.nd .no (.nd .no (.nd (.nd .no (.nd (.use 0) .no)) .no)))) (frm := [(0, .fz)]) laws fnok (E26_ok n).tab (e := F23e n) (fn := Go.Proofs.Try.f23) (by kernel_rfl) (AllF.ofB (cd := F23c) (l := [(0, codeAt F23c [1, 1, 0, 1, 0])]) (by kernel_rfl) (by kernel_rfl) (AllF.cons (F23_0_ok n) AllF.nil)) (F23_eq n)
noncomputable def E27 (n : Nat) : List (Ent G) := F23e n :: E26 n
theorem E27_ok (n : Nat) : AllE prog G (E27 n) := AllE.cons (F23_ok n) (E26_ok n)
noncomputable def F9 (n : Nat) (a1856 : List Itm) (a1857 : List Itm) : Option (Bool × Unit) :=
  (andThen (F23 n a1856 a1857) fun r1877 =>
  some (r1877.1, ()))
noncomputable def F9e (n : Nat) : Ent G := ⟨9, (.cons (.imm 3) (.cons (.imm 3) .nil)), [], .bool, [], fun x y => F9 n x.1 x.2.1⟩
theorem F9_eq (n : Nat) (x : ShL.den G (.cons (.imm 3) (.cons (.imm 3) .nil))) (y : denO G []) : (F9e n).F x y = runFn prog G (ro G (tabOf (E27 n)) (frOf []) _) Go.Proofs.Try.f9 .no [(0, .fz)] (ShL.enc G (.cons (.imm 3) (.cons (.imm 3) .nil)) x) (encO G [] y) (decR .bool []) := by kernel_rfl
theorem F9_ok (n : Nat) : EntOK prog G (F9e n) :=
  ent_ok (fr := frOf []) (ann := .no) (frm := [(0, .fz)]) laws fnok (E27_ok n).tab (e := F9e n) (fn := Go.Proofs.Try.f9) (by kernel_rfl) (AllF.ofB (cd := F9c) (l := []) (by kernel_rfl) (by kernel_rfl) AllF.nil) (F9_eq n)
noncomputable def E28 (n : Nat) : List (Ent G) := F9e n :: E27 n
theorem E28_ok (n : Nat) : AllE prog G (E28 n) := AllE.cons (F9_ok n) (E27_ok n)
-- 17 loop.example/slowworm/spec.SortedBy
noncomputable def F17c : Code := bodyOf Go.Proofs.Try.f17
-- 34 loop.example/slowworm/spec.Sorted
noncomputable def F34c : Code := bodyOf Go.Proofs.Try.f34
noncomputable def F34_0x0 : SSh := ⟨22, [(2, .bool)], []⟩
noncomputable def F34_0x1 : SSh := ⟨22, [], []⟩
noncomputable def F34_0s : SSh := ⟨22, [(0, (.imm 3)), (3, (.int .i64))], []⟩
noncomputable def F34_0_step {R : Type} (n : Nat) (k0 : Bool → Option R) (k1 : Option R) (rec : List Itm → Int → Option R) (x1888 : List Itm) (x1889 : Int) : Option R :=
  (bif (decide (x1889 < ((x1888.length) : Int))) then
  (bif (decide ((0 : Int) ≤ x1889)) then
  (bif (decide (x1889 < ((x1888.length) : Int))) then
  let v1894 := (IntKind.wrap .i64 (x1889 - (1 : Int)))
  (bif (decide ((0 : Int) ≤ v1894)) then
  (bif (decide (v1894 < ((x1888.length) : Int))) then
  (bif (decide ((x1888.getD (x1889.toNat) (Itm.mk (0 : Int) (0 : Int))).key < (x1888.getD (v1894.toNat) (Itm.mk (0 : Int) (0 : Int))).key)) then
  (k0 false)
  else (rec x1888 (IntKind.wrap .i64 (x1889 + (1 : Int)))))
  else none)
  else none)
  else none)
  else none)
  else k1)
noncomputable def F34_0_it {R : Type} (n : Nat) (k0 : Bool → Option R) (k1 : Option R) : Nat → List Itm → Int → Option R
  | 0, _, _ => none
  | k + 1, x1888, x1889 => F34_0_step n k0 k1 (F34_0_it n k0 k1 k) x1888 x1889
noncomputable def F34_0 {R : Type} (n : Nat) (x1888 : List Itm) (x1889 : Int) (k0 : Bool → Option R) (k1 : Option R) : Option R := F34_0_it n k0 k1 n x1888 x1889
noncomputable def F34_0z (n : Nat) : Sm G := inZ G 0 ⟨[0, 3], []⟩ F34_0s fun R x K => F34_0_it n (fun u0 => K .ret (SSh.enc G F34_0x0 ((u0, ()), ()))) (K (.exit 0) (SSh.enc G F34_0x1 ((), ()))) n x.1.1 x.1.2.1
theorem F34_0_eq (n : Nat) (R : Type) (rec : SSh.den G F34_0s → Option R) (x : SSh.den G F34_0s) (K : AE → St G → Option R) :
  F34_0_step n (fun u0 => K .ret (SSh.enc G F34_0x0 ((u0, ()), ()))) (K (.exit 0) (SSh.enc G F34_0x1 ((), ()))) (fun x1888 x1889 => rec ((x1888, (x1889, ())), ())) x.1.1 x.1.2.1 = exec prog G (ro G (tabOf (E28 n)) (frOf []) R) 0 (codeAt F34c [1, 0, 1, 0, 0]) .no (SSh.enc G F34_0s x) (kLoop G (ro G (tabOf (E28 n)) (frOf []) R) 0 ⟨[0, 3], []⟩ F34_0s ⟨⟨[], []⟩, ⟨[2], []⟩, [(0, ⟨[], []⟩)]⟩ rec K) := by kernel_rfl
theorem F34_0_ok (n : Nat) : FragOK prog G 0 (codeAt F34c [1, 0, 1, 0]) (F34_0z n) :=
  frag_loop (Z := fun R k (x : SSh.den G F34_0s) K => F34_0_it n (fun u0 => K .ret (SSh.enc G F34_0x0 ((u0, ()), ()))) (K (.exit 0) (SSh.enc G F34_0x1 ((), ()))) k x.1.1 x.1.2.1) laws fnok (E28_ok n).tab (AllF.of (l := []) (by kernel_rfl) AllF.nil) (fun _ _ _ => rfl) (fun R k y K => F34_0_eq n R (fun (x : SSh.den G F34_0s) => F34_0_it n (fun u0 => K .ret (SSh.enc G F34_0x0 ((u0, ()), ()))) (K (.exit 0) (SSh.enc G F34_0x1 ((), ()))) k x.1.1 x.1.2.1) y K) n
noncomputable def F34 (n : Nat) (a1887 : List Itm) : Option (Bool × Unit) :=
  (F34_0 n a1887 (1 : Int) (fun z1899 =>
  some (z1899, ())) (
  some (true, ())))
noncomputable def F34e (n : Nat) : Ent G := ⟨34, (.cons (.imm 3) .nil), [], .bool, [], fun x y => F34 n x.1⟩
theorem F34_eq (n : Nat) (x : ShL.den G (.cons (.imm 3) .nil)) (y : denO G []) : (F34e n).F x y = runFn prog G (ro G (tabOf (E28 n)) (frOf [F34_0z n]) _) Go.Proofs.Try.f34 (.nd .no (.nd (.nd .no (.nd (.use 0) .no)) .no)) [(0, .fz)] (ShL.enc G (.cons (.imm 3) .nil) x) (encO G [] y) (decR .bool []) := by kernel_rfl
theorem F34_ok (n : Nat) : EntOK prog G (F34e n) :=
  ent_ok (fr := frOf [F34_0z n]) (ann := (.nd .no (.nd (.nd .no (.nd (.use 0) .no)) .no))) (frm := [(0, .fz)]) laws fnok (E28_ok n).tab (e := F34e n) (fn := Go.Proofs.Try.f34) (by kernel_rfl) (AllF.ofB (cd := F34c) (l := [(0, codeAt F34c [1, 0, 1, 0])]) (by kernel_rfl) (by kernel_rfl) (AllF.cons (F34_0_ok n) AllF.nil)) (F34_eq n)
noncomputable def E29 (n : Nat) : List (Ent G) := F34e n :: E28 n
theorem E29_ok (n : Nat) : AllE prog G (E29 n) := AllE.cons (F34_ok n) (E28_ok n)
noncomputable def F17_0x0 : SSh := ⟨70, [(0, (.imm 3)), (1, (.imm 3)), (5, (.int .i64)), (6, (.int .i64)), (7, (.int .i64))], []⟩
noncomputable def F17_0s : SSh := ⟨70, [(0, (.imm 3)), (1, (.imm 3)), (5, (.int .i64)), (6, (.int .i64)), (7, (.int .i64))], []⟩
noncomputable def F17_0 {R : Type} (n : Nat) (x1914 : List Itm) (x1915 : List Itm) (x1916 : Int) (x1917 : Int) (x1918 : Int) (k0 : List Itm → List Itm → Int → Int → Int → Option R) : Option R :=
  (bif (decide ((0 : Int) ≤ x1918)) then
  (bif (decide (x1918 < ((x1915.length) : Int))) then
  (bif (decide ((0 : Int) ≤ x1916)) then
  (bif (decide (x1916 < ((x1915.length) : Int))) then
  (bif (decide ((x1915.getD (x1918.toNat) (Itm.mk (0 : Int) (0 : Int))).key < (x1915.getD (x1916.toNat) (Itm.mk (0 : Int) (0 : Int))).key)) then
  (k0 x1914 x1915 x1916 (IntKind.wrap .i64 (x1917 + (1 : Int))) x1918)
  else (bif (decide ((0 : Int) ≤ x1918)) then
  (bif (decide (x1918 < ((x1915.length) : Int))) then
  (bif (decide ((0 : Int) ≤ x1916)) then
  (bif (decide (x1916 < ((x1915.length) : Int))) then
  (bif ((x1915.getD (x1918.toNat) (Itm.mk (0 : Int) (0 : Int))).key == (x1915.getD (x1916.toNat) (Itm.mk (0 : Int) (0 : Int))).key) then
  (bif (decide (x1918 < x1916)) then
  (k0 x1914 x1915 x1916 (IntKind.wrap .i64 (x1917 + (1 : Int))) x1918)
  else (k0 x1914 x1915 x1916 x1917 x1918))
  else (k0 x1914 x1915 x1916 x1917 x1918))
  else none)
  else none)
  else none)
  else none))
  else none)
  else none)
  else none)
  else none)
noncomputable def F17_0z (n : Nat) : Sm G := inZ G 0 ⟨[0, 1, 5, 6, 7], []⟩ F17_0s fun R x K => F17_0 n x.1.1 x.1.2.1 x.1.2.2.1 x.1.2.2.2.1 x.1.2.2.2.2.1 (fun u0 u1 u2 u3 u4 => K .normal (SSh.enc G F17_0x0 ((u0, (u1, (u2, (u3, (u4, ()))))), ())))
theorem F17_0_eq (n : Nat) (R : Type) (x : SSh.den G F17_0s) (K : AE → St G → Option R) :
  F17_0 n x.1.1 x.1.2.1 x.1.2.2.1 x.1.2.2.2.1 x.1.2.2.2.2.1 (fun u0 u1 u2 u3 u4 => K .normal (SSh.enc G F17_0x0 ((u0, (u1, (u2, (u3, (u4, ()))))), ()))) = exec prog G (ro G (tabOf (E29 n)) (frOf []) R) 0 (codeAt F17c [1, 1, 0, 1, 0, 0, 1, 0, 0, 1, 0, 1, 0, 0, 1, 0]) .no (SSh.enc G F17_0s x) (kNrm G (ro G (tabOf (E29 n)) (frOf []) R) 0 ⟨⟨[0, 1, 5, 6, 7], []⟩, ⟨[4], []⟩, [(2, ⟨[0, 1, 5, 6], []⟩), (1, ⟨[0, 1, 5], []⟩), (0, ⟨[], []⟩)]⟩ K) := by kernel_rfl
theorem F17_0_ok (n : Nat) : FragOK prog G 0 (codeAt F17c [1, 1, 0, 1, 0, 0, 1, 0, 0, 1, 0, 1, 0, 0, 1, 0]) (F17_0z n) :=
  frag_plain laws fnok (E29_ok n).tab (AllF.of (l := []) (by kernel_rfl) AllF.nil) (F17_0_eq n)
noncomputable def F17_1x0 : SSh := ⟨70, [(0, (.imm 3)), (1, (.imm 3)), (5, (.int .i64)), (6, (.int .i64))], []⟩
noncomputable def F17_1s : SSh := ⟨70, [(0, (.imm 3)), (1, (.imm 3)), (5, (.int .i64)), (6, (.int .i64)), (7, (.int .i64))], []⟩
noncomputable def F17_1_step {R : Type} (n : Nat) (k0 : List Itm → List Itm → Int → Int → Option R) (rec : List Itm → List Itm → Int → Int → Int → Option R) (x1907 : List Itm) (x1908 : List Itm) (x1909 : Int) (x1910 : Int) (x1911 : Int) : Option R :=
  (bif (decide (x1911 < ((x1908.length) : Int))) then
  (F17_0 n x1907 x1908 x1909 x1910 x1911 (fun z1932 z1933 z1934 z1935 z1936 =>
  (rec z1932 z1933 z1934 z1935 (IntKind.wrap .i64 (z1936 + (1 : Int))))))
  else (k0 x1907 x1908 x1909 x1910))
noncomputable def F17_1_it {R : Type} (n : Nat) (k0 : List Itm → List Itm → Int → Int → Option R) : Nat → List Itm → List Itm → Int → Int → Int → Option R
  | 0, _, _, _, _, _ => none
  | k + 1, x1907, x1908, x1909, x1910, x1911 => F17_1_step n k0 (F17_1_it n k0 k) x1907 x1908 x1909 x1910 x1911
noncomputable def F17_1 {R : Type} (n : Nat) (x1907 : List Itm) (x1908 : List Itm) (x1909 : Int) (x1910 : Int) (x1911 : Int) (k0 : List Itm → List Itm → Int → Int → Option R) : Option R := F17_1_it n k0 n x1907 x1908 x1909 x1910 x1911
noncomputable def F17_1z (n : Nat) : Sm G := inZ G 0 ⟨[0, 1, 5, 6, 7], []⟩ F17_1s fun R x K => F17_1_it n (fun u0 u1 u2 u3 => K (.exit 2) (SSh.enc G F17_1x0 ((u0, (u1, (u2, (u3, ())))), ()))) n x.1.1 x.1.2.1 x.1.2.2.1 x.1.2.2.2.1 x.1.2.2.2.2.1
theorem F17_1_eq (n : Nat) (R : Type) (rec : SSh.den G F17_1s → Option R) (x : SSh.den G F17_1s) (K : AE → St G → Option R) :
  F17_1_step n (fun u0 u1 u2 u3 => K (.exit 2) (SSh.enc G F17_1x0 ((u0, (u1, (u2, (u3, ())))), ()))) (fun x1907 x1908 x1909 x1910 x1911 => rec ((x1907, (x1908, (x1909, (x1910, (x1911, ()))))), ())) x.1.1 x.1.2.1 x.1.2.2.1 x.1.2.2.2.1 x.1.2.2.2.2.1 = exec prog G (ro G (tabOf (E29 n)) (frOf [F17_0z n]) R) 0 (codeAt F17c [1, 1, 0, 1, 0, 0, 1, 0, 0, 1, 0, 1, 0, 0]) (.nd .no (.nd (.use 0) .no)) (SSh.enc G F17_1s x) (kLoop G (ro G (tabOf (E29 n)) (frOf [F17_0z n]) R) 0 ⟨[0, 1, 5, 6, 7], []⟩ F17_1s ⟨⟨[0, 1, 5, 6], []⟩, ⟨[4], []⟩, [(2, ⟨[0, 1, 5, 6], []⟩), (1, ⟨[0, 1, 5], []⟩), (0, ⟨[], []⟩)]⟩ rec K) := by kernel_rfl
theorem F17_1_ok (n : Nat) : FragOK prog G 0 (codeAt F17c [1, 1, 0, 1, 0, 0, 1, 0, 0, 1, 0, 1, 0]) (F17_1z n) :=
  frag_loop (Z := fun R k (x : SSh.den G F17_1s) K => F17_1_it n (fun u0 u1 u2 u3 => K (.exit 2) (SSh.enc G F17_1x0 ((u0, (u1, (u2, (u3, ())))), ()))) k x.1.1 x.1.2.1 x.1.2.2.1 x.1.2.2.2.1 x.1.2.2.2.2.1) laws fnok (E29_ok n).tab (AllF.of (l := [(0, codeAt F17c [1, 1, 0, 1, 0, 0, 1, 0, 0, 1, 0, 1, 0, 0, 1, 0])]) (by kernel_rfl) (AllF.cons (F17_0_ok n) AllF.nil)) (fun _ _ _ => rfl) (fun R k y K => F17_1_eq n R (fun (x : SSh.den G F17_1s) => F17_1_it n (fun u0 u1 u2 u3 => K (.exit 2) (SSh.enc G F17_1x0 ((u0, (u1, (u2, (u3, ())))), ()))) k x.1.1 x.1.2.1 x.1.2.2.1 x.1.2.2.2.1 x.1.2.2.2.2.1) y K) n
noncomputable def F17_2x0 : SSh := ⟨70, [(4, .bool)], []⟩
noncomputable def F17_2x1 : SSh := ⟨70, [], []⟩
noncomputable def F17_2s : SSh := ⟨70, [(0, (.imm 3)), (1, (.imm 3)), (5, (.int .i64))], []⟩
noncomputable def F17_2_step {R : Type} (n : Nat) (k0 : Bool → Option R) (k1 : Option R) (rec : List Itm → List Itm → Int → Option R) (x1902 : List Itm) (x1903 : List Itm) (x1904 : Int) : Option R :=
  (bif (decide (x1904 < ((x1903.length) : Int))) then
  (F17_1 n x1902 x1903 x1904 (0 : Int) (0 : Int) (fun z1938 z1939 z1940 z1941 =>
  (bif (decide ((0 : Int) ≤ z1941)) then
  (bif (decide (z1941 < ((z1938.length) : Int))) then
  let v1942 := (z1938.getD (z1941.toNat) (Itm.mk (0 : Int) (0 : Int)))
  (bif (decide ((0 : Int) ≤ z1940)) then
  (bif (decide (z1940 < ((z1939.length) : Int))) then
  let v1945 := (z1939.getD (z1940.toNat) (Itm.mk (0 : Int) (0 : Int)))
  (bif (!((v1942.key == v1945.key) && (v1942.tag == v1945.tag))) then
  (k0 false)
  else (rec z1938 z1939 (IntKind.wrap .i64 (z1940 + (1 : Int)))))
  else none)
  else none)
  else none)
  else none)))
  else k1)
noncomputable def F17_2_it {R : Type} (n : Nat) (k0 : Bool → Option R) (k1 : Option R) : Nat → List Itm → List Itm → Int → Option R
  | 0, _, _, _ => none
  | k + 1, x1902, x1903, x1904 => F17_2_step n k0 k1 (F17_2_it n k0 k1 k) x1902 x1903 x1904
noncomputable def F17_2 {R : Type} (n : Nat) (x1902 : List Itm) (x1903 : List Itm) (x1904 : Int) (k0 : Bool → Option R) (k1 : Option R) : Option R := F17_2_it n k0 k1 n x1902 x1903 x1904
noncomputable def F17_2z (n : Nat) : Sm G := inZ G 0 ⟨[0, 1, 5], []⟩ F17_2s fun R x K => F17_2_it n (fun u0 => K .ret (SSh.enc G F17_2x0 ((u0, ()), ()))) (K (.exit 0) (SSh.enc G F17_2x1 ((), ()))) n x.1.1 x.1.2.1 x.1.2.2.1
theorem F17_2_eq (n : Nat) (R : Type) (rec : SSh.den G F17_2s → Option R) (x : SSh.den G F17_2s) (K : AE → St G → Option R) :
  F17_2_step n (fun u0 => K .ret (SSh.enc G F17_2x0 ((u0, ()), ()))) (K (.exit 0) (SSh.enc G F17_2x1 ((), ()))) (fun x1902 x1903 x1904 => rec ((x1902, (x1903, (x1904, ()))), ())) x.1.1 x.1.2.1 x.1.2.2.1 = exec prog G (ro G (tabOf (E29 n)) (frOf [F17_0z n, F17_1z n]) R) 0 (codeAt F17c [1, 1, 0, 1, 0, 0]) (.nd .no (.nd (.nd (.nd .no (.nd (.nd .no (.nd (.use 1) .no)) .no)) .no) .no)) (SSh.enc G F17_2s x) (kLoop G (ro G (tabOf (E29 n)) (frOf [F17_0z n, F17_1z n]) R) 0 ⟨[0, 1, 5], []⟩ F17_2s ⟨⟨[], []⟩, ⟨[4], []⟩, [(0, ⟨[], []⟩)]⟩ rec K) := by kernel_rfl
theorem F17_2_ok (n : Nat) : FragOK prog G 0 (codeAt F17c [1, 1, 0, 1, 0]) (F17_2z n) :=
  frag_loop (Z := fun R k (x : SSh.den G F17_2s) K => F17_2_it n (fun u0 => K .ret (SSh.enc G F17_2x0 ((u0, ()), ()))) (K (.exit 0) (SSh.enc G F17_2x1 ((), ()))) k x.1.1 x.1.2.1 x.1.2.2.1) laws fnok (E29_ok n).tab (AllF.of (l := [(1, codeAt F17c [1, 1, 0, 1, 0, 0, 1, 0, 0, 1, 0, 1, 0])]) (by kernel_rfl) (AllF.cons (F17_1_ok n) AllF.nil)) (fun _ _ _ => rfl) (fun R k y K => F17_2_eq n R (fun (x : SSh.den G F17_2s) => F17_2_it n (fun u0 => K .ret (SSh.enc G F17_2x0 ((u0, ()), ()))) (K (.exit 0) (SSh.enc G F17_2x1 ((), ()))) k x.1.1 x.1.2.1 x.1.2.2.1) y K) n
noncomputable def F17 (n : Nat) (a1882 : List Itm) (a1883 : List Itm) : Option (Bool × Unit) :=
  (bif (((a1882.length) : Int) != ((a1883.length) : Int)) then
  some (false, ())
  else (andThen (F34 n a1882) fun r1900 =>
  (bif (!r1900.1) then
  some (false, ())
  else (F17_2 n a1882 a1883 (0 : Int) (fun z1950 =>
  some (z1950, ())) (
  some (true, ()))))))
noncomputable def F17e (n : Nat) : Ent G := ⟨17, (.cons (.imm 3) (.cons (.imm 3) .nil)), [], .bool, [], fun x y => F17 n x.1 x.2.1⟩
theorem F17_eq (n : Nat) (x : ShL.den G (.cons (.imm 3) (.cons (.imm 3) .nil))) (y : denO G []) : (F17e n).F x y = runFn prog G (ro G (tabOf (E29 n)) (frOf [F17_0z n, F17_1z n, F17_2z n]) _) Go.Proofs.Try.f17 (.nd .no (.nd .no (.nd (.nd .no (.nd (.use 2) .no)) .no))) [(0, .fz)] (ShL.enc G (.cons (.imm 3) (.cons (.imm 3) .nil)) x) (encO G [] y) (decR .bool []) := by kernel_rfl
theorem F17_ok (n : Nat) : EntOK prog G (F17e n) :=
  ent_ok (fr := frOf [F17_0z n, F17_1z n, F17_2z n]) (ann := (.nd .no (.nd .no (.nd (.nd .no (.nd (.use 2) .no)) .no)))) (frm := [(0, .fz)]) laws fnok (E29_ok n).tab (e := F17e n) (fn := Go.Proofs.Try.f17) (by kernel_rfl) (AllF.ofB (cd := F17c) (l := [(2, codeAt F17c [1, 1, 0, 1, 0])]) (by kernel_rfl) (by kernel_rfl) (AllF.cons (F17_2_ok n) AllF.nil)) (F17_eq n)
noncomputable def E30 (n : Nat) : List (Ent G) := F17e n :: E29 n
theorem E30_ok (n : Nat) : AllE prog G (E30 n) := AllE.cons (F17_ok n) (E29_ok n)
noncomputable def F6 (n : Nat) (a0 : List Int) : Option (Bool × Unit) :=
  (bif (decide (((a0.length) : Int) > (1048576 : Int))) then
  some (true, ())
  else (andThen (F7 n a0) fun r145 =>
  (andThen (F8 n r145.1) fun r938 =>
  (andThen (F10 n r145.1) fun r1855 =>
  (andThen (F9 n r938.1 r1855.1) fun r1878 =>
  (bif (!r1878.1) then
  some (r1878.1, ())
  else (bif (((r938.1.length) : Int) == (0 : Int)) then
  some (r1878.1, ())
  else (andThen (F17 n r938.1 r145.1) fun r1951 =>
  (bif r1951.1 then
  (andThen (F8 n r938.1) fun r1952 =>
  (andThen (F9 n r1952.1 r938.1) fun r1953 =>
  some (r1953.1, ())))
  else some (false, ()))))))))))
noncomputable def F6e (n : Nat) : Ent G := ⟨6, (.cons (.imm 1) .nil), [], .bool, [], fun x y => F6 n x.1⟩
theorem F6_eq (n : Nat) (x : ShL.den G (.cons (.imm 1) .nil)) (y : denO G []) : (F6e n).F x y = runFn prog G (ro G (tabOf (E30 n)) (frOf []) _) Go.Proofs.Try.f6 .no [(0, .fz)] (ShL.enc G (.cons (.imm 1) .nil) x) (encO G [] y) (decR .bool []) := by kernel_rfl
theorem F6_ok (n : Nat) : EntOK prog G (F6e n) :=
  ent_ok (fr := frOf []) (ann := .no) (frm := [(0, .fz)]) laws fnok (E30_ok n).tab (e := F6e n) (fn := Go.Proofs.Try.f6) (by kernel_rfl) (AllF.ofB (cd := F6c) (l := []) (by kernel_rfl) (by kernel_rfl) AllF.nil) (F6_eq n)
noncomputable def E31 (n : Nat) : List (Ent G) := F6e n :: E30 n
theorem E31_ok (n : Nat) : AllE prog G (E31 n) := AllE.cons (F6_ok n) (E30_ok n)
-- 3 loop.example/slowworm/laws.FnRunsSorted
noncomputable def F3c : Code := bodyOf Go.Proofs.Try.f3
noncomputable def F3 (n : Nat) (a1954 : List Int) : Option (Bool × Unit) :=
  (bif (decide (((a1954.length) : Int) > (1048576 : Int))) then
  some (true, ())
  else (andThen (F7 n a1954) fun r1957 =>
  (andThen (F8 n r1957.1) fun r1958 =>
  (andThen (F10 n r1957.1) fun r1959 =>
  (andThen (F9 n r1958.1 r1959.1) fun r1960 =>
  (bif (!r1960.1) then
  some (false, ())
  else (andThen (F11 n r1958.1) fun r1962 =>
  (bif (((r1958.1.length) : Int) == (0 : Int)) then
  (bif (((r1962.2.1.length) : Int) == (0 : Int)) then
  some (true, ())
  else (bif (((r1962.2.1.length) : Int) == (1 : Int)) then
  (bif (decide ((0 : Int) < ((r1962.2.1.length) : Int))) then
  (andThen (F9 n (r1962.2.1.getD (0 : Nat) []) r1958.1) fun r1970 =>
  some (r1970.1, ()))
  else none)
  else some (false, ())))
  else (bif (((r1962.2.1.length) : Int) == (1 : Int)) then
  (bif (decide ((0 : Int) < ((r1962.2.1.length) : Int))) then
  (andThen (F9 n (r1962.2.1.getD (0 : Nat) []) r1958.1) fun r1974 =>
  some (r1974.1, ()))
  else none)
  else some (false, ()))))))))))
noncomputable def F3e (n : Nat) : Ent G := ⟨3, (.cons (.imm 1) .nil), [], .bool, [], fun x y => F3 n x.1⟩
theorem F3_eq (n : Nat) (x : ShL.den G (.cons (.imm 1) .nil)) (y : denO G []) : (F3e n).F x y = runFn prog G (ro G (tabOf (E31 n)) (frOf []) _) Go.Proofs.Try.f3 .no [(0, .fz)] (ShL.enc G (.cons (.imm 1) .nil) x) (encO G [] y) (decR .bool []) := by kernel_rfl
theorem F3_ok (n : Nat) : EntOK prog G (F3e n) :=
  ent_ok (fr := frOf []) (ann := .no) (frm := [(0, .fz)]) laws fnok (E31_ok n).tab (e := F3e n) (fn := Go.Proofs.Try.f3) (by kernel_rfl) (AllF.ofB (cd := F3c) (l := []) (by kernel_rfl) (by kernel_rfl) AllF.nil) (F3_eq n)
noncomputable def E32 (n : Nat) : List (Ent G) := F3e n :: E31 n
theorem E32_ok (n : Nat) : AllE prog G (E32 n) := AllE.cons (F3_ok n) (E31_ok n)
-- 4 loop.example/slowworm/laws.FnSortParts
noncomputable def F4c : Code := bodyOf Go.Proofs.Try.f4
noncomputable def F4 (n : Nat) (a1975 : List Int) : Option (Bool × Unit) :=
  (bif (decide (((a1975.length) : Int) > (1048576 : Int))) then
  some (true, ())
  else (andThen (F7 n a1975) fun r1978 =>
  (andThen (F8 n r1978.1) fun r1979 =>
  (andThen (F10 n r1978.1) fun r1980 =>
  (andThen (F9 n r1979.1 r1980.1) fun r1981 =>
  (bif (!r1981.1) then
  some (false, ())
  else (bif (decide (((r1978.1.length) : Int) > (60 : Int))) then
  some ((((r1979.1.length) : Int) == (0 : Int)), ())
  else let v1988 := (IntKind.wrap .i64 (((r1978.1.length) : Int).tdiv (2 : Int)))
  let v1989 := []
  (bif (decide ((0 : Int) ≤ v1988)) then
  (bif (decide (v1988 ≤ ((r1978.1.length) : Int))) then
  (andThen (F8 n ((r1978.1.take (v1988.toNat)).drop (0 : Nat))) fun r1991 =>
  (bif (decide (((v1989.length) + (r1991.1.length)) ≤ (68719476736 : Nat))) then
  let v1992 := (v1989 ++ r1991.1)
  (bif (decide ((0 : Int) ≤ v1988)) then
  (bif (decide (v1988 ≤ ((r1978.1.length) : Int))) then
  (bif (decide (((r1978.1.length) : Int) ≤ ((r1978.1.length) : Int))) then
  (andThen (F8 n ((r1978.1.take (((r1978.1.length) : Int).toNat)).drop (v1988.toNat))) fun r1994 =>
  (bif (decide (((v1992.length) + (r1994.1.length)) ≤ (68719476736 : Nat))) then
  (andThen (F8 n (v1992 ++ r1994.1)) fun r1996 =>
  (andThen (F9 n r1996.1 r1979.1) fun r1997 =>
  some (r1997.1, ())))
  else none))
  else none)
  else none)
  else none)
  else none))
  else none)
  else none))))))))
noncomputable def F4e (n : Nat) : Ent G := ⟨4, (.cons (.imm 1) .nil), [], .bool, [], fun x y => F4 n x.1⟩
theorem F4_eq (n : Nat) (x : ShL.den G (.cons (.imm 1) .nil)) (y : denO G []) : (F4e n).F x y = runFn prog G (ro G (tabOf (E32 n)) (frOf []) _) Go.Proofs.Try.f4 .no [(0, .fz)] (ShL.enc G (.cons (.imm 1) .nil) x) (encO G [] y) (decR .bool []) := by kernel_rfl
theorem F4_ok (n : Nat) : EntOK prog G (F4e n) :=
  ent_ok (fr := frOf []) (ann := .no) (frm := [(0, .fz)]) laws fnok (E32_ok n).tab (e := F4e n) (fn := Go.Proofs.Try.f4) (by kernel_rfl) (AllF.ofB (cd := F4c) (l := []) (by kernel_rfl) (by kernel_rfl) AllF.nil) (F4_eq n)
noncomputable def E33 (n : Nat) : List (Ent G) := F4e n :: E32 n
theorem E33_ok (n : Nat) : AllE prog G (E33 n) := AllE.cons (F4_ok n) (E32_ok n)
end Go.Proofs.Ytjanepkjjmcchaa.Am
