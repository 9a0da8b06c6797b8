/- The functions of the seat of dictionaries, printed. -/
import Derived.Test.YtdnbepnajhggpaaAmDictE
namespace Go.Proofs.Ytdnbepnajhggpaa.Am
open Go Go.Proofs.Try
set_option autoImplicit false
set_option linter.unusedVariables false
set_option maxRecDepth 100000
noncomputable def F51v1c : Code := bodyOf Go.Proofs.Try.f51
noncomputable def F51v1_0x0 : SSh := ⟨62, [(4, (.own 2))], [(.arr 0 true), (.arr 3 true), (.arr 0 true)]⟩
noncomputable def F51v1_0x1 : SSh := ⟨62, [(9, (.own 2))], [(.arr 0 true), (.arr 3 true), (.arr 0 true)]⟩
noncomputable def F51v1_0s : SSh := ⟨62, [(1, .str), (2, (.ptr 2 0)), (6, (.int .i64)), (7, (.int .i64)), (8, (.int .i64)), (9, (.own 3)), (22, (.int .i64)), (23, (.int .i64))], [(.arr 0 true), (.arr 3 true), (.box 26 (.cons (.own 0) (.cons (.own 1) .nil))), (.arr 0 true)]⟩
noncomputable def F51v1_0_step {R : Type} (n : Nat) (k0 : List Int → List Ety → List Int → Option R) (k1 : List Int → List Ety → List Int → Option R) (rec : ByteArray → Int → Int → Int → Int → Int → List Int → List Ety → List Int → Option R) (x1087 : ByteArray) (x1088 : Int) (x1089 : Int) (x1090 : Int) (x1091 : Int) (x1092 : Int) (x1093 : List Int) (x1094 : List Ety) (x1095 : List Int) : Option R :=
  (bif (decide (x1092 < x1091)) then
  let v1097 := (x1089 :: [])
  (bif (decide (((x1095.length) + (v1097.length)) ≤ (68719476736 : Nat))) then
  let v1098 := (x1095 ++ v1097)
  (bif (decide ((0 : Int) ≤ x1089)) then
  (bif (decide (x1089 < ((x1093.length) : Int))) then
  let v1100 := (x1093.getD (x1089.toNat) (0 : Int))
  (bif (v1100 == (-1 : Int)) then
  (k0 x1093 x1094 v1098)
  else (bif (decide (v1100 ≥ (0 : Int))) then
  (bif (decide ((0 : Int) ≤ v1100)) then
  (bif (decide (v1100 < ((x1094.length) : Int))) then
  (bif (((x1094.getD (v1100.toNat) (Ety.mk ({ data := #[] } : ByteArray) (0 : Int) (0 : Int) false)).key.toList) == (x1087.toList)) then
  (k0 x1093 x1094 v1098)
  else let v1106 := (IntKind.wrap .i64 (x1090.tdiv (8 : Int)))
  (bif (!(decide (x1088 = (0 : Int)))) then
  (rec x1087 x1088 ((IntKind.wrap .i64 ((IntKind.wrap .i64 ((IntKind.wrap .i64 ((5 : Int) * x1089)) + v1106)) + (1 : Int))).tmod x1088) v1106 x1091 (IntKind.wrap .i64 (x1092 + (1 : Int))) x1093 x1094 v1098)
  else none))
  else none)
  else none)
  else let v1112 := (IntKind.wrap .i64 (x1090.tdiv (8 : Int)))
  (bif (!(decide (x1088 = (0 : Int)))) then
  (rec x1087 x1088 ((IntKind.wrap .i64 ((IntKind.wrap .i64 ((IntKind.wrap .i64 ((5 : Int) * x1089)) + v1112)) + (1 : Int))).tmod x1088) v1112 x1091 (IntKind.wrap .i64 (x1092 + (1 : Int))) x1093 x1094 v1098)
  else none)))
  else none)
  else none)
  else none)
  else (k1 x1093 x1094 x1095))
noncomputable def F51v1_0_it {R : Type} (n : Nat) (k0 : List Int → List Ety → List Int → Option R) (k1 : List Int → List Ety → List Int → Option R) : Nat → ByteArray → Int → Int → Int → Int → Int → List Int → List Ety → List Int → Option R
  | 0, _, _, _, _, _, _, _, _, _ => none
  | k + 1, x1087, x1088, x1089, x1090, x1091, x1092, x1093, x1094, x1095 => F51v1_0_step n k0 k1 (F51v1_0_it n k0 k1 k) x1087 x1088 x1089 x1090 x1091 x1092 x1093 x1094 x1095
noncomputable def F51v1_0 {R : Type} (n : Nat) (x1087 : ByteArray) (x1088 : Int) (x1089 : Int) (x1090 : Int) (x1091 : Int) (x1092 : Int) (x1093 : List Int) (x1094 : List Ety) (x1095 : List Int) (k0 : List Int → List Ety → List Int → Option R) (k1 : List Int → List Ety → List Int → Option R) : Option R := F51v1_0_it n k0 k1 n x1087 x1088 x1089 x1090 x1091 x1092 x1093 x1094 x1095
noncomputable def F51v1_0z (n : Nat) : Sm G := inZ G 2 ⟨[1, 2, 6, 7, 8, 9, 22, 23], [(9, (.own 0))]⟩ F51v1_0s fun R x K => F51v1_0_it n (fun u0 u1 u2 => K .ret (SSh.enc G F51v1_0x0 (((), ()), (u0, (u1, (u2, ())))))) (fun u0 u1 u2 => K (.exit 0) (SSh.enc G F51v1_0x1 (((), ()), (u0, (u1, (u2, ())))))) n x.1.1 x.1.2.2.1 x.1.2.2.2.1 x.1.2.2.2.2.1 x.1.2.2.2.2.2.2.1 x.1.2.2.2.2.2.2.2.1 x.2.1 x.2.2.1 x.2.2.2.2.1
theorem F51v1_0_eq (n : Nat) (R : Type) (rec : SSh.den G F51v1_0s → Option R) (x : SSh.den G F51v1_0s) (K : AE → St G → Option R) :
  F51v1_0_step n (fun u0 u1 u2 => K .ret (SSh.enc G F51v1_0x0 (((), ()), (u0, (u1, (u2, ())))))) (fun u0 u1 u2 => K (.exit 0) (SSh.enc G F51v1_0x1 (((), ()), (u0, (u1, (u2, ())))))) (fun x1087 x1088 x1089 x1090 x1091 x1092 x1093 x1094 x1095 => rec ((x1087, ((), (x1088, (x1089, (x1090, ((), (x1091, (x1092, ())))))))), (x1093, (x1094, (((), ((), ())), (x1095, ())))))) x.1.1 x.1.2.2.1 x.1.2.2.2.1 x.1.2.2.2.2.1 x.1.2.2.2.2.2.2.1 x.1.2.2.2.2.2.2.2.1 x.2.1 x.2.2.1 x.2.2.2.2.1 = exec prog G (ro G (tabOf (E39 n)) (frOf []) R) 2 (codeAt F51v1c [1, 1, 1, 1, 1, 0, 1, 0, 0]) .no (SSh.enc G F51v1_0s x) (kLoop G (ro G (tabOf (E39 n)) (frOf []) R) 2 ⟨[1, 2, 6, 7, 8, 9, 22, 23], [(9, (.own 0))]⟩ F51v1_0s ⟨⟨[9], []⟩, ⟨[4], []⟩, [(0, ⟨[9], []⟩)]⟩ rec K) := by kernel_rfl
theorem F51v1_0_ok (n : Nat) : FragOK prog G 2 (codeAt F51v1c [1, 1, 1, 1, 1, 0, 1, 0]) (F51v1_0z n) :=
  frag_loop (Z := fun R k (x : SSh.den G F51v1_0s) K => F51v1_0_it n (fun u0 u1 u2 => K .ret (SSh.enc G F51v1_0x0 (((), ()), (u0, (u1, (u2, ())))))) (fun u0 u1 u2 => K (.exit 0) (SSh.enc G F51v1_0x1 (((), ()), (u0, (u1, (u2, ())))))) k x.1.1 x.1.2.2.1 x.1.2.2.2.1 x.1.2.2.2.2.1 x.1.2.2.2.2.2.2.1 x.1.2.2.2.2.2.2.2.1 x.2.1 x.2.2.1 x.2.2.2.2.1) laws fnok (E39_ok n).tab (AllF.of (l := []) (by kernel_rfl) AllF.nil) (fun _ _ _ => rfl) (fun R k y K => F51v1_0_eq n R (fun (x : SSh.den G F51v1_0s) => F51v1_0_it n (fun u0 u1 u2 => K .ret (SSh.enc G F51v1_0x0 (((), ()), (u0, (u1, (u2, ())))))) (fun u0 u1 u2 => K (.exit 0) (SSh.enc G F51v1_0x1 (((), ()), (u0, (u1, (u2, ())))))) k x.1.1 x.1.2.2.1 x.1.2.2.2.1 x.1.2.2.2.2.1 x.1.2.2.2.2.2.2.1 x.1.2.2.2.2.2.2.2.1 x.2.1 x.2.2.1 x.2.2.2.2.1) y K) n
noncomputable def F51v1 (n : Nat) (a1079 : ByteArray) (a1080 : List Int) (a1081 : List Ety) : Option (List Int × (List Int × (List Ety × Unit))) :=
  (andThen (F21 n a1079) fun r1082 =>
  let v1083 := ((a1080.length) : Int)
  (bif (!(decide (v1083 = (0 : Int)))) then
  (F51v1_0 n a1079 v1083 (r1082.1.tmod v1083) r1082.1 (IntKind.wrap .i64 ((65536 : Int) + (IntKind.wrap .i64 ((2 : Int) * v1083)))) (0 : Int) a1080 a1081 [] (fun z1118 z1119 z1120 =>
  some (z1120, (z1118, (z1119, ())))) (fun z1121 z1122 z1123 =>
  some (z1123, (z1121, (z1122, ())))))
  else none))
noncomputable def F51v1e (n : Nat) : Ent G := ⟨51, (.cons (.agg (.cons (.own 0) (.cons (.own 1) .nil))) (.cons .str .nil)), [(.arr 0 true), (.arr 3 true)], (.imm 0), [(.arr 0 true), (.arr 3 true)], fun x y => F51v1 n x.2.1 y.1 y.2.1⟩
theorem F51v1_eq (n : Nat) (x : ShL.den G (.cons (.agg (.cons (.own 0) (.cons (.own 1) .nil))) (.cons .str .nil))) (y : denO G [(.arr 0 true), (.arr 3 true)]) : (F51v1e n).F x y = runFn prog G (ro G (tabOf (E39 n)) (frOf [F51v1_0z n]) _) Go.Proofs.Try.f51 (.nd .no (.nd .no (.nd .no (.nd .no (.nd .no (.nd (.nd .no (.nd (.use 0) .no)) .no)))))) [(0, .fz)] (ShL.enc G (.cons (.agg (.cons (.own 0) (.cons (.own 1) .nil))) (.cons .str .nil)) x) (encO G [(.arr 0 true), (.arr 3 true)] y) (decR (.imm 0) [(.arr 0 true), (.arr 3 true)]) := by kernel_rfl
theorem F51v1_ok (n : Nat) : EntOK prog G (F51v1e n) :=
  ent_ok (fr := frOf [F51v1_0z n]) (ann := (.nd .no (.nd .no (.nd .no (.nd .no (.nd .no (.nd (.nd .no (.nd (.use 0) .no)) .no))))))) (frm := [(0, .fz)]) laws fnok (E39_ok n).tab (e := F51v1e n) (fn := Go.Proofs.Try.f51) (by kernel_rfl) (AllF.ofB (cd := F51v1c) (l := [(0, codeAt F51v1c [1, 1, 1, 1, 1, 0, 1, 0])]) (by kernel_rfl) (by kernel_rfl) (AllF.cons (F51v1_0_ok n) AllF.nil)) (F51v1_eq n)
noncomputable def E40 (n : Nat) : List (Ent G) := F51v1e n :: E39 n
theorem E40_ok (n : Nat) : AllE prog G (E40 n) := AllE.cons (F51v1_ok n) (E39_ok n)
-- 39 loop.example/slowworm/impl.DictDrop
noncomputable def F39c : Code := bodyOf Go.Proofs.Try.f39
noncomputable def F39 (n : Nat) (a1132 : List Int) (a1133 : List Ety) (a1134 : ByteArray) : Option (((List Int × (List Ety × Unit)) × (Bool × Unit)) × Unit) :=
  (andThen (F29 n a1132 a1133) fun r1135 =>
  (bif (!r1135.1) then
  some ((([], ([], ())), (false, ())), ())
  else (bif (decide (((a1134.size) : Int) > (20 : Int))) then
  some ((([], ([], ())), (false, ())), ())
  else (andThen (F69 n a1132 a1133) fun r1139 =>
  (andThen (F51v1 n a1134 r1139.2.1 r1139.2.2.1) fun r1140 =>
  let v1142 := (IntKind.wrap .i64 (((r1140.1.length) : Int) - (1 : Int)))
  (bif (decide ((0 : Int) ≤ v1142)) then
  (bif (decide (v1142 < ((r1140.1.length) : Int))) then
  let v1144 := (r1140.1.getD (v1142.toNat) (0 : Int))
  (bif (decide ((0 : Int) ≤ v1144)) then
  (bif (decide (v1144 < ((r1140.2.1.length) : Int))) then
  let v1146 := (r1140.2.1.getD (v1144.toNat) (0 : Int))
  (bif (decide (v1146 < (0 : Int))) then
  some (((r1140.2.1, (r1140.2.2.1, ())), (false, ())), ())
  else (bif (decide ((0 : Int) ≤ v1144)) then
  (bif (decide (v1144 < ((r1140.2.1.length) : Int))) then
  (bif (decide ((0 : Int) ≤ v1146)) then
  (bif (decide (v1146 < ((r1140.2.2.1.length) : Int))) then
  some ((((r1140.2.1.set (v1144.toNat) (-2 : Int)), ((r1140.2.2.1.set (v1146.toNat) (Ety.mk ({ data := #[] } : ByteArray) (0 : Int) (0 : Int) false)), ())), (true, ())), ())
  else none)
  else none)
  else none)
  else none))
  else none)
  else none)
  else none)
  else none))))))
noncomputable def F39e (n : Nat) : Ent G := ⟨39, (.cons (.agg (.cons (.imm 0) (.cons (.imm 3) .nil))) (.cons .str .nil)), [], (.tup (.cons (.agg (.cons (.imm 0) (.cons (.imm 3) .nil))) (.cons .bool .nil))), [], fun x y => F39 n x.1.1 x.1.2.1 x.2.1⟩
theorem F39_eq (n : Nat) (x : ShL.den G (.cons (.agg (.cons (.imm 0) (.cons (.imm 3) .nil))) (.cons .str .nil))) (y : denO G []) : (F39e n).F x y = runFn prog G (ro G (tabOf (E40 n)) (frOf []) _) Go.Proofs.Try.f39 .no [(0, .fz), (1, .fz)] (ShL.enc G (.cons (.agg (.cons (.imm 0) (.cons (.imm 3) .nil))) (.cons .str .nil)) x) (encO G [] y) (decR (.tup (.cons (.agg (.cons (.imm 0) (.cons (.imm 3) .nil))) (.cons .bool .nil))) []) := by kernel_rfl
theorem F39_ok (n : Nat) : EntOK prog G (F39e n) :=
  ent_ok (fr := frOf []) (ann := .no) (frm := [(0, .fz), (1, .fz)]) laws fnok (E40_ok n).tab (e := F39e n) (fn := Go.Proofs.Try.f39) (by kernel_rfl) (AllF.ofB (cd := F39c) (l := []) (by kernel_rfl) (by kernel_rfl) AllF.nil) (F39_eq n)
noncomputable def E41 (n : Nat) : List (Ent G) := F39e n :: E40 n
theorem E41_ok (n : Nat) : AllE prog G (E41 n) := AllE.cons (F39_ok n) (E40_ok n)
-- 23 loop.example/slowworm/impl.DictKeys
noncomputable def F23c : Code := bodyOf Go.Proofs.Try.f23
noncomputable def F23_0x0 : SSh := ⟨25, [(3, (.own 0)), (10, (.imm 3)), (11, (.int .i64)), (12, (.int .i64))], [(.arr 2 true)]⟩
noncomputable def F23_0s : SSh := ⟨25, [(3, (.own 0)), (10, (.imm 3)), (11, (.int .i64)), (12, (.int .i64))], [(.arr 2 true)]⟩
noncomputable def F23_0 {R : Type} (n : Nat) (x1189 : List Ety) (x1190 : Int) (x1191 : Int) (x1192 : List ByteArray) (k0 : List Ety → Int → Int → List ByteArray → Option R) : Option R :=
  (bif (decide ((0 : Int) ≤ x1191)) then
  (bif (decide (x1191 < ((x1189.length) : Int))) then
  let v1193 := (x1189.getD (x1191.toNat) (Ety.mk ({ data := #[] } : ByteArray) (0 : Int) (0 : Int) false))
  (bif v1193.live then
  let v1198 := (v1193.key :: [])
  (bif (decide (((x1192.length) + (v1198.length)) ≤ (68719476736 : Nat))) then
  (k0 x1189 x1190 x1191 (x1192 ++ v1198))
  else none)
  else (k0 x1189 x1190 x1191 x1192))
  else none)
  else none)
noncomputable def F23_0z (n : Nat) : Sm G := inZ G 0 ⟨[3, 10, 11, 12], []⟩ F23_0s fun R x K => F23_0 n x.1.2.1 x.1.2.2.1 x.1.2.2.2.1 x.2.1 (fun u0 u1 u2 u3 => K .normal (SSh.enc G F23_0x0 (((), (u0, (u1, (u2, ())))), (u3, ()))))
theorem F23_0_eq (n : Nat) (R : Type) (x : SSh.den G F23_0s) (K : AE → St G → Option R) :
  F23_0 n x.1.2.1 x.1.2.2.1 x.1.2.2.2.1 x.2.1 (fun u0 u1 u2 u3 => K .normal (SSh.enc G F23_0x0 (((), (u0, (u1, (u2, ())))), (u3, ())))) = exec prog G (ro G (tabOf (E41 n)) (frOf []) R) 0 (codeAt F23c [1, 1, 1, 0, 1, 0, 0, 1, 1, 0]) .no (SSh.enc G F23_0s x) (kNrm G (ro G (tabOf (E41 n)) (frOf []) R) 0 ⟨⟨[3, 10, 11, 12], []⟩, ⟨[2], []⟩, [(0, ⟨[3], []⟩)]⟩ K) := by kernel_rfl
theorem F23_0_ok (n : Nat) : FragOK prog G 0 (codeAt F23c [1, 1, 1, 0, 1, 0, 0, 1, 1, 0]) (F23_0z n) :=
  frag_plain laws fnok (E41_ok n).tab (AllF.of (l := []) (by kernel_rfl) AllF.nil) (F23_0_eq n)
noncomputable def F23_1x0 : SSh := ⟨25, [(3, (.own 0))], [(.arr 2 true)]⟩
noncomputable def F23_1s : SSh := ⟨25, [(3, (.own 0)), (10, (.imm 3)), (11, (.int .i64)), (12, (.int .i64))], [(.arr 2 true)]⟩
noncomputable def F23_1_step {R : Type} (n : Nat) (k0 : List ByteArray → Option R) (rec : List Ety → Int → Int → List ByteArray → Option R) (x1184 : List Ety) (x1185 : Int) (x1186 : Int) (x1187 : List ByteArray) : Option R :=
  (bif (decide (x1186 < x1185)) then
  (F23_0 n x1184 x1185 x1186 x1187 (fun z1200 z1201 z1202 z1203 =>
  (rec z1200 z1201 (IntKind.wrap .i64 (z1202 + (1 : Int))) z1203)))
  else (k0 x1187))
noncomputable def F23_1_it {R : Type} (n : Nat) (k0 : List ByteArray → Option R) : Nat → List Ety → Int → Int → List ByteArray → Option R
  | 0, _, _, _, _ => none
  | k + 1, x1184, x1185, x1186, x1187 => F23_1_step n k0 (F23_1_it n k0 k) x1184 x1185 x1186 x1187
noncomputable def F23_1 {R : Type} (n : Nat) (x1184 : List Ety) (x1185 : Int) (x1186 : Int) (x1187 : List ByteArray) (k0 : List ByteArray → Option R) : Option R := F23_1_it n k0 n x1184 x1185 x1186 x1187
noncomputable def F23_1z (n : Nat) : Sm G := inZ G 0 ⟨[3, 10, 11, 12], [(3, (.own 2))]⟩ F23_1s fun R x K => F23_1_it n (fun u0 => K (.exit 0) (SSh.enc G F23_1x0 (((), ()), (u0, ())))) n x.1.2.1 x.1.2.2.1 x.1.2.2.2.1 x.2.1
theorem F23_1_eq (n : Nat) (R : Type) (rec : SSh.den G F23_1s → Option R) (x : SSh.den G F23_1s) (K : AE → St G → Option R) :
  F23_1_step n (fun u0 => K (.exit 0) (SSh.enc G F23_1x0 (((), ()), (u0, ())))) (fun x1184 x1185 x1186 x1187 => rec (((), (x1184, (x1185, (x1186, ())))), (x1187, ()))) x.1.2.1 x.1.2.2.1 x.1.2.2.2.1 x.2.1 = exec prog G (ro G (tabOf (E41 n)) (frOf [F23_0z n]) R) 0 (codeAt F23c [1, 1, 1, 0, 1, 0, 0]) (.nd .no (.nd .no (.nd (.use 0) .no))) (SSh.enc G F23_1s x) (kLoop G (ro G (tabOf (E41 n)) (frOf [F23_0z n]) R) 0 ⟨[3, 10, 11, 12], [(3, (.own 2))]⟩ F23_1s ⟨⟨[3], []⟩, ⟨[2], []⟩, [(0, ⟨[3], []⟩)]⟩ rec K) := by kernel_rfl
theorem F23_1_ok (n : Nat) : FragOK prog G 0 (codeAt F23c [1, 1, 1, 0, 1, 0]) (F23_1z n) :=
  frag_loop (Z := fun R k (x : SSh.den G F23_1s) K => F23_1_it n (fun u0 => K (.exit 0) (SSh.enc G F23_1x0 (((), ()), (u0, ())))) k x.1.2.1 x.1.2.2.1 x.1.2.2.2.1 x.2.1) laws fnok (E41_ok n).tab (AllF.of (l := [(0, codeAt F23c [1, 1, 1, 0, 1, 0, 0, 1, 1, 0])]) (by kernel_rfl) (AllF.cons (F23_0_ok n) AllF.nil)) (fun _ _ _ => rfl) (fun R k y K => F23_1_eq n R (fun (x : SSh.den G F23_1s) => F23_1_it n (fun u0 => K (.exit 0) (SSh.enc G F23_1x0 (((), ()), (u0, ())))) k x.1.2.1 x.1.2.2.1 x.1.2.2.2.1 x.2.1) y K) n
noncomputable def F23 (n : Nat) (a1179 : List Int) (a1180 : List Ety) : Option (Unit × (List ByteArray × Unit)) :=
  (andThen (F29 n a1179 a1180) fun r1181 =>
  (bif (!r1181.1) then
  some ((), ([], ()))
  else (F23_1 n a1180 ((a1180.length) : Int) (0 : Int) [] (fun z1205 =>
  some ((), (z1205, ()))))))
noncomputable def F23e (n : Nat) : Ent G := ⟨23, (.cons (.agg (.cons (.imm 0) (.cons (.imm 3) .nil))) .nil), [], (.own 0), [(.arr 2 true)], fun x y => F23 n x.1.1 x.1.2.1⟩
theorem F23_eq (n : Nat) (x : ShL.den G (.cons (.agg (.cons (.imm 0) (.cons (.imm 3) .nil))) .nil)) (y : denO G []) : (F23e n).F x y = runFn prog G (ro G (tabOf (E41 n)) (frOf [F23_0z n, F23_1z n]) _) Go.Proofs.Try.f23 (.nd .no (.nd .no (.nd .no (.nd (.nd .no (.nd (.use 1) .no)) .no)))) [(0, (.own 2))] (ShL.enc G (.cons (.agg (.cons (.imm 0) (.cons (.imm 3) .nil))) .nil) x) (encO G [] y) (decR (.own 0) [(.arr 2 true)]) := by kernel_rfl
theorem F23_ok (n : Nat) : EntOK prog G (F23e n) :=
  ent_ok (fr := frOf [F23_0z n, F23_1z n]) (ann := (.nd .no (.nd .no (.nd .no (.nd (.nd .no (.nd (.use 1) .no)) .no))))) (frm := [(0, (.own 2))]) laws fnok (E41_ok n).tab (e := F23e n) (fn := Go.Proofs.Try.f23) (by kernel_rfl) (AllF.ofB (cd := F23c) (l := [(1, codeAt F23c [1, 1, 1, 0, 1, 0])]) (by kernel_rfl) (by kernel_rfl) (AllF.cons (F23_1_ok n) AllF.nil)) (F23_eq n)
noncomputable def E42 (n : Nat) : List (Ent G) := F23e n :: E41 n
theorem E42_ok (n : Nat) : AllE prog G (E42 n) := AllE.cons (F23_ok n) (E41_ok n)
-- 26 loop.example/slowworm/spec.IsOne
noncomputable def F26c : Code := bodyOf Go.Proofs.Try.f26
-- 58 loop.example/slowworm/spec.isOne
noncomputable def F58c : Code := bodyOf Go.Proofs.Try.f58
noncomputable def F58_0x0 : SSh := ⟨18, [(4, .bool)], []⟩
noncomputable def F58_0x1 : SSh := ⟨18, [], []⟩
noncomputable def F58_0s : SSh := ⟨18, [(0, (.imm 2)), (1, .str), (5, (.int .i64))], []⟩
noncomputable def F58_0_step {R : Type} (n : Nat) (k0 : Bool → Option R) (k1 : Option R) (rec : List ByteArray → ByteArray → Int → Option R) (x1211 : List ByteArray) (x1212 : ByteArray) (x1213 : Int) : Option R :=
  (bif (decide (x1213 < ((x1211.length) : Int))) then
  (bif (decide ((0 : Int) ≤ x1213)) then
  (bif (decide (x1213 < ((x1211.length) : Int))) then
  (bif (((x1211.getD (x1213.toNat) ({ data := #[] } : ByteArray)).toList) == (x1212.toList)) then
  (k0 true)
  else (rec x1211 x1212 (IntKind.wrap .i64 (x1213 + (1 : Int)))))
  else none)
  else none)
  else k1)
noncomputable def F58_0_it {R : Type} (n : Nat) (k0 : Bool → Option R) (k1 : Option R) : Nat → List ByteArray → ByteArray → Int → Option R
  | 0, _, _, _ => none
  | k + 1, x1211, x1212, x1213 => F58_0_step n k0 k1 (F58_0_it n k0 k1 k) x1211 x1212 x1213
noncomputable def F58_0 {R : Type} (n : Nat) (x1211 : List ByteArray) (x1212 : ByteArray) (x1213 : Int) (k0 : Bool → Option R) (k1 : Option R) : Option R := F58_0_it n k0 k1 n x1211 x1212 x1213
noncomputable def F58_0z (n : Nat) : Sm G := inZ G 0 ⟨[0, 1, 5], []⟩ F58_0s fun R x K => F58_0_it n (fun u0 => K .ret (SSh.enc G F58_0x0 ((u0, ()), ()))) (K (.exit 0) (SSh.enc G F58_0x1 ((), ()))) n x.1.1 x.1.2.1 x.1.2.2.1
theorem F58_0_eq (n : Nat) (R : Type) (rec : SSh.den G F58_0s → Option R) (x : SSh.den G F58_0s) (K : AE → St G → Option R) :
  F58_0_step n (fun u0 => K .ret (SSh.enc G F58_0x0 ((u0, ()), ()))) (K (.exit 0) (SSh.enc G F58_0x1 ((), ()))) (fun x1211 x1212 x1213 => rec ((x1211, (x1212, (x1213, ()))), ())) x.1.1 x.1.2.1 x.1.2.2.1 = exec prog G (ro G (tabOf (E42 n)) (frOf []) R) 0 (codeAt F58c [1, 0, 1, 0, 0]) .no (SSh.enc G F58_0s x) (kLoop G (ro G (tabOf (E42 n)) (frOf []) R) 0 ⟨[0, 1, 5], []⟩ F58_0s ⟨⟨[], []⟩, ⟨[4], []⟩, [(0, ⟨[], []⟩)]⟩ rec K) := by kernel_rfl
theorem F58_0_ok (n : Nat) : FragOK prog G 0 (codeAt F58c [1, 0, 1, 0]) (F58_0z n) :=
  frag_loop (Z := fun R k (x : SSh.den G F58_0s) K => F58_0_it n (fun u0 => K .ret (SSh.enc G F58_0x0 ((u0, ()), ()))) (K (.exit 0) (SSh.enc G F58_0x1 ((), ()))) k x.1.1 x.1.2.1 x.1.2.2.1) laws fnok (E42_ok n).tab (AllF.of (l := []) (by kernel_rfl) AllF.nil) (fun _ _ _ => rfl) (fun R k y K => F58_0_eq n R (fun (x : SSh.den G F58_0s) => F58_0_it n (fun u0 => K .ret (SSh.enc G F58_0x0 ((u0, ()), ()))) (K (.exit 0) (SSh.enc G F58_0x1 ((), ()))) k x.1.1 x.1.2.1 x.1.2.2.1) y K) n
noncomputable def F58 (n : Nat) (a1209 : List ByteArray) (a1210 : ByteArray) : Option (Bool × Unit) :=
  (F58_0 n a1209 a1210 (0 : Int) (fun z1220 =>
  some (z1220, ())) (
  some (false, ())))
noncomputable def F58e (n : Nat) : Ent G := ⟨58, (.cons (.imm 2) (.cons .str .nil)), [], .bool, [], fun x y => F58 n x.1 x.2.1⟩
theorem F58_eq (n : Nat) (x : ShL.den G (.cons (.imm 2) (.cons .str .nil))) (y : denO G []) : (F58e n).F x y = runFn prog G (ro G (tabOf (E42 n)) (frOf [F58_0z n]) _) Go.Proofs.Try.f58 (.nd .no (.nd (.nd .no (.nd (.use 0) .no)) .no)) [(0, .fz)] (ShL.enc G (.cons (.imm 2) (.cons .str .nil)) x) (encO G [] y) (decR .bool []) := by kernel_rfl
theorem F58_ok (n : Nat) : EntOK prog G (F58e n) :=
  ent_ok (fr := frOf [F58_0z n]) (ann := (.nd .no (.nd (.nd .no (.nd (.use 0) .no)) .no))) (frm := [(0, .fz)]) laws fnok (E42_ok n).tab (e := F58e n) (fn := Go.Proofs.Try.f58) (by kernel_rfl) (AllF.ofB (cd := F58c) (l := [(0, codeAt F58c [1, 0, 1, 0])]) (by kernel_rfl) (by kernel_rfl) (AllF.cons (F58_0_ok n) AllF.nil)) (F58_eq n)
noncomputable def E43 (n : Nat) : List (Ent G) := F58e n :: E42 n
theorem E43_ok (n : Nat) : AllE prog G (E43 n) := AllE.cons (F58_ok n) (E42_ok n)
noncomputable def F26 (n : Nat) (a1207 : List ByteArray) (a1208 : ByteArray) : Option (Bool × Unit) :=
  (andThen (F58 n a1207 a1208) fun r1221 =>
  some (r1221.1, ()))
noncomputable def F26e (n : Nat) : Ent G := ⟨26, (.cons (.imm 2) (.cons .str .nil)), [], .bool, [], fun x y => F26 n x.1 x.2.1⟩
theorem F26_eq (n : Nat) (x : ShL.den G (.cons (.imm 2) (.cons .str .nil))) (y : denO G []) : (F26e n).F x y = runFn prog G (ro G (tabOf (E43 n)) (frOf []) _) Go.Proofs.Try.f26 .no [(0, .fz)] (ShL.enc G (.cons (.imm 2) (.cons .str .nil)) x) (encO G [] y) (decR .bool []) := by kernel_rfl
theorem F26_ok (n : Nat) : EntOK prog G (F26e n) :=
  ent_ok (fr := frOf []) (ann := .no) (frm := [(0, .fz)]) laws fnok (E43_ok n).tab (e := F26e n) (fn := Go.Proofs.Try.f26) (by kernel_rfl) (AllF.ofB (cd := F26c) (l := []) (by kernel_rfl) (by kernel_rfl) AllF.nil) (F26_eq n)
noncomputable def E44 (n : Nat) : List (Ent G) := F26e n :: E43 n
theorem E44_ok (n : Nat) : AllE prog G (E44 n) := AllE.cons (F26_ok n) (E43_ok n)
noncomputable def F8 (n : Nat) (a0 : List Int) : Option (Bool × Unit) :=
  (bif (decide (((a0.length) : Int) > (1048576 : Int))) then
  some (true, ())
  else (andThen (F28 n a0) fun r739 =>
  (andThen (F20 n r739.1.1.1 r739.1.1.2.1 r739.1.2.1) fun r1036 =>
  (andThen (F38 n r739.1.1.1 r739.1.1.2.1 r739.1.2.1) fun r1050 =>
  (bif (r1036.1.1 == r1050.1.1) then
  let v1052 := (r1036.1.2.1 == r1050.1.2.1)
  (bif (!v1052) then
  some (v1052, ())
  else (bif (!r1036.1.2.1) then
  some (v1052, ())
  else (andThen (F39 n r739.1.1.1 r739.1.1.2.1 r739.1.2.1) fun r1152 =>
  (andThen (F20 n r1152.1.1.1 r1152.1.1.2.1 r739.1.2.1) fun r1153 =>
  (bif r1152.1.2.1 then
  (bif (!r1153.1.2.1) then
  (andThen (F23 n r739.1.1.1 r739.1.1.2.1) fun r1206 =>
  (andThen (F26 n r1206.2.1 r739.1.2.1) fun r1222 =>
  some (r1222.1, ())))
  else some (false, ()))
  else some (false, ()))))))
  else some (false, ()))))))
noncomputable def F8e (n : Nat) : Ent G := ⟨8, (.cons (.imm 1) .nil), [], .bool, [], fun x y => F8 n x.1⟩
theorem F8_eq (n : Nat) (x : ShL.den G (.cons (.imm 1) .nil)) (y : denO G []) : (F8e n).F x y = runFn prog G (ro G (tabOf (E44 n)) (frOf []) _) Go.Proofs.Try.f8 .no [(0, .fz)] (ShL.enc G (.cons (.imm 1) .nil) x) (encO G [] y) (decR .bool []) := by kernel_rfl
theorem F8_ok (n : Nat) : EntOK prog G (F8e n) :=
  ent_ok (fr := frOf []) (ann := .no) (frm := [(0, .fz)]) laws fnok (E44_ok n).tab (e := F8e n) (fn := Go.Proofs.Try.f8) (by kernel_rfl) (AllF.ofB (cd := F8c) (l := []) (by kernel_rfl) (by kernel_rfl) AllF.nil) (F8_eq n)
noncomputable def E45 (n : Nat) : List (Ent G) := F8e n :: E44 n
theorem E45_ok (n : Nat) : AllE prog G (E45 n) := AllE.cons (F8_ok n) (E44_ok n)
-- 3 loop.example/slowworm/laws.FnDictProbes
noncomputable def F3c : Code := bodyOf Go.Proofs.Try.f3
-- 16 loop.example/slowworm/spec.DrawDictProbes
noncomputable def F16c : Code := bodyOf Go.Proofs.Try.f16
noncomputable def F16 (n : Nat) (a1226 : List Int) : Option (((List Int × (List Ety × Unit)) × (ByteArray × Unit)) × Unit) :=
  (andThen (F48 n a1226) fun r1227 =>
  (andThen (F49 n r1227.2.1.1 r1227.2.1.2.1) fun r1228 =>
  (andThen (F50 n r1228.2.1.1 r1228.2.1.2.1) fun r1229 =>
  some (((r1228.1.1, (r1228.1.2.1, ())), (r1229.1, ())), ()))))
noncomputable def F16e (n : Nat) : Ent G := ⟨16, (.cons (.imm 1) .nil), [], (.tup (.cons (.agg (.cons (.imm 0) (.cons (.imm 3) .nil))) (.cons .str .nil))), [], fun x y => F16 n x.1⟩
theorem F16_eq (n : Nat) (x : ShL.den G (.cons (.imm 1) .nil)) (y : denO G []) : (F16e n).F x y = runFn prog G (ro G (tabOf (E45 n)) (frOf []) _) Go.Proofs.Try.f16 .no [(0, .fz), (1, .fz)] (ShL.enc G (.cons (.imm 1) .nil) x) (encO G [] y) (decR (.tup (.cons (.agg (.cons (.imm 0) (.cons (.imm 3) .nil))) (.cons .str .nil))) []) := by kernel_rfl
theorem F16_ok (n : Nat) : EntOK prog G (F16e n) :=
  ent_ok (fr := frOf []) (ann := .no) (frm := [(0, .fz), (1, .fz)]) laws fnok (E45_ok n).tab (e := F16e n) (fn := Go.Proofs.Try.f16) (by kernel_rfl) (AllF.ofB (cd := F16c) (l := []) (by kernel_rfl) (by kernel_rfl) AllF.nil) (F16_eq n)
noncomputable def E46 (n : Nat) : List (Ent G) := F16e n :: E45 n
theorem E46_ok (n : Nat) : AllE prog G (E46 n) := AllE.cons (F16_ok n) (E45_ok n)
-- 17 loop.example/slowworm/impl.DictProbes
noncomputable def F17c : Code := bodyOf Go.Proofs.Try.f17
noncomputable def F17 (n : Nat) (a1239 : List Int) (a1240 : List Ety) (a1241 : ByteArray) : Option (List Int × Unit) :=
  (andThen (F29 n a1239 a1240) fun r1242 =>
  (bif (!r1242.1) then
  some ([], ())
  else (bif (decide (((a1241.size) : Int) > (20 : Int))) then
  some ([], ())
  else (andThen (F51 n a1239 a1240 a1241) fun r1246 =>
  some (r1246.1, ())))))
noncomputable def F17e (n : Nat) : Ent G := ⟨17, (.cons (.agg (.cons (.imm 0) (.cons (.imm 3) .nil))) (.cons .str .nil)), [], (.imm 0), [], fun x y => F17 n x.1.1 x.1.2.1 x.2.1⟩
theorem F17_eq (n : Nat) (x : ShL.den G (.cons (.agg (.cons (.imm 0) (.cons (.imm 3) .nil))) (.cons .str .nil))) (y : denO G []) : (F17e n).F x y = runFn prog G (ro G (tabOf (E46 n)) (frOf []) _) Go.Proofs.Try.f17 .no [(0, .fz)] (ShL.enc G (.cons (.agg (.cons (.imm 0) (.cons (.imm 3) .nil))) (.cons .str .nil)) x) (encO G [] y) (decR (.imm 0) []) := by kernel_rfl
theorem F17_ok (n : Nat) : EntOK prog G (F17e n) :=
  ent_ok (fr := frOf []) (ann := .no) (frm := [(0, .fz)]) laws fnok (E46_ok n).tab (e := F17e n) (fn := Go.Proofs.Try.f17) (by kernel_rfl) (AllF.ofB (cd := F17c) (l := []) (by kernel_rfl) (by kernel_rfl) AllF.nil) (F17_eq n)
noncomputable def E47 (n : Nat) : List (Ent G) := F17e n :: E46 n
theorem E47_ok (n : Nat) : AllE prog G (E47 n) := AllE.cons (F17_ok n) (E46_ok n)
-- 18 loop.example/slowworm/spec.DictProbes
noncomputable def F18c : Code := bodyOf Go.Proofs.Try.f18
noncomputable def F18 (n : Nat) (a1256 : List Int) (a1257 : List Ety) (a1258 : ByteArray) : Option (List Int × Unit) :=
  (andThen (F52 n a1256 a1257) fun r1259 =>
  (bif (!r1259.1) then
  some ([], ())
  else (andThen (F53 n a1258) fun r1261 =>
  (bif (!r1261.1) then
  some ([], ())
  else (andThen (F54 n a1256 a1257 a1258) fun r1263 =>
  some (r1263.1, ()))))))
noncomputable def F18e (n : Nat) : Ent G := ⟨18, (.cons (.agg (.cons (.imm 0) (.cons (.imm 3) .nil))) (.cons .str .nil)), [], (.imm 0), [], fun x y => F18 n x.1.1 x.1.2.1 x.2.1⟩
theorem F18_eq (n : Nat) (x : ShL.den G (.cons (.agg (.cons (.imm 0) (.cons (.imm 3) .nil))) (.cons .str .nil))) (y : denO G []) : (F18e n).F x y = runFn prog G (ro G (tabOf (E47 n)) (frOf []) _) Go.Proofs.Try.f18 .no [(0, .fz)] (ShL.enc G (.cons (.agg (.cons (.imm 0) (.cons (.imm 3) .nil))) (.cons .str .nil)) x) (encO G [] y) (decR (.imm 0) []) := by kernel_rfl
theorem F18_ok (n : Nat) : EntOK prog G (F18e n) :=
  ent_ok (fr := frOf []) (ann := .no) (frm := [(0, .fz)]) laws fnok (E47_ok n).tab (e := F18e n) (fn := Go.Proofs.Try.f18) (by kernel_rfl) (AllF.ofB (cd := F18c) (l := []) (by kernel_rfl) (by kernel_rfl) AllF.nil) (F18_eq n)
noncomputable def E48 (n : Nat) : List (Ent G) := F18e n :: E47 n
theorem E48_ok (n : Nat) : AllE prog G (E48 n) := AllE.cons (F18_ok n) (E47_ok n)
-- 19 loop.example/slowworm/spec.SameInts
noncomputable def F19c : Code := bodyOf Go.Proofs.Try.f19
-- 55 loop.example/slowworm/spec.sameNums
noncomputable def F55c : Code := bodyOf Go.Proofs.Try.f55
noncomputable def F55_0x0 : SSh := ⟨26, [(4, .bool)], []⟩
noncomputable def F55_0x1 : SSh := ⟨26, [], []⟩
noncomputable def F55_0s : SSh := ⟨26, [(0, (.imm 0)), (1, (.imm 0)), (5, (.int .i64))], []⟩
noncomputable def F55_0_step {R : Type} (n : Nat) (k0 : Bool → Option R) (k1 : Option R) (rec : List Int → List Int → Int → Option R) (x1272 : List Int) (x1273 : List Int) (x1274 : Int) : Option R :=
  (bif (decide (x1274 < ((x1272.length) : Int))) then
  (bif (decide ((0 : Int) ≤ x1274)) then
  (bif (decide (x1274 < ((x1272.length) : Int))) then
  (bif (decide ((0 : Int) ≤ x1274)) then
  (bif (decide (x1274 < ((x1273.length) : Int))) then
  (bif ((x1272.getD (x1274.toNat) (0 : Int)) != (x1273.getD (x1274.toNat) (0 : Int))) then
  (k0 false)
  else (rec x1272 x1273 (IntKind.wrap .i64 (x1274 + (1 : Int)))))
  else none)
  else none)
  else none)
  else none)
  else k1)
noncomputable def F55_0_it {R : Type} (n : Nat) (k0 : Bool → Option R) (k1 : Option R) : Nat → List Int → List Int → Int → Option R
  | 0, _, _, _ => none
  | k + 1, x1272, x1273, x1274 => F55_0_step n k0 k1 (F55_0_it n k0 k1 k) x1272 x1273 x1274
noncomputable def F55_0 {R : Type} (n : Nat) (x1272 : List Int) (x1273 : List Int) (x1274 : Int) (k0 : Bool → Option R) (k1 : Option R) : Option R := F55_0_it n k0 k1 n x1272 x1273 x1274
noncomputable def F55_0z (n : Nat) : Sm G := inZ G 0 ⟨[0, 1, 5], []⟩ F55_0s fun R x K => F55_0_it n (fun u0 => K .ret (SSh.enc G F55_0x0 ((u0, ()), ()))) (K (.exit 0) (SSh.enc G F55_0x1 ((), ()))) n x.1.1 x.1.2.1 x.1.2.2.1
theorem F55_0_eq (n : Nat) (R : Type) (rec : SSh.den G F55_0s → Option R) (x : SSh.den G F55_0s) (K : AE → St G → Option R) :
  F55_0_step n (fun u0 => K .ret (SSh.enc G F55_0x0 ((u0, ()), ()))) (K (.exit 0) (SSh.enc G F55_0x1 ((), ()))) (fun x1272 x1273 x1274 => rec ((x1272, (x1273, (x1274, ()))), ())) x.1.1 x.1.2.1 x.1.2.2.1 = exec prog G (ro G (tabOf (E48 n)) (frOf []) R) 0 (codeAt F55c [1, 1, 0, 1, 0, 0]) .no (SSh.enc G F55_0s x) (kLoop G (ro G (tabOf (E48 n)) (frOf []) R) 0 ⟨[0, 1, 5], []⟩ F55_0s ⟨⟨[], []⟩, ⟨[4], []⟩, [(0, ⟨[], []⟩)]⟩ rec K) := by kernel_rfl
theorem F55_0_ok (n : Nat) : FragOK prog G 0 (codeAt F55c [1, 1, 0, 1, 0]) (F55_0z n) :=
  frag_loop (Z := fun R k (x : SSh.den G F55_0s) K => F55_0_it n (fun u0 => K .ret (SSh.enc G F55_0x0 ((u0, ()), ()))) (K (.exit 0) (SSh.enc G F55_0x1 ((), ()))) k x.1.1 x.1.2.1 x.1.2.2.1) laws fnok (E48_ok n).tab (AllF.of (l := []) (by kernel_rfl) AllF.nil) (fun _ _ _ => rfl) (fun R k y K => F55_0_eq n R (fun (x : SSh.den G F55_0s) => F55_0_it n (fun u0 => K .ret (SSh.enc G F55_0x0 ((u0, ()), ()))) (K (.exit 0) (SSh.enc G F55_0x1 ((), ()))) k x.1.1 x.1.2.1 x.1.2.2.1) y K) n
noncomputable def F55 (n : Nat) (a1267 : List Int) (a1268 : List Int) : Option (Bool × Unit) :=
  (bif (((a1267.length) : Int) != ((a1268.length) : Int)) then
  some (false, ())
  else (F55_0 n a1267 a1268 (0 : Int) (fun z1283 =>
  some (z1283, ())) (
  some (true, ()))))
noncomputable def F55e (n : Nat) : Ent G := ⟨55, (.cons (.imm 0) (.cons (.imm 0) .nil)), [], .bool, [], fun x y => F55 n x.1 x.2.1⟩
theorem F55_eq (n : Nat) (x : ShL.den G (.cons (.imm 0) (.cons (.imm 0) .nil))) (y : denO G []) : (F55e n).F x y = runFn prog G (ro G (tabOf (E48 n)) (frOf [F55_0z n]) _) Go.Proofs.Try.f55 (.nd .no (.nd .no (.nd (.nd .no (.nd (.use 0) .no)) .no))) [(0, .fz)] (ShL.enc G (.cons (.imm 0) (.cons (.imm 0) .nil)) x) (encO G [] y) (decR .bool []) := by kernel_rfl
theorem F55_ok (n : Nat) : EntOK prog G (F55e n) :=
  ent_ok (fr := frOf [F55_0z n]) (ann := (.nd .no (.nd .no (.nd (.nd .no (.nd (.use 0) .no)) .no)))) (frm := [(0, .fz)]) laws fnok (E48_ok n).tab (e := F55e n) (fn := Go.Proofs.Try.f55) (by kernel_rfl) (AllF.ofB (cd := F55c) (l := [(0, codeAt F55c [1, 1, 0, 1, 0])]) (by kernel_rfl) (by kernel_rfl) (AllF.cons (F55_0_ok n) AllF.nil)) (F55_eq n)
noncomputable def E49 (n : Nat) : List (Ent G) := F55e n :: E48 n
theorem E49_ok (n : Nat) : AllE prog G (E49 n) := AllE.cons (F55_ok n) (E48_ok n)
noncomputable def F19 (n : Nat) (a1265 : List Int) (a1266 : List Int) : Option (Bool × Unit) :=
  (andThen (F55 n a1265 a1266) fun r1284 =>
  some (r1284.1, ()))
noncomputable def F19e (n : Nat) : Ent G := ⟨19, (.cons (.imm 0) (.cons (.imm 0) .nil)), [], .bool, [], fun x y => F19 n x.1 x.2.1⟩
theorem F19_eq (n : Nat) (x : ShL.den G (.cons (.imm 0) (.cons (.imm 0) .nil))) (y : denO G []) : (F19e n).F x y = runFn prog G (ro G (tabOf (E49 n)) (frOf []) _) Go.Proofs.Try.f19 .no [(0, .fz)] (ShL.enc G (.cons (.imm 0) (.cons (.imm 0) .nil)) x) (encO G [] y) (decR .bool []) := by kernel_rfl
theorem F19_ok (n : Nat) : EntOK prog G (F19e n) :=
  ent_ok (fr := frOf []) (ann := .no) (frm := [(0, .fz)]) laws fnok (E49_ok n).tab (e := F19e n) (fn := Go.Proofs.Try.f19) (by kernel_rfl) (AllF.ofB (cd := F19c) (l := []) (by kernel_rfl) (by kernel_rfl) AllF.nil) (F19_eq n)
noncomputable def E50 (n : Nat) : List (Ent G) := F19e n :: E49 n
theorem E50_ok (n : Nat) : AllE prog G (E50 n) := AllE.cons (F19_ok n) (E49_ok n)
noncomputable def F3_0x0 : SSh := ⟨103, [(2, .bool)], []⟩
noncomputable def F3_0x1 : SSh := ⟨103, [(3, (.ptr 0 0)), (5, (.imm 0)), (9, .bool)], [(.box 26 (.cons (.imm 0) (.cons (.imm 3) .nil)))]⟩
noncomputable def F3_0s : SSh := ⟨103, [(3, (.ptr 0 0)), (5, (.imm 0)), (9, .bool), (10, (.int .i64)), (11, (.int .i64)), (12, (.int .i64))], [(.box 26 (.cons (.imm 0) (.cons (.imm 3) .nil)))]⟩
noncomputable def F3_0_step {R : Type} (n : Nat) (k0 : Bool → Option R) (k1 : List Int → Bool → List Int → List Ety → Option R) (rec : List Int → Bool → Int → Int → Int → List Int → List Ety → Option R) (x1293 : List Int) (x1294 : Bool) (x1295 : Int) (x1296 : Int) (x1297 : Int) (x1298 : List Int) (x1299 : List Ety) : Option R :=
  (bif (decide (x1297 < ((x1293.length) : Int))) then
  (bif (decide ((0 : Int) ≤ x1297)) then
  (bif (decide (x1297 < ((x1293.length) : Int))) then
  (bif ((x1293.getD (x1297.toNat) (0 : Int)) != x1296) then
  (k0 false)
  else (bif (decide (x1297 < (IntKind.wrap .i64 (((x1293.length) : Int) - (1 : Int))))) then
  (bif (decide ((0 : Int) ≤ x1296)) then
  (bif (decide (x1296 < ((x1298.length) : Int))) then
  (bif ((x1298.getD (x1296.toNat) (0 : Int)) == (-1 : Int)) then
  (k0 false)
  else let v1311 := (IntKind.wrap .i64 (x1295.tdiv (8 : Int)))
  let v1315 := ((x1298.length) : Int)
  (bif (!(decide (v1315 = (0 : Int)))) then
  (rec x1293 x1294 v1311 ((IntKind.wrap .i64 ((IntKind.wrap .i64 ((IntKind.wrap .i64 ((5 : Int) * x1296)) + v1311)) + (1 : Int))).tmod v1315) (IntKind.wrap .i64 (x1297 + (1 : Int))) x1298 x1299)
  else none))
  else none)
  else none)
  else let v1318 := (IntKind.wrap .i64 (x1295.tdiv (8 : Int)))
  let v1322 := ((x1298.length) : Int)
  (bif (!(decide (v1322 = (0 : Int)))) then
  (rec x1293 x1294 v1318 ((IntKind.wrap .i64 ((IntKind.wrap .i64 ((IntKind.wrap .i64 ((5 : Int) * x1296)) + v1318)) + (1 : Int))).tmod v1322) (IntKind.wrap .i64 (x1297 + (1 : Int))) x1298 x1299)
  else none)))
  else none)
  else none)
  else (k1 x1293 x1294 x1298 x1299))
noncomputable def F3_0_it {R : Type} (n : Nat) (k0 : Bool → Option R) (k1 : List Int → Bool → List Int → List Ety → Option R) : Nat → List Int → Bool → Int → Int → Int → List Int → List Ety → Option R
  | 0, _, _, _, _, _, _, _ => none
  | k + 1, x1293, x1294, x1295, x1296, x1297, x1298, x1299 => F3_0_step n k0 k1 (F3_0_it n k0 k1 k) x1293 x1294 x1295 x1296 x1297 x1298 x1299
noncomputable def F3_0 {R : Type} (n : Nat) (x1293 : List Int) (x1294 : Bool) (x1295 : Int) (x1296 : Int) (x1297 : Int) (x1298 : List Int) (x1299 : List Ety) (k0 : Bool → Option R) (k1 : List Int → Bool → List Int → List Ety → Option R) : Option R := F3_0_it n k0 k1 n x1293 x1294 x1295 x1296 x1297 x1298 x1299
noncomputable def F3_0z (n : Nat) : Sm G := inZ G 0 ⟨[3, 5, 9, 10, 11, 12], []⟩ F3_0s fun R x K => F3_0_it n (fun u0 => K .ret (SSh.enc G F3_0x0 ((u0, ()), ()))) (fun u0 u1 u2 u3 => K (.exit 0) (SSh.enc G F3_0x1 (((), (u0, (u1, ()))), ((u2, (u3, ())), ())))) n x.1.2.1 x.1.2.2.1 x.1.2.2.2.1 x.1.2.2.2.2.1 x.1.2.2.2.2.2.1 x.2.1.1 x.2.1.2.1
theorem F3_0_eq (n : Nat) (R : Type) (rec : SSh.den G F3_0s → Option R) (x : SSh.den G F3_0s) (K : AE → St G → Option R) :
  F3_0_step n (fun u0 => K .ret (SSh.enc G F3_0x0 ((u0, ()), ()))) (fun u0 u1 u2 u3 => K (.exit 0) (SSh.enc G F3_0x1 (((), (u0, (u1, ()))), ((u2, (u3, ())), ())))) (fun x1293 x1294 x1295 x1296 x1297 x1298 x1299 => rec (((), (x1293, (x1294, (x1295, (x1296, (x1297, ())))))), ((x1298, (x1299, ())), ()))) x.1.2.1 x.1.2.2.1 x.1.2.2.2.1 x.1.2.2.2.2.1 x.1.2.2.2.2.2.1 x.2.1.1 x.2.1.2.1 = exec prog G (ro G (tabOf (E50 n)) (frOf []) R) 0 (codeAt F3c [1, 1, 1, 1, 1, 1, 1, 1, 1, 1, 0, 1, 0, 0]) .no (SSh.enc G F3_0s x) (kLoop G (ro G (tabOf (E50 n)) (frOf []) R) 0 ⟨[3, 5, 9, 10, 11, 12], []⟩ F3_0s ⟨⟨[3, 5, 9], []⟩, ⟨[2], []⟩, [(0, ⟨[3, 5, 9], []⟩)]⟩ rec K) := by kernel_rfl
theorem F3_0_ok (n : Nat) : FragOK prog G 0 (codeAt F3c [1, 1, 1, 1, 1, 1, 1, 1, 1, 1, 0, 1, 0]) (F3_0z n) :=
  frag_loop (Z := fun R k (x : SSh.den G F3_0s) K => F3_0_it n (fun u0 => K .ret (SSh.enc G F3_0x0 ((u0, ()), ()))) (fun u0 u1 u2 u3 => K (.exit 0) (SSh.enc G F3_0x1 (((), (u0, (u1, ()))), ((u2, (u3, ())), ())))) k x.1.2.1 x.1.2.2.1 x.1.2.2.2.1 x.1.2.2.2.2.1 x.1.2.2.2.2.2.1 x.2.1.1 x.2.1.2.1) laws fnok (E50_ok n).tab (AllF.of (l := []) (by kernel_rfl) AllF.nil) (fun _ _ _ => rfl) (fun R k y K => F3_0_eq n R (fun (x : SSh.den G F3_0s) => F3_0_it n (fun u0 => K .ret (SSh.enc G F3_0x0 ((u0, ()), ()))) (fun u0 u1 u2 u3 => K (.exit 0) (SSh.enc G F3_0x1 (((), (u0, (u1, ()))), ((u2, (u3, ())), ())))) k x.1.2.1 x.1.2.2.1 x.1.2.2.2.1 x.1.2.2.2.2.1 x.1.2.2.2.2.2.1 x.2.1.1 x.2.1.2.1) y K) n
noncomputable def F3 (n : Nat) (a1223 : List Int) : Option (Bool × Unit) :=
  (bif (decide (((a1223.length) : Int) > (1048576 : Int))) then
  some (true, ())
  else (andThen (F16 n a1223) fun r1230 =>
  (andThen (F17 n r1230.1.1.1 r1230.1.1.2.1 r1230.1.2.1) fun r1247 =>
  (andThen (F18 n r1230.1.1.1 r1230.1.1.2.1 r1230.1.2.1) fun r1264 =>
  (andThen (F19 n r1247.1 r1264.1) fun r1285 =>
  (bif (!r1285.1) then
  some (r1285.1, ())
  else (bif (((r1247.1.length) : Int) == (0 : Int)) then
  some (r1285.1, ())
  else (andThen (F20 n r1230.1.1.1 r1230.1.1.2.1 r1230.1.2.1) fun r1289 =>
  (andThen (F21 n r1230.1.2.1) fun r1290 =>
  let v1291 := ((r1230.1.1.1.length) : Int)
  (bif (!(decide (v1291 = (0 : Int)))) then
  (F3_0 n r1247.1 r1289.1.2.1 r1290.1 (r1290.1.tmod v1291) (0 : Int) r1230.1.1.1 r1230.1.1.2.1 (fun z1325 =>
  some (z1325, ())) (fun z1326 z1327 z1328 z1329 =>
  let v1331 := (IntKind.wrap .i64 (((z1326.length) : Int) - (1 : Int)))
  (bif (decide ((0 : Int) ≤ v1331)) then
  (bif (decide (v1331 < ((z1326.length) : Int))) then
  let v1333 := (z1326.getD (v1331.toNat) (0 : Int))
  (bif (decide ((0 : Int) ≤ v1333)) then
  (bif (decide (v1333 < ((z1328.length) : Int))) then
  some ((((z1328.getD (v1333.toNat) (0 : Int)) == (-1 : Int)) == (!z1327)), ())
  else none)
  else none)
  else none)
  else none)))
  else none))))))))))
noncomputable def F3e (n : Nat) : Ent G := ⟨3, (.cons (.imm 1) .nil), [], .bool, [], fun x y => F3 n x.1⟩
theorem F3_eq (n : Nat) (x : ShL.den G (.cons (.imm 1) .nil)) (y : denO G []) : (F3e n).F x y = runFn prog G (ro G (tabOf (E50 n)) (frOf [F3_0z n]) _) Go.Proofs.Try.f3 (.nd .no (.nd .no (.nd .no (.nd .no (.nd .no (.nd .no (.nd .no (.nd .no (.nd .no (.nd .no (.nd (.nd .no (.nd (.use 0) .no)) .no))))))))))) [(0, .fz)] (ShL.enc G (.cons (.imm 1) .nil) x) (encO G [] y) (decR .bool []) := by kernel_rfl
theorem F3_ok (n : Nat) : EntOK prog G (F3e n) :=
  ent_ok (fr := frOf [F3_0z n]) (ann := (.nd .no (.nd .no (.nd .no (.nd .no (.nd .no (.nd .no (.nd .no (.nd .no (.nd .no (.nd .no (.nd (.nd .no (.nd (.use 0) .no)) .no)))))))))))) (frm := [(0, .fz)]) laws fnok (E50_ok n).tab (e := F3e n) (fn := Go.Proofs.Try.f3) (by kernel_rfl) (AllF.ofB (cd := F3c) (l := [(0, codeAt F3c [1, 1, 1, 1, 1, 1, 1, 1, 1, 1, 0, 1, 0])]) (by kernel_rfl) (by kernel_rfl) (AllF.cons (F3_0_ok n) AllF.nil)) (F3_eq n)
noncomputable def E51 (n : Nat) : List (Ent G) := F3e n :: E50 n
theorem E51_ok (n : Nat) : AllE prog G (E51 n) := AllE.cons (F3_ok n) (E50_ok n)
-- 4 loop.example/slowworm/laws.FnDictKeys
noncomputable def F4c : Code := bodyOf Go.Proofs.Try.f4
-- 22 loop.example/slowworm/spec.DrawDictKeys
noncomputable def F22c : Code := bodyOf Go.Proofs.Try.f22
noncomputable def F22 (n : Nat) (a1342 : List Int) : Option ((List Int × (List Ety × Unit)) × Unit) :=
  (andThen (F48 n a1342) fun r1343 =>
  (andThen (F49 n r1343.2.1.1 r1343.2.1.2.1) fun r1344 =>
  some ((r1344.1.1, (r1344.1.2.1, ())), ())))
noncomputable def F22e (n : Nat) : Ent G := ⟨22, (.cons (.imm 1) .nil), [], (.agg (.cons (.imm 0) (.cons (.imm 3) .nil))), [], fun x y => F22 n x.1⟩
theorem F22_eq (n : Nat) (x : ShL.den G (.cons (.imm 1) .nil)) (y : denO G []) : (F22e n).F x y = runFn prog G (ro G (tabOf (E51 n)) (frOf []) _) Go.Proofs.Try.f22 .no [(0, .fz)] (ShL.enc G (.cons (.imm 1) .nil) x) (encO G [] y) (decR (.agg (.cons (.imm 0) (.cons (.imm 3) .nil))) []) := by kernel_rfl
theorem F22_ok (n : Nat) : EntOK prog G (F22e n) :=
  ent_ok (fr := frOf []) (ann := .no) (frm := [(0, .fz)]) laws fnok (E51_ok n).tab (e := F22e n) (fn := Go.Proofs.Try.f22) (by kernel_rfl) (AllF.ofB (cd := F22c) (l := []) (by kernel_rfl) (by kernel_rfl) AllF.nil) (F22_eq n)
noncomputable def E52 (n : Nat) : List (Ent G) := F22e n :: E51 n
theorem E52_ok (n : Nat) : AllE prog G (E52 n) := AllE.cons (F22_ok n) (E51_ok n)
-- 24 loop.example/slowworm/spec.DictKeys
noncomputable def F24c : Code := bodyOf Go.Proofs.Try.f24
noncomputable def F24_0x0 : SSh := ⟨32, [(1, (.ptr 0 0)), (3, (.own 1)), (4, (.int .i64))], [(.box 26 (.cons (.imm 0) (.cons (.imm 3) .nil))), (.arr 2 true)]⟩
noncomputable def F24_0s : SSh := ⟨32, [(1, (.ptr 0 0)), (3, (.own 1)), (4, (.int .i64))], [(.box 26 (.cons (.imm 0) (.cons (.imm 3) .nil))), (.arr 2 true)]⟩
noncomputable def F24_0 {R : Type} (n : Nat) (x1385 : Int) (x1386 : List Int) (x1387 : List Ety) (x1388 : List ByteArray) (k0 : Int → List Int → List Ety → List ByteArray → Option R) : Option R :=
  (bif (decide ((0 : Int) ≤ x1385)) then
  (bif (decide (x1385 < ((x1387.length) : Int))) then
  (bif (x1387.getD (x1385.toNat) (Ety.mk ({ data := #[] } : ByteArray) (0 : Int) (0 : Int) false)).live then
  (bif (decide ((0 : Int) ≤ x1385)) then
  (bif (decide (x1385 < ((x1387.length) : Int))) then
  let v1393 := ((x1387.getD (x1385.toNat) (Ety.mk ({ data := #[] } : ByteArray) (0 : Int) (0 : Int) false)).key :: [])
  (bif (decide (((x1388.length) + (v1393.length)) ≤ (68719476736 : Nat))) then
  (k0 x1385 x1386 x1387 (x1388 ++ v1393))
  else none)
  else none)
  else none)
  else (k0 x1385 x1386 x1387 x1388))
  else none)
  else none)
noncomputable def F24_0z (n : Nat) : Sm G := inZ G 0 ⟨[1, 3, 4], []⟩ F24_0s fun R x K => F24_0 n x.1.2.2.1 x.2.1.1 x.2.1.2.1 x.2.2.1 (fun u0 u1 u2 u3 => K .normal (SSh.enc G F24_0x0 (((), ((), (u0, ()))), ((u1, (u2, ())), (u3, ())))))
theorem F24_0_eq (n : Nat) (R : Type) (x : SSh.den G F24_0s) (K : AE → St G → Option R) :
  F24_0 n x.1.2.2.1 x.2.1.1 x.2.1.2.1 x.2.2.1 (fun u0 u1 u2 u3 => K .normal (SSh.enc G F24_0x0 (((), ((), (u0, ()))), ((u1, (u2, ())), (u3, ()))))) = exec prog G (ro G (tabOf (E52 n)) (frOf []) R) 0 (codeAt F24c [1, 1, 1, 0, 1, 0, 0, 1, 0]) .no (SSh.enc G F24_0s x) (kNrm G (ro G (tabOf (E52 n)) (frOf []) R) 0 ⟨⟨[1, 3, 4], []⟩, ⟨[2], []⟩, [(0, ⟨[3], []⟩)]⟩ K) := by kernel_rfl
theorem F24_0_ok (n : Nat) : FragOK prog G 0 (codeAt F24c [1, 1, 1, 0, 1, 0, 0, 1, 0]) (F24_0z n) :=
  frag_plain laws fnok (E52_ok n).tab (AllF.of (l := []) (by kernel_rfl) AllF.nil) (F24_0_eq n)
noncomputable def F24_1x0 : SSh := ⟨32, [(3, (.own 0))], [(.arr 2 true)]⟩
noncomputable def F24_1s : SSh := ⟨32, [(1, (.ptr 0 0)), (3, (.own 1)), (4, (.int .i64))], [(.box 26 (.cons (.imm 0) (.cons (.imm 3) .nil))), (.arr 2 true)]⟩
noncomputable def F24_1_step {R : Type} (n : Nat) (k0 : List ByteArray → Option R) (rec : Int → List Int → List Ety → List ByteArray → Option R) (x1379 : Int) (x1380 : List Int) (x1381 : List Ety) (x1382 : List ByteArray) : Option R :=
  (bif (decide (x1379 < ((x1381.length) : Int))) then
  (F24_0 n x1379 x1380 x1381 x1382 (fun z1395 z1396 z1397 z1398 =>
  (rec (IntKind.wrap .i64 (z1395 + (1 : Int))) z1396 z1397 z1398)))
  else (k0 x1382))
noncomputable def F24_1_it {R : Type} (n : Nat) (k0 : List ByteArray → Option R) : Nat → Int → List Int → List Ety → List ByteArray → Option R
  | 0, _, _, _, _ => none
  | k + 1, x1379, x1380, x1381, x1382 => F24_1_step n k0 (F24_1_it n k0 k) x1379 x1380 x1381 x1382
noncomputable def F24_1 {R : Type} (n : Nat) (x1379 : Int) (x1380 : List Int) (x1381 : List Ety) (x1382 : List ByteArray) (k0 : List ByteArray → Option R) : Option R := F24_1_it n k0 n x1379 x1380 x1381 x1382
noncomputable def F24_1z (n : Nat) : Sm G := inZ G 0 ⟨[1, 3, 4], []⟩ F24_1s fun R x K => F24_1_it n (fun u0 => K (.exit 0) (SSh.enc G F24_1x0 (((), ()), (u0, ())))) n x.1.2.2.1 x.2.1.1 x.2.1.2.1 x.2.2.1
theorem F24_1_eq (n : Nat) (R : Type) (rec : SSh.den G F24_1s → Option R) (x : SSh.den G F24_1s) (K : AE → St G → Option R) :
  F24_1_step n (fun u0 => K (.exit 0) (SSh.enc G F24_1x0 (((), ()), (u0, ())))) (fun x1379 x1380 x1381 x1382 => rec (((), ((), (x1379, ()))), ((x1380, (x1381, ())), (x1382, ())))) x.1.2.2.1 x.2.1.1 x.2.1.2.1 x.2.2.1 = exec prog G (ro G (tabOf (E52 n)) (frOf [F24_0z n]) R) 0 (codeAt F24c [1, 1, 1, 0, 1, 0, 0]) (.nd .no (.nd (.use 0) .no)) (SSh.enc G F24_1s x) (kLoop G (ro G (tabOf (E52 n)) (frOf [F24_0z n]) R) 0 ⟨[1, 3, 4], []⟩ F24_1s ⟨⟨[3], []⟩, ⟨[2], []⟩, [(0, ⟨[3], []⟩)]⟩ rec K) := by kernel_rfl
theorem F24_1_ok (n : Nat) : FragOK prog G 0 (codeAt F24c [1, 1, 1, 0, 1, 0]) (F24_1z n) :=
  frag_loop (Z := fun R k (x : SSh.den G F24_1s) K => F24_1_it n (fun u0 => K (.exit 0) (SSh.enc G F24_1x0 (((), ()), (u0, ())))) k x.1.2.2.1 x.2.1.1 x.2.1.2.1 x.2.2.1) laws fnok (E52_ok n).tab (AllF.of (l := [(0, codeAt F24c [1, 1, 1, 0, 1, 0, 0, 1, 0])]) (by kernel_rfl) (AllF.cons (F24_0_ok n) AllF.nil)) (fun _ _ _ => rfl) (fun R k y K => F24_1_eq n R (fun (x : SSh.den G F24_1s) => F24_1_it n (fun u0 => K (.exit 0) (SSh.enc G F24_1x0 (((), ()), (u0, ())))) k x.1.2.2.1 x.2.1.1 x.2.1.2.1 x.2.2.1) y K) n
noncomputable def F24 (n : Nat) (a1374 : List Int) (a1375 : List Ety) : Option (List ByteArray × Unit) :=
  (andThen (F52 n a1374 a1375) fun r1376 =>
  (bif (!r1376.1) then
  some ([], ())
  else (F24_1 n (0 : Int) a1374 a1375 [] (fun z1400 =>
  some (z1400, ())))))
noncomputable def F24e (n : Nat) : Ent G := ⟨24, (.cons (.agg (.cons (.imm 0) (.cons (.imm 3) .nil))) .nil), [], (.imm 2), [], fun x y => F24 n x.1.1 x.1.2.1⟩
theorem F24_eq (n : Nat) (x : ShL.den G (.cons (.agg (.cons (.imm 0) (.cons (.imm 3) .nil))) .nil)) (y : denO G []) : (F24e n).F x y = runFn prog G (ro G (tabOf (E52 n)) (frOf [F24_0z n, F24_1z n]) _) Go.Proofs.Try.f24 (.nd .no (.nd .no (.nd .no (.nd (.nd .no (.nd (.use 1) .no)) .no)))) [(0, .fz)] (ShL.enc G (.cons (.agg (.cons (.imm 0) (.cons (.imm 3) .nil))) .nil) x) (encO G [] y) (decR (.imm 2) []) := by kernel_rfl
theorem F24_ok (n : Nat) : EntOK prog G (F24e n) :=
  ent_ok (fr := frOf [F24_0z n, F24_1z n]) (ann := (.nd .no (.nd .no (.nd .no (.nd (.nd .no (.nd (.use 1) .no)) .no))))) (frm := [(0, .fz)]) laws fnok (E52_ok n).tab (e := F24e n) (fn := Go.Proofs.Try.f24) (by kernel_rfl) (AllF.ofB (cd := F24c) (l := [(1, codeAt F24c [1, 1, 1, 0, 1, 0])]) (by kernel_rfl) (by kernel_rfl) (AllF.cons (F24_1_ok n) AllF.nil)) (F24_eq n)
noncomputable def E53 (n : Nat) : List (Ent G) := F24e n :: E52 n
theorem E53_ok (n : Nat) : AllE prog G (E53 n) := AllE.cons (F24_ok n) (E52_ok n)
-- 25 loop.example/slowworm/spec.SameTexts
noncomputable def F25c : Code := bodyOf Go.Proofs.Try.f25
-- 57 loop.example/slowworm/spec.sameTexts
noncomputable def F57c : Code := bodyOf Go.Proofs.Try.f57
noncomputable def F57_0x0 : SSh := ⟨26, [(4, .bool)], []⟩
noncomputable def F57_0x1 : SSh := ⟨26, [], []⟩
noncomputable def F57_0s : SSh := ⟨26, [(0, (.imm 2)), (1, (.imm 2)), (5, (.int .i64))], []⟩
noncomputable def F57_0_step {R : Type} (n : Nat) (k0 : Bool → Option R) (k1 : Option R) (rec : List ByteArray → List ByteArray → Int → Option R) (x1409 : List ByteArray) (x1410 : List ByteArray) (x1411 : Int) : Option R :=
  (bif (decide (x1411 < ((x1409.length) : Int))) then
  (bif (decide ((0 : Int) ≤ x1411)) then
  (bif (decide (x1411 < ((x1409.length) : Int))) then
  (bif (decide ((0 : Int) ≤ x1411)) then
  (bif (decide (x1411 < ((x1410.length) : Int))) then
  (bif (!(((x1409.getD (x1411.toNat) ({ data := #[] } : ByteArray)).toList) == ((x1410.getD (x1411.toNat) ({ data := #[] } : ByteArray)).toList))) then
  (k0 false)
  else (rec x1409 x1410 (IntKind.wrap .i64 (x1411 + (1 : Int)))))
  else none)
  else none)
  else none)
  else none)
  else k1)
noncomputable def F57_0_it {R : Type} (n : Nat) (k0 : Bool → Option R) (k1 : Option R) : Nat → List ByteArray → List ByteArray → Int → Option R
  | 0, _, _, _ => none
  | k + 1, x1409, x1410, x1411 => F57_0_step n k0 k1 (F57_0_it n k0 k1 k) x1409 x1410 x1411
noncomputable def F57_0 {R : Type} (n : Nat) (x1409 : List ByteArray) (x1410 : List ByteArray) (x1411 : Int) (k0 : Bool → Option R) (k1 : Option R) : Option R := F57_0_it n k0 k1 n x1409 x1410 x1411
noncomputable def F57_0z (n : Nat) : Sm G := inZ G 0 ⟨[0, 1, 5], []⟩ F57_0s fun R x K => F57_0_it n (fun u0 => K .ret (SSh.enc G F57_0x0 ((u0, ()), ()))) (K (.exit 0) (SSh.enc G F57_0x1 ((), ()))) n x.1.1 x.1.2.1 x.1.2.2.1
theorem F57_0_eq (n : Nat) (R : Type) (rec : SSh.den G F57_0s → Option R) (x : SSh.den G F57_0s) (K : AE → St G → Option R) :
  F57_0_step n (fun u0 => K .ret (SSh.enc G F57_0x0 ((u0, ()), ()))) (K (.exit 0) (SSh.enc G F57_0x1 ((), ()))) (fun x1409 x1410 x1411 => rec ((x1409, (x1410, (x1411, ()))), ())) x.1.1 x.1.2.1 x.1.2.2.1 = exec prog G (ro G (tabOf (E53 n)) (frOf []) R) 0 (codeAt F57c [1, 1, 0, 1, 0, 0]) .no (SSh.enc G F57_0s x) (kLoop G (ro G (tabOf (E53 n)) (frOf []) R) 0 ⟨[0, 1, 5], []⟩ F57_0s ⟨⟨[], []⟩, ⟨[4], []⟩, [(0, ⟨[], []⟩)]⟩ rec K) := by kernel_rfl
theorem F57_0_ok (n : Nat) : FragOK prog G 0 (codeAt F57c [1, 1, 0, 1, 0]) (F57_0z n) :=
  frag_loop (Z := fun R k (x : SSh.den G F57_0s) K => F57_0_it n (fun u0 => K .ret (SSh.enc G F57_0x0 ((u0, ()), ()))) (K (.exit 0) (SSh.enc G F57_0x1 ((), ()))) k x.1.1 x.1.2.1 x.1.2.2.1) laws fnok (E53_ok n).tab (AllF.of (l := []) (by kernel_rfl) AllF.nil) (fun _ _ _ => rfl) (fun R k y K => F57_0_eq n R (fun (x : SSh.den G F57_0s) => F57_0_it n (fun u0 => K .ret (SSh.enc G F57_0x0 ((u0, ()), ()))) (K (.exit 0) (SSh.enc G F57_0x1 ((), ()))) k x.1.1 x.1.2.1 x.1.2.2.1) y K) n
noncomputable def F57 (n : Nat) (a1404 : List ByteArray) (a1405 : List ByteArray) : Option (Bool × Unit) :=
  (bif (((a1404.length) : Int) != ((a1405.length) : Int)) then
  some (false, ())
  else (F57_0 n a1404 a1405 (0 : Int) (fun z1420 =>
  some (z1420, ())) (
  some (true, ()))))
noncomputable def F57e (n : Nat) : Ent G := ⟨57, (.cons (.imm 2) (.cons (.imm 2) .nil)), [], .bool, [], fun x y => F57 n x.1 x.2.1⟩
theorem F57_eq (n : Nat) (x : ShL.den G (.cons (.imm 2) (.cons (.imm 2) .nil))) (y : denO G []) : (F57e n).F x y = runFn prog G (ro G (tabOf (E53 n)) (frOf [F57_0z n]) _) Go.Proofs.Try.f57 (.nd .no (.nd .no (.nd (.nd .no (.nd (.use 0) .no)) .no))) [(0, .fz)] (ShL.enc G (.cons (.imm 2) (.cons (.imm 2) .nil)) x) (encO G [] y) (decR .bool []) := by kernel_rfl
theorem F57_ok (n : Nat) : EntOK prog G (F57e n) :=
  ent_ok (fr := frOf [F57_0z n]) (ann := (.nd .no (.nd .no (.nd (.nd .no (.nd (.use 0) .no)) .no)))) (frm := [(0, .fz)]) laws fnok (E53_ok n).tab (e := F57e n) (fn := Go.Proofs.Try.f57) (by kernel_rfl) (AllF.ofB (cd := F57c) (l := [(0, codeAt F57c [1, 1, 0, 1, 0])]) (by kernel_rfl) (by kernel_rfl) (AllF.cons (F57_0_ok n) AllF.nil)) (F57_eq n)
noncomputable def E54 (n : Nat) : List (Ent G) := F57e n :: E53 n
theorem E54_ok (n : Nat) : AllE prog G (E54 n) := AllE.cons (F57_ok n) (E53_ok n)
noncomputable def F25 (n : Nat) (a1402 : List ByteArray) (a1403 : List ByteArray) : Option (Bool × Unit) :=
  (andThen (F57 n a1402 a1403) fun r1421 =>
  some (r1421.1, ()))
noncomputable def F25e (n : Nat) : Ent G := ⟨25, (.cons (.imm 2) (.cons (.imm 2) .nil)), [], .bool, [], fun x y => F25 n x.1 x.2.1⟩
theorem F25_eq (n : Nat) (x : ShL.den G (.cons (.imm 2) (.cons (.imm 2) .nil))) (y : denO G []) : (F25e n).F x y = runFn prog G (ro G (tabOf (E54 n)) (frOf []) _) Go.Proofs.Try.f25 .no [(0, .fz)] (ShL.enc G (.cons (.imm 2) (.cons (.imm 2) .nil)) x) (encO G [] y) (decR .bool []) := by kernel_rfl
theorem F25_ok (n : Nat) : EntOK prog G (F25e n) :=
  ent_ok (fr := frOf []) (ann := .no) (frm := [(0, .fz)]) laws fnok (E54_ok n).tab (e := F25e n) (fn := Go.Proofs.Try.f25) (by kernel_rfl) (AllF.ofB (cd := F25c) (l := []) (by kernel_rfl) (by kernel_rfl) AllF.nil) (F25_eq n)
noncomputable def E55 (n : Nat) : List (Ent G) := F25e n :: E54 n
theorem E55_ok (n : Nat) : AllE prog G (E55 n) := AllE.cons (F25_ok n) (E54_ok n)
noncomputable def F4_0x0 : SSh := ⟨60, [(2, .bool)], []⟩
noncomputable def F4_0x1 : SSh := ⟨60, [(4, (.own 0))], [(.arr 2 true)]⟩
noncomputable def F4_0s : SSh := ⟨60, [(3, (.ptr 0 0)), (4, (.own 1)), (7, (.int .i64))], [(.box 26 (.cons (.imm 0) (.cons (.imm 3) .nil))), (.arr 2 true)]⟩
noncomputable def F4_0_step {R : Type} (n : Nat) (k0 : Bool → Option R) (k1 : List ByteArray → Option R) (rec : Int → List Int → List Ety → List ByteArray → Option R) (x1426 : Int) (x1427 : List Int) (x1428 : List Ety) (x1429 : List ByteArray) : Option R :=
  (bif (decide (x1426 < ((x1429.length) : Int))) then
  (bif (decide ((0 : Int) ≤ x1426)) then
  (bif (decide (x1426 < ((x1429.length) : Int))) then
  (andThen (F20 n x1427 x1428 (x1429.getD (x1426.toNat) ({ data := #[] } : ByteArray))) fun r1434 =>
  (bif (!r1434.1.2.1) then
  (k0 false)
  else (bif (decide ((0 : Int) ≤ x1426)) then
  (bif (decide (x1426 ≤ ((x1429.length) : Int))) then
  (bif (decide ((0 : Int) ≤ x1426)) then
  (bif (decide (x1426 < ((x1429.length) : Int))) then
  (andThen (F26 n (x1429.take (x1426.toNat)) (x1429.getD (x1426.toNat) ({ data := #[] } : ByteArray))) fun r1439 =>
  (bif r1439.1 then
  (k0 false)
  else (rec (IntKind.wrap .i64 (x1426 + (1 : Int))) x1427 x1428 x1429)))
  else none)
  else none)
  else none)
  else none)))
  else none)
  else none)
  else (k1 x1429))
noncomputable def F4_0_it {R : Type} (n : Nat) (k0 : Bool → Option R) (k1 : List ByteArray → Option R) : Nat → Int → List Int → List Ety → List ByteArray → Option R
  | 0, _, _, _, _ => none
  | k + 1, x1426, x1427, x1428, x1429 => F4_0_step n k0 k1 (F4_0_it n k0 k1 k) x1426 x1427 x1428 x1429
noncomputable def F4_0 {R : Type} (n : Nat) (x1426 : Int) (x1427 : List Int) (x1428 : List Ety) (x1429 : List ByteArray) (k0 : Bool → Option R) (k1 : List ByteArray → Option R) : Option R := F4_0_it n k0 k1 n x1426 x1427 x1428 x1429
noncomputable def F4_0z (n : Nat) : Sm G := inZ G 0 ⟨[3, 4, 7], []⟩ F4_0s fun R x K => F4_0_it n (fun u0 => K .ret (SSh.enc G F4_0x0 ((u0, ()), ()))) (fun u0 => K (.exit 0) (SSh.enc G F4_0x1 (((), ()), (u0, ())))) n x.1.2.2.1 x.2.1.1 x.2.1.2.1 x.2.2.1
theorem F4_0_eq (n : Nat) (R : Type) (rec : SSh.den G F4_0s → Option R) (x : SSh.den G F4_0s) (K : AE → St G → Option R) :
  F4_0_step n (fun u0 => K .ret (SSh.enc G F4_0x0 ((u0, ()), ()))) (fun u0 => K (.exit 0) (SSh.enc G F4_0x1 (((), ()), (u0, ())))) (fun x1426 x1427 x1428 x1429 => rec (((), ((), (x1426, ()))), ((x1427, (x1428, ())), (x1429, ())))) x.1.2.2.1 x.2.1.1 x.2.1.2.1 x.2.2.1 = exec prog G (ro G (tabOf (E55 n)) (frOf []) R) 0 (codeAt F4c [1, 1, 1, 1, 1, 1, 1, 0, 1, 0, 0]) .no (SSh.enc G F4_0s x) (kLoop G (ro G (tabOf (E55 n)) (frOf []) R) 0 ⟨[3, 4, 7], []⟩ F4_0s ⟨⟨[4], []⟩, ⟨[2], []⟩, [(0, ⟨[4], []⟩)]⟩ rec K) := by kernel_rfl
theorem F4_0_ok (n : Nat) : FragOK prog G 0 (codeAt F4c [1, 1, 1, 1, 1, 1, 1, 0, 1, 0]) (F4_0z n) :=
  frag_loop (Z := fun R k (x : SSh.den G F4_0s) K => F4_0_it n (fun u0 => K .ret (SSh.enc G F4_0x0 ((u0, ()), ()))) (fun u0 => K (.exit 0) (SSh.enc G F4_0x1 (((), ()), (u0, ())))) k x.1.2.2.1 x.2.1.1 x.2.1.2.1 x.2.2.1) laws fnok (E55_ok n).tab (AllF.of (l := []) (by kernel_rfl) AllF.nil) (fun _ _ _ => rfl) (fun R k y K => F4_0_eq n R (fun (x : SSh.den G F4_0s) => F4_0_it n (fun u0 => K .ret (SSh.enc G F4_0x0 ((u0, ()), ()))) (fun u0 => K (.exit 0) (SSh.enc G F4_0x1 (((), ()), (u0, ())))) k x.1.2.2.1 x.2.1.1 x.2.1.2.1 x.2.2.1) y K) n
noncomputable def F4 (n : Nat) (a1339 : List Int) : Option (Bool × Unit) :=
  (bif (decide (((a1339.length) : Int) > (1048576 : Int))) then
  some (true, ())
  else (andThen (F22 n a1339) fun r1345 =>
  (andThen (F23 n r1345.1.1 r1345.1.2.1) fun r1346 =>
  (andThen (F24 n r1345.1.1 r1345.1.2.1) fun r1401 =>
  (andThen (F25 n r1346.2.1 r1401.1) fun r1422 =>
  (bif (!r1422.1) then
  some (r1422.1, ())
  else (bif (((r1346.2.1.length) : Int) == (0 : Int)) then
  some (r1422.1, ())
  else (F4_0 n (0 : Int) r1345.1.1 r1345.1.2.1 r1346.2.1 (fun z1441 =>
  some (z1441, ())) (fun z1442 =>
  some ((decide (((z1442.length) : Int) ≤ (40 : Int))), ()))))))))))
noncomputable def F4e (n : Nat) : Ent G := ⟨4, (.cons (.imm 1) .nil), [], .bool, [], fun x y => F4 n x.1⟩
theorem F4_eq (n : Nat) (x : ShL.den G (.cons (.imm 1) .nil)) (y : denO G []) : (F4e n).F x y = runFn prog G (ro G (tabOf (E55 n)) (frOf [F4_0z n]) _) Go.Proofs.Try.f4 (.nd .no (.nd .no (.nd .no (.nd .no (.nd .no (.nd .no (.nd .no (.nd (.nd .no (.nd (.use 0) .no)) .no)))))))) [(0, .fz)] (ShL.enc G (.cons (.imm 1) .nil) x) (encO G [] y) (decR .bool []) := by kernel_rfl
theorem F4_ok (n : Nat) : EntOK prog G (F4e n) :=
  ent_ok (fr := frOf [F4_0z n]) (ann := (.nd .no (.nd .no (.nd .no (.nd .no (.nd .no (.nd .no (.nd .no (.nd (.nd .no (.nd (.use 0) .no)) .no))))))))) (frm := [(0, .fz)]) laws fnok (E55_ok n).tab (e := F4e n) (fn := Go.Proofs.Try.f4) (by kernel_rfl) (AllF.ofB (cd := F4c) (l := [(0, codeAt F4c [1, 1, 1, 1, 1, 1, 1, 0, 1, 0])]) (by kernel_rfl) (by kernel_rfl) (AllF.cons (F4_0_ok n) AllF.nil)) (F4_eq n)
noncomputable def E56 (n : Nat) : List (Ent G) := F4e n :: E55 n
theorem E56_ok (n : Nat) : AllE prog G (E56 n) := AllE.cons (F4_ok n) (E55_ok n)
-- 5 loop.example/slowworm/laws.FnDictNewHas
noncomputable def F5c : Code := bodyOf Go.Proofs.Try.f5
-- 27 loop.example/slowworm/impl.DictNew
noncomputable def F27c : Code := bodyOf Go.Proofs.Try.f27
-- 59 loop.example/slowworm/impl.emptySlots
noncomputable def F59c : Code := bodyOf Go.Proofs.Try.f59
noncomputable def F59_0x0 : SSh := ⟨17, [(3, (.own 0))], [(.arr 0 true)]⟩
noncomputable def F59_0s : SSh := ⟨17, [(3, (.own 0)), (8, (.int .i64)), (9, (.int .i64))], [(.arr 0 true)]⟩
noncomputable def F59_0_step {R : Type} (n : Nat) (k0 : List Int → Option R) (rec : Int → Int → List Int → Option R) (x1451 : Int) (x1452 : Int) (x1453 : List Int) : Option R :=
  (bif (decide (x1452 < x1451)) then
  (bif (decide ((0 : Int) ≤ x1452)) then
  (bif (decide (x1452 < ((x1453.length) : Int))) then
  (rec x1451 (IntKind.wrap .i64 (x1452 + (1 : Int))) (x1453.set (x1452.toNat) (-1 : Int)))
  else none)
  else none)
  else (k0 x1453))
noncomputable def F59_0_it {R : Type} (n : Nat) (k0 : List Int → Option R) : Nat → Int → Int → List Int → Option R
  | 0, _, _, _ => none
  | k + 1, x1451, x1452, x1453 => F59_0_step n k0 (F59_0_it n k0 k) x1451 x1452 x1453
noncomputable def F59_0 {R : Type} (n : Nat) (x1451 : Int) (x1452 : Int) (x1453 : List Int) (k0 : List Int → Option R) : Option R := F59_0_it n k0 n x1451 x1452 x1453
noncomputable def F59_0z (n : Nat) : Sm G := inZ G 0 ⟨[3, 8, 9], []⟩ F59_0s fun R x K => F59_0_it n (fun u0 => K (.exit 0) (SSh.enc G F59_0x0 (((), ()), (u0, ())))) n x.1.2.1 x.1.2.2.1 x.2.1
theorem F59_0_eq (n : Nat) (R : Type) (rec : SSh.den G F59_0s → Option R) (x : SSh.den G F59_0s) (K : AE → St G → Option R) :
  F59_0_step n (fun u0 => K (.exit 0) (SSh.enc G F59_0x0 (((), ()), (u0, ())))) (fun x1451 x1452 x1453 => rec (((), (x1451, (x1452, ()))), (x1453, ()))) x.1.2.1 x.1.2.2.1 x.2.1 = exec prog G (ro G (tabOf (E56 n)) (frOf []) R) 0 (codeAt F59c [1, 1, 0, 1, 0, 0]) .no (SSh.enc G F59_0s x) (kLoop G (ro G (tabOf (E56 n)) (frOf []) R) 0 ⟨[3, 8, 9], []⟩ F59_0s ⟨⟨[3], []⟩, ⟨[2], []⟩, [(0, ⟨[3], []⟩)]⟩ rec K) := by kernel_rfl
theorem F59_0_ok (n : Nat) : FragOK prog G 0 (codeAt F59c [1, 1, 0, 1, 0]) (F59_0z n) :=
  frag_loop (Z := fun R k (x : SSh.den G F59_0s) K => F59_0_it n (fun u0 => K (.exit 0) (SSh.enc G F59_0x0 (((), ()), (u0, ())))) k x.1.2.1 x.1.2.2.1 x.2.1) laws fnok (E56_ok n).tab (AllF.of (l := []) (by kernel_rfl) AllF.nil) (fun _ _ _ => rfl) (fun R k y K => F59_0_eq n R (fun (x : SSh.den G F59_0s) => F59_0_it n (fun u0 => K (.exit 0) (SSh.enc G F59_0x0 (((), ()), (u0, ())))) k x.1.2.1 x.1.2.2.1 x.2.1) y K) n
noncomputable def F59 (n : Nat) (a1448 : Int) : Option (Unit × (List Int × Unit)) :=
  (bif (decide ((0 : Int) ≤ a1448)) then
  (bif (decide (a1448 ≤ a1448)) then
  (bif (decide (a1448 ≤ ((68719476736 : Nat) : Int))) then
  let v1449 := (List.replicate (a1448.toNat) (0 : Int))
  (F59_0 n ((v1449.length) : Int) (0 : Int) v1449 (fun z1458 =>
  some ((), (z1458, ()))))
  else none)
  else none)
  else none)
noncomputable def F59e (n : Nat) : Ent G := ⟨59, (.cons (.int .i64) .nil), [], (.own 0), [(.arr 0 true)], fun x y => F59 n x.1⟩
theorem F59_eq (n : Nat) (x : ShL.den G (.cons (.int .i64) .nil)) (y : denO G []) : (F59e n).F x y = runFn prog G (ro G (tabOf (E56 n)) (frOf [F59_0z n]) _) Go.Proofs.Try.f59 (.nd .no (.nd .no (.nd (.nd .no (.nd (.use 0) .no)) .no))) [] (ShL.enc G (.cons (.int .i64) .nil) x) (encO G [] y) (decR (.own 0) [(.arr 0 true)]) := by kernel_rfl
theorem F59_ok (n : Nat) : EntOK prog G (F59e n) :=
  ent_ok (fr := frOf [F59_0z n]) (ann := (.nd .no (.nd .no (.nd (.nd .no (.nd (.use 0) .no)) .no)))) (frm := []) laws fnok (E56_ok n).tab (e := F59e n) (fn := Go.Proofs.Try.f59) (by kernel_rfl) (AllF.ofB (cd := F59c) (l := [(0, codeAt F59c [1, 1, 0, 1, 0])]) (by kernel_rfl) (by kernel_rfl) (AllF.cons (F59_0_ok n) AllF.nil)) (F59_eq n)
noncomputable def E57 (n : Nat) : List (Ent G) := F59e n :: E56 n
theorem E57_ok (n : Nat) : AllE prog G (E57 n) := AllE.cons (F59_ok n) (E56_ok n)
noncomputable def F27 (n : Nat)  : Option ((List Int × (Unit × Unit)) × Unit) :=
  (andThen (F59 n (8 : Int)) fun r1459 =>
  some ((r1459.2.1, ((), ())), ()))
noncomputable def F27e (n : Nat) : Ent G := ⟨27, .nil, [], (.agg (.cons (.imm 0) (.cons .nil0 .nil))), [], fun x y => F27 n⟩
theorem F27_eq (n : Nat) (x : ShL.den G .nil) (y : denO G []) : (F27e n).F x y = runFn prog G (ro G (tabOf (E57 n)) (frOf []) _) Go.Proofs.Try.f27 .no [(0, .fz)] (ShL.enc G .nil x) (encO G [] y) (decR (.agg (.cons (.imm 0) (.cons .nil0 .nil))) []) := by kernel_rfl
theorem F27_ok (n : Nat) : EntOK prog G (F27e n) :=
  ent_ok (fr := frOf []) (ann := .no) (frm := [(0, .fz)]) laws fnok (E57_ok n).tab (e := F27e n) (fn := Go.Proofs.Try.f27) (by kernel_rfl) (AllF.ofB (cd := F27c) (l := []) (by kernel_rfl) (by kernel_rfl) AllF.nil) (F27_eq n)
noncomputable def E58 (n : Nat) : List (Ent G) := F27e n :: E57 n
theorem E58_ok (n : Nat) : AllE prog G (E58 n) := AllE.cons (F27_ok n) (E57_ok n)
-- 30 loop.example/slowworm/spec.SameDict
noncomputable def F30c : Code := bodyOf Go.Proofs.Try.f30
-- 63 loop.example/slowworm/spec.sameEntries
noncomputable def F63c : Code := bodyOf Go.Proofs.Try.f63
noncomputable def F63_0x0 : SSh := ⟨26, [(4, .bool)], []⟩
noncomputable def F63_0x1 : SSh := ⟨26, [], []⟩
noncomputable def F63_0s : SSh := ⟨26, [(0, (.imm 3)), (1, (.imm 3)), (5, (.int .i64))], []⟩
noncomputable def F63_0_step {R : Type} (n : Nat) (k0 : Bool → Option R) (k1 : Option R) (rec : List Ety → List Ety → Int → Option R) (x1475 : List Ety) (x1476 : List Ety) (x1477 : Int) : Option R :=
  (bif (decide (x1477 < ((x1475.length) : Int))) then
  (bif (decide ((0 : Int) ≤ x1477)) then
  (bif (decide (x1477 < ((x1475.length) : Int))) then
  let v1480 := (x1475.getD (x1477.toNat) (Ety.mk ({ data := #[] } : ByteArray) (0 : Int) (0 : Int) false))
  (bif (decide ((0 : Int) ≤ x1477)) then
  (bif (decide (x1477 < ((x1476.length) : Int))) then
  let v1485 := (x1476.getD (x1477.toNat) (Ety.mk ({ data := #[] } : ByteArray) (0 : Int) (0 : Int) false))
  (bif (!((v1480.key == v1485.key) && ((v1480.hash == v1485.hash) && ((v1480.val == v1485.val) && (v1480.live == v1485.live))))) then
  (k0 false)
  else (rec x1475 x1476 (IntKind.wrap .i64 (x1477 + (1 : Int)))))
  else none)
  else none)
  else none)
  else none)
  else k1)
noncomputable def F63_0_it {R : Type} (n : Nat) (k0 : Bool → Option R) (k1 : Option R) : Nat → List Ety → List Ety → Int → Option R
  | 0, _, _, _ => none
  | k + 1, x1475, x1476, x1477 => F63_0_step n k0 k1 (F63_0_it n k0 k1 k) x1475 x1476 x1477
noncomputable def F63_0 {R : Type} (n : Nat) (x1475 : List Ety) (x1476 : List Ety) (x1477 : Int) (k0 : Bool → Option R) (k1 : Option R) : Option R := F63_0_it n k0 k1 n x1475 x1476 x1477
noncomputable def F63_0z (n : Nat) : Sm G := inZ G 0 ⟨[0, 1, 5], []⟩ F63_0s fun R x K => F63_0_it n (fun u0 => K .ret (SSh.enc G F63_0x0 ((u0, ()), ()))) (K (.exit 0) (SSh.enc G F63_0x1 ((), ()))) n x.1.1 x.1.2.1 x.1.2.2.1
theorem F63_0_eq (n : Nat) (R : Type) (rec : SSh.den G F63_0s → Option R) (x : SSh.den G F63_0s) (K : AE → St G → Option R) :
  F63_0_step n (fun u0 => K .ret (SSh.enc G F63_0x0 ((u0, ()), ()))) (K (.exit 0) (SSh.enc G F63_0x1 ((), ()))) (fun x1475 x1476 x1477 => rec ((x1475, (x1476, (x1477, ()))), ())) x.1.1 x.1.2.1 x.1.2.2.1 = exec prog G (ro G (tabOf (E58 n)) (frOf []) R) 0 (codeAt F63c [1, 1, 0, 1, 0, 0]) .no (SSh.enc G F63_0s x) (kLoop G (ro G (tabOf (E58 n)) (frOf []) R) 0 ⟨[0, 1, 5], []⟩ F63_0s ⟨⟨[], []⟩, ⟨[4], []⟩, [(0, ⟨[], []⟩)]⟩ rec K) := by kernel_rfl
theorem F63_0_ok (n : Nat) : FragOK prog G 0 (codeAt F63c [1, 1, 0, 1, 0]) (F63_0z n) :=
  frag_loop (Z := fun R k (x : SSh.den G F63_0s) K => F63_0_it n (fun u0 => K .ret (SSh.enc G F63_0x0 ((u0, ()), ()))) (K (.exit 0) (SSh.enc G F63_0x1 ((), ()))) k x.1.1 x.1.2.1 x.1.2.2.1) laws fnok (E58_ok n).tab (AllF.of (l := []) (by kernel_rfl) AllF.nil) (fun _ _ _ => rfl) (fun R k y K => F63_0_eq n R (fun (x : SSh.den G F63_0s) => F63_0_it n (fun u0 => K .ret (SSh.enc G F63_0x0 ((u0, ()), ()))) (K (.exit 0) (SSh.enc G F63_0x1 ((), ()))) k x.1.1 x.1.2.1 x.1.2.2.1) y K) n
noncomputable def F63 (n : Nat) (a1470 : List Ety) (a1471 : List Ety) : Option (Bool × Unit) :=
  (bif (((a1470.length) : Int) != ((a1471.length) : Int)) then
  some (false, ())
  else (F63_0 n a1470 a1471 (0 : Int) (fun z1492 =>
  some (z1492, ())) (
  some (true, ()))))
noncomputable def F63e (n : Nat) : Ent G := ⟨63, (.cons (.imm 3) (.cons (.imm 3) .nil)), [], .bool, [], fun x y => F63 n x.1 x.2.1⟩
theorem F63_eq (n : Nat) (x : ShL.den G (.cons (.imm 3) (.cons (.imm 3) .nil))) (y : denO G []) : (F63e n).F x y = runFn prog G (ro G (tabOf (E58 n)) (frOf [F63_0z n]) _) Go.Proofs.Try.f63 (.nd .no (.nd .no (.nd (.nd .no (.nd (.use 0) .no)) .no))) [(0, .fz)] (ShL.enc G (.cons (.imm 3) (.cons (.imm 3) .nil)) x) (encO G [] y) (decR .bool []) := by kernel_rfl
theorem F63_ok (n : Nat) : EntOK prog G (F63e n) :=
  ent_ok (fr := frOf [F63_0z n]) (ann := (.nd .no (.nd .no (.nd (.nd .no (.nd (.use 0) .no)) .no)))) (frm := [(0, .fz)]) laws fnok (E58_ok n).tab (e := F63e n) (fn := Go.Proofs.Try.f63) (by kernel_rfl) (AllF.ofB (cd := F63c) (l := [(0, codeAt F63c [1, 1, 0, 1, 0])]) (by kernel_rfl) (by kernel_rfl) (AllF.cons (F63_0_ok n) AllF.nil)) (F63_eq n)
noncomputable def E59 (n : Nat) : List (Ent G) := F63e n :: E58 n
theorem E59_ok (n : Nat) : AllE prog G (E59 n) := AllE.cons (F63_ok n) (E58_ok n)
noncomputable def F30 (n : Nat) (a1465 : List Int) (a1466 : List Ety) (a1467 : List Int) (a1468 : List Ety) : Option (Bool × Unit) :=
  (andThen (F55 n a1465 a1467) fun r1469 =>
  (bif r1469.1 then
  (andThen (F63 n a1466 a1468) fun r1493 =>
  some (r1493.1, ()))
  else some (false, ())))
noncomputable def F30e (n : Nat) : Ent G := ⟨30, (.cons (.agg (.cons (.imm 0) (.cons (.imm 3) .nil))) (.cons (.agg (.cons (.imm 0) (.cons (.imm 3) .nil))) .nil)), [], .bool, [], fun x y => F30 n x.1.1 x.1.2.1 x.2.1.1 x.2.1.2.1⟩
theorem F30_eq (n : Nat) (x : ShL.den G (.cons (.agg (.cons (.imm 0) (.cons (.imm 3) .nil))) (.cons (.agg (.cons (.imm 0) (.cons (.imm 3) .nil))) .nil))) (y : denO G []) : (F30e n).F x y = runFn prog G (ro G (tabOf (E59 n)) (frOf []) _) Go.Proofs.Try.f30 .no [(0, .fz)] (ShL.enc G (.cons (.agg (.cons (.imm 0) (.cons (.imm 3) .nil))) (.cons (.agg (.cons (.imm 0) (.cons (.imm 3) .nil))) .nil)) x) (encO G [] y) (decR .bool []) := by kernel_rfl
theorem F30_ok (n : Nat) : EntOK prog G (F30e n) :=
  ent_ok (fr := frOf []) (ann := .no) (frm := [(0, .fz)]) laws fnok (E59_ok n).tab (e := F30e n) (fn := Go.Proofs.Try.f30) (by kernel_rfl) (AllF.ofB (cd := F30c) (l := []) (by kernel_rfl) (by kernel_rfl) AllF.nil) (F30_eq n)
noncomputable def E60 (n : Nat) : List (Ent G) := F30e n :: E59 n
theorem E60_ok (n : Nat) : AllE prog G (E60 n) := AllE.cons (F30_ok n) (E59_ok n)
noncomputable def F5 (n : Nat) (a1445 : List Int) : Option (Bool × Unit) :=
  (bif (decide (((a1445.length) : Int) > (1048576 : Int))) then
  some (true, ())
  else (andThen (F27 n) fun r1460 =>
  (andThen (F28 n a1445) fun r1461 =>
  (andThen (F20 n r1460.1.1 [] r1461.1.2.1) fun r1462 =>
  (andThen (F29 n r1460.1.1 []) fun r1463 =>
  (bif r1463.1 then
  (andThen (F31 n) fun r1464 =>
  (andThen (F30 n r1460.1.1 [] r1464.2.1 r1464.2.2.1) fun r1494 =>
  (bif r1494.1 then
  (bif (!r1462.1.2.1) then
  (andThen (F23 n r1460.1.1 []) fun r1496 =>
  some ((((r1496.2.1.length) : Int) == (0 : Int)), ()))
  else some (false, ()))
  else some (false, ()))))
  else some (false, ())))))))
noncomputable def F5e (n : Nat) : Ent G := ⟨5, (.cons (.imm 1) .nil), [], .bool, [], fun x y => F5 n x.1⟩
theorem F5_eq (n : Nat) (x : ShL.den G (.cons (.imm 1) .nil)) (y : denO G []) : (F5e n).F x y = runFn prog G (ro G (tabOf (E60 n)) (frOf []) _) Go.Proofs.Try.f5 .no [(0, .fz)] (ShL.enc G (.cons (.imm 1) .nil) x) (encO G [] y) (decR .bool []) := by kernel_rfl
theorem F5_ok (n : Nat) : EntOK prog G (F5e n) :=
  ent_ok (fr := frOf []) (ann := .no) (frm := [(0, .fz)]) laws fnok (E60_ok n).tab (e := F5e n) (fn := Go.Proofs.Try.f5) (by kernel_rfl) (AllF.ofB (cd := F5c) (l := []) (by kernel_rfl) (by kernel_rfl) AllF.nil) (F5_eq n)
noncomputable def E61 (n : Nat) : List (Ent G) := F5e n :: E60 n
theorem E61_ok (n : Nat) : AllE prog G (E61 n) := AllE.cons (F5_ok n) (E60_ok n)
-- 6 loop.example/slowworm/laws.FnDictSame
noncomputable def F6c : Code := bodyOf Go.Proofs.Try.f6
-- 32 loop.example/slowworm/spec.DrawDictSame
noncomputable def F32c : Code := bodyOf Go.Proofs.Try.f32
-- 41 loop.example/slowworm/spec.DictPack
noncomputable def F41c : Code := bodyOf Go.Proofs.Try.f41
noncomputable def F41 (n : Nat) (a1514 : List Int) (a1515 : List Ety) : Option ((List Int × (List Ety × Unit)) × Unit) :=
  (andThen (F52 n a1514 a1515) fun r1516 =>
  (bif (!r1516.1) then
  some (([], ([], ())), ())
  else (andThen (F66 n a1514 a1515) fun r1518 =>
  (andThen (F71 n r1518.1) fun r1519 =>
  (andThen (F70 n a1514 a1515 r1519.1) fun r1520 =>
  some ((r1520.2.1, (r1520.2.2.1, ())), ()))))))
noncomputable def F41e (n : Nat) : Ent G := ⟨41, (.cons (.agg (.cons (.imm 0) (.cons (.imm 3) .nil))) .nil), [], (.agg (.cons (.imm 0) (.cons (.imm 3) .nil))), [], fun x y => F41 n x.1.1 x.1.2.1⟩
theorem F41_eq (n : Nat) (x : ShL.den G (.cons (.agg (.cons (.imm 0) (.cons (.imm 3) .nil))) .nil)) (y : denO G []) : (F41e n).F x y = runFn prog G (ro G (tabOf (E61 n)) (frOf []) _) Go.Proofs.Try.f41 .no [(0, .fz)] (ShL.enc G (.cons (.agg (.cons (.imm 0) (.cons (.imm 3) .nil))) .nil) x) (encO G [] y) (decR (.agg (.cons (.imm 0) (.cons (.imm 3) .nil))) []) := by kernel_rfl
theorem F41_ok (n : Nat) : EntOK prog G (F41e n) :=
  ent_ok (fr := frOf []) (ann := .no) (frm := [(0, .fz)]) laws fnok (E61_ok n).tab (e := F41e n) (fn := Go.Proofs.Try.f41) (by kernel_rfl) (AllF.ofB (cd := F41c) (l := []) (by kernel_rfl) (by kernel_rfl) AllF.nil) (F41_eq n)
noncomputable def E62 (n : Nat) : List (Ent G) := F41e n :: E61 n
theorem E62_ok (n : Nat) : AllE prog G (E62 n) := AllE.cons (F41_ok n) (E61_ok n)
noncomputable def F32 (n : Nat) (a1502 : List Int) : Option (((List Int × (List Ety × Unit)) × ((List Int × (List Ety × Unit)) × Unit)) × Unit) :=
  (andThen (F48 n a1502) fun r1503 =>
  (andThen (F49 n r1503.2.1.1 r1503.2.1.2.1) fun r1504 =>
  (andThen (F65 n (2 : Int) r1504.2.1.1 r1504.2.1.2.1) fun r1505 =>
  (bif (r1505.1 == (0 : Int)) then
  (andThen (F41 n r1504.1.1 r1504.1.2.1) fun r1521 =>
  some (((r1504.1.1, (r1504.1.2.1, ())), ((r1521.1.1, (r1521.1.2.1, ())), ())), ()))
  else (andThen (F49 n r1505.2.1.1 r1505.2.1.2.1) fun r1522 =>
  some (((r1504.1.1, (r1504.1.2.1, ())), ((r1522.1.1, (r1522.1.2.1, ())), ())), ()))))))
noncomputable def F32e (n : Nat) : Ent G := ⟨32, (.cons (.imm 1) .nil), [], (.tup (.cons (.agg (.cons (.imm 0) (.cons (.imm 3) .nil))) (.cons (.agg (.cons (.imm 0) (.cons (.imm 3) .nil))) .nil))), [], fun x y => F32 n x.1⟩
theorem F32_eq (n : Nat) (x : ShL.den G (.cons (.imm 1) .nil)) (y : denO G []) : (F32e n).F x y = runFn prog G (ro G (tabOf (E62 n)) (frOf []) _) Go.Proofs.Try.f32 .no [(0, .fz), (1, .fz)] (ShL.enc G (.cons (.imm 1) .nil) x) (encO G [] y) (decR (.tup (.cons (.agg (.cons (.imm 0) (.cons (.imm 3) .nil))) (.cons (.agg (.cons (.imm 0) (.cons (.imm 3) .nil))) .nil))) []) := by kernel_rfl
theorem F32_ok (n : Nat) : EntOK prog G (F32e n) :=
  ent_ok (fr := frOf []) (ann := .no) (frm := [(0, .fz), (1, .fz)]) laws fnok (E62_ok n).tab (e := F32e n) (fn := Go.Proofs.Try.f32) (by kernel_rfl) (AllF.ofB (cd := F32c) (l := []) (by kernel_rfl) (by kernel_rfl) AllF.nil) (F32_eq n)
noncomputable def E63 (n : Nat) : List (Ent G) := F32e n :: E62 n
theorem E63_ok (n : Nat) : AllE prog G (E63 n) := AllE.cons (F32_ok n) (E62_ok n)
-- 33 loop.example/slowworm/impl.DictSame
noncomputable def F33c : Code := bodyOf Go.Proofs.Try.f33
noncomputable def F33_0x0 : SSh := ⟨51, [(3, (.ptr 0 0)), (24, (.imm 3)), (25, (.int .i64)), (26, (.int .i64))], [(.box 26 (.cons (.imm 0) (.cons (.imm 3) .nil)))]⟩
noncomputable def F33_0x1 : SSh := ⟨51, [(4, .bool)], []⟩
noncomputable def F33_0s : SSh := ⟨51, [(3, (.ptr 0 0)), (24, (.imm 3)), (25, (.int .i64)), (26, (.int .i64))], [(.box 26 (.cons (.imm 0) (.cons (.imm 3) .nil)))]⟩
noncomputable def F33_0 {R : Type} (n : Nat) (x1542 : List Ety) (x1543 : Int) (x1544 : Int) (x1545 : List Int) (x1546 : List Ety) (k0 : List Ety → Int → Int → List Int → List Ety → Option R) (k1 : Bool → Option R) : Option R :=
  (bif (decide ((0 : Int) ≤ x1544)) then
  (bif (decide (x1544 < ((x1542.length) : Int))) then
  let v1547 := (x1542.getD (x1544.toNat) (Ety.mk ({ data := #[] } : ByteArray) (0 : Int) (0 : Int) false))
  (bif (!v1547.live) then
  (k0 x1542 x1543 x1544 x1545 x1546)
  else (andThen (F56 n x1545 x1546 v1547.key) fun r1553 =>
  (bif (decide (r1553.1 < (0 : Int))) then
  (k1 false)
  else (bif (decide ((0 : Int) ≤ r1553.1)) then
  (bif (decide (r1553.1 < ((x1546.length) : Int))) then
  (bif ((x1546.getD (r1553.1.toNat) (Ety.mk ({ data := #[] } : ByteArray) (0 : Int) (0 : Int) false)).val != v1547.val) then
  (k1 false)
  else (k0 x1542 x1543 x1544 x1545 x1546))
  else none)
  else none))))
  else none)
  else none)
noncomputable def F33_0z (n : Nat) : Sm G := inZ G 0 ⟨[3, 24, 25, 26], []⟩ F33_0s fun R x K => F33_0 n x.1.2.1 x.1.2.2.1 x.1.2.2.2.1 x.2.1.1 x.2.1.2.1 (fun u0 u1 u2 u3 u4 => K .normal (SSh.enc G F33_0x0 (((), (u0, (u1, (u2, ())))), ((u3, (u4, ())), ())))) (fun u0 => K .ret (SSh.enc G F33_0x1 ((u0, ()), ())))
theorem F33_0_eq (n : Nat) (R : Type) (x : SSh.den G F33_0s) (K : AE → St G → Option R) :
  F33_0 n x.1.2.1 x.1.2.2.1 x.1.2.2.2.1 x.2.1.1 x.2.1.2.1 (fun u0 u1 u2 u3 u4 => K .normal (SSh.enc G F33_0x0 (((), (u0, (u1, (u2, ())))), ((u3, (u4, ())), ())))) (fun u0 => K .ret (SSh.enc G F33_0x1 ((u0, ()), ()))) = exec prog G (ro G (tabOf (E63 n)) (frOf []) R) 0 (codeAt F33c [1, 1, 0, 1, 0, 0, 1, 1, 0]) .no (SSh.enc G F33_0s x) (kNrm G (ro G (tabOf (E63 n)) (frOf []) R) 0 ⟨⟨[3, 24, 25, 26], []⟩, ⟨[4], []⟩, [(0, ⟨[], []⟩)]⟩ K) := by kernel_rfl
theorem F33_0_ok (n : Nat) : FragOK prog G 0 (codeAt F33c [1, 1, 0, 1, 0, 0, 1, 1, 0]) (F33_0z n) :=
  frag_plain laws fnok (E63_ok n).tab (AllF.of (l := []) (by kernel_rfl) AllF.nil) (F33_0_eq n)
noncomputable def F33_1x0 : SSh := ⟨51, [(4, .bool)], []⟩
noncomputable def F33_1x1 : SSh := ⟨51, [], []⟩
noncomputable def F33_1s : SSh := ⟨51, [(3, (.ptr 0 0)), (24, (.imm 3)), (25, (.int .i64)), (26, (.int .i64))], [(.box 26 (.cons (.imm 0) (.cons (.imm 3) .nil)))]⟩
noncomputable def F33_1_step {R : Type} (n : Nat) (k0 : Bool → Option R) (k1 : Option R) (rec : List Ety → Int → Int → List Int → List Ety → Option R) (x1536 : List Ety) (x1537 : Int) (x1538 : Int) (x1539 : List Int) (x1540 : List Ety) : Option R :=
  (bif (decide (x1538 < x1537)) then
  (F33_0 n x1536 x1537 x1538 x1539 x1540 (fun z1558 z1559 z1560 z1561 z1562 =>
  (rec z1558 z1559 (IntKind.wrap .i64 (z1560 + (1 : Int))) z1561 z1562)) (fun z1564 =>
  (k0 z1564)))
  else k1)
noncomputable def F33_1_it {R : Type} (n : Nat) (k0 : Bool → Option R) (k1 : Option R) : Nat → List Ety → Int → Int → List Int → List Ety → Option R
  | 0, _, _, _, _, _ => none
  | k + 1, x1536, x1537, x1538, x1539, x1540 => F33_1_step n k0 k1 (F33_1_it n k0 k1 k) x1536 x1537 x1538 x1539 x1540
noncomputable def F33_1 {R : Type} (n : Nat) (x1536 : List Ety) (x1537 : Int) (x1538 : Int) (x1539 : List Int) (x1540 : List Ety) (k0 : Bool → Option R) (k1 : Option R) : Option R := F33_1_it n k0 k1 n x1536 x1537 x1538 x1539 x1540
noncomputable def F33_1z (n : Nat) : Sm G := inZ G 0 ⟨[3, 24, 25, 26], []⟩ F33_1s fun R x K => F33_1_it n (fun u0 => K .ret (SSh.enc G F33_1x0 ((u0, ()), ()))) (K (.exit 0) (SSh.enc G F33_1x1 ((), ()))) n x.1.2.1 x.1.2.2.1 x.1.2.2.2.1 x.2.1.1 x.2.1.2.1
theorem F33_1_eq (n : Nat) (R : Type) (rec : SSh.den G F33_1s → Option R) (x : SSh.den G F33_1s) (K : AE → St G → Option R) :
  F33_1_step n (fun u0 => K .ret (SSh.enc G F33_1x0 ((u0, ()), ()))) (K (.exit 0) (SSh.enc G F33_1x1 ((), ()))) (fun x1536 x1537 x1538 x1539 x1540 => rec (((), (x1536, (x1537, (x1538, ())))), ((x1539, (x1540, ())), ()))) x.1.2.1 x.1.2.2.1 x.1.2.2.2.1 x.2.1.1 x.2.1.2.1 = exec prog G (ro G (tabOf (E63 n)) (frOf [F33_0z n]) R) 0 (codeAt F33c [1, 1, 0, 1, 0, 0]) (.nd .no (.nd .no (.nd (.use 0) .no))) (SSh.enc G F33_1s x) (kLoop G (ro G (tabOf (E63 n)) (frOf [F33_0z n]) R) 0 ⟨[3, 24, 25, 26], []⟩ F33_1s ⟨⟨[], []⟩, ⟨[4], []⟩, [(0, ⟨[], []⟩)]⟩ rec K) := by kernel_rfl
theorem F33_1_ok (n : Nat) : FragOK prog G 0 (codeAt F33c [1, 1, 0, 1, 0]) (F33_1z n) :=
  frag_loop (Z := fun R k (x : SSh.den G F33_1s) K => F33_1_it n (fun u0 => K .ret (SSh.enc G F33_1x0 ((u0, ()), ()))) (K (.exit 0) (SSh.enc G F33_1x1 ((), ()))) k x.1.2.1 x.1.2.2.1 x.1.2.2.2.1 x.2.1.1 x.2.1.2.1) laws fnok (E63_ok n).tab (AllF.of (l := [(0, codeAt F33c [1, 1, 0, 1, 0, 0, 1, 1, 0])]) (by kernel_rfl) (AllF.cons (F33_0_ok n) AllF.nil)) (fun _ _ _ => rfl) (fun R k y K => F33_1_eq n R (fun (x : SSh.den G F33_1s) => F33_1_it n (fun u0 => K .ret (SSh.enc G F33_1x0 ((u0, ()), ()))) (K (.exit 0) (SSh.enc G F33_1x1 ((), ()))) k x.1.2.1 x.1.2.2.1 x.1.2.2.2.1 x.2.1.1 x.2.1.2.1) y K) n
noncomputable def F33 (n : Nat) (a1524 : List Int) (a1525 : List Ety) (a1526 : List Int) (a1527 : List Ety) : Option (Bool × Unit) :=
  (andThen (F29 n a1524 a1525) fun r1528 =>
  (bif (!r1528.1) then
  some (false, ())
  else (andThen (F29 n a1526 a1527) fun r1530 =>
  (bif (!r1530.1) then
  some (false, ())
  else (andThen (F61 n a1524 a1525) fun r1532 =>
  (andThen (F61 n a1526 a1527) fun r1533 =>
  (bif (r1532.1 != r1533.1) then
  some (false, ())
  else (F33_1 n a1525 ((a1525.length) : Int) (0 : Int) a1526 a1527 (fun z1565 =>
  some (z1565, ())) (
  some (true, ()))))))))))
noncomputable def F33e (n : Nat) : Ent G := ⟨33, (.cons (.agg (.cons (.imm 0) (.cons (.imm 3) .nil))) (.cons (.agg (.cons (.imm 0) (.cons (.imm 3) .nil))) .nil)), [], .bool, [], fun x y => F33 n x.1.1 x.1.2.1 x.2.1.1 x.2.1.2.1⟩
theorem F33_eq (n : Nat) (x : ShL.den G (.cons (.agg (.cons (.imm 0) (.cons (.imm 3) .nil))) (.cons (.agg (.cons (.imm 0) (.cons (.imm 3) .nil))) .nil))) (y : denO G []) : (F33e n).F x y = runFn prog G (ro G (tabOf (E63 n)) (frOf [F33_0z n, F33_1z n]) _) Go.Proofs.Try.f33 (.nd .no (.nd .no (.nd (.nd .no (.nd (.use 1) .no)) .no))) [(0, .fz)] (ShL.enc G (.cons (.agg (.cons (.imm 0) (.cons (.imm 3) .nil))) (.cons (.agg (.cons (.imm 0) (.cons (.imm 3) .nil))) .nil)) x) (encO G [] y) (decR .bool []) := by kernel_rfl
theorem F33_ok (n : Nat) : EntOK prog G (F33e n) :=
  ent_ok (fr := frOf [F33_0z n, F33_1z n]) (ann := (.nd .no (.nd .no (.nd (.nd .no (.nd (.use 1) .no)) .no)))) (frm := [(0, .fz)]) laws fnok (E63_ok n).tab (e := F33e n) (fn := Go.Proofs.Try.f33) (by kernel_rfl) (AllF.ofB (cd := F33c) (l := [(1, codeAt F33c [1, 1, 0, 1, 0])]) (by kernel_rfl) (by kernel_rfl) (AllF.cons (F33_1_ok n) AllF.nil)) (F33_eq n)
noncomputable def E64 (n : Nat) : List (Ent G) := F33e n :: E63 n
theorem E64_ok (n : Nat) : AllE prog G (E64 n) := AllE.cons (F33_ok n) (E63_ok n)
-- 34 loop.example/slowworm/spec.DictSame
noncomputable def F34c : Code := bodyOf Go.Proofs.Try.f34
noncomputable def F34_0x0 : SSh := ⟨59, [(2, (.ptr 0 0)), (3, (.ptr 1 0)), (5, (.int .i64))], [(.box 26 (.cons (.imm 0) (.cons (.imm 3) .nil))), (.box 26 (.cons (.imm 0) (.cons (.imm 3) .nil)))]⟩
noncomputable def F34_0x1 : SSh := ⟨59, [(4, .bool)], []⟩
noncomputable def F34_0s : SSh := ⟨59, [(2, (.ptr 0 0)), (3, (.ptr 1 0)), (5, (.int .i64))], [(.box 26 (.cons (.imm 0) (.cons (.imm 3) .nil))), (.box 26 (.cons (.imm 0) (.cons (.imm 3) .nil)))]⟩
noncomputable def F34_0 {R : Type} (n : Nat) (x1585 : Int) (x1586 : List Int) (x1587 : List Ety) (x1588 : List Int) (x1589 : List Ety) (k0 : Int → List Int → List Ety → List Int → List Ety → Option R) (k1 : Bool → Option R) : Option R :=
  (bif (decide ((0 : Int) ≤ x1585)) then
  (bif (decide (x1585 < ((x1587.length) : Int))) then
  let v1590 := (x1587.getD (x1585.toNat) (Ety.mk ({ data := #[] } : ByteArray) (0 : Int) (0 : Int) false))
  (bif (!v1590.live) then
  (k0 x1585 x1586 x1587 x1588 x1589)
  else (andThen (F67 n x1588 x1589 v1590.key) fun r1596 =>
  (bif (decide ((0 : Int) ≤ r1596.1)) then
  (bif (decide (r1596.1 < ((x1588.length) : Int))) then
  let v1598 := (x1588.getD (r1596.1.toNat) (0 : Int))
  (bif (decide (v1598 < (0 : Int))) then
  (k1 false)
  else (bif (decide ((0 : Int) ≤ v1598)) then
  (bif (decide (v1598 < ((x1589.length) : Int))) then
  (bif ((x1589.getD (v1598.toNat) (Ety.mk ({ data := #[] } : ByteArray) (0 : Int) (0 : Int) false)).val != v1590.val) then
  (k1 false)
  else (k0 x1585 x1586 x1587 x1588 x1589))
  else none)
  else none))
  else none)
  else none)))
  else none)
  else none)
noncomputable def F34_0z (n : Nat) : Sm G := inZ G 0 ⟨[2, 3, 5], []⟩ F34_0s fun R x K => F34_0 n x.1.2.2.1 x.2.1.1 x.2.1.2.1 x.2.2.1.1 x.2.2.1.2.1 (fun u0 u1 u2 u3 u4 => K .normal (SSh.enc G F34_0x0 (((), ((), (u0, ()))), ((u1, (u2, ())), ((u3, (u4, ())), ()))))) (fun u0 => K .ret (SSh.enc G F34_0x1 ((u0, ()), ())))
theorem F34_0_eq (n : Nat) (R : Type) (x : SSh.den G F34_0s) (K : AE → St G → Option R) :
  F34_0 n x.1.2.2.1 x.2.1.1 x.2.1.2.1 x.2.2.1.1 x.2.2.1.2.1 (fun u0 u1 u2 u3 u4 => K .normal (SSh.enc G F34_0x0 (((), ((), (u0, ()))), ((u1, (u2, ())), ((u3, (u4, ())), ()))))) (fun u0 => K .ret (SSh.enc G F34_0x1 ((u0, ()), ()))) = exec prog G (ro G (tabOf (E64 n)) (frOf []) R) 0 (codeAt F34c [1, 1, 0, 1, 0, 0, 1, 0]) .no (SSh.enc G F34_0s x) (kNrm G (ro G (tabOf (E64 n)) (frOf []) R) 0 ⟨⟨[2, 3, 5], []⟩, ⟨[4], []⟩, [(0, ⟨[], []⟩)]⟩ K) := by kernel_rfl
theorem F34_0_ok (n : Nat) : FragOK prog G 0 (codeAt F34c [1, 1, 0, 1, 0, 0, 1, 0]) (F34_0z n) :=
  frag_plain laws fnok (E64_ok n).tab (AllF.of (l := []) (by kernel_rfl) AllF.nil) (F34_0_eq n)
noncomputable def F34_1x0 : SSh := ⟨59, [(4, .bool)], []⟩
noncomputable def F34_1x1 : SSh := ⟨59, [], []⟩
noncomputable def F34_1s : SSh := ⟨59, [(2, (.ptr 0 0)), (3, (.ptr 1 0)), (5, (.int .i64))], [(.box 26 (.cons (.imm 0) (.cons (.imm 3) .nil))), (.box 26 (.cons (.imm 0) (.cons (.imm 3) .nil)))]⟩
noncomputable def F34_1_step {R : Type} (n : Nat) (k0 : Bool → Option R) (k1 : Option R) (rec : Int → List Int → List Ety → List Int → List Ety → Option R) (x1578 : Int) (x1579 : List Int) (x1580 : List Ety) (x1581 : List Int) (x1582 : List Ety) : Option R :=
  (bif (decide (x1578 < ((x1580.length) : Int))) then
  (F34_0 n x1578 x1579 x1580 x1581 x1582 (fun z1603 z1604 z1605 z1606 z1607 =>
  (rec (IntKind.wrap .i64 (z1603 + (1 : Int))) z1604 z1605 z1606 z1607)) (fun z1609 =>
  (k0 z1609)))
  else k1)
noncomputable def F34_1_it {R : Type} (n : Nat) (k0 : Bool → Option R) (k1 : Option R) : Nat → Int → List Int → List Ety → List Int → List Ety → Option R
  | 0, _, _, _, _, _ => none
  | k + 1, x1578, x1579, x1580, x1581, x1582 => F34_1_step n k0 k1 (F34_1_it n k0 k1 k) x1578 x1579 x1580 x1581 x1582
noncomputable def F34_1 {R : Type} (n : Nat) (x1578 : Int) (x1579 : List Int) (x1580 : List Ety) (x1581 : List Int) (x1582 : List Ety) (k0 : Bool → Option R) (k1 : Option R) : Option R := F34_1_it n k0 k1 n x1578 x1579 x1580 x1581 x1582
noncomputable def F34_1z (n : Nat) : Sm G := inZ G 0 ⟨[2, 3, 5], []⟩ F34_1s fun R x K => F34_1_it n (fun u0 => K .ret (SSh.enc G F34_1x0 ((u0, ()), ()))) (K (.exit 0) (SSh.enc G F34_1x1 ((), ()))) n x.1.2.2.1 x.2.1.1 x.2.1.2.1 x.2.2.1.1 x.2.2.1.2.1
theorem F34_1_eq (n : Nat) (R : Type) (rec : SSh.den G F34_1s → Option R) (x : SSh.den G F34_1s) (K : AE → St G → Option R) :
  F34_1_step n (fun u0 => K .ret (SSh.enc G F34_1x0 ((u0, ()), ()))) (K (.exit 0) (SSh.enc G F34_1x1 ((), ()))) (fun x1578 x1579 x1580 x1581 x1582 => rec (((), ((), (x1578, ()))), ((x1579, (x1580, ())), ((x1581, (x1582, ())), ())))) x.1.2.2.1 x.2.1.1 x.2.1.2.1 x.2.2.1.1 x.2.2.1.2.1 = exec prog G (ro G (tabOf (E64 n)) (frOf [F34_0z n]) R) 0 (codeAt F34c [1, 1, 0, 1, 0, 0]) (.nd .no (.nd (.use 0) .no)) (SSh.enc G F34_1s x) (kLoop G (ro G (tabOf (E64 n)) (frOf [F34_0z n]) R) 0 ⟨[2, 3, 5], []⟩ F34_1s ⟨⟨[], []⟩, ⟨[4], []⟩, [(0, ⟨[], []⟩)]⟩ rec K) := by kernel_rfl
theorem F34_1_ok (n : Nat) : FragOK prog G 0 (codeAt F34c [1, 1, 0, 1, 0]) (F34_1z n) :=
  frag_loop (Z := fun R k (x : SSh.den G F34_1s) K => F34_1_it n (fun u0 => K .ret (SSh.enc G F34_1x0 ((u0, ()), ()))) (K (.exit 0) (SSh.enc G F34_1x1 ((), ()))) k x.1.2.2.1 x.2.1.1 x.2.1.2.1 x.2.2.1.1 x.2.2.1.2.1) laws fnok (E64_ok n).tab (AllF.of (l := [(0, codeAt F34c [1, 1, 0, 1, 0, 0, 1, 0])]) (by kernel_rfl) (AllF.cons (F34_0_ok n) AllF.nil)) (fun _ _ _ => rfl) (fun R k y K => F34_1_eq n R (fun (x : SSh.den G F34_1s) => F34_1_it n (fun u0 => K .ret (SSh.enc G F34_1x0 ((u0, ()), ()))) (K (.exit 0) (SSh.enc G F34_1x1 ((), ()))) k x.1.2.2.1 x.2.1.1 x.2.1.2.1 x.2.2.1.1 x.2.2.1.2.1) y K) n
noncomputable def F34 (n : Nat) (a1567 : List Int) (a1568 : List Ety) (a1569 : List Int) (a1570 : List Ety) : Option (Bool × Unit) :=
  (andThen (F52 n a1567 a1568) fun r1571 =>
  (bif (!r1571.1) then
  some (false, ())
  else (andThen (F52 n a1569 a1570) fun r1573 =>
  (bif (!r1573.1) then
  some (false, ())
  else (andThen (F66 n a1567 a1568) fun r1575 =>
  (andThen (F66 n a1569 a1570) fun r1576 =>
  (bif (r1575.1 != r1576.1) then
  some (false, ())
  else (F34_1 n (0 : Int) a1567 a1568 a1569 a1570 (fun z1610 =>
  some (z1610, ())) (
  some (true, ()))))))))))
noncomputable def F34e (n : Nat) : Ent G := ⟨34, (.cons (.agg (.cons (.imm 0) (.cons (.imm 3) .nil))) (.cons (.agg (.cons (.imm 0) (.cons (.imm 3) .nil))) .nil)), [], .bool, [], fun x y => F34 n x.1.1 x.1.2.1 x.2.1.1 x.2.1.2.1⟩
theorem F34_eq (n : Nat) (x : ShL.den G (.cons (.agg (.cons (.imm 0) (.cons (.imm 3) .nil))) (.cons (.agg (.cons (.imm 0) (.cons (.imm 3) .nil))) .nil))) (y : denO G []) : (F34e n).F x y = runFn prog G (ro G (tabOf (E64 n)) (frOf [F34_0z n, F34_1z n]) _) Go.Proofs.Try.f34 (.nd .no (.nd .no (.nd (.nd .no (.nd (.use 1) .no)) .no))) [(0, .fz)] (ShL.enc G (.cons (.agg (.cons (.imm 0) (.cons (.imm 3) .nil))) (.cons (.agg (.cons (.imm 0) (.cons (.imm 3) .nil))) .nil)) x) (encO G [] y) (decR .bool []) := by kernel_rfl
theorem F34_ok (n : Nat) : EntOK prog G (F34e n) :=
  ent_ok (fr := frOf [F34_0z n, F34_1z n]) (ann := (.nd .no (.nd .no (.nd (.nd .no (.nd (.use 1) .no)) .no)))) (frm := [(0, .fz)]) laws fnok (E64_ok n).tab (e := F34e n) (fn := Go.Proofs.Try.f34) (by kernel_rfl) (AllF.ofB (cd := F34c) (l := [(1, codeAt F34c [1, 1, 0, 1, 0])]) (by kernel_rfl) (by kernel_rfl) (AllF.cons (F34_1_ok n) AllF.nil)) (F34_eq n)
noncomputable def E65 (n : Nat) : List (Ent G) := F34e n :: E64 n
theorem E65_ok (n : Nat) : AllE prog G (E65 n) := AllE.cons (F34_ok n) (E64_ok n)
noncomputable def F6_0x0 : SSh := ⟨86, [(2, .bool)], []⟩
noncomputable def F6_0x1 : SSh := ⟨86, [(3, (.ptr 0 0)), (4, (.ptr 1 0)), (8, (.own 2))], [(.box 26 (.cons (.imm 0) (.cons (.imm 3) .nil))), (.box 26 (.cons (.imm 0) (.cons (.imm 3) .nil))), (.arr 2 true)]⟩
noncomputable def F6_0s : SSh := ⟨86, [(3, (.ptr 0 0)), (4, (.ptr 1 0)), (8, (.own 2)), (9, (.int .i64))], [(.box 26 (.cons (.imm 0) (.cons (.imm 3) .nil))), (.box 26 (.cons (.imm 0) (.cons (.imm 3) .nil))), (.arr 2 true)]⟩
noncomputable def F6_0_step {R : Type} (n : Nat) (k0 : Bool → Option R) (k1 : List Int → List Ety → List Int → List Ety → List ByteArray → Option R) (rec : Int → List Int → List Ety → List Int → List Ety → List ByteArray → Option R) (x1616 : Int) (x1617 : List Int) (x1618 : List Ety) (x1619 : List Int) (x1620 : List Ety) (x1621 : List ByteArray) : Option R :=
  (bif (decide (x1616 < ((x1621.length) : Int))) then
  (bif (decide ((0 : Int) ≤ x1616)) then
  (bif (decide (x1616 < ((x1621.length) : Int))) then
  (andThen (F20 n x1617 x1618 (x1621.getD (x1616.toNat) ({ data := #[] } : ByteArray))) fun r1626 =>
  (bif (decide ((0 : Int) ≤ x1616)) then
  (bif (decide (x1616 < ((x1621.length) : Int))) then
  (andThen (F20 n x1619 x1620 (x1621.getD (x1616.toNat) ({ data := #[] } : ByteArray))) fun r1629 =>
  (bif (!r1626.1.2.1) then
  (k0 false)
  else (bif (!r1629.1.2.1) then
  (k0 false)
  else (bif (r1626.1.1 != r1629.1.1) then
  (k0 false)
  else (rec (IntKind.wrap .i64 (x1616 + (1 : Int))) x1617 x1618 x1619 x1620 x1621)))))
  else none)
  else none))
  else none)
  else none)
  else (k1 x1617 x1618 x1619 x1620 x1621))
noncomputable def F6_0_it {R : Type} (n : Nat) (k0 : Bool → Option R) (k1 : List Int → List Ety → List Int → List Ety → List ByteArray → Option R) : Nat → Int → List Int → List Ety → List Int → List Ety → List ByteArray → Option R
  | 0, _, _, _, _, _, _ => none
  | k + 1, x1616, x1617, x1618, x1619, x1620, x1621 => F6_0_step n k0 k1 (F6_0_it n k0 k1 k) x1616 x1617 x1618 x1619 x1620 x1621
noncomputable def F6_0 {R : Type} (n : Nat) (x1616 : Int) (x1617 : List Int) (x1618 : List Ety) (x1619 : List Int) (x1620 : List Ety) (x1621 : List ByteArray) (k0 : Bool → Option R) (k1 : List Int → List Ety → List Int → List Ety → List ByteArray → Option R) : Option R := F6_0_it n k0 k1 n x1616 x1617 x1618 x1619 x1620 x1621
noncomputable def F6_0z (n : Nat) : Sm G := inZ G 0 ⟨[3, 4, 8, 9], []⟩ F6_0s fun R x K => F6_0_it n (fun u0 => K .ret (SSh.enc G F6_0x0 ((u0, ()), ()))) (fun u0 u1 u2 u3 u4 => K (.exit 0) (SSh.enc G F6_0x1 (((), ((), ((), ()))), ((u0, (u1, ())), ((u2, (u3, ())), (u4, ())))))) n x.1.2.2.2.1 x.2.1.1 x.2.1.2.1 x.2.2.1.1 x.2.2.1.2.1 x.2.2.2.1
theorem F6_0_eq (n : Nat) (R : Type) (rec : SSh.den G F6_0s → Option R) (x : SSh.den G F6_0s) (K : AE → St G → Option R) :
  F6_0_step n (fun u0 => K .ret (SSh.enc G F6_0x0 ((u0, ()), ()))) (fun u0 u1 u2 u3 u4 => K (.exit 0) (SSh.enc G F6_0x1 (((), ((), ((), ()))), ((u0, (u1, ())), ((u2, (u3, ())), (u4, ())))))) (fun x1616 x1617 x1618 x1619 x1620 x1621 => rec (((), ((), ((), (x1616, ())))), ((x1617, (x1618, ())), ((x1619, (x1620, ())), (x1621, ()))))) x.1.2.2.2.1 x.2.1.1 x.2.1.2.1 x.2.2.1.1 x.2.2.1.2.1 x.2.2.2.1 = exec prog G (ro G (tabOf (E65 n)) (frOf []) R) 0 (codeAt F6c [1, 1, 1, 1, 1, 1, 1, 1, 0, 1, 0, 0]) .no (SSh.enc G F6_0s x) (kLoop G (ro G (tabOf (E65 n)) (frOf []) R) 0 ⟨[3, 4, 8, 9], []⟩ F6_0s ⟨⟨[3, 4, 8], []⟩, ⟨[2], []⟩, [(0, ⟨[3, 4, 8], []⟩)]⟩ rec K) := by kernel_rfl
theorem F6_0_ok (n : Nat) : FragOK prog G 0 (codeAt F6c [1, 1, 1, 1, 1, 1, 1, 1, 0, 1, 0]) (F6_0z n) :=
  frag_loop (Z := fun R k (x : SSh.den G F6_0s) K => F6_0_it n (fun u0 => K .ret (SSh.enc G F6_0x0 ((u0, ()), ()))) (fun u0 u1 u2 u3 u4 => K (.exit 0) (SSh.enc G F6_0x1 (((), ((), ((), ()))), ((u0, (u1, ())), ((u2, (u3, ())), (u4, ())))))) k x.1.2.2.2.1 x.2.1.1 x.2.1.2.1 x.2.2.1.1 x.2.2.1.2.1 x.2.2.2.1) laws fnok (E65_ok n).tab (AllF.of (l := []) (by kernel_rfl) AllF.nil) (fun _ _ _ => rfl) (fun R k y K => F6_0_eq n R (fun (x : SSh.den G F6_0s) => F6_0_it n (fun u0 => K .ret (SSh.enc G F6_0x0 ((u0, ()), ()))) (fun u0 u1 u2 u3 u4 => K (.exit 0) (SSh.enc G F6_0x1 (((), ((), ((), ()))), ((u0, (u1, ())), ((u2, (u3, ())), (u4, ())))))) k x.1.2.2.2.1 x.2.1.1 x.2.1.2.1 x.2.2.1.1 x.2.2.1.2.1 x.2.2.2.1) y K) n
noncomputable def F6 (n : Nat) (a1499 : List Int) : Option (Bool × Unit) :=
  (bif (decide (((a1499.length) : Int) > (1048576 : Int))) then
  some (true, ())
  else (andThen (F32 n a1499) fun r1523 =>
  (andThen (F33 n r1523.1.1.1 r1523.1.1.2.1 r1523.1.2.1.1 r1523.1.2.1.2.1) fun r1566 =>
  (andThen (F34 n r1523.1.1.1 r1523.1.1.2.1 r1523.1.2.1.1 r1523.1.2.1.2.1) fun r1611 =>
  let v1612 := (r1566.1 == r1611.1)
  (bif (!v1612) then
  some (v1612, ())
  else (bif (!r1566.1) then
  some (v1612, ())
  else (andThen (F23 n r1523.1.1.1 r1523.1.1.2.1) fun r1615 =>
  (F6_0 n (0 : Int) r1523.1.1.1 r1523.1.1.2.1 r1523.1.2.1.1 r1523.1.2.1.2.1 r1615.2.1 (fun z1634 =>
  some (z1634, ())) (fun z1635 z1636 z1637 z1638 z1639 =>
  (andThen (F33 n z1637 z1638 z1635 z1636) fun r1640 =>
  (bif r1640.1 then
  (andThen (F23 n z1637 z1638) fun r1642 =>
  some ((((z1639.length) : Int) == ((r1642.2.1.length) : Int)), ()))
  else some (false, ()))))))))))))
noncomputable def F6e (n : Nat) : Ent G := ⟨6, (.cons (.imm 1) .nil), [], .bool, [], fun x y => F6 n x.1⟩
theorem F6_eq (n : Nat) (x : ShL.den G (.cons (.imm 1) .nil)) (y : denO G []) : (F6e n).F x y = runFn prog G (ro G (tabOf (E65 n)) (frOf [F6_0z n]) _) Go.Proofs.Try.f6 (.nd .no (.nd .no (.nd .no (.nd .no (.nd .no (.nd .no (.nd .no (.nd .no (.nd (.nd .no (.nd (.use 0) .no)) .no))))))))) [(0, .fz)] (ShL.enc G (.cons (.imm 1) .nil) x) (encO G [] y) (decR .bool []) := by kernel_rfl
theorem F6_ok (n : Nat) : EntOK prog G (F6e n) :=
  ent_ok (fr := frOf [F6_0z n]) (ann := (.nd .no (.nd .no (.nd .no (.nd .no (.nd .no (.nd .no (.nd .no (.nd .no (.nd (.nd .no (.nd (.use 0) .no)) .no)))))))))) (frm := [(0, .fz)]) laws fnok (E65_ok n).tab (e := F6e n) (fn := Go.Proofs.Try.f6) (by kernel_rfl) (AllF.ofB (cd := F6c) (l := [(0, codeAt F6c [1, 1, 1, 1, 1, 1, 1, 1, 0, 1, 0])]) (by kernel_rfl) (by kernel_rfl) (AllF.cons (F6_0_ok n) AllF.nil)) (F6_eq n)
noncomputable def E66 (n : Nat) : List (Ent G) := F6e n :: E65 n
theorem E66_ok (n : Nat) : AllE prog G (E66 n) := AllE.cons (F6_ok n) (E65_ok n)
-- 7 loop.example/slowworm/laws.FnDictOk
noncomputable def F7c : Code := bodyOf Go.Proofs.Try.f7
-- 35 loop.example/slowworm/spec.DrawDictOk
noncomputable def F35c : Code := bodyOf Go.Proofs.Try.f35
noncomputable def F35 (n : Nat) (a1648 : List Int) : Option ((List Int × (List Ety × Unit)) × Unit) :=
  (andThen (F48 n a1648) fun r1649 =>
  (andThen (F49 n r1649.2.1.1 r1649.2.1.2.1) fun r1650 =>
  some ((r1650.1.1, (r1650.1.2.1, ())), ())))
noncomputable def F35e (n : Nat) : Ent G := ⟨35, (.cons (.imm 1) .nil), [], (.agg (.cons (.imm 0) (.cons (.imm 3) .nil))), [], fun x y => F35 n x.1⟩
theorem F35_eq (n : Nat) (x : ShL.den G (.cons (.imm 1) .nil)) (y : denO G []) : (F35e n).F x y = runFn prog G (ro G (tabOf (E66 n)) (frOf []) _) Go.Proofs.Try.f35 .no [(0, .fz)] (ShL.enc G (.cons (.imm 1) .nil) x) (encO G [] y) (decR (.agg (.cons (.imm 0) (.cons (.imm 3) .nil))) []) := by kernel_rfl
theorem F35_ok (n : Nat) : EntOK prog G (F35e n) :=
  ent_ok (fr := frOf []) (ann := .no) (frm := [(0, .fz)]) laws fnok (E66_ok n).tab (e := F35e n) (fn := Go.Proofs.Try.f35) (by kernel_rfl) (AllF.ofB (cd := F35c) (l := []) (by kernel_rfl) (by kernel_rfl) AllF.nil) (F35_eq n)
noncomputable def E67 (n : Nat) : List (Ent G) := F35e n :: E66 n
theorem E67_ok (n : Nat) : AllE prog G (E67 n) := AllE.cons (F35_ok n) (E66_ok n)
-- 36 loop.example/slowworm/spec.DictOk
noncomputable def F36c : Code := bodyOf Go.Proofs.Try.f36
noncomputable def F36 (n : Nat) (a1653 : List Int) (a1654 : List Ety) : Option (Bool × Unit) :=
  (andThen (F52 n a1653 a1654) fun r1655 =>
  some (r1655.1, ()))
noncomputable def F36e (n : Nat) : Ent G := ⟨36, (.cons (.agg (.cons (.imm 0) (.cons (.imm 3) .nil))) .nil), [], .bool, [], fun x y => F36 n x.1.1 x.1.2.1⟩
theorem F36_eq (n : Nat) (x : ShL.den G (.cons (.agg (.cons (.imm 0) (.cons (.imm 3) .nil))) .nil)) (y : denO G []) : (F36e n).F x y = runFn prog G (ro G (tabOf (E67 n)) (frOf []) _) Go.Proofs.Try.f36 .no [(0, .fz)] (ShL.enc G (.cons (.agg (.cons (.imm 0) (.cons (.imm 3) .nil))) .nil) x) (encO G [] y) (decR .bool []) := by kernel_rfl
theorem F36_ok (n : Nat) : EntOK prog G (F36e n) :=
  ent_ok (fr := frOf []) (ann := .no) (frm := [(0, .fz)]) laws fnok (E67_ok n).tab (e := F36e n) (fn := Go.Proofs.Try.f36) (by kernel_rfl) (AllF.ofB (cd := F36c) (l := []) (by kernel_rfl) (by kernel_rfl) AllF.nil) (F36_eq n)
noncomputable def E68 (n : Nat) : List (Ent G) := F36e n :: E67 n
theorem E68_ok (n : Nat) : AllE prog G (E68 n) := AllE.cons (F36_ok n) (E67_ok n)
noncomputable def F7_0x0 : SSh := ⟨58, [(2, .bool)], []⟩
noncomputable def F7_0x1 : SSh := ⟨58, [(3, (.ptr 0 0))], [(.box 26 (.cons (.imm 0) (.cons (.imm 3) .nil)))]⟩
noncomputable def F7_0s : SSh := ⟨58, [(3, (.ptr 0 0)), (7, (.own 1)), (8, (.int .i64))], [(.box 26 (.cons (.imm 0) (.cons (.imm 3) .nil))), (.arr 2 true)]⟩
noncomputable def F7_0_step {R : Type} (n : Nat) (k0 : Bool → Option R) (k1 : List Int → List Ety → Option R) (rec : Int → List Int → List Ety → List ByteArray → Option R) (x1661 : Int) (x1662 : List Int) (x1663 : List Ety) (x1664 : List ByteArray) : Option R :=
  (bif (decide (x1661 < ((x1664.length) : Int))) then
  (bif (decide ((0 : Int) ≤ x1661)) then
  (bif (decide (x1661 < ((x1664.length) : Int))) then
  (andThen (F20 n x1662 x1663 (x1664.getD (x1661.toNat) ({ data := #[] } : ByteArray))) fun r1669 =>
  (bif (!r1669.1.2.1) then
  (k0 false)
  else (rec (IntKind.wrap .i64 (x1661 + (1 : Int))) x1662 x1663 x1664)))
  else none)
  else none)
  else (k1 x1662 x1663))
noncomputable def F7_0_it {R : Type} (n : Nat) (k0 : Bool → Option R) (k1 : List Int → List Ety → Option R) : Nat → Int → List Int → List Ety → List ByteArray → Option R
  | 0, _, _, _, _ => none
  | k + 1, x1661, x1662, x1663, x1664 => F7_0_step n k0 k1 (F7_0_it n k0 k1 k) x1661 x1662 x1663 x1664
noncomputable def F7_0 {R : Type} (n : Nat) (x1661 : Int) (x1662 : List Int) (x1663 : List Ety) (x1664 : List ByteArray) (k0 : Bool → Option R) (k1 : List Int → List Ety → Option R) : Option R := F7_0_it n k0 k1 n x1661 x1662 x1663 x1664
noncomputable def F7_0z (n : Nat) : Sm G := inZ G 0 ⟨[3, 7, 8], []⟩ F7_0s fun R x K => F7_0_it n (fun u0 => K .ret (SSh.enc G F7_0x0 ((u0, ()), ()))) (fun u0 u1 => K (.exit 0) (SSh.enc G F7_0x1 (((), ()), ((u0, (u1, ())), ())))) n x.1.2.2.1 x.2.1.1 x.2.1.2.1 x.2.2.1
theorem F7_0_eq (n : Nat) (R : Type) (rec : SSh.den G F7_0s → Option R) (x : SSh.den G F7_0s) (K : AE → St G → Option R) :
  F7_0_step n (fun u0 => K .ret (SSh.enc G F7_0x0 ((u0, ()), ()))) (fun u0 u1 => K (.exit 0) (SSh.enc G F7_0x1 (((), ()), ((u0, (u1, ())), ())))) (fun x1661 x1662 x1663 x1664 => rec (((), ((), (x1661, ()))), ((x1662, (x1663, ())), (x1664, ())))) x.1.2.2.1 x.2.1.1 x.2.1.2.1 x.2.2.1 = exec prog G (ro G (tabOf (E68 n)) (frOf []) R) 0 (codeAt F7c [1, 1, 1, 1, 1, 1, 1, 1, 0, 1, 0, 0]) .no (SSh.enc G F7_0s x) (kLoop G (ro G (tabOf (E68 n)) (frOf []) R) 0 ⟨[3, 7, 8], []⟩ F7_0s ⟨⟨[3], []⟩, ⟨[2], []⟩, [(0, ⟨[3], []⟩)]⟩ rec K) := by kernel_rfl
theorem F7_0_ok (n : Nat) : FragOK prog G 0 (codeAt F7c [1, 1, 1, 1, 1, 1, 1, 1, 0, 1, 0]) (F7_0z n) :=
  frag_loop (Z := fun R k (x : SSh.den G F7_0s) K => F7_0_it n (fun u0 => K .ret (SSh.enc G F7_0x0 ((u0, ()), ()))) (fun u0 u1 => K (.exit 0) (SSh.enc G F7_0x1 (((), ()), ((u0, (u1, ())), ())))) k x.1.2.2.1 x.2.1.1 x.2.1.2.1 x.2.2.1) laws fnok (E68_ok n).tab (AllF.of (l := []) (by kernel_rfl) AllF.nil) (fun _ _ _ => rfl) (fun R k y K => F7_0_eq n R (fun (x : SSh.den G F7_0s) => F7_0_it n (fun u0 => K .ret (SSh.enc G F7_0x0 ((u0, ()), ()))) (fun u0 u1 => K (.exit 0) (SSh.enc G F7_0x1 (((), ()), ((u0, (u1, ())), ())))) k x.1.2.2.1 x.2.1.1 x.2.1.2.1 x.2.2.1) y K) n
-- 72 (*loop.example/slowworm/impl.Dict).add
noncomputable def F72c : Code := bodyOf Go.Proofs.Try.f72
-- 51 (loop.example/slowworm/impl.Dict).probe
noncomputable def F51v2c : Code := bodyOf Go.Proofs.Try.f51
noncomputable def F51v2_0x0 : SSh := ⟨62, [(4, (.own 1))], [(.arr 0 true), (.arr 0 true)]⟩
noncomputable def F51v2_0x1 : SSh := ⟨62, [(9, (.own 1))], [(.arr 0 true), (.arr 0 true)]⟩
noncomputable def F51v2_0s : SSh := ⟨62, [(1, .str), (2, (.ptr 1 0)), (6, (.int .i64)), (7, (.int .i64)), (8, (.int .i64)), (9, (.own 2)), (22, (.int .i64)), (23, (.int .i64))], [(.arr 0 true), (.box 26 (.cons (.own 0) (.cons (.imm 3) .nil))), (.arr 0 true)]⟩
noncomputable def F51v2_0_step {R : Type} (n : Nat) (k0 : List Int → List Int → Option R) (k1 : List Int → List Int → Option R) (rec : ByteArray → Int → Int → Int → Int → Int → List Int → List Ety → List Int → Option R) (x1721 : ByteArray) (x1722 : Int) (x1723 : Int) (x1724 : Int) (x1725 : Int) (x1726 : Int) (x1727 : List Int) (x1728 : List Ety) (x1729 : List Int) : Option R :=
  (bif (decide (x1726 < x1725)) then
  let v1731 := (x1723 :: [])
  (bif (decide (((x1729.length) + (v1731.length)) ≤ (68719476736 : Nat))) then
  let v1732 := (x1729 ++ v1731)
  (bif (decide ((0 : Int) ≤ x1723)) then
  (bif (decide (x1723 < ((x1727.length) : Int))) then
  let v1734 := (x1727.getD (x1723.toNat) (0 : Int))
  (bif (v1734 == (-1 : Int)) then
  (k0 x1727 v1732)
  else (bif (decide (v1734 ≥ (0 : Int))) then
  (bif (decide ((0 : Int) ≤ v1734)) then
  (bif (decide (v1734 < ((x1728.length) : Int))) then
  (bif (((x1728.getD (v1734.toNat) (Ety.mk ({ data := #[] } : ByteArray) (0 : Int) (0 : Int) false)).key.toList) == (x1721.toList)) then
  (k0 x1727 v1732)
  else let v1740 := (IntKind.wrap .i64 (x1724.tdiv (8 : Int)))
  (bif (!(decide (x1722 = (0 : Int)))) then
  (rec x1721 x1722 ((IntKind.wrap .i64 ((IntKind.wrap .i64 ((IntKind.wrap .i64 ((5 : Int) * x1723)) + v1740)) + (1 : Int))).tmod x1722) v1740 x1725 (IntKind.wrap .i64 (x1726 + (1 : Int))) x1727 x1728 v1732)
  else none))
  else none)
  else none)
  else let v1746 := (IntKind.wrap .i64 (x1724.tdiv (8 : Int)))
  (bif (!(decide (x1722 = (0 : Int)))) then
  (rec x1721 x1722 ((IntKind.wrap .i64 ((IntKind.wrap .i64 ((IntKind.wrap .i64 ((5 : Int) * x1723)) + v1746)) + (1 : Int))).tmod x1722) v1746 x1725 (IntKind.wrap .i64 (x1726 + (1 : Int))) x1727 x1728 v1732)
  else none)))
  else none)
  else none)
  else none)
  else (k1 x1727 x1729))
noncomputable def F51v2_0_it {R : Type} (n : Nat) (k0 : List Int → List Int → Option R) (k1 : List Int → List Int → Option R) : Nat → ByteArray → Int → Int → Int → Int → Int → List Int → List Ety → List Int → Option R
  | 0, _, _, _, _, _, _, _, _, _ => none
  | k + 1, x1721, x1722, x1723, x1724, x1725, x1726, x1727, x1728, x1729 => F51v2_0_step n k0 k1 (F51v2_0_it n k0 k1 k) x1721 x1722 x1723 x1724 x1725 x1726 x1727 x1728 x1729
noncomputable def F51v2_0 {R : Type} (n : Nat) (x1721 : ByteArray) (x1722 : Int) (x1723 : Int) (x1724 : Int) (x1725 : Int) (x1726 : Int) (x1727 : List Int) (x1728 : List Ety) (x1729 : List Int) (k0 : List Int → List Int → Option R) (k1 : List Int → List Int → Option R) : Option R := F51v2_0_it n k0 k1 n x1721 x1722 x1723 x1724 x1725 x1726 x1727 x1728 x1729
noncomputable def F51v2_0z (n : Nat) : Sm G := inZ G 1 ⟨[1, 2, 6, 7, 8, 9, 22, 23], [(9, (.own 0))]⟩ F51v2_0s fun R x K => F51v2_0_it n (fun u0 u1 => K .ret (SSh.enc G F51v2_0x0 (((), ()), (u0, (u1, ()))))) (fun u0 u1 => K (.exit 0) (SSh.enc G F51v2_0x1 (((), ()), (u0, (u1, ()))))) n x.1.1 x.1.2.2.1 x.1.2.2.2.1 x.1.2.2.2.2.1 x.1.2.2.2.2.2.2.1 x.1.2.2.2.2.2.2.2.1 x.2.1 x.2.2.1.2.1 x.2.2.2.1
theorem F51v2_0_eq (n : Nat) (R : Type) (rec : SSh.den G F51v2_0s → Option R) (x : SSh.den G F51v2_0s) (K : AE → St G → Option R) :
  F51v2_0_step n (fun u0 u1 => K .ret (SSh.enc G F51v2_0x0 (((), ()), (u0, (u1, ()))))) (fun u0 u1 => K (.exit 0) (SSh.enc G F51v2_0x1 (((), ()), (u0, (u1, ()))))) (fun x1721 x1722 x1723 x1724 x1725 x1726 x1727 x1728 x1729 => rec ((x1721, ((), (x1722, (x1723, (x1724, ((), (x1725, (x1726, ())))))))), (x1727, (((), (x1728, ())), (x1729, ()))))) x.1.1 x.1.2.2.1 x.1.2.2.2.1 x.1.2.2.2.2.1 x.1.2.2.2.2.2.2.1 x.1.2.2.2.2.2.2.2.1 x.2.1 x.2.2.1.2.1 x.2.2.2.1 = exec prog G (ro G (tabOf (E68 n)) (frOf []) R) 1 (codeAt F51v2c [1, 1, 1, 1, 1, 0, 1, 0, 0]) .no (SSh.enc G F51v2_0s x) (kLoop G (ro G (tabOf (E68 n)) (frOf []) R) 1 ⟨[1, 2, 6, 7, 8, 9, 22, 23], [(9, (.own 0))]⟩ F51v2_0s ⟨⟨[9], []⟩, ⟨[4], []⟩, [(0, ⟨[9], []⟩)]⟩ rec K) := by kernel_rfl
theorem F51v2_0_ok (n : Nat) : FragOK prog G 1 (codeAt F51v2c [1, 1, 1, 1, 1, 0, 1, 0]) (F51v2_0z n) :=
  frag_loop (Z := fun R k (x : SSh.den G F51v2_0s) K => F51v2_0_it n (fun u0 u1 => K .ret (SSh.enc G F51v2_0x0 (((), ()), (u0, (u1, ()))))) (fun u0 u1 => K (.exit 0) (SSh.enc G F51v2_0x1 (((), ()), (u0, (u1, ()))))) k x.1.1 x.1.2.2.1 x.1.2.2.2.1 x.1.2.2.2.2.1 x.1.2.2.2.2.2.2.1 x.1.2.2.2.2.2.2.2.1 x.2.1 x.2.2.1.2.1 x.2.2.2.1) laws fnok (E68_ok n).tab (AllF.of (l := []) (by kernel_rfl) AllF.nil) (fun _ _ _ => rfl) (fun R k y K => F51v2_0_eq n R (fun (x : SSh.den G F51v2_0s) => F51v2_0_it n (fun u0 u1 => K .ret (SSh.enc G F51v2_0x0 (((), ()), (u0, (u1, ()))))) (fun u0 u1 => K (.exit 0) (SSh.enc G F51v2_0x1 (((), ()), (u0, (u1, ()))))) k x.1.1 x.1.2.2.1 x.1.2.2.2.1 x.1.2.2.2.2.1 x.1.2.2.2.2.2.2.1 x.1.2.2.2.2.2.2.2.1 x.2.1 x.2.2.1.2.1 x.2.2.2.1) y K) n
noncomputable def F51v2 (n : Nat) (a1713 : List Ety) (a1714 : ByteArray) (a1715 : List Int) : Option (List Int × (List Int × Unit)) :=
  (andThen (F21 n a1714) fun r1716 =>
  let v1717 := ((a1715.length) : Int)
  (bif (!(decide (v1717 = (0 : Int)))) then
  (F51v2_0 n a1714 v1717 (r1716.1.tmod v1717) r1716.1 (IntKind.wrap .i64 ((65536 : Int) + (IntKind.wrap .i64 ((2 : Int) * v1717)))) (0 : Int) a1715 a1713 [] (fun z1752 z1753 =>
  some (z1753, (z1752, ()))) (fun z1754 z1755 =>
  some (z1755, (z1754, ()))))
  else none))
noncomputable def F51v2e (n : Nat) : Ent G := ⟨51, (.cons (.agg (.cons (.own 0) (.cons (.imm 3) .nil))) (.cons .str .nil)), [(.arr 0 true)], (.imm 0), [(.arr 0 true)], fun x y => F51v2 n x.1.2.1 x.2.1 y.1⟩
theorem F51v2_eq (n : Nat) (x : ShL.den G (.cons (.agg (.cons (.own 0) (.cons (.imm 3) .nil))) (.cons .str .nil))) (y : denO G [(.arr 0 true)]) : (F51v2e n).F x y = runFn prog G (ro G (tabOf (E68 n)) (frOf [F51v2_0z n]) _) Go.Proofs.Try.f51 (.nd .no (.nd .no (.nd .no (.nd .no (.nd .no (.nd (.nd .no (.nd (.use 0) .no)) .no)))))) [(0, .fz)] (ShL.enc G (.cons (.agg (.cons (.own 0) (.cons (.imm 3) .nil))) (.cons .str .nil)) x) (encO G [(.arr 0 true)] y) (decR (.imm 0) [(.arr 0 true)]) := by kernel_rfl
theorem F51v2_ok (n : Nat) : EntOK prog G (F51v2e n) :=
  ent_ok (fr := frOf [F51v2_0z n]) (ann := (.nd .no (.nd .no (.nd .no (.nd .no (.nd .no (.nd (.nd .no (.nd (.use 0) .no)) .no))))))) (frm := [(0, .fz)]) laws fnok (E68_ok n).tab (e := F51v2e n) (fn := Go.Proofs.Try.f51) (by kernel_rfl) (AllF.ofB (cd := F51v2c) (l := [(0, codeAt F51v2c [1, 1, 1, 1, 1, 0, 1, 0])]) (by kernel_rfl) (by kernel_rfl) (AllF.cons (F51v2_0_ok n) AllF.nil)) (F51v2_eq n)
noncomputable def E69 (n : Nat) : List (Ent G) := F51v2e n :: E68 n
theorem E69_ok (n : Nat) : AllE prog G (E69 n) := AllE.cons (F51v2_ok n) (E68_ok n)
noncomputable def F72 (n : Nat) (a1710 : ByteArray) (a1711 : Int) (a1712 : List Int) : Option (Unit × ((Unit × (Unit × Unit)) × (List Int × (List Ety × Unit)))) :=
  (andThen (F51v2 n [] a1710 a1712) fun r1756 =>
  let v1758 := (IntKind.wrap .i64 (((r1756.1.length) : Int) - (1 : Int)))
  (bif (decide ((0 : Int) ≤ v1758)) then
  (bif (decide (v1758 < ((r1756.1.length) : Int))) then
  let v1760 := (r1756.1.getD (v1758.toNat) (0 : Int))
  (bif (decide ((0 : Int) ≤ v1760)) then
  (bif (decide (v1760 < ((r1756.2.1.length) : Int))) then
  (andThen (F21 n a1710) fun r1763 =>
  let v1764 := ((Ety.mk a1710 r1763.1 a1711 true) :: [])
  (bif (decide ((v1764.length) ≤ (68719476736 : Nat))) then
  some ((), (((), ((), ())), ((r1756.2.1.set (v1760.toNat) (Int.ofNat (0 : Nat))), (v1764, ()))))
  else none))
  else none)
  else none)
  else none)
  else none))
noncomputable def F72e (n : Nat) : Ent G := ⟨72, (.cons (.ptr 0 0) (.cons .str (.cons (.int .i64) .nil))), [(.box 26 (.cons (.own 1) (.cons .nil0 .nil))), (.arr 0 true)], (.tup .nil), [(.box 26 (.cons (.own 1) (.cons (.own 2) .nil))), (.arr 0 true), (.arr 3 true)], fun x y => F72 n x.2.1 x.2.2.1 y.2.1⟩
theorem F72_eq (n : Nat) (x : ShL.den G (.cons (.ptr 0 0) (.cons .str (.cons (.int .i64) .nil)))) (y : denO G [(.box 26 (.cons (.own 1) (.cons .nil0 .nil))), (.arr 0 true)]) : (F72e n).F x y = runFn prog G (ro G (tabOf (E69 n)) (frOf []) _) Go.Proofs.Try.f72 .no [] (ShL.enc G (.cons (.ptr 0 0) (.cons .str (.cons (.int .i64) .nil))) x) (encO G [(.box 26 (.cons (.own 1) (.cons .nil0 .nil))), (.arr 0 true)] y) (decR (.tup .nil) [(.box 26 (.cons (.own 1) (.cons (.own 2) .nil))), (.arr 0 true), (.arr 3 true)]) := by kernel_rfl
theorem F72_ok (n : Nat) : EntOK prog G (F72e n) :=
  ent_ok (fr := frOf []) (ann := .no) (frm := []) laws fnok (E69_ok n).tab (e := F72e n) (fn := Go.Proofs.Try.f72) (by kernel_rfl) (AllF.ofB (cd := F72c) (l := []) (by kernel_rfl) (by kernel_rfl) AllF.nil) (F72_eq n)
noncomputable def E70 (n : Nat) : List (Ent G) := F72e n :: E69 n
theorem E70_ok (n : Nat) : AllE prog G (E70 n) := AllE.cons (F72_ok n) (E69_ok n)
-- 68 (loop.example/slowworm/impl.Dict).packed
noncomputable def F68c : Code := bodyOf Go.Proofs.Try.f68
noncomputable def F68_0x0 : SSh := ⟨38, [(2, (.ptr 0 0)), (4, (.ptr 1 0)), (5, (.int .i64))], [(.box 26 (.cons (.imm 0) (.cons (.imm 3) .nil))), (.box 26 (.cons .nil0 (.cons .nil0 .nil)))]⟩
noncomputable def F68_0s : SSh := ⟨38, [(1, (.int .i64)), (2, (.ptr 0 0)), (4, (.ptr 1 0)), (5, (.int .i64))], [(.box 26 (.cons (.imm 0) (.cons (.imm 3) .nil))), (.box 26 (.cons .nil0 (.cons .nil0 .nil)))]⟩
noncomputable def F68_0_step {R : Type} (n : Nat) (k0 : Int → List Int → List Ety → Option R) (rec : Int → Int → List Int → List Ety → Option R) (x1776 : Int) (x1777 : Int) (x1778 : List Int) (x1779 : List Ety) : Option R :=
  (bif (decide (x1777 < (128 : Int))) then
  (bif (decide (x1777 ≤ (IntKind.wrap .i64 ((3 : Int) * x1776)))) then
  (rec x1776 (IntKind.wrap .i64 (x1777 * (2 : Int))) x1778 x1779)
  else (k0 x1777 x1778 x1779))
  else (k0 x1777 x1778 x1779))
noncomputable def F68_0_it {R : Type} (n : Nat) (k0 : Int → List Int → List Ety → Option R) : Nat → Int → Int → List Int → List Ety → Option R
  | 0, _, _, _, _ => none
  | k + 1, x1776, x1777, x1778, x1779 => F68_0_step n k0 (F68_0_it n k0 k) x1776 x1777 x1778 x1779
noncomputable def F68_0 {R : Type} (n : Nat) (x1776 : Int) (x1777 : Int) (x1778 : List Int) (x1779 : List Ety) (k0 : Int → List Int → List Ety → Option R) : Option R := F68_0_it n k0 n x1776 x1777 x1778 x1779
noncomputable def F68_0z (n : Nat) : Sm G := inZ G 0 ⟨[1, 2, 4, 5], []⟩ F68_0s fun R x K => F68_0_it n (fun u0 u1 u2 => K (.exit 0) (SSh.enc G F68_0x0 (((), ((), (u0, ()))), ((u1, (u2, ())), (((), ((), ())), ()))))) n x.1.1 x.1.2.2.2.1 x.2.1.1 x.2.1.2.1
theorem F68_0_eq (n : Nat) (R : Type) (rec : SSh.den G F68_0s → Option R) (x : SSh.den G F68_0s) (K : AE → St G → Option R) :
  F68_0_step n (fun u0 u1 u2 => K (.exit 0) (SSh.enc G F68_0x0 (((), ((), (u0, ()))), ((u1, (u2, ())), (((), ((), ())), ()))))) (fun x1776 x1777 x1778 x1779 => rec ((x1776, ((), ((), (x1777, ())))), ((x1778, (x1779, ())), (((), ((), ())), ())))) x.1.1 x.1.2.2.2.1 x.2.1.1 x.2.1.2.1 = exec prog G (ro G (tabOf (E70 n)) (frOf []) R) 0 (codeAt F68c [1, 1, 0, 0, 0]) .no (SSh.enc G F68_0s x) (kLoop G (ro G (tabOf (E70 n)) (frOf []) R) 0 ⟨[1, 2, 4, 5], []⟩ F68_0s ⟨⟨[2, 4, 5], []⟩, ⟨[4], []⟩, [(0, ⟨[2, 4, 5], []⟩)]⟩ rec K) := by kernel_rfl
theorem F68_0_ok (n : Nat) : FragOK prog G 0 (codeAt F68c [1, 1, 0, 0]) (F68_0z n) :=
  frag_loop (Z := fun R k (x : SSh.den G F68_0s) K => F68_0_it n (fun u0 u1 u2 => K (.exit 0) (SSh.enc G F68_0x0 (((), ((), (u0, ()))), ((u1, (u2, ())), (((), ((), ())), ()))))) k x.1.1 x.1.2.2.2.1 x.2.1.1 x.2.1.2.1) laws fnok (E70_ok n).tab (AllF.of (l := []) (by kernel_rfl) AllF.nil) (fun _ _ _ => rfl) (fun R k y K => F68_0_eq n R (fun (x : SSh.den G F68_0s) => F68_0_it n (fun u0 u1 u2 => K (.exit 0) (SSh.enc G F68_0x0 (((), ((), (u0, ()))), ((u1, (u2, ())), (((), ((), ())), ()))))) k x.1.1 x.1.2.2.2.1 x.2.1.1 x.2.1.2.1) y K) n
-- 72 (*loop.example/slowworm/impl.Dict).add
noncomputable def F72v1c : Code := bodyOf Go.Proofs.Try.f72
noncomputable def F72v1 (n : Nat) (a1805 : ByteArray) (a1806 : Int) (a1807 : List Int) (a1808 : List Ety) : Option (Unit × ((Unit × (Unit × Unit)) × (List Int × (Unit × (List Ety × Unit))))) :=
  (andThen (F51v1 n a1805 a1807 a1808) fun r1809 =>
  let v1811 := (IntKind.wrap .i64 (((r1809.1.length) : Int) - (1 : Int)))
  (bif (decide ((0 : Int) ≤ v1811)) then
  (bif (decide (v1811 < ((r1809.1.length) : Int))) then
  let v1813 := (r1809.1.getD (v1811.toNat) (0 : Int))
  (bif (decide ((0 : Int) ≤ v1813)) then
  (bif (decide (v1813 < ((r1809.2.1.length) : Int))) then
  (andThen (F21 n a1805) fun r1817 =>
  let v1818 := ((Ety.mk a1805 r1817.1 a1806 true) :: [])
  (bif (decide (((r1809.2.2.1.length) + (v1818.length)) ≤ (68719476736 : Nat))) then
  some ((), (((), ((), ())), ((r1809.2.1.set (v1813.toNat) ((r1809.2.2.1.length) : Int)), ((), ((r1809.2.2.1 ++ v1818), ())))))
  else none))
  else none)
  else none)
  else none)
  else none))
noncomputable def F72v1e (n : Nat) : Ent G := ⟨72, (.cons (.ptr 0 0) (.cons .str (.cons (.int .i64) .nil))), [(.box 26 (.cons (.own 1) (.cons (.own 2) .nil))), (.arr 0 true), (.arr 3 true)], (.tup .nil), [(.box 26 (.cons (.own 1) (.cons (.own 3) .nil))), (.arr 0 true), .dead, (.arr 3 true)], fun x y => F72v1 n x.2.1 x.2.2.1 y.2.1 y.2.2.1⟩
theorem F72v1_eq (n : Nat) (x : ShL.den G (.cons (.ptr 0 0) (.cons .str (.cons (.int .i64) .nil)))) (y : denO G [(.box 26 (.cons (.own 1) (.cons (.own 2) .nil))), (.arr 0 true), (.arr 3 true)]) : (F72v1e n).F x y = runFn prog G (ro G (tabOf (E70 n)) (frOf []) _) Go.Proofs.Try.f72 .no [] (ShL.enc G (.cons (.ptr 0 0) (.cons .str (.cons (.int .i64) .nil))) x) (encO G [(.box 26 (.cons (.own 1) (.cons (.own 2) .nil))), (.arr 0 true), (.arr 3 true)] y) (decR (.tup .nil) [(.box 26 (.cons (.own 1) (.cons (.own 3) .nil))), (.arr 0 true), .dead, (.arr 3 true)]) := by kernel_rfl
theorem F72v1_ok (n : Nat) : EntOK prog G (F72v1e n) :=
  ent_ok (fr := frOf []) (ann := .no) (frm := []) laws fnok (E70_ok n).tab (e := F72v1e n) (fn := Go.Proofs.Try.f72) (by kernel_rfl) (AllF.ofB (cd := F72v1c) (l := []) (by kernel_rfl) (by kernel_rfl) AllF.nil) (F72v1_eq n)
noncomputable def E71 (n : Nat) : List (Ent G) := F72v1e n :: E70 n
theorem E71_ok (n : Nat) : AllE prog G (E71 n) := AllE.cons (F72v1_ok n) (E70_ok n)
noncomputable def F68_1x0 : SSh := ⟨38, [(4, (.ptr 0 0)), (6, (.ptr 1 0)), (23, (.imm 3)), (24, (.int .i64)), (25, (.int .i64))], [(.box 26 (.cons .nil0 (.cons .nil0 .nil))), (.box 26 (.cons (.own 2) (.cons (.own 3) .nil))), (.arr 0 true), (.arr 3 true)]⟩
noncomputable def F68_1s : SSh := ⟨38, [(4, (.ptr 0 0)), (6, (.ptr 1 0)), (23, (.imm 3)), (24, (.int .i64)), (25, (.int .i64))], [(.box 26 (.cons .nil0 (.cons .nil0 .nil))), (.box 26 (.cons (.own 2) (.cons (.own 3) .nil))), (.arr 0 true), (.arr 3 true)]⟩
noncomputable def F68_1 {R : Type} (n : Nat) (x1795 : List Ety) (x1796 : Int) (x1797 : Int) (x1798 : List Int) (x1799 : List Ety) (k0 : List Ety → Int → Int → List Int → List Ety → Option R) : Option R :=
  (bif (decide ((0 : Int) ≤ x1797)) then
  (bif (decide (x1797 < ((x1795.length) : Int))) then
  let v1800 := (x1795.getD (x1797.toNat) (Ety.mk ({ data := #[] } : ByteArray) (0 : Int) (0 : Int) false))
  (bif v1800.live then
  (andThen (F72v1 n v1800.key v1800.val x1798 x1799) fun r1820 =>
  (k0 x1795 x1796 x1797 r1820.2.2.1 r1820.2.2.2.2.1))
  else (k0 x1795 x1796 x1797 x1798 x1799))
  else none)
  else none)
noncomputable def F68_1z (n : Nat) : Sm G := inZ G 0 ⟨[4, 6, 23, 24, 25], []⟩ F68_1s fun R x K => F68_1 n x.1.2.2.1 x.1.2.2.2.1 x.1.2.2.2.2.1 x.2.2.2.1 x.2.2.2.2.1 (fun u0 u1 u2 u3 u4 => K .normal (SSh.enc G F68_1x0 (((), ((), (u0, (u1, (u2, ()))))), (((), ((), ())), (((), ((), ())), (u3, (u4, ())))))))
theorem F68_1_eq (n : Nat) (R : Type) (x : SSh.den G F68_1s) (K : AE → St G → Option R) :
  F68_1 n x.1.2.2.1 x.1.2.2.2.1 x.1.2.2.2.2.1 x.2.2.2.1 x.2.2.2.2.1 (fun u0 u1 u2 u3 u4 => K .normal (SSh.enc G F68_1x0 (((), ((), (u0, (u1, (u2, ()))))), (((), ((), ())), (((), ((), ())), (u3, (u4, ()))))))) = exec prog G (ro G (tabOf (E71 n)) (frOf [F68_0z n]) R) 0 (codeAt F68c [1, 1, 1, 1, 0, 1, 0, 0, 1, 1, 0]) .no (SSh.enc G F68_1s x) (kNrm G (ro G (tabOf (E71 n)) (frOf [F68_0z n]) R) 0 ⟨⟨[4, 6, 23, 24, 25], []⟩, ⟨[4], []⟩, [(2, ⟨[4, 6], []⟩)]⟩ K) := by kernel_rfl
theorem F68_1_ok (n : Nat) : FragOK prog G 0 (codeAt F68c [1, 1, 1, 1, 0, 1, 0, 0, 1, 1, 0]) (F68_1z n) :=
  frag_plain laws fnok (E71_ok n).tab (AllF.of (l := []) (by kernel_rfl) AllF.nil) (F68_1_eq n)
noncomputable def F68_2x0 : SSh := ⟨38, [(4, (.ptr 0 0)), (6, (.ptr 1 0))], [(.box 26 (.cons .nil0 (.cons .nil0 .nil))), (.box 26 (.cons (.own 2) (.cons (.own 3) .nil))), (.arr 0 true), (.arr 3 true)]⟩
noncomputable def F68_2s : SSh := ⟨38, [(4, (.ptr 0 0)), (6, (.ptr 1 0)), (23, (.imm 3)), (24, (.int .i64)), (25, (.int .i64))], [(.box 26 (.cons .nil0 (.cons .nil0 .nil))), (.box 26 (.cons (.own 2) (.cons (.own 3) .nil))), (.arr 0 true), (.arr 3 true)]⟩
noncomputable def F68_2_step {R : Type} (n : Nat) (k0 : List Int → List Ety → Option R) (rec : List Ety → Int → Int → List Int → List Ety → Option R) (x1789 : List Ety) (x1790 : Int) (x1791 : Int) (x1792 : List Int) (x1793 : List Ety) : Option R :=
  (bif (decide (x1791 < x1790)) then
  (F68_1 n x1789 x1790 x1791 x1792 x1793 (fun z1821 z1822 z1823 z1824 z1825 =>
  (rec z1821 z1822 (IntKind.wrap .i64 (z1823 + (1 : Int))) z1824 z1825)))
  else (k0 x1792 x1793))
noncomputable def F68_2_it {R : Type} (n : Nat) (k0 : List Int → List Ety → Option R) : Nat → List Ety → Int → Int → List Int → List Ety → Option R
  | 0, _, _, _, _, _ => none
  | k + 1, x1789, x1790, x1791, x1792, x1793 => F68_2_step n k0 (F68_2_it n k0 k) x1789 x1790 x1791 x1792 x1793
noncomputable def F68_2 {R : Type} (n : Nat) (x1789 : List Ety) (x1790 : Int) (x1791 : Int) (x1792 : List Int) (x1793 : List Ety) (k0 : List Int → List Ety → Option R) : Option R := F68_2_it n k0 n x1789 x1790 x1791 x1792 x1793
noncomputable def F68_2z (n : Nat) : Sm G := inZ G 0 ⟨[4, 6, 23, 24, 25], [(6, (.cell 1 (.own 3)))]⟩ F68_2s fun R x K => F68_2_it n (fun u0 u1 => K (.exit 2) (SSh.enc G F68_2x0 (((), ((), ())), (((), ((), ())), (((), ((), ())), (u0, (u1, ()))))))) n x.1.2.2.1 x.1.2.2.2.1 x.1.2.2.2.2.1 x.2.2.2.1 x.2.2.2.2.1
theorem F68_2_eq (n : Nat) (R : Type) (rec : SSh.den G F68_2s → Option R) (x : SSh.den G F68_2s) (K : AE → St G → Option R) :
  F68_2_step n (fun u0 u1 => K (.exit 2) (SSh.enc G F68_2x0 (((), ((), ())), (((), ((), ())), (((), ((), ())), (u0, (u1, ()))))))) (fun x1789 x1790 x1791 x1792 x1793 => rec (((), ((), (x1789, (x1790, (x1791, ()))))), (((), ((), ())), (((), ((), ())), (x1792, (x1793, ())))))) x.1.2.2.1 x.1.2.2.2.1 x.1.2.2.2.2.1 x.2.2.2.1 x.2.2.2.2.1 = exec prog G (ro G (tabOf (E71 n)) (frOf [F68_0z n, F68_1z n]) R) 0 (codeAt F68c [1, 1, 1, 1, 0, 1, 0, 0]) (.nd .no (.nd .no (.nd (.use 1) .no))) (SSh.enc G F68_2s x) (kLoop G (ro G (tabOf (E71 n)) (frOf [F68_0z n, F68_1z n]) R) 0 ⟨[4, 6, 23, 24, 25], [(6, (.cell 1 (.own 3)))]⟩ F68_2s ⟨⟨[4, 6], []⟩, ⟨[4], []⟩, [(2, ⟨[4, 6], []⟩)]⟩ rec K) := by kernel_rfl
theorem F68_2_ok (n : Nat) : FragOK prog G 0 (codeAt F68c [1, 1, 1, 1, 0, 1, 0]) (F68_2z n) :=
  frag_loop (Z := fun R k (x : SSh.den G F68_2s) K => F68_2_it n (fun u0 u1 => K (.exit 2) (SSh.enc G F68_2x0 (((), ((), ())), (((), ((), ())), (((), ((), ())), (u0, (u1, ()))))))) k x.1.2.2.1 x.1.2.2.2.1 x.1.2.2.2.2.1 x.2.2.2.1 x.2.2.2.2.1) laws fnok (E71_ok n).tab (AllF.of (l := [(1, codeAt F68c [1, 1, 1, 1, 0, 1, 0, 0, 1, 1, 0])]) (by kernel_rfl) (AllF.cons (F68_1_ok n) AllF.nil)) (fun _ _ _ => rfl) (fun R k y K => F68_2_eq n R (fun (x : SSh.den G F68_2s) => F68_2_it n (fun u0 u1 => K (.exit 2) (SSh.enc G F68_2x0 (((), ((), ())), (((), ((), ())), (((), ((), ())), (u0, (u1, ()))))))) k x.1.2.2.1 x.1.2.2.2.1 x.1.2.2.2.2.1 x.2.2.2.1 x.2.2.2.2.1) y K) n
noncomputable def F68 (n : Nat) (a1773 : List Int) (a1774 : List Ety) (a1775 : Int) : Option ((Unit × (Unit × Unit)) × (List Int × (List Ety × Unit))) :=
  (F68_0 n a1775 (8 : Int) a1773 a1774 (fun z1784 z1785 z1786 =>
  (andThen (F59 n z1784) fun r1787 =>
  (F68_2 n z1786 ((z1786.length) : Int) (0 : Int) r1787.2.1 [] (fun z1827 z1828 =>
  some (((), ((), ())), (z1827, (z1828, ()))))))))
noncomputable def F68e (n : Nat) : Ent G := ⟨68, (.cons (.agg (.cons (.imm 0) (.cons (.imm 3) .nil))) (.cons (.int .i64) .nil)), [], (.agg (.cons (.own 0) (.cons (.own 1) .nil))), [(.arr 0 true), (.arr 3 true)], fun x y => F68 n x.1.1 x.1.2.1 x.2.1⟩
theorem F68_eq (n : Nat) (x : ShL.den G (.cons (.agg (.cons (.imm 0) (.cons (.imm 3) .nil))) (.cons (.int .i64) .nil))) (y : denO G []) : (F68e n).F x y = runFn prog G (ro G (tabOf (E71 n)) (frOf [F68_0z n, F68_1z n, F68_2z n]) _) Go.Proofs.Try.f68 (.nd .no (.nd .no (.nd (.nd (.use 0) .no) (.nd .no (.nd (.nd .no (.nd (.use 2) .no)) .no))))) [(0, (.fld 1 (.own 3)))] (ShL.enc G (.cons (.agg (.cons (.imm 0) (.cons (.imm 3) .nil))) (.cons (.int .i64) .nil)) x) (encO G [] y) (decR (.agg (.cons (.own 0) (.cons (.own 1) .nil))) [(.arr 0 true), (.arr 3 true)]) := by kernel_rfl
theorem F68_ok (n : Nat) : EntOK prog G (F68e n) :=
  ent_ok (fr := frOf [F68_0z n, F68_1z n, F68_2z n]) (ann := (.nd .no (.nd .no (.nd (.nd (.use 0) .no) (.nd .no (.nd (.nd .no (.nd (.use 2) .no)) .no)))))) (frm := [(0, (.fld 1 (.own 3)))]) laws fnok (E71_ok n).tab (e := F68e n) (fn := Go.Proofs.Try.f68) (by kernel_rfl) (AllF.ofB (cd := F68c) (l := [(0, codeAt F68c [1, 1, 0, 0]), (2, codeAt F68c [1, 1, 1, 1, 0, 1, 0])]) (by kernel_rfl) (by kernel_rfl) (AllF.cons (F68_0_ok n) (AllF.cons (F68_2_ok n) AllF.nil))) (F68_eq n)
noncomputable def E72 (n : Nat) : List (Ent G) := F68e n :: E71 n
theorem E72_ok (n : Nat) : AllE prog G (E72 n) := AllE.cons (F68_ok n) (E71_ok n)
-- 37 loop.example/slowworm/impl.DictPack
noncomputable def F37c : Code := bodyOf Go.Proofs.Try.f37
noncomputable def F37 (n : Nat) (a1830 : List Int) (a1831 : List Ety) : Option ((List Int × (List Ety × Unit)) × Unit) :=
  (andThen (F29 n a1830 a1831) fun r1832 =>
  (bif (!r1832.1) then
  some (([], ([], ())), ())
  else (andThen (F61 n a1830 a1831) fun r1834 =>
  (andThen (F68 n a1830 a1831 r1834.1) fun r1835 =>
  some ((r1835.2.1, (r1835.2.2.1, ())), ())))))
noncomputable def F37e (n : Nat) : Ent G := ⟨37, (.cons (.agg (.cons (.imm 0) (.cons (.imm 3) .nil))) .nil), [], (.agg (.cons (.imm 0) (.cons (.imm 3) .nil))), [], fun x y => F37 n x.1.1 x.1.2.1⟩
theorem F37_eq (n : Nat) (x : ShL.den G (.cons (.agg (.cons (.imm 0) (.cons (.imm 3) .nil))) .nil)) (y : denO G []) : (F37e n).F x y = runFn prog G (ro G (tabOf (E72 n)) (frOf []) _) Go.Proofs.Try.f37 .no [(0, .fz)] (ShL.enc G (.cons (.agg (.cons (.imm 0) (.cons (.imm 3) .nil))) .nil) x) (encO G [] y) (decR (.agg (.cons (.imm 0) (.cons (.imm 3) .nil))) []) := by kernel_rfl
theorem F37_ok (n : Nat) : EntOK prog G (F37e n) :=
  ent_ok (fr := frOf []) (ann := .no) (frm := [(0, .fz)]) laws fnok (E72_ok n).tab (e := F37e n) (fn := Go.Proofs.Try.f37) (by kernel_rfl) (AllF.ofB (cd := F37c) (l := []) (by kernel_rfl) (by kernel_rfl) AllF.nil) (F37_eq n)
noncomputable def E73 (n : Nat) : List (Ent G) := F37e n :: E72 n
theorem E73_ok (n : Nat) : AllE prog G (E73 n) := AllE.cons (F37_ok n) (E72_ok n)
noncomputable def F7 (n : Nat) (a1645 : List Int) : Option (Bool × Unit) :=
  (bif (decide (((a1645.length) : Int) > (1048576 : Int))) then
  some (true, ())
  else (andThen (F35 n a1645) fun r1651 =>
  (andThen (F29 n r1651.1.1 r1651.1.2.1) fun r1652 =>
  (andThen (F36 n r1651.1.1 r1651.1.2.1) fun r1656 =>
  let v1657 := (r1652.1 == r1656.1)
  (bif (!v1657) then
  some (v1657, ())
  else (bif (!r1652.1) then
  some (v1657, ())
  else (andThen (F23 n r1651.1.1 r1651.1.2.1) fun r1660 =>
  (F7_0 n (0 : Int) r1651.1.1 r1651.1.2.1 r1660.2.1 (fun z1672 =>
  some (z1672, ())) (fun z1673 z1674 =>
  (andThen (F37 n z1673 z1674) fun r1836 =>
  (andThen (F33 n z1673 z1674 r1836.1.1 r1836.1.2.1) fun r1837 =>
  (bif r1837.1 then
  (andThen (F37 n z1673 z1674) fun r1838 =>
  (andThen (F29 n r1838.1.1 r1838.1.2.1) fun r1839 =>
  some (r1839.1, ())))
  else some (false, ())))))))))))))
noncomputable def F7e (n : Nat) : Ent G := ⟨7, (.cons (.imm 1) .nil), [], .bool, [], fun x y => F7 n x.1⟩
theorem F7_eq (n : Nat) (x : ShL.den G (.cons (.imm 1) .nil)) (y : denO G []) : (F7e n).F x y = runFn prog G (ro G (tabOf (E73 n)) (frOf [F7_0z n]) _) Go.Proofs.Try.f7 (.nd .no (.nd .no (.nd .no (.nd .no (.nd .no (.nd .no (.nd .no (.nd .no (.nd (.nd .no (.nd (.use 0) .no)) .no))))))))) [(0, .fz)] (ShL.enc G (.cons (.imm 1) .nil) x) (encO G [] y) (decR .bool []) := by kernel_rfl
theorem F7_ok (n : Nat) : EntOK prog G (F7e n) :=
  ent_ok (fr := frOf [F7_0z n]) (ann := (.nd .no (.nd .no (.nd .no (.nd .no (.nd .no (.nd .no (.nd .no (.nd .no (.nd (.nd .no (.nd (.use 0) .no)) .no)))))))))) (frm := [(0, .fz)]) laws fnok (E73_ok n).tab (e := F7e n) (fn := Go.Proofs.Try.f7) (by kernel_rfl) (AllF.ofB (cd := F7c) (l := [(0, codeAt F7c [1, 1, 1, 1, 1, 1, 1, 1, 0, 1, 0])]) (by kernel_rfl) (by kernel_rfl) (AllF.cons (F7_0_ok n) AllF.nil)) (F7_eq n)
noncomputable def E74 (n : Nat) : List (Ent G) := F7e n :: E73 n
theorem E74_ok (n : Nat) : AllE prog G (E74 n) := AllE.cons (F7_ok n) (E73_ok n)
-- 9 loop.example/slowworm/laws.FnDictPack
noncomputable def F9c : Code := bodyOf Go.Proofs.Try.f9
-- 40 loop.example/slowworm/spec.DrawDictPack
noncomputable def F40c : Code := bodyOf Go.Proofs.Try.f40
noncomputable def F40 (n : Nat) (a1843 : List Int) : Option ((List Int × (List Ety × Unit)) × Unit) :=
  (andThen (F48 n a1843) fun r1844 =>
  (andThen (F49 n r1844.2.1.1 r1844.2.1.2.1) fun r1845 =>
  some ((r1845.1.1, (r1845.1.2.1, ())), ())))
noncomputable def F40e (n : Nat) : Ent G := ⟨40, (.cons (.imm 1) .nil), [], (.agg (.cons (.imm 0) (.cons (.imm 3) .nil))), [], fun x y => F40 n x.1⟩
theorem F40_eq (n : Nat) (x : ShL.den G (.cons (.imm 1) .nil)) (y : denO G []) : (F40e n).F x y = runFn prog G (ro G (tabOf (E74 n)) (frOf []) _) Go.Proofs.Try.f40 .no [(0, .fz)] (ShL.enc G (.cons (.imm 1) .nil) x) (encO G [] y) (decR (.agg (.cons (.imm 0) (.cons (.imm 3) .nil))) []) := by kernel_rfl
theorem F40_ok (n : Nat) : EntOK prog G (F40e n) :=
  ent_ok (fr := frOf []) (ann := .no) (frm := [(0, .fz)]) laws fnok (E74_ok n).tab (e := F40e n) (fn := Go.Proofs.Try.f40) (by kernel_rfl) (AllF.ofB (cd := F40c) (l := []) (by kernel_rfl) (by kernel_rfl) AllF.nil) (F40_eq n)
noncomputable def E75 (n : Nat) : List (Ent G) := F40e n :: E74 n
theorem E75_ok (n : Nat) : AllE prog G (E75 n) := AllE.cons (F40_ok n) (E74_ok n)
noncomputable def F9 (n : Nat) (a1840 : List Int) : Option (Bool × Unit) :=
  (bif (decide (((a1840.length) : Int) > (1048576 : Int))) then
  some (true, ())
  else (andThen (F40 n a1840) fun r1846 =>
  (andThen (F37 n r1846.1.1 r1846.1.2.1) fun r1847 =>
  (andThen (F41 n r1846.1.1 r1846.1.2.1) fun r1848 =>
  (andThen (F30 n r1847.1.1 r1847.1.2.1 r1848.1.1 r1848.1.2.1) fun r1849 =>
  (bif (!r1849.1) then
  some (r1849.1, ())
  else (bif (((r1847.1.1.length) : Int) == (0 : Int)) then
  some (r1849.1, ())
  else (andThen (F23 n r1847.1.1 r1847.1.2.1) fun r1853 =>
  (andThen (F23 n r1846.1.1 r1846.1.2.1) fun r1854 =>
  (andThen (F25 n r1853.2.1 r1854.2.1) fun r1855 =>
  (bif r1855.1 then
  (andThen (F37 n r1847.1.1 r1847.1.2.1) fun r1856 =>
  (andThen (F30 n r1856.1.1 r1856.1.2.1 r1847.1.1 r1847.1.2.1) fun r1857 =>
  (bif r1857.1 then
  (andThen (F33 n r1847.1.1 r1847.1.2.1 r1846.1.1 r1846.1.2.1) fun r1858 =>
  some (r1858.1, ()))
  else some (false, ()))))
  else some (false, ()))))))))))))
noncomputable def F9e (n : Nat) : Ent G := ⟨9, (.cons (.imm 1) .nil), [], .bool, [], fun x y => F9 n x.1⟩
theorem F9_eq (n : Nat) (x : ShL.den G (.cons (.imm 1) .nil)) (y : denO G []) : (F9e n).F x y = runFn prog G (ro G (tabOf (E75 n)) (frOf []) _) Go.Proofs.Try.f9 .no [(0, .fz)] (ShL.enc G (.cons (.imm 1) .nil) x) (encO G [] y) (decR .bool []) := by kernel_rfl
theorem F9_ok (n : Nat) : EntOK prog G (F9e n) :=
  ent_ok (fr := frOf []) (ann := .no) (frm := [(0, .fz)]) laws fnok (E75_ok n).tab (e := F9e n) (fn := Go.Proofs.Try.f9) (by kernel_rfl) (AllF.ofB (cd := F9c) (l := []) (by kernel_rfl) (by kernel_rfl) AllF.nil) (F9_eq n)
noncomputable def E76 (n : Nat) : List (Ent G) := F9e n :: E75 n
theorem E76_ok (n : Nat) : AllE prog G (E76 n) := AllE.cons (F9_ok n) (E75_ok n)
-- 42 loop.example/slowworm/impl.DictSet
noncomputable def F42c : Code := bodyOf Go.Proofs.Try.f42
noncomputable def F42_0x0 : SSh := ⟨59, [(1, .str), (2, (.int .i64)), (3, (.ptr 0 0)), (6, (.ptr 1 0))], [(.box 26 (.cons (.own 2) (.cons (.own 3) .nil))), (.box 26 (.cons .nil0 (.cons .nil0 .nil))), (.arr 0 true), (.arr 3 true)]⟩
noncomputable def F42_0s : SSh := ⟨59, [(1, .str), (2, (.int .i64)), (3, (.ptr 0 0)), (6, (.ptr 1 0))], [(.box 26 (.cons (.own 2) (.cons (.own 3) .nil))), (.box 26 (.cons .nil0 (.cons .nil0 .nil))), (.arr 0 true), (.arr 3 true)]⟩
noncomputable def F42_0 {R : Type} (n : Nat) (x1909 : ByteArray) (x1910 : Int) (x1911 : List Int) (x1912 : List Ety) (k0 : ByteArray → Int → List Int → List Ety → Option R) : Option R :=
  (bif (decide (((x1912.length) : Int) ≥ (IntKind.wrap .i64 ((IntKind.wrap .i64 ((2 : Int) * ((x1911.length) : Int))).tdiv (3 : Int))))) then
  (andThen (F61 n x1911 x1912) fun r1918 =>
  (andThen (F68 n x1911 x1912 (IntKind.wrap .i64 (r1918.1 + (1 : Int)))) fun r1920 =>
  (k0 x1909 x1910 r1920.2.1 r1920.2.2.1)))
  else (k0 x1909 x1910 x1911 x1912))
noncomputable def F42_0z (n : Nat) : Sm G := inZ G 0 ⟨[1, 2, 3, 6], []⟩ F42_0s fun R x K => F42_0 n x.1.1 x.1.2.1 x.2.2.2.1 x.2.2.2.2.1 (fun u0 u1 u2 u3 => K .normal (SSh.enc G F42_0x0 ((u0, (u1, ((), ((), ())))), (((), ((), ())), (((), ((), ())), (u2, (u3, ())))))))
theorem F42_0_eq (n : Nat) (R : Type) (x : SSh.den G F42_0s) (K : AE → St G → Option R) :
  F42_0 n x.1.1 x.1.2.1 x.2.2.2.1 x.2.2.2.2.1 (fun u0 u1 u2 u3 => K .normal (SSh.enc G F42_0x0 ((u0, (u1, ((), ((), ())))), (((), ((), ())), (((), ((), ())), (u2, (u3, ()))))))) = exec prog G (ro G (tabOf (E76 n)) (frOf []) R) 0 (codeAt F42c [1, 1, 1, 1, 1, 0]) .no (SSh.enc G F42_0s x) (kNrm G (ro G (tabOf (E76 n)) (frOf []) R) 0 ⟨⟨[1, 2, 3, 6], []⟩, ⟨[6, 7], []⟩, []⟩ K) := by kernel_rfl
theorem F42_0_ok (n : Nat) : FragOK prog G 0 (codeAt F42c [1, 1, 1, 1, 1, 0]) (F42_0z n) :=
  frag_plain laws fnok (E76_ok n).tab (AllF.of (l := []) (by kernel_rfl) AllF.nil) (F42_0_eq n)
noncomputable def F42 (n : Nat) (a1892 : List Int) (a1893 : List Ety) (a1894 : ByteArray) (a1895 : Int) : Option (((List Int × (List Ety × Unit)) × (Bool × Unit)) × Unit) :=
  (andThen (F29 n a1892 a1893) fun r1896 =>
  (bif (!r1896.1) then
  some ((([], ([], ())), (false, ())), ())
  else (bif (decide (((a1894.size) : Int) > (20 : Int))) then
  some ((([], ([], ())), (false, ())), ())
  else (andThen (F62 n a1895 (-1000000 : Int) (1000000 : Int)) fun r1900 =>
  (bif (!r1900.1) then
  some ((([], ([], ())), (false, ())), ())
  else (andThen (F69 n a1892 a1893) fun r1902 =>
  (andThen (F56 n r1902.2.1 r1902.2.2.1 a1894) fun r1903 =>
  (bif (decide (r1903.1 ≥ (0 : Int))) then
  (bif (decide ((0 : Int) ≤ r1903.1)) then
  (bif (decide (r1903.1 < ((r1902.2.2.1.length) : Int))) then
  let v1905 := (r1903.1.toNat)
  some (((r1902.2.1, ((r1902.2.2.1.set v1905 (Ety.mk (r1902.2.2.1.getD v1905 (Ety.mk ({ data := #[] } : ByteArray) (0 : Int) (0 : Int) false)).key (r1902.2.2.1.getD v1905 (Ety.mk ({ data := #[] } : ByteArray) (0 : Int) (0 : Int) false)).hash a1895 (r1902.2.2.1.getD v1905 (Ety.mk ({ data := #[] } : ByteArray) (0 : Int) (0 : Int) false)).live)), ())), (true, ())), ())
  else none)
  else none)
  else (andThen (F61 n r1902.2.1 r1902.2.2.1) fun r1907 =>
  (bif (r1907.1 == (40 : Int)) then
  some (((r1902.2.1, (r1902.2.2.1, ())), (false, ())), ())
  else (F42_0 n a1894 a1895 r1902.2.1 r1902.2.2.1 (fun z1921 z1922 z1923 z1924 =>
  (andThen (F72v1 n z1921 z1922 z1923 z1924) fun r1925 =>
  some (((r1925.2.2.1, (r1925.2.2.2.2.1, ())), (true, ())), ()))))))))))))))
noncomputable def F42e (n : Nat) : Ent G := ⟨42, (.cons (.agg (.cons (.imm 0) (.cons (.imm 3) .nil))) (.cons .str (.cons (.int .i64) .nil))), [], (.tup (.cons (.agg (.cons (.imm 0) (.cons (.imm 3) .nil))) (.cons .bool .nil))), [], fun x y => F42 n x.1.1 x.1.2.1 x.2.1 x.2.2.1⟩
theorem F42_eq (n : Nat) (x : ShL.den G (.cons (.agg (.cons (.imm 0) (.cons (.imm 3) .nil))) (.cons .str (.cons (.int .i64) .nil)))) (y : denO G []) : (F42e n).F x y = runFn prog G (ro G (tabOf (E76 n)) (frOf [F42_0z n]) _) Go.Proofs.Try.f42 (.nd .no (.nd .no (.nd .no (.nd .no (.nd .no (.nd (.use 0) .no)))))) [(0, .fz), (1, .fz)] (ShL.enc G (.cons (.agg (.cons (.imm 0) (.cons (.imm 3) .nil))) (.cons .str (.cons (.int .i64) .nil))) x) (encO G [] y) (decR (.tup (.cons (.agg (.cons (.imm 0) (.cons (.imm 3) .nil))) (.cons .bool .nil))) []) := by kernel_rfl
theorem F42_ok (n : Nat) : EntOK prog G (F42e n) :=
  ent_ok (fr := frOf [F42_0z n]) (ann := (.nd .no (.nd .no (.nd .no (.nd .no (.nd .no (.nd (.use 0) .no))))))) (frm := [(0, .fz), (1, .fz)]) laws fnok (E76_ok n).tab (e := F42e n) (fn := Go.Proofs.Try.f42) (by kernel_rfl) (AllF.ofB (cd := F42c) (l := [(0, codeAt F42c [1, 1, 1, 1, 1, 0])]) (by kernel_rfl) (by kernel_rfl) (AllF.cons (F42_0_ok n) AllF.nil)) (F42_eq n)
noncomputable def E77 (n : Nat) : List (Ent G) := F42e n :: E76 n
theorem E77_ok (n : Nat) : AllE prog G (E77 n) := AllE.cons (F42_ok n) (E76_ok n)
-- 10 loop.example/slowworm/laws.FnDictOrder
noncomputable def F10c : Code := bodyOf Go.Proofs.Try.f10
noncomputable def F10_0x0 : SSh := ⟨66, [(2, .bool)], []⟩
noncomputable def F10_0x1 : SSh := ⟨66, [(3, (.ptr 0 0)), (4, (.own 1)), (5, (.ptr 2 0))], [(.box 26 (.cons (.imm 0) (.cons (.imm 3) .nil))), (.arr 2 true), (.box 26 (.cons (.imm 0) (.cons (.imm 3) .nil)))]⟩
noncomputable def F10_0s : SSh := ⟨66, [(3, (.ptr 0 0)), (4, (.own 1)), (5, (.ptr 2 0)), (6, (.int .i64))], [(.box 26 (.cons (.imm 0) (.cons (.imm 3) .nil))), (.arr 2 true), (.box 26 (.cons (.imm 0) (.cons (.imm 3) .nil)))]⟩
noncomputable def F10_0_step {R : Type} (n : Nat) (k0 : Bool → Option R) (k1 : List Int → List Ety → List ByteArray → List Int → List Ety → Option R) (rec : Int → List Int → List Ety → List ByteArray → List Int → List Ety → Option R) (x1935 : Int) (x1936 : List Int) (x1937 : List Ety) (x1938 : List ByteArray) (x1939 : List Int) (x1940 : List Ety) : Option R :=
  (bif (decide (x1935 < ((x1938.length) : Int))) then
  (bif (decide ((0 : Int) ≤ x1935)) then
  (bif (decide (x1935 < ((x1938.length) : Int))) then
  (andThen (F20 n x1936 x1937 (x1938.getD (x1935.toNat) ({ data := #[] } : ByteArray))) fun r1945 =>
  (bif (decide ((0 : Int) ≤ x1935)) then
  (bif (decide (x1935 < ((x1938.length) : Int))) then
  (andThen (F42 n x1939 x1940 (x1938.getD (x1935.toNat) ({ data := #[] } : ByteArray)) r1945.1.1) fun r1948 =>
  (bif (!r1948.1.2.1) then
  (k0 false)
  else (rec (IntKind.wrap .i64 (x1935 + (1 : Int))) x1936 x1937 x1938 r1948.1.1.1 r1948.1.1.2.1)))
  else none)
  else none))
  else none)
  else none)
  else (k1 x1936 x1937 x1938 x1939 x1940))
noncomputable def F10_0_it {R : Type} (n : Nat) (k0 : Bool → Option R) (k1 : List Int → List Ety → List ByteArray → List Int → List Ety → Option R) : Nat → Int → List Int → List Ety → List ByteArray → List Int → List Ety → Option R
  | 0, _, _, _, _, _, _ => none
  | k + 1, x1935, x1936, x1937, x1938, x1939, x1940 => F10_0_step n k0 k1 (F10_0_it n k0 k1 k) x1935 x1936 x1937 x1938 x1939 x1940
noncomputable def F10_0 {R : Type} (n : Nat) (x1935 : Int) (x1936 : List Int) (x1937 : List Ety) (x1938 : List ByteArray) (x1939 : List Int) (x1940 : List Ety) (k0 : Bool → Option R) (k1 : List Int → List Ety → List ByteArray → List Int → List Ety → Option R) : Option R := F10_0_it n k0 k1 n x1935 x1936 x1937 x1938 x1939 x1940
noncomputable def F10_0z (n : Nat) : Sm G := inZ G 0 ⟨[3, 4, 5, 6], []⟩ F10_0s fun R x K => F10_0_it n (fun u0 => K .ret (SSh.enc G F10_0x0 ((u0, ()), ()))) (fun u0 u1 u2 u3 u4 => K (.exit 0) (SSh.enc G F10_0x1 (((), ((), ((), ()))), ((u0, (u1, ())), (u2, ((u3, (u4, ())), ())))))) n x.1.2.2.2.1 x.2.1.1 x.2.1.2.1 x.2.2.1 x.2.2.2.1.1 x.2.2.2.1.2.1
theorem F10_0_eq (n : Nat) (R : Type) (rec : SSh.den G F10_0s → Option R) (x : SSh.den G F10_0s) (K : AE → St G → Option R) :
  F10_0_step n (fun u0 => K .ret (SSh.enc G F10_0x0 ((u0, ()), ()))) (fun u0 u1 u2 u3 u4 => K (.exit 0) (SSh.enc G F10_0x1 (((), ((), ((), ()))), ((u0, (u1, ())), (u2, ((u3, (u4, ())), ())))))) (fun x1935 x1936 x1937 x1938 x1939 x1940 => rec (((), ((), ((), (x1935, ())))), ((x1936, (x1937, ())), (x1938, ((x1939, (x1940, ())), ()))))) x.1.2.2.2.1 x.2.1.1 x.2.1.2.1 x.2.2.1 x.2.2.2.1.1 x.2.2.2.1.2.1 = exec prog G (ro G (tabOf (E77 n)) (frOf []) R) 0 (codeAt F10c [1, 1, 1, 1, 1, 0, 1, 0, 0]) .no (SSh.enc G F10_0s x) (kLoop G (ro G (tabOf (E77 n)) (frOf []) R) 0 ⟨[3, 4, 5, 6], []⟩ F10_0s ⟨⟨[3, 4, 5], []⟩, ⟨[2], []⟩, [(0, ⟨[3, 4, 5], []⟩)]⟩ rec K) := by kernel_rfl
theorem F10_0_ok (n : Nat) : FragOK prog G 0 (codeAt F10c [1, 1, 1, 1, 1, 0, 1, 0]) (F10_0z n) :=
  frag_loop (Z := fun R k (x : SSh.den G F10_0s) K => F10_0_it n (fun u0 => K .ret (SSh.enc G F10_0x0 ((u0, ()), ()))) (fun u0 u1 u2 u3 u4 => K (.exit 0) (SSh.enc G F10_0x1 (((), ((), ((), ()))), ((u0, (u1, ())), (u2, ((u3, (u4, ())), ())))))) k x.1.2.2.2.1 x.2.1.1 x.2.1.2.1 x.2.2.1 x.2.2.2.1.1 x.2.2.2.1.2.1) laws fnok (E77_ok n).tab (AllF.of (l := []) (by kernel_rfl) AllF.nil) (fun _ _ _ => rfl) (fun R k y K => F10_0_eq n R (fun (x : SSh.den G F10_0s) => F10_0_it n (fun u0 => K .ret (SSh.enc G F10_0x0 ((u0, ()), ()))) (fun u0 u1 u2 u3 u4 => K (.exit 0) (SSh.enc G F10_0x1 (((), ((), ((), ()))), ((u0, (u1, ())), (u2, ((u3, (u4, ())), ())))))) k x.1.2.2.2.1 x.2.1.1 x.2.1.2.1 x.2.2.1 x.2.2.2.1.1 x.2.2.2.1.2.1) y K) n
noncomputable def F10 (n : Nat) (a1929 : List Int) : Option (Bool × Unit) :=
  (bif (decide (((a1929.length) : Int) > (1048576 : Int))) then
  some (true, ())
  else (andThen (F22 n a1929) fun r1932 =>
  (andThen (F23 n r1932.1.1 r1932.1.2.1) fun r1933 =>
  (andThen (F27 n) fun r1934 =>
  (F10_0 n (0 : Int) r1932.1.1 r1932.1.2.1 r1933.2.1 r1934.1.1 [] (fun z1951 =>
  some (z1951, ())) (fun z1952 z1953 z1954 z1955 z1956 =>
  (andThen (F36 n z1952 z1953) fun r1957 =>
  (andThen (F29 n z1952 z1953) fun r1958 =>
  (bif (r1957.1 == r1958.1) then
  (andThen (F23 n z1955 z1956) fun r1960 =>
  (andThen (F25 n r1960.2.1 z1954) fun r1961 =>
  (bif r1961.1 then
  (andThen (F33 n z1955 z1956 z1952 z1953) fun r1962 =>
  (andThen (F29 n z1952 z1953) fun r1963 =>
  some ((r1962.1 == r1963.1), ())))
  else some (false, ()))))
  else some (false, ()))))))))))
noncomputable def F10e (n : Nat) : Ent G := ⟨10, (.cons (.imm 1) .nil), [], .bool, [], fun x y => F10 n x.1⟩
theorem F10_eq (n : Nat) (x : ShL.den G (.cons (.imm 1) .nil)) (y : denO G []) : (F10e n).F x y = runFn prog G (ro G (tabOf (E77 n)) (frOf [F10_0z n]) _) Go.Proofs.Try.f10 (.nd .no (.nd .no (.nd .no (.nd .no (.nd .no (.nd (.nd .no (.nd (.use 0) .no)) .no)))))) [(0, .fz)] (ShL.enc G (.cons (.imm 1) .nil) x) (encO G [] y) (decR .bool []) := by kernel_rfl
theorem F10_ok (n : Nat) : EntOK prog G (F10e n) :=
  ent_ok (fr := frOf [F10_0z n]) (ann := (.nd .no (.nd .no (.nd .no (.nd .no (.nd .no (.nd (.nd .no (.nd (.use 0) .no)) .no))))))) (frm := [(0, .fz)]) laws fnok (E77_ok n).tab (e := F10e n) (fn := Go.Proofs.Try.f10) (by kernel_rfl) (AllF.ofB (cd := F10c) (l := [(0, codeAt F10c [1, 1, 1, 1, 1, 0, 1, 0])]) (by kernel_rfl) (by kernel_rfl) (AllF.cons (F10_0_ok n) AllF.nil)) (F10_eq n)
noncomputable def E78 (n : Nat) : List (Ent G) := F10e n :: E77 n
theorem E78_ok (n : Nat) : AllE prog G (E78 n) := AllE.cons (F10_ok n) (E77_ok n)
-- 11 loop.example/slowworm/laws.FnDictApart
noncomputable def F11c : Code := bodyOf Go.Proofs.Try.f11
-- 43 loop.example/slowworm/spec.DrawDictSet
noncomputable def F43c : Code := bodyOf Go.Proofs.Try.f43
-- 73 (*loop.example/slowworm/spec.rnd).often
noncomputable def F73c : Code := bodyOf Go.Proofs.Try.f73
noncomputable def F73 (n : Nat) (a1973 : Int) (a1974 : List Int) (a1975 : Int) : Option (Int × ((List Int × (Int × Unit)) × Unit)) :=
  (andThen (F65 n (16 : Int) a1974 a1975) fun r1976 =>
  (bif (r1976.1 == (0 : Int)) then
  (andThen (F80 n r1976.2.1.1 r1976.2.1.2.1) fun r1978 =>
  some (r1978.1, ((r1978.2.1.1, (r1978.2.1.2.1, ())), ())))
  else some (a1973, ((r1976.2.1.1, (r1976.2.1.2.1, ())), ()))))
noncomputable def F73e (n : Nat) : Ent G := ⟨73, (.cons (.ptr 0 0) (.cons (.int .i64) .nil)), [(.box 72 (.cons (.imm 1) (.cons (.int .i64) .nil)))], (.int .i64), [(.box 72 (.cons (.imm 1) (.cons (.int .i64) .nil)))], fun x y => F73 n x.2.1 y.1.1 y.1.2.1⟩
theorem F73_eq (n : Nat) (x : ShL.den G (.cons (.ptr 0 0) (.cons (.int .i64) .nil))) (y : denO G [(.box 72 (.cons (.imm 1) (.cons (.int .i64) .nil)))]) : (F73e n).F x y = runFn prog G (ro G (tabOf (E78 n)) (frOf []) _) Go.Proofs.Try.f73 .no [(0, .fz)] (ShL.enc G (.cons (.ptr 0 0) (.cons (.int .i64) .nil)) x) (encO G [(.box 72 (.cons (.imm 1) (.cons (.int .i64) .nil)))] y) (decR (.int .i64) [(.box 72 (.cons (.imm 1) (.cons (.int .i64) .nil)))]) := by kernel_rfl
theorem F73_ok (n : Nat) : EntOK prog G (F73e n) :=
  ent_ok (fr := frOf []) (ann := .no) (frm := [(0, .fz)]) laws fnok (E78_ok n).tab (e := F73e n) (fn := Go.Proofs.Try.f73) (by kernel_rfl) (AllF.ofB (cd := F73c) (l := []) (by kernel_rfl) (by kernel_rfl) AllF.nil) (F73_eq n)
noncomputable def E79 (n : Nat) : List (Ent G) := F73e n :: E78 n
theorem E79_ok (n : Nat) : AllE prog G (E79 n) := AllE.cons (F73_ok n) (E78_ok n)
noncomputable def F43 (n : Nat) (a1968 : List Int) : Option (((List Int × (List Ety × Unit)) × (ByteArray × (Int × Unit))) × Unit) :=
  (andThen (F48 n a1968) fun r1969 =>
  (andThen (F49 n r1969.2.1.1 r1969.2.1.2.1) fun r1970 =>
  (andThen (F50 n r1970.2.1.1 r1970.2.1.2.1) fun r1971 =>
  (andThen (F65 n (99 : Int) r1971.2.1.1 r1971.2.1.2.1) fun r1972 =>
  (andThen (F73 n r1972.1 r1972.2.1.1 r1972.2.1.2.1) fun r1979 =>
  some (((r1970.1.1, (r1970.1.2.1, ())), (r1971.1, (r1979.1, ()))), ()))))))
noncomputable def F43e (n : Nat) : Ent G := ⟨43, (.cons (.imm 1) .nil), [], (.tup (.cons (.agg (.cons (.imm 0) (.cons (.imm 3) .nil))) (.cons .str (.cons (.int .i64) .nil)))), [], fun x y => F43 n x.1⟩
theorem F43_eq (n : Nat) (x : ShL.den G (.cons (.imm 1) .nil)) (y : denO G []) : (F43e n).F x y = runFn prog G (ro G (tabOf (E79 n)) (frOf []) _) Go.Proofs.Try.f43 .no [(0, .fz), (1, .fz), (2, .fz)] (ShL.enc G (.cons (.imm 1) .nil) x) (encO G [] y) (decR (.tup (.cons (.agg (.cons (.imm 0) (.cons (.imm 3) .nil))) (.cons .str (.cons (.int .i64) .nil)))) []) := by kernel_rfl
theorem F43_ok (n : Nat) : EntOK prog G (F43e n) :=
  ent_ok (fr := frOf []) (ann := .no) (frm := [(0, .fz), (1, .fz), (2, .fz)]) laws fnok (E79_ok n).tab (e := F43e n) (fn := Go.Proofs.Try.f43) (by kernel_rfl) (AllF.ofB (cd := F43c) (l := []) (by kernel_rfl) (by kernel_rfl) AllF.nil) (F43_eq n)
noncomputable def E80 (n : Nat) : List (Ent G) := F43e n :: E79 n
theorem E80_ok (n : Nat) : AllE prog G (E80 n) := AllE.cons (F43_ok n) (E79_ok n)
-- 44 loop.example/slowworm/spec.Half
noncomputable def F44c : Code := bodyOf Go.Proofs.Try.f44
noncomputable def F44 (n : Nat) (a1981 : List Int) : Option (List Int × Unit) :=
  let v1983 := (IntKind.wrap .i64 (((a1981.length) : Int).tdiv (2 : Int)))
  (bif (decide ((0 : Int) ≤ v1983)) then
  (bif (decide (v1983 ≤ ((a1981.length) : Int))) then
  (bif (decide (((a1981.length) : Int) ≤ ((a1981.length) : Int))) then
  some (((a1981.take (((a1981.length) : Int).toNat)).drop (v1983.toNat)), ())
  else none)
  else none)
  else none)
noncomputable def F44e (n : Nat) : Ent G := ⟨44, (.cons (.imm 1) .nil), [], (.imm 1), [], fun x y => F44 n x.1⟩
theorem F44_eq (n : Nat) (x : ShL.den G (.cons (.imm 1) .nil)) (y : denO G []) : (F44e n).F x y = runFn prog G (ro G (tabOf (E80 n)) (frOf []) _) Go.Proofs.Try.f44 .no [(0, .fz)] (ShL.enc G (.cons (.imm 1) .nil) x) (encO G [] y) (decR (.imm 1) []) := by kernel_rfl
theorem F44_ok (n : Nat) : EntOK prog G (F44e n) :=
  ent_ok (fr := frOf []) (ann := .no) (frm := [(0, .fz)]) laws fnok (E80_ok n).tab (e := F44e n) (fn := Go.Proofs.Try.f44) (by kernel_rfl) (AllF.ofB (cd := F44c) (l := []) (by kernel_rfl) (by kernel_rfl) AllF.nil) (F44_eq n)
noncomputable def E81 (n : Nat) : List (Ent G) := F44e n :: E80 n
theorem E81_ok (n : Nat) : AllE prog G (E81 n) := AllE.cons (F44_ok n) (E80_ok n)
noncomputable def F11 (n : Nat) (a1965 : List Int) : Option (Bool × Unit) :=
  (bif (decide (((a1965.length) : Int) > (1048576 : Int))) then
  some (true, ())
  else (andThen (F43 n a1965) fun r1980 =>
  (andThen (F44 n a1965) fun r1985 =>
  (andThen (F28 n r1985.1) fun r1986 =>
  (andThen (F42 n r1980.1.1.1 r1980.1.1.2.1 r1980.1.2.1 r1980.1.2.2.1) fun r1987 =>
  (andThen (F45 n r1980.1.1.1 r1980.1.1.2.1 r1980.1.2.1 r1980.1.2.2.1) fun r1988 =>
  (bif (!(r1987.1.2.1 == r1988.1.2.1)) then
  some (false, ())
  else (andThen (F30 n r1987.1.1.1 r1987.1.1.2.1 r1988.2.1 r1988.2.2.1) fun r1990 =>
  (bif (!r1990.1) then
  some (false, ())
  else (andThen (F42 n r1980.1.1.1 r1980.1.1.2.1 r1986.1.2.1 (7 : Int)) fun r1992 =>
  (bif (!r1987.1.2.1) then
  some (true, ())
  else (bif (!r1992.1.2.1) then
  some (true, ())
  else (bif ((r1980.1.2.1.toList) == (r1986.1.2.1.toList)) then
  some (true, ())
  else (andThen (F42 n r1987.1.1.1 r1987.1.1.2.1 r1986.1.2.1 (7 : Int)) fun r1996 =>
  (andThen (F42 n r1992.1.1.1 r1992.1.1.2.1 r1980.1.2.1 r1980.1.2.2.1) fun r1997 =>
  (bif (r1996.1.2.1 == r1997.1.2.1) then
  (bif (!r1996.1.2.1) then
  some (true, ())
  else (andThen (F33 n r1996.1.1.1 r1996.1.1.2.1 r1997.1.1.1 r1997.1.1.2.1) fun r2000 =>
  some (r2000.1, ())))
  else some (false, ())))))))))))))))))
noncomputable def F11e (n : Nat) : Ent G := ⟨11, (.cons (.imm 1) .nil), [], .bool, [], fun x y => F11 n x.1⟩
theorem F11_eq (n : Nat) (x : ShL.den G (.cons (.imm 1) .nil)) (y : denO G []) : (F11e n).F x y = runFn prog G (ro G (tabOf (E81 n)) (frOf []) _) Go.Proofs.Try.f11 .no [(0, .fz)] (ShL.enc G (.cons (.imm 1) .nil) x) (encO G [] y) (decR .bool []) := by kernel_rfl
theorem F11_ok (n : Nat) : EntOK prog G (F11e n) :=
  ent_ok (fr := frOf []) (ann := .no) (frm := [(0, .fz)]) laws fnok (E81_ok n).tab (e := F11e n) (fn := Go.Proofs.Try.f11) (by kernel_rfl) (AllF.ofB (cd := F11c) (l := []) (by kernel_rfl) (by kernel_rfl) AllF.nil) (F11_eq n)
noncomputable def E82 (n : Nat) : List (Ent G) := F11e n :: E81 n
theorem E82_ok (n : Nat) : AllE prog G (E82 n) := AllE.cons (F11_ok n) (E81_ok n)
-- 12 loop.example/slowworm/laws.FnDictDrop
noncomputable def F12c : Code := bodyOf Go.Proofs.Try.f12
-- 46 loop.example/slowworm/spec.DrawDictDrop
noncomputable def F46c : Code := bodyOf Go.Proofs.Try.f46
noncomputable def F46 (n : Nat) (a2004 : List Int) : Option (((List Int × (List Ety × Unit)) × (ByteArray × Unit)) × Unit) :=
  (andThen (F48 n a2004) fun r2005 =>
  (andThen (F49 n r2005.2.1.1 r2005.2.1.2.1) fun r2006 =>
  (andThen (F50 n r2006.2.1.1 r2006.2.1.2.1) fun r2007 =>
  some (((r2006.1.1, (r2006.1.2.1, ())), (r2007.1, ())), ()))))
noncomputable def F46e (n : Nat) : Ent G := ⟨46, (.cons (.imm 1) .nil), [], (.tup (.cons (.agg (.cons (.imm 0) (.cons (.imm 3) .nil))) (.cons .str .nil))), [], fun x y => F46 n x.1⟩
theorem F46_eq (n : Nat) (x : ShL.den G (.cons (.imm 1) .nil)) (y : denO G []) : (F46e n).F x y = runFn prog G (ro G (tabOf (E82 n)) (frOf []) _) Go.Proofs.Try.f46 .no [(0, .fz), (1, .fz)] (ShL.enc G (.cons (.imm 1) .nil) x) (encO G [] y) (decR (.tup (.cons (.agg (.cons (.imm 0) (.cons (.imm 3) .nil))) (.cons .str .nil))) []) := by kernel_rfl
theorem F46_ok (n : Nat) : EntOK prog G (F46e n) :=
  ent_ok (fr := frOf []) (ann := .no) (frm := [(0, .fz), (1, .fz)]) laws fnok (E82_ok n).tab (e := F46e n) (fn := Go.Proofs.Try.f46) (by kernel_rfl) (AllF.ofB (cd := F46c) (l := []) (by kernel_rfl) (by kernel_rfl) AllF.nil) (F46_eq n)
noncomputable def E83 (n : Nat) : List (Ent G) := F46e n :: E82 n
theorem E83_ok (n : Nat) : AllE prog G (E83 n) := AllE.cons (F46_ok n) (E82_ok n)
noncomputable def F12 (n : Nat) (a2001 : List Int) : Option (Bool × Unit) :=
  (bif (decide (((a2001.length) : Int) > (1048576 : Int))) then
  some (true, ())
  else (andThen (F46 n a2001) fun r2008 =>
  (andThen (F39 n r2008.1.1.1 r2008.1.1.2.1 r2008.1.2.1) fun r2009 =>
  (andThen (F47 n r2008.1.1.1 r2008.1.1.2.1 r2008.1.2.1) fun r2010 =>
  (andThen (F30 n r2009.1.1.1 r2009.1.1.2.1 r2010.2.1 r2010.2.2.1) fun r2011 =>
  (bif r2011.1 then
  let v2012 := (r2009.1.2.1 == r2010.1.2.1)
  (bif (!v2012) then
  some (v2012, ())
  else (bif (!r2009.1.2.1) then
  some (v2012, ())
  else (andThen (F20 n r2009.1.1.1 r2009.1.1.2.1 r2008.1.2.1) fun r2015 =>
  (andThen (F42 n r2009.1.1.1 r2009.1.1.2.1 r2008.1.2.1 (1 : Int)) fun r2016 =>
  (andThen (F23 n r2016.1.1.1 r2016.1.1.2.1) fun r2017 =>
  (bif (!r2015.1.2.1) then
  (andThen (F29 n r2009.1.1.1 r2009.1.1.2.1) fun r2019 =>
  (bif r2019.1 then
  (bif r2016.1.2.1 then
  (bif (decide (((r2017.2.1.length) : Int) > (0 : Int))) then
  let v2023 := (IntKind.wrap .i64 (((r2017.2.1.length) : Int) - (1 : Int)))
  (bif (decide ((0 : Int) ≤ v2023)) then
  (bif (decide (v2023 < ((r2017.2.1.length) : Int))) then
  (bif (((r2017.2.1.getD (v2023.toNat) ({ data := #[] } : ByteArray)).toList) == (r2008.1.2.1.toList)) then
  (andThen (F23 n r2008.1.1.1 r2008.1.1.2.1) fun r2028 =>
  some ((((r2017.2.1.length) : Int) == ((r2028.2.1.length) : Int)), ()))
  else some (false, ()))
  else none)
  else none)
  else some (false, ()))
  else some (false, ()))
  else some (false, ())))
  else some (false, ())))))))
  else some (false, ())))))))
noncomputable def F12e (n : Nat) : Ent G := ⟨12, (.cons (.imm 1) .nil), [], .bool, [], fun x y => F12 n x.1⟩
theorem F12_eq (n : Nat) (x : ShL.den G (.cons (.imm 1) .nil)) (y : denO G []) : (F12e n).F x y = runFn prog G (ro G (tabOf (E83 n)) (frOf []) _) Go.Proofs.Try.f12 .no [(0, .fz)] (ShL.enc G (.cons (.imm 1) .nil) x) (encO G [] y) (decR .bool []) := by kernel_rfl
theorem F12_ok (n : Nat) : EntOK prog G (F12e n) :=
  ent_ok (fr := frOf []) (ann := .no) (frm := [(0, .fz)]) laws fnok (E83_ok n).tab (e := F12e n) (fn := Go.Proofs.Try.f12) (by kernel_rfl) (AllF.ofB (cd := F12c) (l := []) (by kernel_rfl) (by kernel_rfl) AllF.nil) (F12_eq n)
noncomputable def E84 (n : Nat) : List (Ent G) := F12e n :: E83 n
theorem E84_ok (n : Nat) : AllE prog G (E84 n) := AllE.cons (F12_ok n) (E83_ok n)
-- 13 loop.example/slowworm/laws.FnDictAgain
noncomputable def F13c : Code := bodyOf Go.Proofs.Try.f13
noncomputable def F13 (n : Nat) (a2031 : List Int) : Option (Bool × Unit) :=
  (bif (decide (((a2031.length) : Int) > (1048576 : Int))) then
  some (true, ())
  else (andThen (F43 n a2031) fun r2034 =>
  (andThen (F42 n r2034.1.1.1 r2034.1.1.2.1 r2034.1.2.1 r2034.1.2.2.1) fun r2035 =>
  (andThen (F45 n r2034.1.1.1 r2034.1.1.2.1 r2034.1.2.1 r2034.1.2.2.1) fun r2036 =>
  (bif (!(r2035.1.2.1 == r2036.1.2.1)) then
  some (false, ())
  else (andThen (F30 n r2035.1.1.1 r2035.1.1.2.1 r2036.2.1 r2036.2.2.1) fun r2038 =>
  (bif (!r2038.1) then
  some (false, ())
  else (bif (!r2035.1.2.1) then
  some (true, ())
  else (andThen (F42 n r2035.1.1.1 r2035.1.1.2.1 r2034.1.2.1 (IntKind.wrap .i64 (r2034.1.2.2.1 + (1 : Int)))) fun r2042 =>
  (andThen (F20 n r2042.1.1.1 r2042.1.1.2.1 r2034.1.2.1) fun r2043 =>
  (bif (!r2042.1.2.1) then
  (bif (decide ((IntKind.wrap .i64 (r2034.1.2.2.1 + (1 : Int))) > (1000000 : Int))) then
  some (true, ())
  else (bif r2042.1.2.1 then
  (bif r2043.1.2.1 then
  (bif (r2043.1.1 == (IntKind.wrap .i64 (r2034.1.2.2.1 + (1 : Int)))) then
  (andThen (F23 n r2042.1.1.1 r2042.1.1.2.1) fun r2049 =>
  (andThen (F23 n r2035.1.1.1 r2035.1.1.2.1) fun r2050 =>
  (andThen (F25 n r2049.2.1 r2050.2.1) fun r2051 =>
  (bif r2051.1 then
  some ((((r2042.1.1.2.1.length) : Int) == ((r2035.1.1.2.1.length) : Int)), ())
  else some (false, ())))))
  else some (false, ()))
  else some (false, ()))
  else some (false, ())))
  else (bif r2042.1.2.1 then
  (bif r2043.1.2.1 then
  (bif (r2043.1.1 == (IntKind.wrap .i64 (r2034.1.2.2.1 + (1 : Int)))) then
  (andThen (F23 n r2042.1.1.1 r2042.1.1.2.1) fun r2057 =>
  (andThen (F23 n r2035.1.1.1 r2035.1.1.2.1) fun r2058 =>
  (andThen (F25 n r2057.2.1 r2058.2.1) fun r2059 =>
  (bif r2059.1 then
  some ((((r2042.1.1.2.1.length) : Int) == ((r2035.1.1.2.1.length) : Int)), ())
  else some (false, ())))))
  else some (false, ()))
  else some (false, ()))
  else some (false, ())))))))))))))
noncomputable def F13e (n : Nat) : Ent G := ⟨13, (.cons (.imm 1) .nil), [], .bool, [], fun x y => F13 n x.1⟩
theorem F13_eq (n : Nat) (x : ShL.den G (.cons (.imm 1) .nil)) (y : denO G []) : (F13e n).F x y = runFn prog G (ro G (tabOf (E84 n)) (frOf []) _) Go.Proofs.Try.f13 .no [(0, .fz)] (ShL.enc G (.cons (.imm 1) .nil) x) (encO G [] y) (decR .bool []) := by kernel_rfl
theorem F13_ok (n : Nat) : EntOK prog G (F13e n) :=
  ent_ok (fr := frOf []) (ann := .no) (frm := [(0, .fz)]) laws fnok (E84_ok n).tab (e := F13e n) (fn := Go.Proofs.Try.f13) (by kernel_rfl) (AllF.ofB (cd := F13c) (l := []) (by kernel_rfl) (by kernel_rfl) AllF.nil) (F13_eq n)
noncomputable def E85 (n : Nat) : List (Ent G) := F13e n :: E84 n
theorem E85_ok (n : Nat) : AllE prog G (E85 n) := AllE.cons (F13_ok n) (E84_ok n)
-- 14 loop.example/slowworm/laws.FnDictSet
noncomputable def F14c : Code := bodyOf Go.Proofs.Try.f14
noncomputable def F14_0x0 : SSh := ⟨86, [(5, (.int .i64)), (6, (.ptr 0 0)), (11, (.int .i64)), (12, .bool), (13, (.own 1)), (14, (.own 2))], [(.box 26 (.cons (.imm 0) (.cons (.imm 3) .nil))), (.arr 2 true), (.arr 2 true)]⟩
noncomputable def F14_0s : SSh := ⟨86, [(4, .str), (5, (.int .i64)), (6, (.ptr 0 0)), (11, (.int .i64)), (12, .bool), (13, (.own 1)), (14, (.own 2))], [(.box 26 (.cons (.imm 0) (.cons (.imm 3) .nil))), (.arr 2 true), (.arr 2 true)]⟩
noncomputable def F14_0 {R : Type} (n : Nat) (x2076 : ByteArray) (x2077 : Int) (x2078 : Int) (x2079 : Bool) (x2080 : List Int) (x2081 : List Ety) (x2082 : List ByteArray) (x2083 : List ByteArray) (k0 : Int → Int → Bool → List Int → List Ety → List ByteArray → List ByteArray → Option R) : Option R :=
  (andThen (F26 n x2082 x2076) fun r2084 =>
  (bif (!r2084.1) then
  let v2086 := (x2076 :: [])
  (bif (decide (((x2082.length) + (v2086.length)) ≤ (68719476736 : Nat))) then
  (k0 x2077 x2078 x2079 x2080 x2081 (x2082 ++ v2086) x2083)
  else none)
  else (k0 x2077 x2078 x2079 x2080 x2081 x2082 x2083)))
noncomputable def F14_0z (n : Nat) : Sm G := inZ G 0 ⟨[4, 5, 6, 11, 12, 13, 14], []⟩ F14_0s fun R x K => F14_0 n x.1.1 x.1.2.1 x.1.2.2.2.1 x.1.2.2.2.2.1 x.2.1.1 x.2.1.2.1 x.2.2.1 x.2.2.2.1 (fun u0 u1 u2 u3 u4 u5 u6 => K .normal (SSh.enc G F14_0x0 ((u0, ((), (u1, (u2, ((), ((), ())))))), ((u3, (u4, ())), (u5, (u6, ()))))))
theorem F14_0_eq (n : Nat) (R : Type) (x : SSh.den G F14_0s) (K : AE → St G → Option R) :
  F14_0 n x.1.1 x.1.2.1 x.1.2.2.2.1 x.1.2.2.2.2.1 x.2.1.1 x.2.1.2.1 x.2.2.1 x.2.2.2.1 (fun u0 u1 u2 u3 u4 u5 u6 => K .normal (SSh.enc G F14_0x0 ((u0, ((), (u1, (u2, ((), ((), ())))))), ((u3, (u4, ())), (u5, (u6, ())))))) = exec prog G (ro G (tabOf (E85 n)) (frOf []) R) 0 (codeAt F14c [1, 1, 1, 1, 1, 1, 1, 1, 1, 1, 0]) .no (SSh.enc G F14_0s x) (kNrm G (ro G (tabOf (E85 n)) (frOf []) R) 0 ⟨⟨[5, 6, 11, 12, 13, 14], []⟩, ⟨[2], []⟩, []⟩ K) := by kernel_rfl
theorem F14_0_ok (n : Nat) : FragOK prog G 0 (codeAt F14c [1, 1, 1, 1, 1, 1, 1, 1, 1, 1, 0]) (F14_0z n) :=
  frag_plain laws fnok (E85_ok n).tab (AllF.of (l := []) (by kernel_rfl) AllF.nil) (F14_0_eq n)
noncomputable def F14 (n : Nat) (a2063 : List Int) : Option (Bool × Unit) :=
  (bif (decide (((a2063.length) : Int) > (1048576 : Int))) then
  some (true, ())
  else (andThen (F43 n a2063) fun r2066 =>
  (andThen (F42 n r2066.1.1.1 r2066.1.1.2.1 r2066.1.2.1 r2066.1.2.2.1) fun r2067 =>
  (andThen (F45 n r2066.1.1.1 r2066.1.1.2.1 r2066.1.2.1 r2066.1.2.2.1) fun r2068 =>
  (andThen (F30 n r2067.1.1.1 r2067.1.1.2.1 r2068.2.1 r2068.2.2.1) fun r2069 =>
  (bif r2069.1 then
  let v2070 := (r2067.1.2.1 == r2068.1.2.1)
  (bif (!v2070) then
  some (v2070, ())
  else (bif (!r2067.1.2.1) then
  some (v2070, ())
  else (andThen (F20 n r2067.1.1.1 r2067.1.1.2.1 r2066.1.2.1) fun r2073 =>
  (andThen (F23 n r2066.1.1.1 r2066.1.1.2.1) fun r2074 =>
  (andThen (F23 n r2067.1.1.1 r2067.1.1.2.1) fun r2075 =>
  (F14_0 n r2066.1.2.1 r2066.1.2.2.1 r2073.1.1 r2073.1.2.1 r2067.1.1.1 r2067.1.1.2.1 r2074.2.1 r2075.2.1 (fun z2088 z2089 z2090 z2091 z2092 z2093 z2094 =>
  (bif z2090 then
  (bif (z2089 == z2088) then
  (andThen (F29 n z2091 z2092) fun r2096 =>
  (bif r2096.1 then
  (andThen (F25 n z2093 z2094) fun r2097 =>
  some (r2097.1, ()))
  else some (false, ())))
  else some (false, ()))
  else some (false, ())))))))))
  else some (false, ())))))))
noncomputable def F14e (n : Nat) : Ent G := ⟨14, (.cons (.imm 1) .nil), [], .bool, [], fun x y => F14 n x.1⟩
theorem F14_eq (n : Nat) (x : ShL.den G (.cons (.imm 1) .nil)) (y : denO G []) : (F14e n).F x y = runFn prog G (ro G (tabOf (E85 n)) (frOf [F14_0z n]) _) Go.Proofs.Try.f14 (.nd .no (.nd .no (.nd .no (.nd .no (.nd .no (.nd .no (.nd .no (.nd .no (.nd .no (.nd .no (.nd (.use 0) .no))))))))))) [(0, .fz)] (ShL.enc G (.cons (.imm 1) .nil) x) (encO G [] y) (decR .bool []) := by kernel_rfl
theorem F14_ok (n : Nat) : EntOK prog G (F14e n) :=
  ent_ok (fr := frOf [F14_0z n]) (ann := (.nd .no (.nd .no (.nd .no (.nd .no (.nd .no (.nd .no (.nd .no (.nd .no (.nd .no (.nd .no (.nd (.use 0) .no)))))))))))) (frm := [(0, .fz)]) laws fnok (E85_ok n).tab (e := F14e n) (fn := Go.Proofs.Try.f14) (by kernel_rfl) (AllF.ofB (cd := F14c) (l := [(0, codeAt F14c [1, 1, 1, 1, 1, 1, 1, 1, 1, 1, 0])]) (by kernel_rfl) (by kernel_rfl) (AllF.cons (F14_0_ok n) AllF.nil)) (F14_eq n)
noncomputable def E86 (n : Nat) : List (Ent G) := F14e n :: E85 n
theorem E86_ok (n : Nat) : AllE prog G (E86 n) := AllE.cons (F14_ok n) (E85_ok n)
-- 15 loop.example/slowworm/laws.FnDictUndone
noncomputable def F15c : Code := bodyOf Go.Proofs.Try.f15
noncomputable def F15 (n : Nat) (a2098 : List Int) : Option (Bool × Unit) :=
  (bif (decide (((a2098.length) : Int) > (1048576 : Int))) then
  some (true, ())
  else (andThen (F43 n a2098) fun r2101 =>
  (andThen (F42 n r2101.1.1.1 r2101.1.1.2.1 r2101.1.2.1 r2101.1.2.2.1) fun r2102 =>
  (andThen (F45 n r2101.1.1.1 r2101.1.1.2.1 r2101.1.2.1 r2101.1.2.2.1) fun r2103 =>
  (bif (!(r2102.1.2.1 == r2103.1.2.1)) then
  some (false, ())
  else (andThen (F30 n r2102.1.1.1 r2102.1.1.2.1 r2103.2.1 r2103.2.2.1) fun r2105 =>
  (bif (!r2105.1) then
  some (false, ())
  else (andThen (F20 n r2101.1.1.1 r2101.1.1.2.1 r2101.1.2.1) fun r2107 =>
  (bif (!r2102.1.2.1) then
  some (true, ())
  else (bif r2107.1.2.1 then
  some (true, ())
  else (andThen (F39 n r2102.1.1.1 r2102.1.1.2.1 r2101.1.2.1) fun r2109 =>
  (bif r2109.1.2.1 then
  (andThen (F33 n r2109.1.1.1 r2109.1.1.2.1 r2101.1.1.1 r2101.1.1.2.1) fun r2110 =>
  (bif r2110.1 then
  (andThen (F23 n r2109.1.1.1 r2109.1.1.2.1) fun r2111 =>
  (andThen (F23 n r2101.1.1.1 r2101.1.1.2.1) fun r2112 =>
  (andThen (F25 n r2111.2.1 r2112.2.1) fun r2113 =>
  some (r2113.1, ()))))
  else some (false, ())))
  else some (false, ())))))))))))))
noncomputable def F15e (n : Nat) : Ent G := ⟨15, (.cons (.imm 1) .nil), [], .bool, [], fun x y => F15 n x.1⟩
theorem F15_eq (n : Nat) (x : ShL.den G (.cons (.imm 1) .nil)) (y : denO G []) : (F15e n).F x y = runFn prog G (ro G (tabOf (E86 n)) (frOf []) _) Go.Proofs.Try.f15 .no [(0, .fz)] (ShL.enc G (.cons (.imm 1) .nil) x) (encO G [] y) (decR .bool []) := by kernel_rfl
theorem F15_ok (n : Nat) : EntOK prog G (F15e n) :=
  ent_ok (fr := frOf []) (ann := .no) (frm := [(0, .fz)]) laws fnok (E86_ok n).tab (e := F15e n) (fn := Go.Proofs.Try.f15) (by kernel_rfl) (AllF.ofB (cd := F15c) (l := []) (by kernel_rfl) (by kernel_rfl) AllF.nil) (F15_eq n)
noncomputable def E87 (n : Nat) : List (Ent G) := F15e n :: E86 n
theorem E87_ok (n : Nat) : AllE prog G (E87 n) := AllE.cons (F15_ok n) (E86_ok n)
end Go.Proofs.Ytdnbepnajhggpaa.Am
