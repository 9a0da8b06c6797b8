/- The functions of the seat of dictionaries, printed. -/
import Derived.Test.YtfpgihjociacnaaAmDictE
namespace Go.Proofs.Ytfpgihjociacnaa.Am
open Go Go.Proofs.Try
set_option autoImplicit false
set_option linter.unusedVariables false
set_option maxRecDepth 100000
noncomputable def F13c : Code := bodyOf Go.Proofs.Try.f13
-- 31 loop.example/slowworm/laws.markIntS
noncomputable def F31c : Code := bodyOf Go.Proofs.Try.f31
noncomputable def F31_0x0 : SSh := ⟨19, [(1, (.int .i64))], [(.arr 0 true)]⟩
noncomputable def F31_0s : SSh := ⟨19, [(0, (.own 0)), (1, (.int .i64)), (5, (.int .i64))], [(.arr 0 true)]⟩
noncomputable def F31_0_step {R : Type} (n : Nat) (k0 : Int → List Int → Option R) (rec : Int → Int → List Int → Option R) (x834 : Int) (x835 : Int) (x836 : List Int) : Option R :=
  (bif (decide (x835 < ((x836.length) : Int))) then
  (bif (decide ((0 : Int) ≤ x835)) then
  (bif (decide (x835 < ((x836.length) : Int))) then
  (rec (IntKind.wrap .i64 (x834 + (1 : Int))) (IntKind.wrap .i64 (x835 + (1 : Int))) (x836.set (x835.toNat) x834))
  else none)
  else none)
  else (k0 x834 x836))
noncomputable def F31_0_it {R : Type} (n : Nat) (k0 : Int → List Int → Option R) : Nat → Int → Int → List Int → Option R
  | 0, _, _, _ => none
  | k + 1, x834, x835, x836 => F31_0_step n k0 (F31_0_it n k0 k) x834 x835 x836
noncomputable def F31_0 {R : Type} (n : Nat) (x834 : Int) (x835 : Int) (x836 : List Int) (k0 : Int → List Int → Option R) : Option R := F31_0_it n k0 n x834 x835 x836
noncomputable def F31_0z (n : Nat) : Sm G := inZ G 1 ⟨[0, 1, 5], []⟩ F31_0s fun R x K => F31_0_it n (fun u0 u1 => K (.exit 0) (SSh.enc G F31_0x0 ((u0, ()), (u1, ())))) n x.1.2.1 x.1.2.2.1 x.2.1
theorem F31_0_eq (n : Nat) (R : Type) (rec : SSh.den G F31_0s → Option R) (x : SSh.den G F31_0s) (K : AE → St G → Option R) :
  F31_0_step n (fun u0 u1 => K (.exit 0) (SSh.enc G F31_0x0 ((u0, ()), (u1, ())))) (fun x834 x835 x836 => rec (((), (x834, (x835, ()))), (x836, ()))) x.1.2.1 x.1.2.2.1 x.2.1 = exec prog G (ro G (tabOf (E30 n)) (frOf []) R) 1 (codeAt F31c [1, 0, 1, 0, 0]) .no (SSh.enc G F31_0s x) (kLoop G (ro G (tabOf (E30 n)) (frOf []) R) 1 ⟨[0, 1, 5], []⟩ F31_0s ⟨⟨[1], []⟩, ⟨[4], []⟩, [(0, ⟨[1], []⟩)]⟩ rec K) := by kernel_rfl
theorem F31_0_ok (n : Nat) : FragOK prog G 1 (codeAt F31c [1, 0, 1, 0]) (F31_0z n) :=
  frag_loop (Z := fun R k (x : SSh.den G F31_0s) K => F31_0_it n (fun u0 u1 => K (.exit 0) (SSh.enc G F31_0x0 ((u0, ()), (u1, ())))) k x.1.2.1 x.1.2.2.1 x.2.1) laws fnok (E30_ok n).tab (AllF.of (l := []) (by kernel_rfl) AllF.nil) (fun _ _ _ => rfl) (fun R k y K => F31_0_eq n R (fun (x : SSh.den G F31_0s) => F31_0_it n (fun u0 u1 => K (.exit 0) (SSh.enc G F31_0x0 ((u0, ()), (u1, ())))) k x.1.2.1 x.1.2.2.1 x.2.1) y K) n
noncomputable def F31 (n : Nat) (a832 : Int) (a833 : List Int) : Option (Int × (List Int × Unit)) :=
  (F31_0 n a832 (0 : Int) a833 (fun z843 z844 =>
  some (z843, (z844, ()))))
noncomputable def F31e (n : Nat) : Ent G := ⟨31, (.cons (.own 0) (.cons (.int .i64) .nil)), [(.arr 0 true)], (.int .i64), [(.arr 0 true)], fun x y => F31 n x.2.1 y.1⟩
theorem F31_eq (n : Nat) (x : ShL.den G (.cons (.own 0) (.cons (.int .i64) .nil))) (y : denO G [(.arr 0 true)]) : (F31e n).F x y = runFn prog G (ro G (tabOf (E30 n)) (frOf [F31_0z n]) _) Go.Proofs.Try.f31 (.nd .no (.nd (.nd .no (.nd (.use 0) .no)) .no)) [(0, .fz)] (ShL.enc G (.cons (.own 0) (.cons (.int .i64) .nil)) x) (encO G [(.arr 0 true)] y) (decR (.int .i64) [(.arr 0 true)]) := by kernel_rfl
theorem F31_ok (n : Nat) : EntOK prog G (F31e n) :=
  ent_ok (fr := frOf [F31_0z n]) (ann := (.nd .no (.nd (.nd .no (.nd (.use 0) .no)) .no))) (frm := [(0, .fz)]) laws fnok (E30_ok n).tab (e := F31e n) (fn := Go.Proofs.Try.f31) (by kernel_rfl) (AllF.ofB (cd := F31c) (l := [(0, codeAt F31c [1, 0, 1, 0])]) (by kernel_rfl) (by kernel_rfl) (AllF.cons (F31_0_ok n) AllF.nil)) (F31_eq n)
noncomputable def E31 (n : Nat) : List (Ent G) := F31e n :: E30 n
theorem E31_ok (n : Nat) : AllE prog G (E31 n) := AllE.cons (F31_ok n) (E30_ok n)
-- 32 loop.example/slowworm/laws.markEntryS
noncomputable def F32c : Code := bodyOf Go.Proofs.Try.f32
-- 33 loop.example/slowworm/laws.markText
noncomputable def F33c : Code := bodyOf Go.Proofs.Try.f33
noncomputable def F33_0x0 : SSh := ⟨20, [(3, .str)], []⟩
noncomputable def F33_0s : SSh := ⟨20, [(0, (.int .i64)), (3, .str)], []⟩
noncomputable def F33_0_step {R : Type} (n : Nat) (k0 : ByteArray → Option R) (rec : Int → ByteArray → Option R) (x855 : Int) (x856 : ByteArray) : Option R :=
  (bif (decide (x855 > (0 : Int))) then
  let v862 := (bytesOfInts (List.map (fun y863 => y863) ((IntKind.wrap .u8 (IntKind.wrap .i64 ((48 : Int) + (x855.tmod (10 : Int))))) :: [])))
  (bif (decide (((v862.size) + (x856.size)) ≤ (68719476736 : Nat))) then
  (rec (IntKind.wrap .i64 (x855.tdiv (10 : Int))) (v862 ++ x856))
  else none)
  else (k0 x856))
noncomputable def F33_0_it {R : Type} (n : Nat) (k0 : ByteArray → Option R) : Nat → Int → ByteArray → Option R
  | 0, _, _ => none
  | k + 1, x855, x856 => F33_0_step n k0 (F33_0_it n k0 k) x855 x856
noncomputable def F33_0 {R : Type} (n : Nat) (x855 : Int) (x856 : ByteArray) (k0 : ByteArray → Option R) : Option R := F33_0_it n k0 n x855 x856
noncomputable def F33_0z (n : Nat) : Sm G := inZ G 0 ⟨[0, 3], []⟩ F33_0s fun R x K => F33_0_it n (fun u0 => K (.exit 0) (SSh.enc G F33_0x0 ((u0, ()), ()))) n x.1.1 x.1.2.1
theorem F33_0_eq (n : Nat) (R : Type) (rec : SSh.den G F33_0s → Option R) (x : SSh.den G F33_0s) (K : AE → St G → Option R) :
  F33_0_step n (fun u0 => K (.exit 0) (SSh.enc G F33_0x0 ((u0, ()), ()))) (fun x855 x856 => rec ((x855, (x856, ())), ())) x.1.1 x.1.2.1 = exec prog G (ro G (tabOf (E31 n)) (frOf []) R) 0 (codeAt F33c [1, 1, 1, 0, 0, 0]) .no (SSh.enc G F33_0s x) (kLoop G (ro G (tabOf (E31 n)) (frOf []) R) 0 ⟨[0, 3], []⟩ F33_0s ⟨⟨[3], []⟩, ⟨[2], []⟩, [(0, ⟨[3], []⟩)]⟩ rec K) := by kernel_rfl
theorem F33_0_ok (n : Nat) : FragOK prog G 0 (codeAt F33c [1, 1, 1, 0, 0]) (F33_0z n) :=
  frag_loop (Z := fun R k (x : SSh.den G F33_0s) K => F33_0_it n (fun u0 => K (.exit 0) (SSh.enc G F33_0x0 ((u0, ()), ()))) k x.1.1 x.1.2.1) laws fnok (E31_ok n).tab (AllF.of (l := []) (by kernel_rfl) AllF.nil) (fun _ _ _ => rfl) (fun R k y K => F33_0_eq n R (fun (x : SSh.den G F33_0s) => F33_0_it n (fun u0 => K (.exit 0) (SSh.enc G F33_0x0 ((u0, ()), ()))) k x.1.1 x.1.2.1) y K) n
noncomputable def F33 (n : Nat) (a853 : Int) : Option (ByteArray × Unit) :=
  (bif (decide (a853 ≤ (0 : Int))) then
  some (({ data := #[109, 48] } : ByteArray), ())
  else (F33_0 n a853 ({ data := #[] } : ByteArray) (fun z866 =>
  (bif (decide (((1 : Nat) + (z866.size)) ≤ (68719476736 : Nat))) then
  some ((({ data := #[109] } : ByteArray) ++ z866), ())
  else none))))
noncomputable def F33e (n : Nat) : Ent G := ⟨33, (.cons (.int .i64) .nil), [], .str, [], fun x y => F33 n x.1⟩
theorem F33_eq (n : Nat) (x : ShL.den G (.cons (.int .i64) .nil)) (y : denO G []) : (F33e n).F x y = runFn prog G (ro G (tabOf (E31 n)) (frOf [F33_0z n]) _) Go.Proofs.Try.f33 (.nd .no (.nd .no (.nd .no (.nd (.nd (.use 0) .no) .no)))) [(0, .fz)] (ShL.enc G (.cons (.int .i64) .nil) x) (encO G [] y) (decR .str []) := by kernel_rfl
theorem F33_ok (n : Nat) : EntOK prog G (F33e n) :=
  ent_ok (fr := frOf [F33_0z n]) (ann := (.nd .no (.nd .no (.nd .no (.nd (.nd (.use 0) .no) .no))))) (frm := [(0, .fz)]) laws fnok (E31_ok n).tab (e := F33e n) (fn := Go.Proofs.Try.f33) (by kernel_rfl) (AllF.ofB (cd := F33c) (l := [(0, codeAt F33c [1, 1, 1, 0, 0])]) (by kernel_rfl) (by kernel_rfl) (AllF.cons (F33_0_ok n) AllF.nil)) (F33_eq n)
noncomputable def E32 (n : Nat) : List (Ent G) := F33e n :: E31 n
theorem E32_ok (n : Nat) : AllE prog G (E32 n) := AllE.cons (F33_ok n) (E31_ok n)
noncomputable def F32_0x0 : SSh := ⟨44, [(1, (.int .i64))], [(.arr 3 true)]⟩
noncomputable def F32_0s : SSh := ⟨44, [(0, (.own 0)), (1, (.int .i64)), (5, (.int .i64))], [(.arr 3 true)]⟩
noncomputable def F32_0_step {R : Type} (n : Nat) (k0 : Int → List Ety → Option R) (rec : Int → Int → List Ety → Option R) (x848 : Int) (x849 : Int) (x850 : List Ety) : Option R :=
  (bif (decide (x849 < ((x850.length) : Int))) then
  (andThen (F33 n x848) fun r868 =>
  (bif (decide ((0 : Int) ≤ x849)) then
  (bif (decide (x849 < ((x850.length) : Int))) then
  let v869 := (x849.toNat)
  let v870 := (x850.set v869 (Ety.mk r868.1 (x850.getD v869 (Ety.mk ({ data := #[] } : ByteArray) (0 : Int) (0 : Int) false)).hash (x850.getD v869 (Ety.mk ({ data := #[] } : ByteArray) (0 : Int) (0 : Int) false)).val (x850.getD v869 (Ety.mk ({ data := #[] } : ByteArray) (0 : Int) (0 : Int) false)).live))
  let v871 := (IntKind.wrap .i64 (x848 + (1 : Int)))
  (bif (decide ((0 : Int) ≤ x849)) then
  (bif (decide (x849 < ((v870.length) : Int))) then
  let v872 := (x849.toNat)
  let v873 := (v870.set v872 (Ety.mk (v870.getD v872 (Ety.mk ({ data := #[] } : ByteArray) (0 : Int) (0 : Int) false)).key v871 (v870.getD v872 (Ety.mk ({ data := #[] } : ByteArray) (0 : Int) (0 : Int) false)).val (v870.getD v872 (Ety.mk ({ data := #[] } : ByteArray) (0 : Int) (0 : Int) false)).live))
  let v874 := (IntKind.wrap .i64 (v871 + (1 : Int)))
  (bif (decide ((0 : Int) ≤ x849)) then
  (bif (decide (x849 < ((v873.length) : Int))) then
  let v875 := (x849.toNat)
  let v876 := (v873.set v875 (Ety.mk (v873.getD v875 (Ety.mk ({ data := #[] } : ByteArray) (0 : Int) (0 : Int) false)).key (v873.getD v875 (Ety.mk ({ data := #[] } : ByteArray) (0 : Int) (0 : Int) false)).hash v874 (v873.getD v875 (Ety.mk ({ data := #[] } : ByteArray) (0 : Int) (0 : Int) false)).live))
  let v877 := (IntKind.wrap .i64 (v874 + (1 : Int)))
  (bif (decide ((0 : Int) ≤ x849)) then
  (bif (decide (x849 < ((v876.length) : Int))) then
  let v880 := (x849.toNat)
  (rec (IntKind.wrap .i64 (v877 + (1 : Int))) (IntKind.wrap .i64 (x849 + (1 : Int))) (v876.set v880 (Ety.mk (v876.getD v880 (Ety.mk ({ data := #[] } : ByteArray) (0 : Int) (0 : Int) false)).key (v876.getD v880 (Ety.mk ({ data := #[] } : ByteArray) (0 : Int) (0 : Int) false)).hash (v876.getD v880 (Ety.mk ({ data := #[] } : ByteArray) (0 : Int) (0 : Int) false)).val ((v877.tmod (3 : Int)) == (0 : Int)))))
  else none)
  else none)
  else none)
  else none)
  else none)
  else none)
  else none)
  else none))
  else (k0 x848 x850))
noncomputable def F32_0_it {R : Type} (n : Nat) (k0 : Int → List Ety → Option R) : Nat → Int → Int → List Ety → Option R
  | 0, _, _, _ => none
  | k + 1, x848, x849, x850 => F32_0_step n k0 (F32_0_it n k0 k) x848 x849 x850
noncomputable def F32_0 {R : Type} (n : Nat) (x848 : Int) (x849 : Int) (x850 : List Ety) (k0 : Int → List Ety → Option R) : Option R := F32_0_it n k0 n x848 x849 x850
noncomputable def F32_0z (n : Nat) : Sm G := inZ G 1 ⟨[0, 1, 5], []⟩ F32_0s fun R x K => F32_0_it n (fun u0 u1 => K (.exit 0) (SSh.enc G F32_0x0 ((u0, ()), (u1, ())))) n x.1.2.1 x.1.2.2.1 x.2.1
theorem F32_0_eq (n : Nat) (R : Type) (rec : SSh.den G F32_0s → Option R) (x : SSh.den G F32_0s) (K : AE → St G → Option R) :
  F32_0_step n (fun u0 u1 => K (.exit 0) (SSh.enc G F32_0x0 ((u0, ()), (u1, ())))) (fun x848 x849 x850 => rec (((), (x848, (x849, ()))), (x850, ()))) x.1.2.1 x.1.2.2.1 x.2.1 = exec prog G (ro G (tabOf (E32 n)) (frOf []) R) 1 (codeAt F32c [1, 0, 1, 0, 0]) .no (SSh.enc G F32_0s x) (kLoop G (ro G (tabOf (E32 n)) (frOf []) R) 1 ⟨[0, 1, 5], []⟩ F32_0s ⟨⟨[1], []⟩, ⟨[4], []⟩, [(0, ⟨[1], []⟩)]⟩ rec K) := by kernel_rfl
theorem F32_0_ok (n : Nat) : FragOK prog G 1 (codeAt F32c [1, 0, 1, 0]) (F32_0z n) :=
  frag_loop (Z := fun R k (x : SSh.den G F32_0s) K => F32_0_it n (fun u0 u1 => K (.exit 0) (SSh.enc G F32_0x0 ((u0, ()), (u1, ())))) k x.1.2.1 x.1.2.2.1 x.2.1) laws fnok (E32_ok n).tab (AllF.of (l := []) (by kernel_rfl) AllF.nil) (fun _ _ _ => rfl) (fun R k y K => F32_0_eq n R (fun (x : SSh.den G F32_0s) => F32_0_it n (fun u0 u1 => K (.exit 0) (SSh.enc G F32_0x0 ((u0, ()), (u1, ())))) k x.1.2.1 x.1.2.2.1 x.2.1) y K) n
noncomputable def F32 (n : Nat) (a846 : Int) (a847 : List Ety) : Option (Int × (List Ety × Unit)) :=
  (F32_0 n a846 (0 : Int) a847 (fun z884 z885 =>
  some (z884, (z885, ()))))
noncomputable def F32e (n : Nat) : Ent G := ⟨32, (.cons (.own 0) (.cons (.int .i64) .nil)), [(.arr 3 true)], (.int .i64), [(.arr 3 true)], fun x y => F32 n x.2.1 y.1⟩
theorem F32_eq (n : Nat) (x : ShL.den G (.cons (.own 0) (.cons (.int .i64) .nil))) (y : denO G [(.arr 3 true)]) : (F32e n).F x y = runFn prog G (ro G (tabOf (E32 n)) (frOf [F32_0z n]) _) Go.Proofs.Try.f32 (.nd .no (.nd (.nd .no (.nd (.use 0) .no)) .no)) [(0, .fz)] (ShL.enc G (.cons (.own 0) (.cons (.int .i64) .nil)) x) (encO G [(.arr 3 true)] y) (decR (.int .i64) [(.arr 3 true)]) := by kernel_rfl
theorem F32_ok (n : Nat) : EntOK prog G (F32e n) :=
  ent_ok (fr := frOf [F32_0z n]) (ann := (.nd .no (.nd (.nd .no (.nd (.use 0) .no)) .no))) (frm := [(0, .fz)]) laws fnok (E32_ok n).tab (e := F32e n) (fn := Go.Proofs.Try.f32) (by kernel_rfl) (AllF.ofB (cd := F32c) (l := [(0, codeAt F32c [1, 0, 1, 0])]) (by kernel_rfl) (by kernel_rfl) (AllF.cons (F32_0_ok n) AllF.nil)) (F32_eq n)
noncomputable def E33 (n : Nat) : List (Ent G) := F32e n :: E32 n
theorem E33_ok (n : Nat) : AllE prog G (E33 n) := AllE.cons (F32_ok n) (E32_ok n)
noncomputable def F13 (n : Nat) (a829 : Int) (a830 : List Int) (a831 : List Ety) : Option (Int × (List Int × (List Ety × Unit))) :=
  (andThen (F31 n a829 a830) fun r845 =>
  (andThen (F32 n r845.1 a831) fun r886 =>
  some (r886.1, (r845.2.1, (r886.2.1, ())))))
noncomputable def F13e (n : Nat) : Ent G := ⟨13, (.cons (.agg (.cons (.own 0) (.cons (.own 1) .nil))) (.cons (.int .i64) .nil)), [(.arr 0 true), (.arr 3 true)], (.int .i64), [(.arr 0 true), (.arr 3 true)], fun x y => F13 n x.2.1 y.1 y.2.1⟩
theorem F13_eq (n : Nat) (x : ShL.den G (.cons (.agg (.cons (.own 0) (.cons (.own 1) .nil))) (.cons (.int .i64) .nil))) (y : denO G [(.arr 0 true), (.arr 3 true)]) : (F13e n).F x y = runFn prog G (ro G (tabOf (E33 n)) (frOf []) _) Go.Proofs.Try.f13 .no [(0, .fz)] (ShL.enc G (.cons (.agg (.cons (.own 0) (.cons (.own 1) .nil))) (.cons (.int .i64) .nil)) x) (encO G [(.arr 0 true), (.arr 3 true)] y) (decR (.int .i64) [(.arr 0 true), (.arr 3 true)]) := by kernel_rfl
theorem F13_ok (n : Nat) : EntOK prog G (F13e n) :=
  ent_ok (fr := frOf []) (ann := .no) (frm := [(0, .fz)]) laws fnok (E33_ok n).tab (e := F13e n) (fn := Go.Proofs.Try.f13) (by kernel_rfl) (AllF.ofB (cd := F13c) (l := []) (by kernel_rfl) (by kernel_rfl) AllF.nil) (F13_eq n)
noncomputable def E34 (n : Nat) : List (Ent G) := F13e n :: E33 n
theorem E34_ok (n : Nat) : AllE prog G (E34 n) := AllE.cons (F13_ok n) (E33_ok n)
-- 14 loop.example/slowworm/laws.markStringS
noncomputable def F14c : Code := bodyOf Go.Proofs.Try.f14
noncomputable def F14_0x0 : SSh := ⟨20, [(1, (.int .i64))], [(.arr 2 true)]⟩
noncomputable def F14_0s : SSh := ⟨20, [(0, (.own 0)), (1, (.int .i64)), (5, (.int .i64))], [(.arr 2 true)]⟩
noncomputable def F14_0_step {R : Type} (n : Nat) (k0 : Int → List ByteArray → Option R) (rec : Int → Int → List ByteArray → Option R) (x893 : Int) (x894 : Int) (x895 : List ByteArray) : Option R :=
  (bif (decide (x894 < ((x895.length) : Int))) then
  (andThen (F33 n x893) fun r898 =>
  (bif (decide ((0 : Int) ≤ x894)) then
  (bif (decide (x894 < ((x895.length) : Int))) then
  (rec (IntKind.wrap .i64 (x893 + (1 : Int))) (IntKind.wrap .i64 (x894 + (1 : Int))) (x895.set (x894.toNat) r898.1))
  else none)
  else none))
  else (k0 x893 x895))
noncomputable def F14_0_it {R : Type} (n : Nat) (k0 : Int → List ByteArray → Option R) : Nat → Int → Int → List ByteArray → Option R
  | 0, _, _, _ => none
  | k + 1, x893, x894, x895 => F14_0_step n k0 (F14_0_it n k0 k) x893 x894 x895
noncomputable def F14_0 {R : Type} (n : Nat) (x893 : Int) (x894 : Int) (x895 : List ByteArray) (k0 : Int → List ByteArray → Option R) : Option R := F14_0_it n k0 n x893 x894 x895
noncomputable def F14_0z (n : Nat) : Sm G := inZ G 1 ⟨[0, 1, 5], []⟩ F14_0s fun R x K => F14_0_it n (fun u0 u1 => K (.exit 0) (SSh.enc G F14_0x0 ((u0, ()), (u1, ())))) n x.1.2.1 x.1.2.2.1 x.2.1
theorem F14_0_eq (n : Nat) (R : Type) (rec : SSh.den G F14_0s → Option R) (x : SSh.den G F14_0s) (K : AE → St G → Option R) :
  F14_0_step n (fun u0 u1 => K (.exit 0) (SSh.enc G F14_0x0 ((u0, ()), (u1, ())))) (fun x893 x894 x895 => rec (((), (x893, (x894, ()))), (x895, ()))) x.1.2.1 x.1.2.2.1 x.2.1 = exec prog G (ro G (tabOf (E34 n)) (frOf []) R) 1 (codeAt F14c [1, 0, 1, 0, 0]) .no (SSh.enc G F14_0s x) (kLoop G (ro G (tabOf (E34 n)) (frOf []) R) 1 ⟨[0, 1, 5], []⟩ F14_0s ⟨⟨[1], []⟩, ⟨[4], []⟩, [(0, ⟨[1], []⟩)]⟩ rec K) := by kernel_rfl
theorem F14_0_ok (n : Nat) : FragOK prog G 1 (codeAt F14c [1, 0, 1, 0]) (F14_0z n) :=
  frag_loop (Z := fun R k (x : SSh.den G F14_0s) K => F14_0_it n (fun u0 u1 => K (.exit 0) (SSh.enc G F14_0x0 ((u0, ()), (u1, ())))) k x.1.2.1 x.1.2.2.1 x.2.1) laws fnok (E34_ok n).tab (AllF.of (l := []) (by kernel_rfl) AllF.nil) (fun _ _ _ => rfl) (fun R k y K => F14_0_eq n R (fun (x : SSh.den G F14_0s) => F14_0_it n (fun u0 u1 => K (.exit 0) (SSh.enc G F14_0x0 ((u0, ()), (u1, ())))) k x.1.2.1 x.1.2.2.1 x.2.1) y K) n
noncomputable def F14 (n : Nat) (a891 : Int) (a892 : List ByteArray) : Option (Int × (List ByteArray × Unit)) :=
  (F14_0 n a891 (0 : Int) a892 (fun z903 z904 =>
  some (z903, (z904, ()))))
noncomputable def F14e (n : Nat) : Ent G := ⟨14, (.cons (.own 0) (.cons (.int .i64) .nil)), [(.arr 2 true)], (.int .i64), [(.arr 2 true)], fun x y => F14 n x.2.1 y.1⟩
theorem F14_eq (n : Nat) (x : ShL.den G (.cons (.own 0) (.cons (.int .i64) .nil))) (y : denO G [(.arr 2 true)]) : (F14e n).F x y = runFn prog G (ro G (tabOf (E34 n)) (frOf [F14_0z n]) _) Go.Proofs.Try.f14 (.nd .no (.nd (.nd .no (.nd (.use 0) .no)) .no)) [(0, .fz)] (ShL.enc G (.cons (.own 0) (.cons (.int .i64) .nil)) x) (encO G [(.arr 2 true)] y) (decR (.int .i64) [(.arr 2 true)]) := by kernel_rfl
theorem F14_ok (n : Nat) : EntOK prog G (F14e n) :=
  ent_ok (fr := frOf [F14_0z n]) (ann := (.nd .no (.nd (.nd .no (.nd (.use 0) .no)) .no))) (frm := [(0, .fz)]) laws fnok (E34_ok n).tab (e := F14e n) (fn := Go.Proofs.Try.f14) (by kernel_rfl) (AllF.ofB (cd := F14c) (l := [(0, codeAt F14c [1, 0, 1, 0])]) (by kernel_rfl) (by kernel_rfl) (AllF.cons (F14_0_ok n) AllF.nil)) (F14_eq n)
noncomputable def E35 (n : Nat) : List (Ent G) := F14e n :: E34 n
theorem E35_ok (n : Nat) : AllE prog G (E35 n) := AllE.cons (F14_ok n) (E34_ok n)
-- 15 loop.example/slowworm/laws.heldStringS
noncomputable def F15c : Code := bodyOf Go.Proofs.Try.f15
noncomputable def F15_0x0 : SSh := ⟨22, [(4, (.int .i64))], []⟩
noncomputable def F15_0x1 : SSh := ⟨22, [(1, (.int .i64))], []⟩
noncomputable def F15_0s : SSh := ⟨22, [(0, (.imm 2)), (1, (.int .i64)), (5, (.int .i64))], []⟩
noncomputable def F15_0_step {R : Type} (n : Nat) (k0 : Int → Option R) (k1 : Int → Option R) (rec : List ByteArray → Int → Int → Option R) (x908 : List ByteArray) (x909 : Int) (x910 : Int) : Option R :=
  (bif (decide (x910 < ((x908.length) : Int))) then
  (bif (decide ((0 : Int) ≤ x910)) then
  (bif (decide (x910 < ((x908.length) : Int))) then
  (andThen (F33 n x909) fun r915 =>
  (bif (!(((x908.getD (x910.toNat) ({ data := #[] } : ByteArray)).toList) == (r915.1.toList))) then
  (k0 (-1 : Int))
  else (rec x908 (IntKind.wrap .i64 (x909 + (1 : Int))) (IntKind.wrap .i64 (x910 + (1 : Int))))))
  else none)
  else none)
  else (k1 x909))
noncomputable def F15_0_it {R : Type} (n : Nat) (k0 : Int → Option R) (k1 : Int → Option R) : Nat → List ByteArray → Int → Int → Option R
  | 0, _, _, _ => none
  | k + 1, x908, x909, x910 => F15_0_step n k0 k1 (F15_0_it n k0 k1 k) x908 x909 x910
noncomputable def F15_0 {R : Type} (n : Nat) (x908 : List ByteArray) (x909 : Int) (x910 : Int) (k0 : Int → Option R) (k1 : Int → Option R) : Option R := F15_0_it n k0 k1 n x908 x909 x910
noncomputable def F15_0z (n : Nat) : Sm G := inZ G 0 ⟨[0, 1, 5], []⟩ F15_0s fun R x K => F15_0_it n (fun u0 => K .ret (SSh.enc G F15_0x0 ((u0, ()), ()))) (fun u0 => K (.exit 0) (SSh.enc G F15_0x1 ((u0, ()), ()))) n x.1.1 x.1.2.1 x.1.2.2.1
theorem F15_0_eq (n : Nat) (R : Type) (rec : SSh.den G F15_0s → Option R) (x : SSh.den G F15_0s) (K : AE → St G → Option R) :
  F15_0_step n (fun u0 => K .ret (SSh.enc G F15_0x0 ((u0, ()), ()))) (fun u0 => K (.exit 0) (SSh.enc G F15_0x1 ((u0, ()), ()))) (fun x908 x909 x910 => rec ((x908, (x909, (x910, ()))), ())) x.1.1 x.1.2.1 x.1.2.2.1 = exec prog G (ro G (tabOf (E35 n)) (frOf []) R) 0 (codeAt F15c [1, 0, 1, 0, 0]) .no (SSh.enc G F15_0s x) (kLoop G (ro G (tabOf (E35 n)) (frOf []) R) 0 ⟨[0, 1, 5], []⟩ F15_0s ⟨⟨[1], []⟩, ⟨[4], []⟩, [(0, ⟨[1], []⟩)]⟩ rec K) := by kernel_rfl
theorem F15_0_ok (n : Nat) : FragOK prog G 0 (codeAt F15c [1, 0, 1, 0]) (F15_0z n) :=
  frag_loop (Z := fun R k (x : SSh.den G F15_0s) K => F15_0_it n (fun u0 => K .ret (SSh.enc G F15_0x0 ((u0, ()), ()))) (fun u0 => K (.exit 0) (SSh.enc G F15_0x1 ((u0, ()), ()))) k x.1.1 x.1.2.1 x.1.2.2.1) laws fnok (E35_ok n).tab (AllF.of (l := []) (by kernel_rfl) AllF.nil) (fun _ _ _ => rfl) (fun R k y K => F15_0_eq n R (fun (x : SSh.den G F15_0s) => F15_0_it n (fun u0 => K .ret (SSh.enc G F15_0x0 ((u0, ()), ()))) (fun u0 => K (.exit 0) (SSh.enc G F15_0x1 ((u0, ()), ()))) k x.1.1 x.1.2.1 x.1.2.2.1) y K) n
noncomputable def F15 (n : Nat) (a906 : List ByteArray) (a907 : Int) : Option (Int × Unit) :=
  (F15_0 n a906 a907 (0 : Int) (fun z919 =>
  some (z919, ())) (fun z920 =>
  some (z920, ())))
noncomputable def F15e (n : Nat) : Ent G := ⟨15, (.cons (.imm 2) (.cons (.int .i64) .nil)), [], (.int .i64), [], fun x y => F15 n x.1 x.2.1⟩
theorem F15_eq (n : Nat) (x : ShL.den G (.cons (.imm 2) (.cons (.int .i64) .nil))) (y : denO G []) : (F15e n).F x y = runFn prog G (ro G (tabOf (E35 n)) (frOf [F15_0z n]) _) Go.Proofs.Try.f15 (.nd .no (.nd (.nd .no (.nd (.use 0) .no)) .no)) [(0, .fz)] (ShL.enc G (.cons (.imm 2) (.cons (.int .i64) .nil)) x) (encO G [] y) (decR (.int .i64) []) := by kernel_rfl
theorem F15_ok (n : Nat) : EntOK prog G (F15e n) :=
  ent_ok (fr := frOf [F15_0z n]) (ann := (.nd .no (.nd (.nd .no (.nd (.use 0) .no)) .no))) (frm := [(0, .fz)]) laws fnok (E35_ok n).tab (e := F15e n) (fn := Go.Proofs.Try.f15) (by kernel_rfl) (AllF.ofB (cd := F15c) (l := [(0, codeAt F15c [1, 0, 1, 0])]) (by kernel_rfl) (by kernel_rfl) (AllF.cons (F15_0_ok n) AllF.nil)) (F15_eq n)
noncomputable def E36 (n : Nat) : List (Ent G) := F15e n :: E35 n
theorem E36_ok (n : Nat) : AllE prog G (E36 n) := AllE.cons (F15_ok n) (E35_ok n)
noncomputable def F3 (n : Nat) (a0 : List Int) (a1 : List Ety) : Option (Bool × Unit) :=
  (andThen (F7 n a0 a1 (1048576 : Int)) fun r42 =>
  (bif (decide (r42.1 < (0 : Int))) then
  some (true, ())
  else (andThen (F9 n a0 a1) fun r84 =>
  (andThen (F8 n r84.2.1 r84.2.2.1) fun r418 =>
  (andThen (F9 n a0 a1) fun r419 =>
  (andThen (F10 n r419.2.1 r419.2.2.1) fun r745 =>
  (andThen (F11 n r745.2.1 r418.1) fun r763 =>
  (bif (!r763.1) then
  some (false, ())
  else (andThen (F9 n a0 a1) fun r765 =>
  (andThen (F12 n r419.2.1 r419.2.2.1 r765.2.1 r765.2.2.1) fun r827 =>
  (bif (!r827.1) then
  some (false, ())
  else (andThen (F13 n (1 : Int) r419.2.1 r419.2.2.1) fun r887 =>
  (bif (decide (r887.1 < (0 : Int))) then
  some (false, ())
  else (andThen (F11 n r745.2.1 r418.1) fun r889 =>
  (bif (!r889.1) then
  some (false, ())
  else (andThen (F14 n (1 : Int) r745.2.1) fun r905 =>
  (andThen (F15 n r905.2.1 (1 : Int)) fun r921 =>
  (bif (decide (r921.1 < (0 : Int))) then
  some (false, ())
  else (bif (r921.1 != r905.1) then
  some (false, ())
  else (andThen (F9 n a0 a1) fun r924 =>
  (andThen (F10 n r924.2.1 r924.2.2.1) fun r925 =>
  (andThen (F11 n r925.2.1 r418.1) fun r926 =>
  (bif (!r926.1) then
  some (false, ())
  else (andThen (F15 n r905.2.1 (1 : Int)) fun r928 =>
  (bif (decide (r928.1 < (0 : Int))) then
  some (false, ())
  else (bif (r928.1 != r905.1) then
  some (false, ())
  else some (true, ())))))))))))))))))))))))))))
noncomputable def F3e (n : Nat) : Ent G := ⟨3, (.cons (.agg (.cons (.imm 0) (.cons (.imm 5) .nil))) .nil), [], .bool, [], fun x y => F3 n x.1.1 x.1.2.1⟩
theorem F3_eq (n : Nat) (x : ShL.den G (.cons (.agg (.cons (.imm 0) (.cons (.imm 5) .nil))) .nil)) (y : denO G []) : (F3e n).F x y = runFn prog G (ro G (tabOf (E36 n)) (frOf []) _) Go.Proofs.Try.f3 .no [(0, .fz)] (ShL.enc G (.cons (.agg (.cons (.imm 0) (.cons (.imm 5) .nil))) .nil) x) (encO G [] y) (decR .bool []) := by kernel_rfl
theorem F3_ok (n : Nat) : EntOK prog G (F3e n) :=
  ent_ok (fr := frOf []) (ann := .no) (frm := [(0, .fz)]) laws fnok (E36_ok n).tab (e := F3e n) (fn := Go.Proofs.Try.f3) (by kernel_rfl) (AllF.ofB (cd := F3c) (l := []) (by kernel_rfl) (by kernel_rfl) AllF.nil) (F3_eq n)
noncomputable def E37 (n : Nat) : List (Ent G) := F3e n :: E36 n
theorem E37_ok (n : Nat) : AllE prog G (E37 n) := AllE.cons (F3_ok n) (E36_ok n)
-- 4 loop.example/slowworm/laws.FnExactDictDrop
noncomputable def F4c : Code := bodyOf Go.Proofs.Try.f4
-- 16 loop.example/slowworm/spec.DictDrop
noncomputable def F16c : Code := bodyOf Go.Proofs.Try.f16
-- 35 loop.example/slowworm/spec.copyDict
noncomputable def F35c : Code := bodyOf Go.Proofs.Try.f35
noncomputable def F35 (n : Nat) (a946 : List Int) (a947 : List Ety) : Option ((Unit × (Unit × Unit)) × (List Int × (List Ety × Unit))) :=
  let v948 := []
  (bif (decide (((v948.length) + (a946.length)) ≤ (68719476736 : Nat))) then
  let v950 := []
  (bif (decide (((v950.length) + (a947.length)) ≤ (68719476736 : Nat))) then
  some (((), ((), ())), ((v948 ++ a946), ((v950 ++ a947), ())))
  else none)
  else none)
noncomputable def F35e (n : Nat) : Ent G := ⟨35, (.cons (.agg (.cons (.imm 0) (.cons (.imm 3) .nil))) .nil), [], (.agg (.cons (.own 0) (.cons (.own 1) .nil))), [(.arr 0 true), (.arr 3 true)], fun x y => F35 n x.1.1 x.1.2.1⟩
theorem F35_eq (n : Nat) (x : ShL.den G (.cons (.agg (.cons (.imm 0) (.cons (.imm 3) .nil))) .nil)) (y : denO G []) : (F35e n).F x y = runFn prog G (ro G (tabOf (E37 n)) (frOf []) _) Go.Proofs.Try.f35 .no [] (ShL.enc G (.cons (.agg (.cons (.imm 0) (.cons (.imm 3) .nil))) .nil) x) (encO G [] y) (decR (.agg (.cons (.own 0) (.cons (.own 1) .nil))) [(.arr 0 true), (.arr 3 true)]) := by kernel_rfl
theorem F35_ok (n : Nat) : EntOK prog G (F35e n) :=
  ent_ok (fr := frOf []) (ann := .no) (frm := []) laws fnok (E37_ok n).tab (e := F35e n) (fn := Go.Proofs.Try.f35) (by kernel_rfl) (AllF.ofB (cd := F35c) (l := []) (by kernel_rfl) (by kernel_rfl) AllF.nil) (F35_eq n)
noncomputable def E38 (n : Nat) : List (Ent G) := F35e n :: E37 n
theorem E38_ok (n : Nat) : AllE prog G (E38 n) := AllE.cons (F35_ok n) (E37_ok n)
noncomputable def F16 (n : Nat) (a939 : List Int) (a940 : List Ety) (a941 : ByteArray) : Option (((Unit × (Unit × Unit)) × (Bool × Unit)) × (List Int × (List Ety × Unit))) :=
  (andThen (F25 n a939 a940) fun r942 =>
  (bif (!r942.1) then
  some ((((), ((), ())), (false, ())), ([], ([], ())))
  else (andThen (F34 n a941) fun r944 =>
  (bif (!r944.1) then
  some ((((), ((), ())), (false, ())), ([], ([], ())))
  else (andThen (F35 n a939 a940) fun r952 =>
  (andThen (F36 n r952.2.1 r952.2.2.1 a941) fun r953 =>
  (bif (decide ((0 : Int) ≤ r953.1)) then
  (bif (decide (r953.1 < ((r952.2.1.length) : Int))) then
  let v955 := (r952.2.1.getD (r953.1.toNat) (0 : Int))
  (bif (decide (v955 < (0 : Int))) then
  some ((((), ((), ())), (false, ())), (r952.2.1, (r952.2.2.1, ())))
  else (bif (decide ((0 : Int) ≤ r953.1)) then
  (bif (decide (r953.1 < ((r952.2.1.length) : Int))) then
  (bif (decide ((0 : Int) ≤ v955)) then
  (bif (decide (v955 < ((r952.2.2.1.length) : Int))) then
  some ((((), ((), ())), (true, ())), ((r952.2.1.set (r953.1.toNat) (-2 : Int)), ((r952.2.2.1.set (v955.toNat) (Ety.mk ({ data := #[] } : ByteArray) (0 : Int) (0 : Int) false)), ())))
  else none)
  else none)
  else none)
  else none))
  else none)
  else none)))))))
noncomputable def F16e (n : Nat) : Ent G := ⟨16, (.cons (.agg (.cons (.imm 0) (.cons (.imm 3) .nil))) (.cons .str .nil)), [], (.tup (.cons (.agg (.cons (.own 0) (.cons (.own 1) .nil))) (.cons .bool .nil))), [(.arr 0 true), (.arr 3 true)], fun x y => F16 n x.1.1 x.1.2.1 x.2.1⟩
theorem F16_eq (n : Nat) (x : ShL.den G (.cons (.agg (.cons (.imm 0) (.cons (.imm 3) .nil))) (.cons .str .nil))) (y : denO G []) : (F16e n).F x y = runFn prog G (ro G (tabOf (E38 n)) (frOf []) _) Go.Proofs.Try.f16 .no [(0, (.fld 0 (.own 0))), (0, (.fld 1 (.own 3)))] (ShL.enc G (.cons (.agg (.cons (.imm 0) (.cons (.imm 3) .nil))) (.cons .str .nil)) x) (encO G [] y) (decR (.tup (.cons (.agg (.cons (.own 0) (.cons (.own 1) .nil))) (.cons .bool .nil))) [(.arr 0 true), (.arr 3 true)]) := by kernel_rfl
theorem F16_ok (n : Nat) : EntOK prog G (F16e n) :=
  ent_ok (fr := frOf []) (ann := .no) (frm := [(0, (.fld 0 (.own 0))), (0, (.fld 1 (.own 3)))]) laws fnok (E38_ok n).tab (e := F16e n) (fn := Go.Proofs.Try.f16) (by kernel_rfl) (AllF.ofB (cd := F16c) (l := []) (by kernel_rfl) (by kernel_rfl) AllF.nil) (F16_eq n)
noncomputable def E39 (n : Nat) : List (Ent G) := F16e n :: E38 n
theorem E39_ok (n : Nat) : AllE prog G (E39 n) := AllE.cons (F16_ok n) (E38_ok n)
-- 17 loop.example/slowworm/impl.DictDrop
noncomputable def F17c : Code := bodyOf Go.Proofs.Try.f17
-- 37 (loop.example/slowworm/impl.Dict).clone
noncomputable def F37c : Code := bodyOf Go.Proofs.Try.f37
-- 59 slices.Clone[[]int,int]
noncomputable def F59c : Code := bodyOf Go.Proofs.Try.f59
noncomputable def F59 (n : Nat) (a972 : List Int) : Option (Unit × (List Int × Unit)) :=
  (bif (decide ((a972.length) ≤ (0 : Nat))) then
  (both
  (some ((), ([], ())))
  (let v974 := []
  (bif (decide (((v974.length) + (a972.length)) ≤ (68719476736 : Nat))) then
  some ((), ((v974 ++ a972), ()))
  else none)))
  else let v976 := []
  (bif (decide (((v976.length) + (a972.length)) ≤ (68719476736 : Nat))) then
  some ((), ((v976 ++ a972), ()))
  else none))
noncomputable def F59e (n : Nat) : Ent G := ⟨59, (.cons (.imm 0) .nil), [], (.own 0), [(.arr 0 true)], fun x y => F59 n x.1⟩
theorem F59_eq (n : Nat) (x : ShL.den G (.cons (.imm 0) .nil)) (y : denO G []) : (F59e n).F x y = runFn prog G (ro G (tabOf (E39 n)) (frOf []) _) Go.Proofs.Try.f59 .no [(0, (.own 0))] (ShL.enc G (.cons (.imm 0) .nil) x) (encO G [] y) (decR (.own 0) [(.arr 0 true)]) := by kernel_rfl
theorem F59_ok (n : Nat) : EntOK prog G (F59e n) :=
  ent_ok (fr := frOf []) (ann := .no) (frm := [(0, (.own 0))]) laws fnok (E39_ok n).tab (e := F59e n) (fn := Go.Proofs.Try.f59) (by kernel_rfl) (AllF.ofB (cd := F59c) (l := []) (by kernel_rfl) (by kernel_rfl) AllF.nil) (F59_eq n)
noncomputable def E40 (n : Nat) : List (Ent G) := F59e n :: E39 n
theorem E40_ok (n : Nat) : AllE prog G (E40 n) := AllE.cons (F59_ok n) (E39_ok n)
-- 60 slices.Clone[[]loop.example/slowworm/impl.Entry,loop.example/slowworm/impl.Entry]
noncomputable def F60c : Code := bodyOf Go.Proofs.Try.f60
noncomputable def F60 (n : Nat) (a979 : List Ety) : Option (Unit × (List Ety × Unit)) :=
  (bif (decide ((a979.length) ≤ (0 : Nat))) then
  (both
  (some ((), ([], ())))
  (let v981 := []
  (bif (decide (((v981.length) + (a979.length)) ≤ (68719476736 : Nat))) then
  some ((), ((v981 ++ a979), ()))
  else none)))
  else let v983 := []
  (bif (decide (((v983.length) + (a979.length)) ≤ (68719476736 : Nat))) then
  some ((), ((v983 ++ a979), ()))
  else none))
noncomputable def F60e (n : Nat) : Ent G := ⟨60, (.cons (.imm 3) .nil), [], (.own 0), [(.arr 3 true)], fun x y => F60 n x.1⟩
theorem F60_eq (n : Nat) (x : ShL.den G (.cons (.imm 3) .nil)) (y : denO G []) : (F60e n).F x y = runFn prog G (ro G (tabOf (E40 n)) (frOf []) _) Go.Proofs.Try.f60 .no [(0, (.own 3))] (ShL.enc G (.cons (.imm 3) .nil) x) (encO G [] y) (decR (.own 0) [(.arr 3 true)]) := by kernel_rfl
theorem F60_ok (n : Nat) : EntOK prog G (F60e n) :=
  ent_ok (fr := frOf []) (ann := .no) (frm := [(0, (.own 3))]) laws fnok (E40_ok n).tab (e := F60e n) (fn := Go.Proofs.Try.f60) (by kernel_rfl) (AllF.ofB (cd := F60c) (l := []) (by kernel_rfl) (by kernel_rfl) AllF.nil) (F60_eq n)
noncomputable def E41 (n : Nat) : List (Ent G) := F60e n :: E40 n
theorem E41_ok (n : Nat) : AllE prog G (E41 n) := AllE.cons (F60_ok n) (E40_ok n)
noncomputable def F37 (n : Nat) (a970 : List Int) (a971 : List Ety) : Option ((Unit × (Unit × Unit)) × (List Int × (List Ety × Unit))) :=
  (andThen (F59 n a970) fun r978 =>
  (andThen (F60 n a971) fun r985 =>
  some (((), ((), ())), (r978.2.1, (r985.2.1, ())))))
noncomputable def F37e (n : Nat) : Ent G := ⟨37, (.cons (.agg (.cons (.imm 0) (.cons (.imm 3) .nil))) .nil), [], (.agg (.cons (.own 0) (.cons (.own 1) .nil))), [(.arr 0 true), (.arr 3 true)], fun x y => F37 n x.1.1 x.1.2.1⟩
theorem F37_eq (n : Nat) (x : ShL.den G (.cons (.agg (.cons (.imm 0) (.cons (.imm 3) .nil))) .nil)) (y : denO G []) : (F37e n).F x y = runFn prog G (ro G (tabOf (E41 n)) (frOf []) _) Go.Proofs.Try.f37 .no [] (ShL.enc G (.cons (.agg (.cons (.imm 0) (.cons (.imm 3) .nil))) .nil) x) (encO G [] y) (decR (.agg (.cons (.own 0) (.cons (.own 1) .nil))) [(.arr 0 true), (.arr 3 true)]) := by kernel_rfl
theorem F37_ok (n : Nat) : EntOK prog G (F37e n) :=
  ent_ok (fr := frOf []) (ann := .no) (frm := []) laws fnok (E41_ok n).tab (e := F37e n) (fn := Go.Proofs.Try.f37) (by kernel_rfl) (AllF.ofB (cd := F37c) (l := []) (by kernel_rfl) (by kernel_rfl) AllF.nil) (F37_eq n)
noncomputable def E42 (n : Nat) : List (Ent G) := F37e n :: E41 n
theorem E42_ok (n : Nat) : AllE prog G (E42 n) := AllE.cons (F37_ok n) (E41_ok n)
-- 38 (loop.example/slowworm/impl.Dict).probe
noncomputable def F38v1c : Code := bodyOf Go.Proofs.Try.f38
noncomputable def F38v1_0x0 : SSh := ⟨62, [(4, (.own 2))], [(.arr 0 true), (.arr 3 true), (.arr 0 true)]⟩
noncomputable def F38v1_0x1 : SSh := ⟨62, [(9, (.own 2))], [(.arr 0 true), (.arr 3 true), (.arr 0 true)]⟩
noncomputable def F38v1_0s : SSh := ⟨62, [(1, .str), (2, (.ptr 2 0)), (6, (.int .i64)), (7, (.int .i64)), (8, (.int .i64)), (9, (.own 3)), (22, (.int .i64)), (23, (.int .i64))], [(.arr 0 true), (.arr 3 true), (.box 31 (.cons (.own 0) (.cons (.own 1) .nil))), (.arr 0 true)]⟩
noncomputable def F38v1_0_step {R : Type} (n : Nat) (k0 : List Int → List Ety → List Int → Option R) (k1 : List Int → List Ety → List Int → Option R) (rec : ByteArray → Int → Int → Int → Int → Int → List Int → List Ety → List Int → Option R) (x995 : ByteArray) (x996 : Int) (x997 : Int) (x998 : Int) (x999 : Int) (x1000 : Int) (x1001 : List Int) (x1002 : List Ety) (x1003 : List Int) : Option R :=
  (bif (decide (x1000 < x999)) then
  let v1005 := (x997 :: [])
  (bif (decide (((x1003.length) + (v1005.length)) ≤ (68719476736 : Nat))) then
  let v1006 := (x1003 ++ v1005)
  (bif (decide ((0 : Int) ≤ x997)) then
  (bif (decide (x997 < ((x1001.length) : Int))) then
  let v1008 := (x1001.getD (x997.toNat) (0 : Int))
  (bif (v1008 == (-1 : Int)) then
  (k0 x1001 x1002 v1006)
  else (bif (decide (v1008 ≥ (0 : Int))) then
  (bif (decide ((0 : Int) ≤ v1008)) then
  (bif (decide (v1008 < ((x1002.length) : Int))) then
  (bif (((x1002.getD (v1008.toNat) (Ety.mk ({ data := #[] } : ByteArray) (0 : Int) (0 : Int) false)).key.toList) == (x995.toList)) then
  (k0 x1001 x1002 v1006)
  else let v1014 := (IntKind.wrap .i64 (x998.tdiv (8 : Int)))
  (bif (!(decide (x996 = (0 : Int)))) then
  (rec x995 x996 ((IntKind.wrap .i64 ((IntKind.wrap .i64 ((IntKind.wrap .i64 ((5 : Int) * x997)) + v1014)) + (1 : Int))).tmod x996) v1014 x999 (IntKind.wrap .i64 (x1000 + (1 : Int))) x1001 x1002 v1006)
  else none))
  else none)
  else none)
  else let v1020 := (IntKind.wrap .i64 (x998.tdiv (8 : Int)))
  (bif (!(decide (x996 = (0 : Int)))) then
  (rec x995 x996 ((IntKind.wrap .i64 ((IntKind.wrap .i64 ((IntKind.wrap .i64 ((5 : Int) * x997)) + v1020)) + (1 : Int))).tmod x996) v1020 x999 (IntKind.wrap .i64 (x1000 + (1 : Int))) x1001 x1002 v1006)
  else none)))
  else none)
  else none)
  else none)
  else (k1 x1001 x1002 x1003))
noncomputable def F38v1_0_it {R : Type} (n : Nat) (k0 : List Int → List Ety → List Int → Option R) (k1 : List Int → List Ety → List Int → Option R) : Nat → ByteArray → Int → Int → Int → Int → Int → List Int → List Ety → List Int → Option R
  | 0, _, _, _, _, _, _, _, _, _ => none
  | k + 1, x995, x996, x997, x998, x999, x1000, x1001, x1002, x1003 => F38v1_0_step n k0 k1 (F38v1_0_it n k0 k1 k) x995 x996 x997 x998 x999 x1000 x1001 x1002 x1003
noncomputable def F38v1_0 {R : Type} (n : Nat) (x995 : ByteArray) (x996 : Int) (x997 : Int) (x998 : Int) (x999 : Int) (x1000 : Int) (x1001 : List Int) (x1002 : List Ety) (x1003 : List Int) (k0 : List Int → List Ety → List Int → Option R) (k1 : List Int → List Ety → List Int → Option R) : Option R := F38v1_0_it n k0 k1 n x995 x996 x997 x998 x999 x1000 x1001 x1002 x1003
noncomputable def F38v1_0z (n : Nat) : Sm G := inZ G 2 ⟨[1, 2, 6, 7, 8, 9, 22, 23], [(9, (.own 0))]⟩ F38v1_0s fun R x K => F38v1_0_it n (fun u0 u1 u2 => K .ret (SSh.enc G F38v1_0x0 (((), ()), (u0, (u1, (u2, ())))))) (fun u0 u1 u2 => K (.exit 0) (SSh.enc G F38v1_0x1 (((), ()), (u0, (u1, (u2, ())))))) n x.1.1 x.1.2.2.1 x.1.2.2.2.1 x.1.2.2.2.2.1 x.1.2.2.2.2.2.2.1 x.1.2.2.2.2.2.2.2.1 x.2.1 x.2.2.1 x.2.2.2.2.1
theorem F38v1_0_eq (n : Nat) (R : Type) (rec : SSh.den G F38v1_0s → Option R) (x : SSh.den G F38v1_0s) (K : AE → St G → Option R) :
  F38v1_0_step n (fun u0 u1 u2 => K .ret (SSh.enc G F38v1_0x0 (((), ()), (u0, (u1, (u2, ())))))) (fun u0 u1 u2 => K (.exit 0) (SSh.enc G F38v1_0x1 (((), ()), (u0, (u1, (u2, ())))))) (fun x995 x996 x997 x998 x999 x1000 x1001 x1002 x1003 => rec ((x995, ((), (x996, (x997, (x998, ((), (x999, (x1000, ())))))))), (x1001, (x1002, (((), ((), ())), (x1003, ())))))) x.1.1 x.1.2.2.1 x.1.2.2.2.1 x.1.2.2.2.2.1 x.1.2.2.2.2.2.2.1 x.1.2.2.2.2.2.2.2.1 x.2.1 x.2.2.1 x.2.2.2.2.1 = exec prog G (ro G (tabOf (E42 n)) (frOf []) R) 2 (codeAt F38v1c [1, 1, 1, 1, 1, 0, 1, 0, 0]) .no (SSh.enc G F38v1_0s x) (kLoop G (ro G (tabOf (E42 n)) (frOf []) R) 2 ⟨[1, 2, 6, 7, 8, 9, 22, 23], [(9, (.own 0))]⟩ F38v1_0s ⟨⟨[9], []⟩, ⟨[4], []⟩, [(0, ⟨[9], []⟩)]⟩ rec K) := by kernel_rfl
theorem F38v1_0_ok (n : Nat) : FragOK prog G 2 (codeAt F38v1c [1, 1, 1, 1, 1, 0, 1, 0]) (F38v1_0z n) :=
  frag_loop (Z := fun R k (x : SSh.den G F38v1_0s) K => F38v1_0_it n (fun u0 u1 u2 => K .ret (SSh.enc G F38v1_0x0 (((), ()), (u0, (u1, (u2, ())))))) (fun u0 u1 u2 => K (.exit 0) (SSh.enc G F38v1_0x1 (((), ()), (u0, (u1, (u2, ())))))) k x.1.1 x.1.2.2.1 x.1.2.2.2.1 x.1.2.2.2.2.1 x.1.2.2.2.2.2.2.1 x.1.2.2.2.2.2.2.2.1 x.2.1 x.2.2.1 x.2.2.2.2.1) laws fnok (E42_ok n).tab (AllF.of (l := []) (by kernel_rfl) AllF.nil) (fun _ _ _ => rfl) (fun R k y K => F38v1_0_eq n R (fun (x : SSh.den G F38v1_0s) => F38v1_0_it n (fun u0 u1 u2 => K .ret (SSh.enc G F38v1_0x0 (((), ()), (u0, (u1, (u2, ())))))) (fun u0 u1 u2 => K (.exit 0) (SSh.enc G F38v1_0x1 (((), ()), (u0, (u1, (u2, ())))))) k x.1.1 x.1.2.2.1 x.1.2.2.2.1 x.1.2.2.2.2.1 x.1.2.2.2.2.2.2.1 x.1.2.2.2.2.2.2.2.1 x.2.1 x.2.2.1 x.2.2.2.2.1) y K) n
noncomputable def F38v1 (n : Nat) (a987 : ByteArray) (a988 : List Int) (a989 : List Ety) : Option (List Int × (List Int × (List Ety × Unit))) :=
  (andThen (F56 n a987) fun r990 =>
  let v991 := ((a988.length) : Int)
  (bif (!(decide (v991 = (0 : Int)))) then
  (F38v1_0 n a987 v991 (r990.1.tmod v991) r990.1 (IntKind.wrap .i64 ((65536 : Int) + (IntKind.wrap .i64 ((2 : Int) * v991)))) (0 : Int) a988 a989 [] (fun z1026 z1027 z1028 =>
  some (z1028, (z1026, (z1027, ())))) (fun z1029 z1030 z1031 =>
  some (z1031, (z1029, (z1030, ())))))
  else none))
noncomputable def F38v1e (n : Nat) : Ent G := ⟨38, (.cons (.agg (.cons (.own 0) (.cons (.own 1) .nil))) (.cons .str .nil)), [(.arr 0 true), (.arr 3 true)], (.imm 0), [(.arr 0 true), (.arr 3 true)], fun x y => F38v1 n x.2.1 y.1 y.2.1⟩
theorem F38v1_eq (n : Nat) (x : ShL.den G (.cons (.agg (.cons (.own 0) (.cons (.own 1) .nil))) (.cons .str .nil))) (y : denO G [(.arr 0 true), (.arr 3 true)]) : (F38v1e n).F x y = runFn prog G (ro G (tabOf (E42 n)) (frOf [F38v1_0z n]) _) Go.Proofs.Try.f38 (.nd .no (.nd .no (.nd .no (.nd .no (.nd .no (.nd (.nd .no (.nd (.use 0) .no)) .no)))))) [(0, .fz)] (ShL.enc G (.cons (.agg (.cons (.own 0) (.cons (.own 1) .nil))) (.cons .str .nil)) x) (encO G [(.arr 0 true), (.arr 3 true)] y) (decR (.imm 0) [(.arr 0 true), (.arr 3 true)]) := by kernel_rfl
theorem F38v1_ok (n : Nat) : EntOK prog G (F38v1e n) :=
  ent_ok (fr := frOf [F38v1_0z n]) (ann := (.nd .no (.nd .no (.nd .no (.nd .no (.nd .no (.nd (.nd .no (.nd (.use 0) .no)) .no))))))) (frm := [(0, .fz)]) laws fnok (E42_ok n).tab (e := F38v1e n) (fn := Go.Proofs.Try.f38) (by kernel_rfl) (AllF.ofB (cd := F38v1c) (l := [(0, codeAt F38v1c [1, 1, 1, 1, 1, 0, 1, 0])]) (by kernel_rfl) (by kernel_rfl) (AllF.cons (F38v1_0_ok n) AllF.nil)) (F38v1_eq n)
noncomputable def E43 (n : Nat) : List (Ent G) := F38v1e n :: E42 n
theorem E43_ok (n : Nat) : AllE prog G (E43 n) := AllE.cons (F38v1_ok n) (E42_ok n)
noncomputable def F17 (n : Nat) (a963 : List Int) (a964 : List Ety) (a965 : ByteArray) : Option (((Unit × (Unit × Unit)) × (Bool × Unit)) × (List Int × (List Ety × Unit))) :=
  (andThen (F28 n a963 a964) fun r966 =>
  (bif (!r966.1) then
  some ((((), ((), ())), (false, ())), ([], ([], ())))
  else (bif (decide (((a965.size) : Int) > (20 : Int))) then
  some ((((), ((), ())), (false, ())), ([], ([], ())))
  else (andThen (F37 n a963 a964) fun r986 =>
  (andThen (F38v1 n a965 r986.2.1 r986.2.2.1) fun r1032 =>
  let v1034 := (IntKind.wrap .i64 (((r1032.1.length) : Int) - (1 : Int)))
  (bif (decide ((0 : Int) ≤ v1034)) then
  (bif (decide (v1034 < ((r1032.1.length) : Int))) then
  let v1036 := (r1032.1.getD (v1034.toNat) (0 : Int))
  (bif (decide ((0 : Int) ≤ v1036)) then
  (bif (decide (v1036 < ((r1032.2.1.length) : Int))) then
  let v1038 := (r1032.2.1.getD (v1036.toNat) (0 : Int))
  (bif (decide (v1038 < (0 : Int))) then
  some ((((), ((), ())), (false, ())), (r1032.2.1, (r1032.2.2.1, ())))
  else (bif (decide ((0 : Int) ≤ v1036)) then
  (bif (decide (v1036 < ((r1032.2.1.length) : Int))) then
  (bif (decide ((0 : Int) ≤ v1038)) then
  (bif (decide (v1038 < ((r1032.2.2.1.length) : Int))) then
  some ((((), ((), ())), (true, ())), ((r1032.2.1.set (v1036.toNat) (-2 : Int)), ((r1032.2.2.1.set (v1038.toNat) (Ety.mk ({ data := #[] } : ByteArray) (0 : Int) (0 : Int) false)), ())))
  else none)
  else none)
  else none)
  else none))
  else none)
  else none)
  else none)
  else none))))))
noncomputable def F17e (n : Nat) : Ent G := ⟨17, (.cons (.agg (.cons (.imm 0) (.cons (.imm 3) .nil))) (.cons .str .nil)), [], (.tup (.cons (.agg (.cons (.own 0) (.cons (.own 1) .nil))) (.cons .bool .nil))), [(.arr 0 true), (.arr 3 true)], fun x y => F17 n x.1.1 x.1.2.1 x.2.1⟩
theorem F17_eq (n : Nat) (x : ShL.den G (.cons (.agg (.cons (.imm 0) (.cons (.imm 3) .nil))) (.cons .str .nil))) (y : denO G []) : (F17e n).F x y = runFn prog G (ro G (tabOf (E43 n)) (frOf []) _) Go.Proofs.Try.f17 .no [(0, (.fld 0 (.own 0))), (0, (.fld 1 (.own 3)))] (ShL.enc G (.cons (.agg (.cons (.imm 0) (.cons (.imm 3) .nil))) (.cons .str .nil)) x) (encO G [] y) (decR (.tup (.cons (.agg (.cons (.own 0) (.cons (.own 1) .nil))) (.cons .bool .nil))) [(.arr 0 true), (.arr 3 true)]) := by kernel_rfl
theorem F17_ok (n : Nat) : EntOK prog G (F17e n) :=
  ent_ok (fr := frOf []) (ann := .no) (frm := [(0, (.fld 0 (.own 0))), (0, (.fld 1 (.own 3)))]) laws fnok (E43_ok n).tab (e := F17e n) (fn := Go.Proofs.Try.f17) (by kernel_rfl) (AllF.ofB (cd := F17c) (l := []) (by kernel_rfl) (by kernel_rfl) AllF.nil) (F17_eq n)
noncomputable def E44 (n : Nat) : List (Ent G) := F17e n :: E43 n
theorem E44_ok (n : Nat) : AllE prog G (E44 n) := AllE.cons (F17_ok n) (E43_ok n)
-- 18 loop.example/slowworm/laws.heldDict
noncomputable def F18c : Code := bodyOf Go.Proofs.Try.f18
-- 39 loop.example/slowworm/laws.heldIntS
noncomputable def F39c : Code := bodyOf Go.Proofs.Try.f39
noncomputable def F39_0x0 : SSh := ⟨21, [(4, (.int .i64))], []⟩
noncomputable def F39_0x1 : SSh := ⟨21, [(1, (.int .i64))], []⟩
noncomputable def F39_0s : SSh := ⟨21, [(0, (.imm 0)), (1, (.int .i64)), (5, (.int .i64))], []⟩
noncomputable def F39_0_step {R : Type} (n : Nat) (k0 : Int → Option R) (k1 : Int → Option R) (rec : List Int → Int → Int → Option R) (x1062 : List Int) (x1063 : Int) (x1064 : Int) : Option R :=
  (bif (decide (x1064 < ((x1062.length) : Int))) then
  (bif (decide ((0 : Int) ≤ x1064)) then
  (bif (decide (x1064 < ((x1062.length) : Int))) then
  (bif ((x1062.getD (x1064.toNat) (0 : Int)) != x1063) then
  (k0 (-1 : Int))
  else (rec x1062 (IntKind.wrap .i64 (x1063 + (1 : Int))) (IntKind.wrap .i64 (x1064 + (1 : Int)))))
  else none)
  else none)
  else (k1 x1063))
noncomputable def F39_0_it {R : Type} (n : Nat) (k0 : Int → Option R) (k1 : Int → Option R) : Nat → List Int → Int → Int → Option R
  | 0, _, _, _ => none
  | k + 1, x1062, x1063, x1064 => F39_0_step n k0 k1 (F39_0_it n k0 k1 k) x1062 x1063 x1064
noncomputable def F39_0 {R : Type} (n : Nat) (x1062 : List Int) (x1063 : Int) (x1064 : Int) (k0 : Int → Option R) (k1 : Int → Option R) : Option R := F39_0_it n k0 k1 n x1062 x1063 x1064
noncomputable def F39_0z (n : Nat) : Sm G := inZ G 0 ⟨[0, 1, 5], []⟩ F39_0s fun R x K => F39_0_it n (fun u0 => K .ret (SSh.enc G F39_0x0 ((u0, ()), ()))) (fun u0 => K (.exit 0) (SSh.enc G F39_0x1 ((u0, ()), ()))) n x.1.1 x.1.2.1 x.1.2.2.1
theorem F39_0_eq (n : Nat) (R : Type) (rec : SSh.den G F39_0s → Option R) (x : SSh.den G F39_0s) (K : AE → St G → Option R) :
  F39_0_step n (fun u0 => K .ret (SSh.enc G F39_0x0 ((u0, ()), ()))) (fun u0 => K (.exit 0) (SSh.enc G F39_0x1 ((u0, ()), ()))) (fun x1062 x1063 x1064 => rec ((x1062, (x1063, (x1064, ()))), ())) x.1.1 x.1.2.1 x.1.2.2.1 = exec prog G (ro G (tabOf (E44 n)) (frOf []) R) 0 (codeAt F39c [1, 0, 1, 0, 0]) .no (SSh.enc G F39_0s x) (kLoop G (ro G (tabOf (E44 n)) (frOf []) R) 0 ⟨[0, 1, 5], []⟩ F39_0s ⟨⟨[1], []⟩, ⟨[4], []⟩, [(0, ⟨[1], []⟩)]⟩ rec K) := by kernel_rfl
theorem F39_0_ok (n : Nat) : FragOK prog G 0 (codeAt F39c [1, 0, 1, 0]) (F39_0z n) :=
  frag_loop (Z := fun R k (x : SSh.den G F39_0s) K => F39_0_it n (fun u0 => K .ret (SSh.enc G F39_0x0 ((u0, ()), ()))) (fun u0 => K (.exit 0) (SSh.enc G F39_0x1 ((u0, ()), ()))) k x.1.1 x.1.2.1 x.1.2.2.1) laws fnok (E44_ok n).tab (AllF.of (l := []) (by kernel_rfl) AllF.nil) (fun _ _ _ => rfl) (fun R k y K => F39_0_eq n R (fun (x : SSh.den G F39_0s) => F39_0_it n (fun u0 => K .ret (SSh.enc G F39_0x0 ((u0, ()), ()))) (fun u0 => K (.exit 0) (SSh.enc G F39_0x1 ((u0, ()), ()))) k x.1.1 x.1.2.1 x.1.2.2.1) y K) n
noncomputable def F39 (n : Nat) (a1060 : List Int) (a1061 : Int) : Option (Int × Unit) :=
  (F39_0 n a1060 a1061 (0 : Int) (fun z1072 =>
  some (z1072, ())) (fun z1073 =>
  some (z1073, ())))
noncomputable def F39e (n : Nat) : Ent G := ⟨39, (.cons (.imm 0) (.cons (.int .i64) .nil)), [], (.int .i64), [], fun x y => F39 n x.1 x.2.1⟩
theorem F39_eq (n : Nat) (x : ShL.den G (.cons (.imm 0) (.cons (.int .i64) .nil))) (y : denO G []) : (F39e n).F x y = runFn prog G (ro G (tabOf (E44 n)) (frOf [F39_0z n]) _) Go.Proofs.Try.f39 (.nd .no (.nd (.nd .no (.nd (.use 0) .no)) .no)) [(0, .fz)] (ShL.enc G (.cons (.imm 0) (.cons (.int .i64) .nil)) x) (encO G [] y) (decR (.int .i64) []) := by kernel_rfl
theorem F39_ok (n : Nat) : EntOK prog G (F39e n) :=
  ent_ok (fr := frOf [F39_0z n]) (ann := (.nd .no (.nd (.nd .no (.nd (.use 0) .no)) .no))) (frm := [(0, .fz)]) laws fnok (E44_ok n).tab (e := F39e n) (fn := Go.Proofs.Try.f39) (by kernel_rfl) (AllF.ofB (cd := F39c) (l := [(0, codeAt F39c [1, 0, 1, 0])]) (by kernel_rfl) (by kernel_rfl) (AllF.cons (F39_0_ok n) AllF.nil)) (F39_eq n)
noncomputable def E45 (n : Nat) : List (Ent G) := F39e n :: E44 n
theorem E45_ok (n : Nat) : AllE prog G (E45 n) := AllE.cons (F39_ok n) (E44_ok n)
-- 40 loop.example/slowworm/laws.heldEntryS
noncomputable def F40c : Code := bodyOf Go.Proofs.Try.f40
noncomputable def F40_0x0 : SSh := ⟨52, [(4, (.int .i64))], []⟩
noncomputable def F40_0x1 : SSh := ⟨52, [(1, (.int .i64))], []⟩
noncomputable def F40_0s : SSh := ⟨52, [(0, (.imm 3)), (1, (.int .i64)), (5, (.int .i64))], []⟩
noncomputable def F40_0_step {R : Type} (n : Nat) (k0 : Int → Option R) (k1 : Int → Option R) (rec : List Ety → Int → Int → Option R) (x1078 : List Ety) (x1079 : Int) (x1080 : Int) : Option R :=
  (bif (decide (x1080 < ((x1078.length) : Int))) then
  (bif (decide ((0 : Int) ≤ x1080)) then
  (bif (decide (x1080 < ((x1078.length) : Int))) then
  (andThen (F33 n x1079) fun r1085 =>
  (bif (!(((x1078.getD (x1080.toNat) (Ety.mk ({ data := #[] } : ByteArray) (0 : Int) (0 : Int) false)).key.toList) == (r1085.1.toList))) then
  (k0 (-1 : Int))
  else let v1087 := (IntKind.wrap .i64 (x1079 + (1 : Int)))
  (bif (decide ((0 : Int) ≤ x1080)) then
  (bif (decide (x1080 < ((x1078.length) : Int))) then
  (bif ((x1078.getD (x1080.toNat) (Ety.mk ({ data := #[] } : ByteArray) (0 : Int) (0 : Int) false)).hash != v1087) then
  (k0 (-1 : Int))
  else let v1091 := (IntKind.wrap .i64 (v1087 + (1 : Int)))
  (bif (decide ((0 : Int) ≤ x1080)) then
  (bif (decide (x1080 < ((x1078.length) : Int))) then
  (bif ((x1078.getD (x1080.toNat) (Ety.mk ({ data := #[] } : ByteArray) (0 : Int) (0 : Int) false)).val != v1091) then
  (k0 (-1 : Int))
  else let v1095 := (IntKind.wrap .i64 (v1091 + (1 : Int)))
  (bif (decide ((0 : Int) ≤ x1080)) then
  (bif (decide (x1080 < ((x1078.length) : Int))) then
  (bif (!((x1078.getD (x1080.toNat) (Ety.mk ({ data := #[] } : ByteArray) (0 : Int) (0 : Int) false)).live == ((v1095.tmod (3 : Int)) == (0 : Int)))) then
  (k0 (-1 : Int))
  else (rec x1078 (IntKind.wrap .i64 (v1095 + (1 : Int))) (IntKind.wrap .i64 (x1080 + (1 : Int)))))
  else none)
  else none))
  else none)
  else none))
  else none)
  else none)))
  else none)
  else none)
  else (k1 x1079))
noncomputable def F40_0_it {R : Type} (n : Nat) (k0 : Int → Option R) (k1 : Int → Option R) : Nat → List Ety → Int → Int → Option R
  | 0, _, _, _ => none
  | k + 1, x1078, x1079, x1080 => F40_0_step n k0 k1 (F40_0_it n k0 k1 k) x1078 x1079 x1080
noncomputable def F40_0 {R : Type} (n : Nat) (x1078 : List Ety) (x1079 : Int) (x1080 : Int) (k0 : Int → Option R) (k1 : Int → Option R) : Option R := F40_0_it n k0 k1 n x1078 x1079 x1080
noncomputable def F40_0z (n : Nat) : Sm G := inZ G 0 ⟨[0, 1, 5], []⟩ F40_0s fun R x K => F40_0_it n (fun u0 => K .ret (SSh.enc G F40_0x0 ((u0, ()), ()))) (fun u0 => K (.exit 0) (SSh.enc G F40_0x1 ((u0, ()), ()))) n x.1.1 x.1.2.1 x.1.2.2.1
theorem F40_0_eq (n : Nat) (R : Type) (rec : SSh.den G F40_0s → Option R) (x : SSh.den G F40_0s) (K : AE → St G → Option R) :
  F40_0_step n (fun u0 => K .ret (SSh.enc G F40_0x0 ((u0, ()), ()))) (fun u0 => K (.exit 0) (SSh.enc G F40_0x1 ((u0, ()), ()))) (fun x1078 x1079 x1080 => rec ((x1078, (x1079, (x1080, ()))), ())) x.1.1 x.1.2.1 x.1.2.2.1 = exec prog G (ro G (tabOf (E45 n)) (frOf []) R) 0 (codeAt F40c [1, 0, 1, 0, 0]) .no (SSh.enc G F40_0s x) (kLoop G (ro G (tabOf (E45 n)) (frOf []) R) 0 ⟨[0, 1, 5], []⟩ F40_0s ⟨⟨[1], []⟩, ⟨[4], []⟩, [(0, ⟨[1], []⟩)]⟩ rec K) := by kernel_rfl
theorem F40_0_ok (n : Nat) : FragOK prog G 0 (codeAt F40c [1, 0, 1, 0]) (F40_0z n) :=
  frag_loop (Z := fun R k (x : SSh.den G F40_0s) K => F40_0_it n (fun u0 => K .ret (SSh.enc G F40_0x0 ((u0, ()), ()))) (fun u0 => K (.exit 0) (SSh.enc G F40_0x1 ((u0, ()), ()))) k x.1.1 x.1.2.1 x.1.2.2.1) laws fnok (E45_ok n).tab (AllF.of (l := []) (by kernel_rfl) AllF.nil) (fun _ _ _ => rfl) (fun R k y K => F40_0_eq n R (fun (x : SSh.den G F40_0s) => F40_0_it n (fun u0 => K .ret (SSh.enc G F40_0x0 ((u0, ()), ()))) (fun u0 => K (.exit 0) (SSh.enc G F40_0x1 ((u0, ()), ()))) k x.1.1 x.1.2.1 x.1.2.2.1) y K) n
noncomputable def F40 (n : Nat) (a1076 : List Ety) (a1077 : Int) : Option (Int × Unit) :=
  (F40_0 n a1076 a1077 (0 : Int) (fun z1103 =>
  some (z1103, ())) (fun z1104 =>
  some (z1104, ())))
noncomputable def F40e (n : Nat) : Ent G := ⟨40, (.cons (.imm 3) (.cons (.int .i64) .nil)), [], (.int .i64), [], fun x y => F40 n x.1 x.2.1⟩
theorem F40_eq (n : Nat) (x : ShL.den G (.cons (.imm 3) (.cons (.int .i64) .nil))) (y : denO G []) : (F40e n).F x y = runFn prog G (ro G (tabOf (E45 n)) (frOf [F40_0z n]) _) Go.Proofs.Try.f40 (.nd .no (.nd (.nd .no (.nd (.use 0) .no)) .no)) [(0, .fz)] (ShL.enc G (.cons (.imm 3) (.cons (.int .i64) .nil)) x) (encO G [] y) (decR (.int .i64) []) := by kernel_rfl
theorem F40_ok (n : Nat) : EntOK prog G (F40e n) :=
  ent_ok (fr := frOf [F40_0z n]) (ann := (.nd .no (.nd (.nd .no (.nd (.use 0) .no)) .no))) (frm := [(0, .fz)]) laws fnok (E45_ok n).tab (e := F40e n) (fn := Go.Proofs.Try.f40) (by kernel_rfl) (AllF.ofB (cd := F40c) (l := [(0, codeAt F40c [1, 0, 1, 0])]) (by kernel_rfl) (by kernel_rfl) (AllF.cons (F40_0_ok n) AllF.nil)) (F40_eq n)
noncomputable def E46 (n : Nat) : List (Ent G) := F40e n :: E45 n
theorem E46_ok (n : Nat) : AllE prog G (E46 n) := AllE.cons (F40_ok n) (E45_ok n)
noncomputable def F18 (n : Nat) (a1057 : List Int) (a1058 : List Ety) (a1059 : Int) : Option (Int × Unit) :=
  (andThen (F39 n a1057 a1059) fun r1074 =>
  (bif (decide (r1074.1 < (0 : Int))) then
  some ((-1 : Int), ())
  else (andThen (F40 n a1058 r1074.1) fun r1105 =>
  (bif (decide (r1105.1 < (0 : Int))) then
  some ((-1 : Int), ())
  else some (r1105.1, ())))))
noncomputable def F18e (n : Nat) : Ent G := ⟨18, (.cons (.agg (.cons (.imm 0) (.cons (.imm 3) .nil))) (.cons (.int .i64) .nil)), [], (.int .i64), [], fun x y => F18 n x.1.1 x.1.2.1 x.2.1⟩
theorem F18_eq (n : Nat) (x : ShL.den G (.cons (.agg (.cons (.imm 0) (.cons (.imm 3) .nil))) (.cons (.int .i64) .nil))) (y : denO G []) : (F18e n).F x y = runFn prog G (ro G (tabOf (E46 n)) (frOf []) _) Go.Proofs.Try.f18 .no [(0, .fz)] (ShL.enc G (.cons (.agg (.cons (.imm 0) (.cons (.imm 3) .nil))) (.cons (.int .i64) .nil)) x) (encO G [] y) (decR (.int .i64) []) := by kernel_rfl
theorem F18_ok (n : Nat) : EntOK prog G (F18e n) :=
  ent_ok (fr := frOf []) (ann := .no) (frm := [(0, .fz)]) laws fnok (E46_ok n).tab (e := F18e n) (fn := Go.Proofs.Try.f18) (by kernel_rfl) (AllF.ofB (cd := F18c) (l := []) (by kernel_rfl) (by kernel_rfl) AllF.nil) (F18_eq n)
noncomputable def E47 (n : Nat) : List (Ent G) := F18e n :: E46 n
theorem E47_ok (n : Nat) : AllE prog G (E47 n) := AllE.cons (F18_ok n) (E46_ok n)
noncomputable def F4 (n : Nat) (a931 : List Int) (a932 : List Ety) (a933 : ByteArray) : Option (Bool × Unit) :=
  (bif (decide (((a933.size) : Int) > (1048576 : Int))) then
  some (true, ())
  else (andThen (F7 n a931 a932 (1048576 : Int)) fun r936 =>
  (bif (decide (r936.1 < (0 : Int))) then
  some (true, ())
  else (andThen (F9 n a931 a932) fun r938 =>
  (andThen (F16 n r938.2.1 r938.2.2.1 a933) fun r961 =>
  (andThen (F9 n a931 a932) fun r962 =>
  (andThen (F17 n r962.2.1 r962.2.2.1 a933) fun r1044 =>
  (andThen (F12 n r1044.2.1 r1044.2.2.1 r961.2.1 r961.2.2.1) fun r1045 =>
  (bif (!r1045.1) then
  some (false, ())
  else (bif (!(r1044.1.2.1 == r961.1.2.1)) then
  some (false, ())
  else (andThen (F9 n a931 a932) fun r1048 =>
  (andThen (F12 n r962.2.1 r962.2.2.1 r1048.2.1 r1048.2.2.1) fun r1049 =>
  (bif (!r1049.1) then
  some (false, ())
  else (andThen (F13 n (1 : Int) r962.2.1 r962.2.2.1) fun r1051 =>
  (bif (decide (r1051.1 < (0 : Int))) then
  some (false, ())
  else (andThen (F12 n r1044.2.1 r1044.2.2.1 r961.2.1 r961.2.2.1) fun r1053 =>
  (bif (!r1053.1) then
  some (false, ())
  else (bif (!(r1044.1.2.1 == r961.1.2.1)) then
  some (false, ())
  else (andThen (F13 n (1 : Int) r1044.2.1 r1044.2.2.1) fun r1056 =>
  (andThen (F18 n r1056.2.1 r1056.2.2.1 (1 : Int)) fun r1107 =>
  (bif (decide (r1107.1 < (0 : Int))) then
  some (false, ())
  else (bif (r1107.1 != r1056.1) then
  some (false, ())
  else (andThen (F9 n a931 a932) fun r1110 =>
  (andThen (F17 n r1110.2.1 r1110.2.2.1 a933) fun r1111 =>
  (andThen (F12 n r1111.2.1 r1111.2.2.1 r961.2.1 r961.2.2.1) fun r1112 =>
  (bif (!r1112.1) then
  some (false, ())
  else (bif (!(r1111.1.2.1 == r961.1.2.1)) then
  some (false, ())
  else (andThen (F18 n r1056.2.1 r1056.2.2.1 (1 : Int)) fun r1115 =>
  (bif (decide (r1115.1 < (0 : Int))) then
  some (false, ())
  else (bif (r1115.1 != r1056.1) then
  some (false, ())
  else some (true, ())))))))))))))))))))))))))))))))
noncomputable def F4e (n : Nat) : Ent G := ⟨4, (.cons (.agg (.cons (.imm 0) (.cons (.imm 5) .nil))) (.cons .str .nil)), [], .bool, [], fun x y => F4 n x.1.1 x.1.2.1 x.2.1⟩
theorem F4_eq (n : Nat) (x : ShL.den G (.cons (.agg (.cons (.imm 0) (.cons (.imm 5) .nil))) (.cons .str .nil))) (y : denO G []) : (F4e n).F x y = runFn prog G (ro G (tabOf (E47 n)) (frOf []) _) Go.Proofs.Try.f4 .no [(0, .fz)] (ShL.enc G (.cons (.agg (.cons (.imm 0) (.cons (.imm 5) .nil))) (.cons .str .nil)) x) (encO G [] y) (decR .bool []) := by kernel_rfl
theorem F4_ok (n : Nat) : EntOK prog G (F4e n) :=
  ent_ok (fr := frOf []) (ann := .no) (frm := [(0, .fz)]) laws fnok (E47_ok n).tab (e := F4e n) (fn := Go.Proofs.Try.f4) (by kernel_rfl) (AllF.ofB (cd := F4c) (l := []) (by kernel_rfl) (by kernel_rfl) AllF.nil) (F4_eq n)
noncomputable def E48 (n : Nat) : List (Ent G) := F4e n :: E47 n
theorem E48_ok (n : Nat) : AllE prog G (E48 n) := AllE.cons (F4_ok n) (E47_ok n)
-- 5 loop.example/slowworm/laws.FnExactDictPack
noncomputable def F5c : Code := bodyOf Go.Proofs.Try.f5
-- 42 loop.example/slowworm/spec.sizeFor
noncomputable def F42c : Code := bodyOf Go.Proofs.Try.f42
noncomputable def F42_0x0 : SSh := ⟨12, [(3, (.int .i64))], []⟩
noncomputable def F42_0s : SSh := ⟨12, [(0, (.int .i64)), (3, (.int .i64))], []⟩
noncomputable def F42_0_step {R : Type} (n : Nat) (k0 : Int → Option R) (rec : Int → Int → Option R) (x1129 : Int) (x1130 : Int) : Option R :=
  (bif (decide (x1130 ≤ (IntKind.wrap .i64 (x1129 * (3 : Int))))) then
  (rec x1129 (IntKind.wrap .i64 (x1130 * (2 : Int))))
  else (k0 x1130))
noncomputable def F42_0_it {R : Type} (n : Nat) (k0 : Int → Option R) : Nat → Int → Int → Option R
  | 0, _, _ => none
  | k + 1, x1129, x1130 => F42_0_step n k0 (F42_0_it n k0 k) x1129 x1130
noncomputable def F42_0 {R : Type} (n : Nat) (x1129 : Int) (x1130 : Int) (k0 : Int → Option R) : Option R := F42_0_it n k0 n x1129 x1130
noncomputable def F42_0z (n : Nat) : Sm G := inZ G 0 ⟨[0, 3], []⟩ F42_0s fun R x K => F42_0_it n (fun u0 => K (.exit 0) (SSh.enc G F42_0x0 ((u0, ()), ()))) n x.1.1 x.1.2.1
theorem F42_0_eq (n : Nat) (R : Type) (rec : SSh.den G F42_0s → Option R) (x : SSh.den G F42_0s) (K : AE → St G → Option R) :
  F42_0_step n (fun u0 => K (.exit 0) (SSh.enc G F42_0x0 ((u0, ()), ()))) (fun x1129 x1130 => rec ((x1129, (x1130, ())), ())) x.1.1 x.1.2.1 = exec prog G (ro G (tabOf (E48 n)) (frOf []) R) 0 (codeAt F42c [1, 1, 0, 0, 0]) .no (SSh.enc G F42_0s x) (kLoop G (ro G (tabOf (E48 n)) (frOf []) R) 0 ⟨[0, 3], []⟩ F42_0s ⟨⟨[3], []⟩, ⟨[2], []⟩, [(0, ⟨[3], []⟩)]⟩ rec K) := by kernel_rfl
theorem F42_0_ok (n : Nat) : FragOK prog G 0 (codeAt F42c [1, 1, 0, 0]) (F42_0z n) :=
  frag_loop (Z := fun R k (x : SSh.den G F42_0s) K => F42_0_it n (fun u0 => K (.exit 0) (SSh.enc G F42_0x0 ((u0, ()), ()))) k x.1.1 x.1.2.1) laws fnok (E48_ok n).tab (AllF.of (l := []) (by kernel_rfl) AllF.nil) (fun _ _ _ => rfl) (fun R k y K => F42_0_eq n R (fun (x : SSh.den G F42_0s) => F42_0_it n (fun u0 => K (.exit 0) (SSh.enc G F42_0x0 ((u0, ()), ()))) k x.1.1 x.1.2.1) y K) n
noncomputable def F42 (n : Nat) (a1128 : Int) : Option (Int × Unit) :=
  (F42_0 n a1128 (8 : Int) (fun z1134 =>
  some ((if ((128 : Int) < z1134) then (128 : Int) else z1134), ())))
noncomputable def F42e (n : Nat) : Ent G := ⟨42, (.cons (.int .i64) .nil), [], (.int .i64), [], fun x y => F42 n x.1⟩
theorem F42_eq (n : Nat) (x : ShL.den G (.cons (.int .i64) .nil)) (y : denO G []) : (F42e n).F x y = runFn prog G (ro G (tabOf (E48 n)) (frOf [F42_0z n]) _) Go.Proofs.Try.f42 (.nd .no (.nd .no (.nd (.nd (.use 0) .no) .no))) [(0, .fz)] (ShL.enc G (.cons (.int .i64) .nil) x) (encO G [] y) (decR (.int .i64) []) := by kernel_rfl
theorem F42_ok (n : Nat) : EntOK prog G (F42e n) :=
  ent_ok (fr := frOf [F42_0z n]) (ann := (.nd .no (.nd .no (.nd (.nd (.use 0) .no) .no)))) (frm := [(0, .fz)]) laws fnok (E48_ok n).tab (e := F42e n) (fn := Go.Proofs.Try.f42) (by kernel_rfl) (AllF.ofB (cd := F42c) (l := [(0, codeAt F42c [1, 1, 0, 0])]) (by kernel_rfl) (by kernel_rfl) (AllF.cons (F42_0_ok n) AllF.nil)) (F42_eq n)
noncomputable def E49 (n : Nat) : List (Ent G) := F42e n :: E48 n
theorem E49_ok (n : Nat) : AllE prog G (E49 n) := AllE.cons (F42_ok n) (E48_ok n)
-- 61 loop.example/slowworm/spec.newIndex
noncomputable def F61c : Code := bodyOf Go.Proofs.Try.f61
noncomputable def F61_0x0 : SSh := ⟨15, [(3, (.own 0))], [(.arr 0 true)]⟩
noncomputable def F61_0s : SSh := ⟨15, [(0, (.int .i64)), (3, (.own 0)), (4, (.int .i64))], [(.arr 0 true)]⟩
noncomputable def F61_0_step {R : Type} (n : Nat) (k0 : List Int → Option R) (rec : Int → Int → List Int → Option R) (x1142 : Int) (x1143 : Int) (x1144 : List Int) : Option R :=
  (bif (decide (x1143 < x1142)) then
  let v1146 := ((-1 : Int) :: [])
  (bif (decide (((x1144.length) + (v1146.length)) ≤ (68719476736 : Nat))) then
  (rec x1142 (IntKind.wrap .i64 (x1143 + (1 : Int))) (x1144 ++ v1146))
  else none)
  else (k0 x1144))
noncomputable def F61_0_it {R : Type} (n : Nat) (k0 : List Int → Option R) : Nat → Int → Int → List Int → Option R
  | 0, _, _, _ => none
  | k + 1, x1142, x1143, x1144 => F61_0_step n k0 (F61_0_it n k0 k) x1142 x1143 x1144
noncomputable def F61_0 {R : Type} (n : Nat) (x1142 : Int) (x1143 : Int) (x1144 : List Int) (k0 : List Int → Option R) : Option R := F61_0_it n k0 n x1142 x1143 x1144
noncomputable def F61_0z (n : Nat) : Sm G := inZ G 0 ⟨[0, 3, 4], []⟩ F61_0s fun R x K => F61_0_it n (fun u0 => K (.exit 0) (SSh.enc G F61_0x0 (((), ()), (u0, ())))) n x.1.1 x.1.2.2.1 x.2.1
theorem F61_0_eq (n : Nat) (R : Type) (rec : SSh.den G F61_0s → Option R) (x : SSh.den G F61_0s) (K : AE → St G → Option R) :
  F61_0_step n (fun u0 => K (.exit 0) (SSh.enc G F61_0x0 (((), ()), (u0, ())))) (fun x1142 x1143 x1144 => rec ((x1142, ((), (x1143, ()))), (x1144, ()))) x.1.1 x.1.2.2.1 x.2.1 = exec prog G (ro G (tabOf (E49 n)) (frOf []) R) 0 (codeAt F61c [1, 1, 0, 1, 0, 0]) .no (SSh.enc G F61_0s x) (kLoop G (ro G (tabOf (E49 n)) (frOf []) R) 0 ⟨[0, 3, 4], []⟩ F61_0s ⟨⟨[3], []⟩, ⟨[2], []⟩, [(0, ⟨[3], []⟩)]⟩ rec K) := by kernel_rfl
theorem F61_0_ok (n : Nat) : FragOK prog G 0 (codeAt F61c [1, 1, 0, 1, 0]) (F61_0z n) :=
  frag_loop (Z := fun R k (x : SSh.den G F61_0s) K => F61_0_it n (fun u0 => K (.exit 0) (SSh.enc G F61_0x0 (((), ()), (u0, ())))) k x.1.1 x.1.2.2.1 x.2.1) laws fnok (E49_ok n).tab (AllF.of (l := []) (by kernel_rfl) AllF.nil) (fun _ _ _ => rfl) (fun R k y K => F61_0_eq n R (fun (x : SSh.den G F61_0s) => F61_0_it n (fun u0 => K (.exit 0) (SSh.enc G F61_0x0 (((), ()), (u0, ())))) k x.1.1 x.1.2.2.1 x.2.1) y K) n
noncomputable def F61 (n : Nat) (a1140 : Int) : Option (Unit × (List Int × Unit)) :=
  (F61_0 n a1140 (0 : Int) [] (fun z1149 =>
  some ((), (z1149, ()))))
noncomputable def F61e (n : Nat) : Ent G := ⟨61, (.cons (.int .i64) .nil), [], (.own 0), [(.arr 0 true)], fun x y => F61 n x.1⟩
theorem F61_eq (n : Nat) (x : ShL.den G (.cons (.int .i64) .nil)) (y : denO G []) : (F61e n).F x y = runFn prog G (ro G (tabOf (E49 n)) (frOf [F61_0z n]) _) Go.Proofs.Try.f61 (.nd .no (.nd .no (.nd (.nd .no (.nd (.use 0) .no)) .no))) [] (ShL.enc G (.cons (.int .i64) .nil) x) (encO G [] y) (decR (.own 0) [(.arr 0 true)]) := by kernel_rfl
theorem F61_ok (n : Nat) : EntOK prog G (F61e n) :=
  ent_ok (fr := frOf [F61_0z n]) (ann := (.nd .no (.nd .no (.nd (.nd .no (.nd (.use 0) .no)) .no)))) (frm := []) laws fnok (E49_ok n).tab (e := F61e n) (fn := Go.Proofs.Try.f61) (by kernel_rfl) (AllF.ofB (cd := F61c) (l := [(0, codeAt F61c [1, 1, 0, 1, 0])]) (by kernel_rfl) (by kernel_rfl) (AllF.cons (F61_0_ok n) AllF.nil)) (F61_eq n)
noncomputable def E50 (n : Nat) : List (Ent G) := F61e n :: E49 n
theorem E50_ok (n : Nat) : AllE prog G (E50 n) := AllE.cons (F61_ok n) (E49_ok n)
-- 41 loop.example/slowworm/spec.packed
noncomputable def F41c : Code := bodyOf Go.Proofs.Try.f41
noncomputable def F41_0x0 : SSh := ⟨42, [(2, (.ptr 0 0)), (4, (.ptr 1 0)), (5, (.ptr 2 0)), (6, (.int .i64))], [(.box 31 (.cons (.imm 0) (.cons (.imm 3) .nil))), (.box 31 (.cons .nil0 (.cons .nil0 .nil))), (.box 31 (.cons (.own 3) (.cons (.own 4) .nil))), (.arr 0 true), (.arr 3 true)]⟩
noncomputable def F41_0s : SSh := ⟨42, [(2, (.ptr 0 0)), (4, (.ptr 1 0)), (5, (.ptr 2 0)), (6, (.int .i64))], [(.box 31 (.cons (.imm 0) (.cons (.imm 3) .nil))), (.box 31 (.cons .nil0 (.cons .nil0 .nil))), (.box 31 (.cons (.own 3) (.cons (.own 4) .nil))), (.arr 0 true), (.arr 3 true)]⟩
noncomputable def F41_0 {R : Type} (n : Nat) (x1188 : Int) (x1189 : List Int) (x1190 : List Ety) (x1191 : List Int) (x1192 : List Ety) (k0 : Int → List Int → List Ety → List Int → List Ety → Option R) : Option R :=
  (bif (decide ((0 : Int) ≤ x1188)) then
  (bif (decide (x1188 < ((x1190.length) : Int))) then
  let v1193 := (x1190.getD (x1188.toNat) (Ety.mk ({ data := #[] } : ByteArray) (0 : Int) (0 : Int) false))
  let v1194 := v1193.key
  let v1197 := v1193.live
  (bif v1197 then
  (andThen (F36 n x1191 x1192 v1194) fun r1198 =>
  (bif (decide ((0 : Int) ≤ r1198.1)) then
  (bif (decide (r1198.1 < ((x1191.length) : Int))) then
  let v1202 := ((Ety.mk v1194 v1193.hash v1193.val v1197) :: [])
  (bif (decide (((x1192.length) + (v1202.length)) ≤ (68719476736 : Nat))) then
  (k0 x1188 x1189 x1190 (x1191.set (r1198.1.toNat) ((x1192.length) : Int)) (x1192 ++ v1202))
  else none)
  else none)
  else none))
  else (k0 x1188 x1189 x1190 x1191 x1192))
  else none)
  else none)
noncomputable def F41_0z (n : Nat) : Sm G := inZ G 0 ⟨[2, 4, 5, 6], []⟩ F41_0s fun R x K => F41_0 n x.1.2.2.2.1 x.2.1.1 x.2.1.2.1 x.2.2.2.2.1 x.2.2.2.2.2.1 (fun u0 u1 u2 u3 u4 => K .normal (SSh.enc G F41_0x0 (((), ((), ((), (u0, ())))), ((u1, (u2, ())), (((), ((), ())), (((), ((), ())), (u3, (u4, ()))))))))
theorem F41_0_eq (n : Nat) (R : Type) (x : SSh.den G F41_0s) (K : AE → St G → Option R) :
  F41_0 n x.1.2.2.2.1 x.2.1.1 x.2.1.2.1 x.2.2.2.2.1 x.2.2.2.2.2.1 (fun u0 u1 u2 u3 u4 => K .normal (SSh.enc G F41_0x0 (((), ((), ((), (u0, ())))), ((u1, (u2, ())), (((), ((), ())), (((), ((), ())), (u3, (u4, ())))))))) = exec prog G (ro G (tabOf (E50 n)) (frOf []) R) 0 (codeAt F41c [1, 1, 0, 1, 0, 0, 1, 0]) .no (SSh.enc G F41_0s x) (kNrm G (ro G (tabOf (E50 n)) (frOf []) R) 0 ⟨⟨[2, 4, 5, 6], []⟩, ⟨[4], []⟩, [(0, ⟨[4, 5], []⟩)]⟩ K) := by kernel_rfl
theorem F41_0_ok (n : Nat) : FragOK prog G 0 (codeAt F41c [1, 1, 0, 1, 0, 0, 1, 0]) (F41_0z n) :=
  frag_plain laws fnok (E50_ok n).tab (AllF.of (l := []) (by kernel_rfl) AllF.nil) (F41_0_eq n)
noncomputable def F41_1x0 : SSh := ⟨42, [(4, (.ptr 0 0)), (5, (.ptr 1 0))], [(.box 31 (.cons .nil0 (.cons .nil0 .nil))), (.box 31 (.cons (.own 2) (.cons (.own 3) .nil))), (.arr 0 true), (.arr 3 true)]⟩
noncomputable def F41_1s : SSh := ⟨42, [(2, (.ptr 0 0)), (4, (.ptr 1 0)), (5, (.ptr 2 0)), (6, (.int .i64))], [(.box 31 (.cons (.imm 0) (.cons (.imm 3) .nil))), (.box 31 (.cons .nil0 (.cons .nil0 .nil))), (.box 31 (.cons (.own 3) (.cons (.own 4) .nil))), (.arr 0 true), (.arr 3 true)]⟩
noncomputable def F41_1_step {R : Type} (n : Nat) (k0 : List Int → List Ety → Option R) (rec : Int → List Int → List Ety → List Int → List Ety → Option R) (x1181 : Int) (x1182 : List Int) (x1183 : List Ety) (x1184 : List Int) (x1185 : List Ety) : Option R :=
  (bif (decide (x1181 < ((x1183.length) : Int))) then
  (F41_0 n x1181 x1182 x1183 x1184 x1185 (fun z1204 z1205 z1206 z1207 z1208 =>
  (rec (IntKind.wrap .i64 (z1204 + (1 : Int))) z1205 z1206 z1207 z1208)))
  else (k0 x1184 x1185))
noncomputable def F41_1_it {R : Type} (n : Nat) (k0 : List Int → List Ety → Option R) : Nat → Int → List Int → List Ety → List Int → List Ety → Option R
  | 0, _, _, _, _, _ => none
  | k + 1, x1181, x1182, x1183, x1184, x1185 => F41_1_step n k0 (F41_1_it n k0 k) x1181 x1182 x1183 x1184 x1185
noncomputable def F41_1 {R : Type} (n : Nat) (x1181 : Int) (x1182 : List Int) (x1183 : List Ety) (x1184 : List Int) (x1185 : List Ety) (k0 : List Int → List Ety → Option R) : Option R := F41_1_it n k0 n x1181 x1182 x1183 x1184 x1185
noncomputable def F41_1z (n : Nat) : Sm G := inZ G 0 ⟨[2, 4, 5, 6], [(5, (.cell 1 (.own 3)))]⟩ F41_1s fun R x K => F41_1_it n (fun u0 u1 => K (.exit 0) (SSh.enc G F41_1x0 (((), ((), ())), (((), ((), ())), (((), ((), ())), (u0, (u1, ()))))))) n x.1.2.2.2.1 x.2.1.1 x.2.1.2.1 x.2.2.2.2.1 x.2.2.2.2.2.1
theorem F41_1_eq (n : Nat) (R : Type) (rec : SSh.den G F41_1s → Option R) (x : SSh.den G F41_1s) (K : AE → St G → Option R) :
  F41_1_step n (fun u0 u1 => K (.exit 0) (SSh.enc G F41_1x0 (((), ((), ())), (((), ((), ())), (((), ((), ())), (u0, (u1, ()))))))) (fun x1181 x1182 x1183 x1184 x1185 => rec (((), ((), ((), (x1181, ())))), ((x1182, (x1183, ())), (((), ((), ())), (((), ((), ())), (x1184, (x1185, ()))))))) x.1.2.2.2.1 x.2.1.1 x.2.1.2.1 x.2.2.2.2.1 x.2.2.2.2.2.1 = exec prog G (ro G (tabOf (E50 n)) (frOf [F41_0z n]) R) 0 (codeAt F41c [1, 1, 0, 1, 0, 0]) (.nd .no (.nd (.use 0) .no)) (SSh.enc G F41_1s x) (kLoop G (ro G (tabOf (E50 n)) (frOf [F41_0z n]) R) 0 ⟨[2, 4, 5, 6], [(5, (.cell 1 (.own 3)))]⟩ F41_1s ⟨⟨[4, 5], []⟩, ⟨[4], []⟩, [(0, ⟨[4, 5], []⟩)]⟩ rec K) := by kernel_rfl
theorem F41_1_ok (n : Nat) : FragOK prog G 0 (codeAt F41c [1, 1, 0, 1, 0]) (F41_1z n) :=
  frag_loop (Z := fun R k (x : SSh.den G F41_1s) K => F41_1_it n (fun u0 u1 => K (.exit 0) (SSh.enc G F41_1x0 (((), ((), ())), (((), ((), ())), (((), ((), ())), (u0, (u1, ()))))))) k x.1.2.2.2.1 x.2.1.1 x.2.1.2.1 x.2.2.2.2.1 x.2.2.2.2.2.1) laws fnok (E50_ok n).tab (AllF.of (l := [(0, codeAt F41c [1, 1, 0, 1, 0, 0, 1, 0])]) (by kernel_rfl) (AllF.cons (F41_0_ok n) AllF.nil)) (fun _ _ _ => rfl) (fun R k y K => F41_1_eq n R (fun (x : SSh.den G F41_1s) => F41_1_it n (fun u0 u1 => K (.exit 0) (SSh.enc G F41_1x0 (((), ((), ())), (((), ((), ())), (((), ((), ())), (u0, (u1, ()))))))) k x.1.2.2.2.1 x.2.1.1 x.2.1.2.1 x.2.2.2.2.1 x.2.2.2.2.2.1) y K) n
noncomputable def F41 (n : Nat) (a1177 : List Int) (a1178 : List Ety) (a1179 : Int) : Option ((Unit × (Unit × Unit)) × (List Int × (List Ety × Unit))) :=
  (andThen (F61 n a1179) fun r1180 =>
  (F41_1 n (0 : Int) a1177 a1178 r1180.2.1 [] (fun z1210 z1211 =>
  some (((), ((), ())), (z1210, (z1211, ()))))))
noncomputable def F41e (n : Nat) : Ent G := ⟨41, (.cons (.agg (.cons (.imm 0) (.cons (.imm 3) .nil))) (.cons (.int .i64) .nil)), [], (.agg (.cons (.own 0) (.cons (.own 1) .nil))), [(.arr 0 true), (.arr 3 true)], fun x y => F41 n x.1.1 x.1.2.1 x.2.1⟩
theorem F41_eq (n : Nat) (x : ShL.den G (.cons (.agg (.cons (.imm 0) (.cons (.imm 3) .nil))) (.cons (.int .i64) .nil))) (y : denO G []) : (F41e n).F x y = runFn prog G (ro G (tabOf (E50 n)) (frOf [F41_0z n, F41_1z n]) _) Go.Proofs.Try.f41 (.nd .no (.nd .no (.nd (.nd .no (.nd (.use 1) .no)) .no))) [] (ShL.enc G (.cons (.agg (.cons (.imm 0) (.cons (.imm 3) .nil))) (.cons (.int .i64) .nil)) x) (encO G [] y) (decR (.agg (.cons (.own 0) (.cons (.own 1) .nil))) [(.arr 0 true), (.arr 3 true)]) := by kernel_rfl
theorem F41_ok (n : Nat) : EntOK prog G (F41e n) :=
  ent_ok (fr := frOf [F41_0z n, F41_1z n]) (ann := (.nd .no (.nd .no (.nd (.nd .no (.nd (.use 1) .no)) .no)))) (frm := []) laws fnok (E50_ok n).tab (e := F41e n) (fn := Go.Proofs.Try.f41) (by kernel_rfl) (AllF.ofB (cd := F41c) (l := [(1, codeAt F41c [1, 1, 0, 1, 0])]) (by kernel_rfl) (by kernel_rfl) (AllF.cons (F41_1_ok n) AllF.nil)) (F41_eq n)
noncomputable def E51 (n : Nat) : List (Ent G) := F41e n :: E50 n
theorem E51_ok (n : Nat) : AllE prog G (E51 n) := AllE.cons (F41_ok n) (E50_ok n)
-- 19 loop.example/slowworm/spec.DictPack
noncomputable def F19c : Code := bodyOf Go.Proofs.Try.f19
noncomputable def F19 (n : Nat) (a1213 : List Int) (a1214 : List Ety) : Option ((List Int × (List Ety × Unit)) × Unit) :=
  (andThen (F25 n a1213 a1214) fun r1215 =>
  (bif (!r1215.1) then
  some (([], ([], ())), ())
  else (andThen (F43 n a1213 a1214) fun r1217 =>
  (andThen (F42 n r1217.1) fun r1218 =>
  (andThen (F41 n a1213 a1214 r1218.1) fun r1219 =>
  some ((r1219.2.1, (r1219.2.2.1, ())), ()))))))
noncomputable def F19e (n : Nat) : Ent G := ⟨19, (.cons (.agg (.cons (.imm 0) (.cons (.imm 3) .nil))) .nil), [], (.agg (.cons (.imm 0) (.cons (.imm 3) .nil))), [], fun x y => F19 n x.1.1 x.1.2.1⟩
theorem F19_eq (n : Nat) (x : ShL.den G (.cons (.agg (.cons (.imm 0) (.cons (.imm 3) .nil))) .nil)) (y : denO G []) : (F19e n).F x y = runFn prog G (ro G (tabOf (E51 n)) (frOf []) _) Go.Proofs.Try.f19 .no [(0, .fz)] (ShL.enc G (.cons (.agg (.cons (.imm 0) (.cons (.imm 3) .nil))) .nil) x) (encO G [] y) (decR (.agg (.cons (.imm 0) (.cons (.imm 3) .nil))) []) := by kernel_rfl
theorem F19_ok (n : Nat) : EntOK prog G (F19e n) :=
  ent_ok (fr := frOf []) (ann := .no) (frm := [(0, .fz)]) laws fnok (E51_ok n).tab (e := F19e n) (fn := Go.Proofs.Try.f19) (by kernel_rfl) (AllF.ofB (cd := F19c) (l := []) (by kernel_rfl) (by kernel_rfl) AllF.nil) (F19_eq n)
noncomputable def E52 (n : Nat) : List (Ent G) := F19e n :: E51 n
theorem E52_ok (n : Nat) : AllE prog G (E52 n) := AllE.cons (F19_ok n) (E51_ok n)
-- 20 loop.example/slowworm/impl.DictPack
noncomputable def F20c : Code := bodyOf Go.Proofs.Try.f20
-- 62 loop.example/slowworm/impl.emptySlots
noncomputable def F62c : Code := bodyOf Go.Proofs.Try.f62
noncomputable def F62_0x0 : SSh := ⟨17, [(3, (.own 0))], [(.arr 0 true)]⟩
noncomputable def F62_0s : SSh := ⟨17, [(3, (.own 0)), (8, (.int .i64)), (9, (.int .i64))], [(.arr 0 true)]⟩
noncomputable def F62_0_step {R : Type} (n : Nat) (k0 : List Int → Option R) (rec : Int → Int → List Int → Option R) (x1244 : Int) (x1245 : Int) (x1246 : List Int) : Option R :=
  (bif (decide (x1245 < x1244)) then
  (bif (decide ((0 : Int) ≤ x1245)) then
  (bif (decide (x1245 < ((x1246.length) : Int))) then
  (rec x1244 (IntKind.wrap .i64 (x1245 + (1 : Int))) (x1246.set (x1245.toNat) (-1 : Int)))
  else none)
  else none)
  else (k0 x1246))
noncomputable def F62_0_it {R : Type} (n : Nat) (k0 : List Int → Option R) : Nat → Int → Int → List Int → Option R
  | 0, _, _, _ => none
  | k + 1, x1244, x1245, x1246 => F62_0_step n k0 (F62_0_it n k0 k) x1244 x1245 x1246
noncomputable def F62_0 {R : Type} (n : Nat) (x1244 : Int) (x1245 : Int) (x1246 : List Int) (k0 : List Int → Option R) : Option R := F62_0_it n k0 n x1244 x1245 x1246
noncomputable def F62_0z (n : Nat) : Sm G := inZ G 0 ⟨[3, 8, 9], []⟩ F62_0s fun R x K => F62_0_it n (fun u0 => K (.exit 0) (SSh.enc G F62_0x0 (((), ()), (u0, ())))) n x.1.2.1 x.1.2.2.1 x.2.1
theorem F62_0_eq (n : Nat) (R : Type) (rec : SSh.den G F62_0s → Option R) (x : SSh.den G F62_0s) (K : AE → St G → Option R) :
  F62_0_step n (fun u0 => K (.exit 0) (SSh.enc G F62_0x0 (((), ()), (u0, ())))) (fun x1244 x1245 x1246 => rec (((), (x1244, (x1245, ()))), (x1246, ()))) x.1.2.1 x.1.2.2.1 x.2.1 = exec prog G (ro G (tabOf (E52 n)) (frOf []) R) 0 (codeAt F62c [1, 1, 0, 1, 0, 0]) .no (SSh.enc G F62_0s x) (kLoop G (ro G (tabOf (E52 n)) (frOf []) R) 0 ⟨[3, 8, 9], []⟩ F62_0s ⟨⟨[3], []⟩, ⟨[2], []⟩, [(0, ⟨[3], []⟩)]⟩ rec K) := by kernel_rfl
theorem F62_0_ok (n : Nat) : FragOK prog G 0 (codeAt F62c [1, 1, 0, 1, 0]) (F62_0z n) :=
  frag_loop (Z := fun R k (x : SSh.den G F62_0s) K => F62_0_it n (fun u0 => K (.exit 0) (SSh.enc G F62_0x0 (((), ()), (u0, ())))) k x.1.2.1 x.1.2.2.1 x.2.1) laws fnok (E52_ok n).tab (AllF.of (l := []) (by kernel_rfl) AllF.nil) (fun _ _ _ => rfl) (fun R k y K => F62_0_eq n R (fun (x : SSh.den G F62_0s) => F62_0_it n (fun u0 => K (.exit 0) (SSh.enc G F62_0x0 (((), ()), (u0, ())))) k x.1.2.1 x.1.2.2.1 x.2.1) y K) n
noncomputable def F62 (n : Nat) (a1241 : Int) : Option (Unit × (List Int × Unit)) :=
  (bif (decide ((0 : Int) ≤ a1241)) then
  (bif (decide (a1241 ≤ a1241)) then
  (bif (decide (a1241 ≤ ((68719476736 : Nat) : Int))) then
  let v1242 := (List.replicate (a1241.toNat) (0 : Int))
  (F62_0 n ((v1242.length) : Int) (0 : Int) v1242 (fun z1251 =>
  some ((), (z1251, ()))))
  else none)
  else none)
  else none)
noncomputable def F62e (n : Nat) : Ent G := ⟨62, (.cons (.int .i64) .nil), [], (.own 0), [(.arr 0 true)], fun x y => F62 n x.1⟩
theorem F62_eq (n : Nat) (x : ShL.den G (.cons (.int .i64) .nil)) (y : denO G []) : (F62e n).F x y = runFn prog G (ro G (tabOf (E52 n)) (frOf [F62_0z n]) _) Go.Proofs.Try.f62 (.nd .no (.nd .no (.nd (.nd .no (.nd (.use 0) .no)) .no))) [] (ShL.enc G (.cons (.int .i64) .nil) x) (encO G [] y) (decR (.own 0) [(.arr 0 true)]) := by kernel_rfl
theorem F62_ok (n : Nat) : EntOK prog G (F62e n) :=
  ent_ok (fr := frOf [F62_0z n]) (ann := (.nd .no (.nd .no (.nd (.nd .no (.nd (.use 0) .no)) .no)))) (frm := []) laws fnok (E52_ok n).tab (e := F62e n) (fn := Go.Proofs.Try.f62) (by kernel_rfl) (AllF.ofB (cd := F62c) (l := [(0, codeAt F62c [1, 1, 0, 1, 0])]) (by kernel_rfl) (by kernel_rfl) (AllF.cons (F62_0_ok n) AllF.nil)) (F62_eq n)
noncomputable def E53 (n : Nat) : List (Ent G) := F62e n :: E52 n
theorem E53_ok (n : Nat) : AllE prog G (E53 n) := AllE.cons (F62_ok n) (E52_ok n)
-- 50 (*loop.example/slowworm/impl.Dict).add
noncomputable def F50c : Code := bodyOf Go.Proofs.Try.f50
-- 38 (loop.example/slowworm/impl.Dict).probe
noncomputable def F38v2c : Code := bodyOf Go.Proofs.Try.f38
noncomputable def F38v2_0x0 : SSh := ⟨62, [(4, (.own 1))], [(.arr 0 true), (.arr 0 true)]⟩
noncomputable def F38v2_0x1 : SSh := ⟨62, [(9, (.own 1))], [(.arr 0 true), (.arr 0 true)]⟩
noncomputable def F38v2_0s : SSh := ⟨62, [(1, .str), (2, (.ptr 1 0)), (6, (.int .i64)), (7, (.int .i64)), (8, (.int .i64)), (9, (.own 2)), (22, (.int .i64)), (23, (.int .i64))], [(.arr 0 true), (.box 31 (.cons (.own 0) (.cons (.imm 3) .nil))), (.arr 0 true)]⟩
noncomputable def F38v2_0_step {R : Type} (n : Nat) (k0 : List Int → List Int → Option R) (k1 : List Int → List Int → Option R) (rec : ByteArray → Int → Int → Int → Int → Int → List Int → List Ety → List Int → Option R) (x1279 : ByteArray) (x1280 : Int) (x1281 : Int) (x1282 : Int) (x1283 : Int) (x1284 : Int) (x1285 : List Int) (x1286 : List Ety) (x1287 : List Int) : Option R :=
  (bif (decide (x1284 < x1283)) then
  let v1289 := (x1281 :: [])
  (bif (decide (((x1287.length) + (v1289.length)) ≤ (68719476736 : Nat))) then
  let v1290 := (x1287 ++ v1289)
  (bif (decide ((0 : Int) ≤ x1281)) then
  (bif (decide (x1281 < ((x1285.length) : Int))) then
  let v1292 := (x1285.getD (x1281.toNat) (0 : Int))
  (bif (v1292 == (-1 : Int)) then
  (k0 x1285 v1290)
  else (bif (decide (v1292 ≥ (0 : Int))) then
  (bif (decide ((0 : Int) ≤ v1292)) then
  (bif (decide (v1292 < ((x1286.length) : Int))) then
  (bif (((x1286.getD (v1292.toNat) (Ety.mk ({ data := #[] } : ByteArray) (0 : Int) (0 : Int) false)).key.toList) == (x1279.toList)) then
  (k0 x1285 v1290)
  else let v1298 := (IntKind.wrap .i64 (x1282.tdiv (8 : Int)))
  (bif (!(decide (x1280 = (0 : Int)))) then
  (rec x1279 x1280 ((IntKind.wrap .i64 ((IntKind.wrap .i64 ((IntKind.wrap .i64 ((5 : Int) * x1281)) + v1298)) + (1 : Int))).tmod x1280) v1298 x1283 (IntKind.wrap .i64 (x1284 + (1 : Int))) x1285 x1286 v1290)
  else none))
  else none)
  else none)
  else let v1304 := (IntKind.wrap .i64 (x1282.tdiv (8 : Int)))
  (bif (!(decide (x1280 = (0 : Int)))) then
  (rec x1279 x1280 ((IntKind.wrap .i64 ((IntKind.wrap .i64 ((IntKind.wrap .i64 ((5 : Int) * x1281)) + v1304)) + (1 : Int))).tmod x1280) v1304 x1283 (IntKind.wrap .i64 (x1284 + (1 : Int))) x1285 x1286 v1290)
  else none)))
  else none)
  else none)
  else none)
  else (k1 x1285 x1287))
noncomputable def F38v2_0_it {R : Type} (n : Nat) (k0 : List Int → List Int → Option R) (k1 : List Int → List Int → Option R) : Nat → ByteArray → Int → Int → Int → Int → Int → List Int → List Ety → List Int → Option R
  | 0, _, _, _, _, _, _, _, _, _ => none
  | k + 1, x1279, x1280, x1281, x1282, x1283, x1284, x1285, x1286, x1287 => F38v2_0_step n k0 k1 (F38v2_0_it n k0 k1 k) x1279 x1280 x1281 x1282 x1283 x1284 x1285 x1286 x1287
noncomputable def F38v2_0 {R : Type} (n : Nat) (x1279 : ByteArray) (x1280 : Int) (x1281 : Int) (x1282 : Int) (x1283 : Int) (x1284 : Int) (x1285 : List Int) (x1286 : List Ety) (x1287 : List Int) (k0 : List Int → List Int → Option R) (k1 : List Int → List Int → Option R) : Option R := F38v2_0_it n k0 k1 n x1279 x1280 x1281 x1282 x1283 x1284 x1285 x1286 x1287
noncomputable def F38v2_0z (n : Nat) : Sm G := inZ G 1 ⟨[1, 2, 6, 7, 8, 9, 22, 23], [(9, (.own 0))]⟩ F38v2_0s fun R x K => F38v2_0_it n (fun u0 u1 => K .ret (SSh.enc G F38v2_0x0 (((), ()), (u0, (u1, ()))))) (fun u0 u1 => K (.exit 0) (SSh.enc G F38v2_0x1 (((), ()), (u0, (u1, ()))))) n x.1.1 x.1.2.2.1 x.1.2.2.2.1 x.1.2.2.2.2.1 x.1.2.2.2.2.2.2.1 x.1.2.2.2.2.2.2.2.1 x.2.1 x.2.2.1.2.1 x.2.2.2.1
theorem F38v2_0_eq (n : Nat) (R : Type) (rec : SSh.den G F38v2_0s → Option R) (x : SSh.den G F38v2_0s) (K : AE → St G → Option R) :
  F38v2_0_step n (fun u0 u1 => K .ret (SSh.enc G F38v2_0x0 (((), ()), (u0, (u1, ()))))) (fun u0 u1 => K (.exit 0) (SSh.enc G F38v2_0x1 (((), ()), (u0, (u1, ()))))) (fun x1279 x1280 x1281 x1282 x1283 x1284 x1285 x1286 x1287 => rec ((x1279, ((), (x1280, (x1281, (x1282, ((), (x1283, (x1284, ())))))))), (x1285, (((), (x1286, ())), (x1287, ()))))) x.1.1 x.1.2.2.1 x.1.2.2.2.1 x.1.2.2.2.2.1 x.1.2.2.2.2.2.2.1 x.1.2.2.2.2.2.2.2.1 x.2.1 x.2.2.1.2.1 x.2.2.2.1 = exec prog G (ro G (tabOf (E53 n)) (frOf []) R) 1 (codeAt F38v2c [1, 1, 1, 1, 1, 0, 1, 0, 0]) .no (SSh.enc G F38v2_0s x) (kLoop G (ro G (tabOf (E53 n)) (frOf []) R) 1 ⟨[1, 2, 6, 7, 8, 9, 22, 23], [(9, (.own 0))]⟩ F38v2_0s ⟨⟨[9], []⟩, ⟨[4], []⟩, [(0, ⟨[9], []⟩)]⟩ rec K) := by kernel_rfl
theorem F38v2_0_ok (n : Nat) : FragOK prog G 1 (codeAt F38v2c [1, 1, 1, 1, 1, 0, 1, 0]) (F38v2_0z n) :=
  frag_loop (Z := fun R k (x : SSh.den G F38v2_0s) K => F38v2_0_it n (fun u0 u1 => K .ret (SSh.enc G F38v2_0x0 (((), ()), (u0, (u1, ()))))) (fun u0 u1 => K (.exit 0) (SSh.enc G F38v2_0x1 (((), ()), (u0, (u1, ()))))) k x.1.1 x.1.2.2.1 x.1.2.2.2.1 x.1.2.2.2.2.1 x.1.2.2.2.2.2.2.1 x.1.2.2.2.2.2.2.2.1 x.2.1 x.2.2.1.2.1 x.2.2.2.1) laws fnok (E53_ok n).tab (AllF.of (l := []) (by kernel_rfl) AllF.nil) (fun _ _ _ => rfl) (fun R k y K => F38v2_0_eq n R (fun (x : SSh.den G F38v2_0s) => F38v2_0_it n (fun u0 u1 => K .ret (SSh.enc G F38v2_0x0 (((), ()), (u0, (u1, ()))))) (fun u0 u1 => K (.exit 0) (SSh.enc G F38v2_0x1 (((), ()), (u0, (u1, ()))))) k x.1.1 x.1.2.2.1 x.1.2.2.2.1 x.1.2.2.2.2.1 x.1.2.2.2.2.2.2.1 x.1.2.2.2.2.2.2.2.1 x.2.1 x.2.2.1.2.1 x.2.2.2.1) y K) n
noncomputable def F38v2 (n : Nat) (a1271 : List Ety) (a1272 : ByteArray) (a1273 : List Int) : Option (List Int × (List Int × Unit)) :=
  (andThen (F56 n a1272) fun r1274 =>
  let v1275 := ((a1273.length) : Int)
  (bif (!(decide (v1275 = (0 : Int)))) then
  (F38v2_0 n a1272 v1275 (r1274.1.tmod v1275) r1274.1 (IntKind.wrap .i64 ((65536 : Int) + (IntKind.wrap .i64 ((2 : Int) * v1275)))) (0 : Int) a1273 a1271 [] (fun z1310 z1311 =>
  some (z1311, (z1310, ()))) (fun z1312 z1313 =>
  some (z1313, (z1312, ()))))
  else none))
noncomputable def F38v2e (n : Nat) : Ent G := ⟨38, (.cons (.agg (.cons (.own 0) (.cons (.imm 3) .nil))) (.cons .str .nil)), [(.arr 0 true)], (.imm 0), [(.arr 0 true)], fun x y => F38v2 n x.1.2.1 x.2.1 y.1⟩
theorem F38v2_eq (n : Nat) (x : ShL.den G (.cons (.agg (.cons (.own 0) (.cons (.imm 3) .nil))) (.cons .str .nil))) (y : denO G [(.arr 0 true)]) : (F38v2e n).F x y = runFn prog G (ro G (tabOf (E53 n)) (frOf [F38v2_0z n]) _) Go.Proofs.Try.f38 (.nd .no (.nd .no (.nd .no (.nd .no (.nd .no (.nd (.nd .no (.nd (.use 0) .no)) .no)))))) [(0, .fz)] (ShL.enc G (.cons (.agg (.cons (.own 0) (.cons (.imm 3) .nil))) (.cons .str .nil)) x) (encO G [(.arr 0 true)] y) (decR (.imm 0) [(.arr 0 true)]) := by kernel_rfl
theorem F38v2_ok (n : Nat) : EntOK prog G (F38v2e n) :=
  ent_ok (fr := frOf [F38v2_0z n]) (ann := (.nd .no (.nd .no (.nd .no (.nd .no (.nd .no (.nd (.nd .no (.nd (.use 0) .no)) .no))))))) (frm := [(0, .fz)]) laws fnok (E53_ok n).tab (e := F38v2e n) (fn := Go.Proofs.Try.f38) (by kernel_rfl) (AllF.ofB (cd := F38v2c) (l := [(0, codeAt F38v2c [1, 1, 1, 1, 1, 0, 1, 0])]) (by kernel_rfl) (by kernel_rfl) (AllF.cons (F38v2_0_ok n) AllF.nil)) (F38v2_eq n)
noncomputable def E54 (n : Nat) : List (Ent G) := F38v2e n :: E53 n
theorem E54_ok (n : Nat) : AllE prog G (E54 n) := AllE.cons (F38v2_ok n) (E53_ok n)
noncomputable def F50 (n : Nat) (a1268 : ByteArray) (a1269 : Int) (a1270 : List Int) : Option (Unit × ((Unit × (Unit × Unit)) × (List Int × (List Ety × Unit)))) :=
  (andThen (F38v2 n [] a1268 a1270) fun r1314 =>
  let v1316 := (IntKind.wrap .i64 (((r1314.1.length) : Int) - (1 : Int)))
  (bif (decide ((0 : Int) ≤ v1316)) then
  (bif (decide (v1316 < ((r1314.1.length) : Int))) then
  let v1318 := (r1314.1.getD (v1316.toNat) (0 : Int))
  (bif (decide ((0 : Int) ≤ v1318)) then
  (bif (decide (v1318 < ((r1314.2.1.length) : Int))) then
  (andThen (F56 n a1268) fun r1321 =>
  let v1322 := ((Ety.mk a1268 r1321.1 a1269 true) :: [])
  (bif (decide ((v1322.length) ≤ (68719476736 : Nat))) then
  some ((), (((), ((), ())), ((r1314.2.1.set (v1318.toNat) (Int.ofNat (0 : Nat))), (v1322, ()))))
  else none))
  else none)
  else none)
  else none)
  else none))
noncomputable def F50e (n : Nat) : Ent G := ⟨50, (.cons (.ptr 0 0) (.cons .str (.cons (.int .i64) .nil))), [(.box 31 (.cons (.own 1) (.cons .nil0 .nil))), (.arr 0 true)], (.tup .nil), [(.box 31 (.cons (.own 1) (.cons (.own 2) .nil))), (.arr 0 true), (.arr 3 true)], fun x y => F50 n x.2.1 x.2.2.1 y.2.1⟩
theorem F50_eq (n : Nat) (x : ShL.den G (.cons (.ptr 0 0) (.cons .str (.cons (.int .i64) .nil)))) (y : denO G [(.box 31 (.cons (.own 1) (.cons .nil0 .nil))), (.arr 0 true)]) : (F50e n).F x y = runFn prog G (ro G (tabOf (E54 n)) (frOf []) _) Go.Proofs.Try.f50 .no [] (ShL.enc G (.cons (.ptr 0 0) (.cons .str (.cons (.int .i64) .nil))) x) (encO G [(.box 31 (.cons (.own 1) (.cons .nil0 .nil))), (.arr 0 true)] y) (decR (.tup .nil) [(.box 31 (.cons (.own 1) (.cons (.own 2) .nil))), (.arr 0 true), (.arr 3 true)]) := by kernel_rfl
theorem F50_ok (n : Nat) : EntOK prog G (F50e n) :=
  ent_ok (fr := frOf []) (ann := .no) (frm := []) laws fnok (E54_ok n).tab (e := F50e n) (fn := Go.Proofs.Try.f50) (by kernel_rfl) (AllF.ofB (cd := F50c) (l := []) (by kernel_rfl) (by kernel_rfl) AllF.nil) (F50_eq n)
noncomputable def E55 (n : Nat) : List (Ent G) := F50e n :: E54 n
theorem E55_ok (n : Nat) : AllE prog G (E55 n) := AllE.cons (F50_ok n) (E54_ok n)
-- 44 (loop.example/slowworm/impl.Dict).packed
noncomputable def F44c : Code := bodyOf Go.Proofs.Try.f44
noncomputable def F44_0x0 : SSh := ⟨38, [(2, (.ptr 0 0)), (4, (.ptr 1 0)), (5, (.int .i64))], [(.box 31 (.cons (.imm 0) (.cons (.imm 3) .nil))), (.box 31 (.cons .nil0 (.cons .nil0 .nil)))]⟩
noncomputable def F44_0s : SSh := ⟨38, [(1, (.int .i64)), (2, (.ptr 0 0)), (4, (.ptr 1 0)), (5, (.int .i64))], [(.box 31 (.cons (.imm 0) (.cons (.imm 3) .nil))), (.box 31 (.cons .nil0 (.cons .nil0 .nil)))]⟩
noncomputable def F44_0_step {R : Type} (n : Nat) (k0 : Int → List Int → List Ety → Option R) (rec : Int → Int → List Int → List Ety → Option R) (x1334 : Int) (x1335 : Int) (x1336 : List Int) (x1337 : List Ety) : Option R :=
  (bif (decide (x1335 < (128 : Int))) then
  (bif (decide (x1335 ≤ (IntKind.wrap .i64 ((3 : Int) * x1334)))) then
  (rec x1334 (IntKind.wrap .i64 (x1335 * (2 : Int))) x1336 x1337)
  else (k0 x1335 x1336 x1337))
  else (k0 x1335 x1336 x1337))
noncomputable def F44_0_it {R : Type} (n : Nat) (k0 : Int → List Int → List Ety → Option R) : Nat → Int → Int → List Int → List Ety → Option R
  | 0, _, _, _, _ => none
  | k + 1, x1334, x1335, x1336, x1337 => F44_0_step n k0 (F44_0_it n k0 k) x1334 x1335 x1336 x1337
noncomputable def F44_0 {R : Type} (n : Nat) (x1334 : Int) (x1335 : Int) (x1336 : List Int) (x1337 : List Ety) (k0 : Int → List Int → List Ety → Option R) : Option R := F44_0_it n k0 n x1334 x1335 x1336 x1337
noncomputable def F44_0z (n : Nat) : Sm G := inZ G 0 ⟨[1, 2, 4, 5], []⟩ F44_0s fun R x K => F44_0_it n (fun u0 u1 u2 => K (.exit 0) (SSh.enc G F44_0x0 (((), ((), (u0, ()))), ((u1, (u2, ())), (((), ((), ())), ()))))) n x.1.1 x.1.2.2.2.1 x.2.1.1 x.2.1.2.1
theorem F44_0_eq (n : Nat) (R : Type) (rec : SSh.den G F44_0s → Option R) (x : SSh.den G F44_0s) (K : AE → St G → Option R) :
  F44_0_step n (fun u0 u1 u2 => K (.exit 0) (SSh.enc G F44_0x0 (((), ((), (u0, ()))), ((u1, (u2, ())), (((), ((), ())), ()))))) (fun x1334 x1335 x1336 x1337 => rec ((x1334, ((), ((), (x1335, ())))), ((x1336, (x1337, ())), (((), ((), ())), ())))) x.1.1 x.1.2.2.2.1 x.2.1.1 x.2.1.2.1 = exec prog G (ro G (tabOf (E55 n)) (frOf []) R) 0 (codeAt F44c [1, 1, 0, 0, 0]) .no (SSh.enc G F44_0s x) (kLoop G (ro G (tabOf (E55 n)) (frOf []) R) 0 ⟨[1, 2, 4, 5], []⟩ F44_0s ⟨⟨[2, 4, 5], []⟩, ⟨[4], []⟩, [(0, ⟨[2, 4, 5], []⟩)]⟩ rec K) := by kernel_rfl
theorem F44_0_ok (n : Nat) : FragOK prog G 0 (codeAt F44c [1, 1, 0, 0]) (F44_0z n) :=
  frag_loop (Z := fun R k (x : SSh.den G F44_0s) K => F44_0_it n (fun u0 u1 u2 => K (.exit 0) (SSh.enc G F44_0x0 (((), ((), (u0, ()))), ((u1, (u2, ())), (((), ((), ())), ()))))) k x.1.1 x.1.2.2.2.1 x.2.1.1 x.2.1.2.1) laws fnok (E55_ok n).tab (AllF.of (l := []) (by kernel_rfl) AllF.nil) (fun _ _ _ => rfl) (fun R k y K => F44_0_eq n R (fun (x : SSh.den G F44_0s) => F44_0_it n (fun u0 u1 u2 => K (.exit 0) (SSh.enc G F44_0x0 (((), ((), (u0, ()))), ((u1, (u2, ())), (((), ((), ())), ()))))) k x.1.1 x.1.2.2.2.1 x.2.1.1 x.2.1.2.1) y K) n
-- 50 (*loop.example/slowworm/impl.Dict).add
noncomputable def F50v1c : Code := bodyOf Go.Proofs.Try.f50
noncomputable def F50v1 (n : Nat) (a1363 : ByteArray) (a1364 : Int) (a1365 : List Int) (a1366 : List Ety) : Option (Unit × ((Unit × (Unit × Unit)) × (List Int × (Unit × (List Ety × Unit))))) :=
  (andThen (F38v1 n a1363 a1365 a1366) fun r1367 =>
  let v1369 := (IntKind.wrap .i64 (((r1367.1.length) : Int) - (1 : Int)))
  (bif (decide ((0 : Int) ≤ v1369)) then
  (bif (decide (v1369 < ((r1367.1.length) : Int))) then
  let v1371 := (r1367.1.getD (v1369.toNat) (0 : Int))
  (bif (decide ((0 : Int) ≤ v1371)) then
  (bif (decide (v1371 < ((r1367.2.1.length) : Int))) then
  (andThen (F56 n a1363) fun r1375 =>
  let v1376 := ((Ety.mk a1363 r1375.1 a1364 true) :: [])
  (bif (decide (((r1367.2.2.1.length) + (v1376.length)) ≤ (68719476736 : Nat))) then
  some ((), (((), ((), ())), ((r1367.2.1.set (v1371.toNat) ((r1367.2.2.1.length) : Int)), ((), ((r1367.2.2.1 ++ v1376), ())))))
  else none))
  else none)
  else none)
  else none)
  else none))
noncomputable def F50v1e (n : Nat) : Ent G := ⟨50, (.cons (.ptr 0 0) (.cons .str (.cons (.int .i64) .nil))), [(.box 31 (.cons (.own 1) (.cons (.own 2) .nil))), (.arr 0 true), (.arr 3 true)], (.tup .nil), [(.box 31 (.cons (.own 1) (.cons (.own 3) .nil))), (.arr 0 true), .dead, (.arr 3 true)], fun x y => F50v1 n x.2.1 x.2.2.1 y.2.1 y.2.2.1⟩
theorem F50v1_eq (n : Nat) (x : ShL.den G (.cons (.ptr 0 0) (.cons .str (.cons (.int .i64) .nil)))) (y : denO G [(.box 31 (.cons (.own 1) (.cons (.own 2) .nil))), (.arr 0 true), (.arr 3 true)]) : (F50v1e n).F x y = runFn prog G (ro G (tabOf (E55 n)) (frOf []) _) Go.Proofs.Try.f50 .no [] (ShL.enc G (.cons (.ptr 0 0) (.cons .str (.cons (.int .i64) .nil))) x) (encO G [(.box 31 (.cons (.own 1) (.cons (.own 2) .nil))), (.arr 0 true), (.arr 3 true)] y) (decR (.tup .nil) [(.box 31 (.cons (.own 1) (.cons (.own 3) .nil))), (.arr 0 true), .dead, (.arr 3 true)]) := by kernel_rfl
theorem F50v1_ok (n : Nat) : EntOK prog G (F50v1e n) :=
  ent_ok (fr := frOf []) (ann := .no) (frm := []) laws fnok (E55_ok n).tab (e := F50v1e n) (fn := Go.Proofs.Try.f50) (by kernel_rfl) (AllF.ofB (cd := F50v1c) (l := []) (by kernel_rfl) (by kernel_rfl) AllF.nil) (F50v1_eq n)
noncomputable def E56 (n : Nat) : List (Ent G) := F50v1e n :: E55 n
theorem E56_ok (n : Nat) : AllE prog G (E56 n) := AllE.cons (F50v1_ok n) (E55_ok n)
noncomputable def F44_1x0 : SSh := ⟨38, [(4, (.ptr 0 0)), (6, (.ptr 1 0)), (23, (.imm 3)), (24, (.int .i64)), (25, (.int .i64))], [(.box 31 (.cons .nil0 (.cons .nil0 .nil))), (.box 31 (.cons (.own 2) (.cons (.own 3) .nil))), (.arr 0 true), (.arr 3 true)]⟩
noncomputable def F44_1s : SSh := ⟨38, [(4, (.ptr 0 0)), (6, (.ptr 1 0)), (23, (.imm 3)), (24, (.int .i64)), (25, (.int .i64))], [(.box 31 (.cons .nil0 (.cons .nil0 .nil))), (.box 31 (.cons (.own 2) (.cons (.own 3) .nil))), (.arr 0 true), (.arr 3 true)]⟩
noncomputable def F44_1 {R : Type} (n : Nat) (x1353 : List Ety) (x1354 : Int) (x1355 : Int) (x1356 : List Int) (x1357 : List Ety) (k0 : List Ety → Int → Int → List Int → List Ety → Option R) : Option R :=
  (bif (decide ((0 : Int) ≤ x1355)) then
  (bif (decide (x1355 < ((x1353.length) : Int))) then
  let v1358 := (x1353.getD (x1355.toNat) (Ety.mk ({ data := #[] } : ByteArray) (0 : Int) (0 : Int) false))
  (bif v1358.live then
  (andThen (F50v1 n v1358.key v1358.val x1356 x1357) fun r1378 =>
  (k0 x1353 x1354 x1355 r1378.2.2.1 r1378.2.2.2.2.1))
  else (k0 x1353 x1354 x1355 x1356 x1357))
  else none)
  else none)
noncomputable def F44_1z (n : Nat) : Sm G := inZ G 0 ⟨[4, 6, 23, 24, 25], []⟩ F44_1s fun R x K => F44_1 n x.1.2.2.1 x.1.2.2.2.1 x.1.2.2.2.2.1 x.2.2.2.1 x.2.2.2.2.1 (fun u0 u1 u2 u3 u4 => K .normal (SSh.enc G F44_1x0 (((), ((), (u0, (u1, (u2, ()))))), (((), ((), ())), (((), ((), ())), (u3, (u4, ())))))))
theorem F44_1_eq (n : Nat) (R : Type) (x : SSh.den G F44_1s) (K : AE → St G → Option R) :
  F44_1 n x.1.2.2.1 x.1.2.2.2.1 x.1.2.2.2.2.1 x.2.2.2.1 x.2.2.2.2.1 (fun u0 u1 u2 u3 u4 => K .normal (SSh.enc G F44_1x0 (((), ((), (u0, (u1, (u2, ()))))), (((), ((), ())), (((), ((), ())), (u3, (u4, ()))))))) = exec prog G (ro G (tabOf (E56 n)) (frOf [F44_0z n]) R) 0 (codeAt F44c [1, 1, 1, 1, 0, 1, 0, 0, 1, 1, 0]) .no (SSh.enc G F44_1s x) (kNrm G (ro G (tabOf (E56 n)) (frOf [F44_0z n]) R) 0 ⟨⟨[4, 6, 23, 24, 25], []⟩, ⟨[4], []⟩, [(2, ⟨[4, 6], []⟩)]⟩ K) := by kernel_rfl
theorem F44_1_ok (n : Nat) : FragOK prog G 0 (codeAt F44c [1, 1, 1, 1, 0, 1, 0, 0, 1, 1, 0]) (F44_1z n) :=
  frag_plain laws fnok (E56_ok n).tab (AllF.of (l := []) (by kernel_rfl) AllF.nil) (F44_1_eq n)
noncomputable def F44_2x0 : SSh := ⟨38, [(4, (.ptr 0 0)), (6, (.ptr 1 0))], [(.box 31 (.cons .nil0 (.cons .nil0 .nil))), (.box 31 (.cons (.own 2) (.cons (.own 3) .nil))), (.arr 0 true), (.arr 3 true)]⟩
noncomputable def F44_2s : SSh := ⟨38, [(4, (.ptr 0 0)), (6, (.ptr 1 0)), (23, (.imm 3)), (24, (.int .i64)), (25, (.int .i64))], [(.box 31 (.cons .nil0 (.cons .nil0 .nil))), (.box 31 (.cons (.own 2) (.cons (.own 3) .nil))), (.arr 0 true), (.arr 3 true)]⟩
noncomputable def F44_2_step {R : Type} (n : Nat) (k0 : List Int → List Ety → Option R) (rec : List Ety → Int → Int → List Int → List Ety → Option R) (x1347 : List Ety) (x1348 : Int) (x1349 : Int) (x1350 : List Int) (x1351 : List Ety) : Option R :=
  (bif (decide (x1349 < x1348)) then
  (F44_1 n x1347 x1348 x1349 x1350 x1351 (fun z1379 z1380 z1381 z1382 z1383 =>
  (rec z1379 z1380 (IntKind.wrap .i64 (z1381 + (1 : Int))) z1382 z1383)))
  else (k0 x1350 x1351))
noncomputable def F44_2_it {R : Type} (n : Nat) (k0 : List Int → List Ety → Option R) : Nat → List Ety → Int → Int → List Int → List Ety → Option R
  | 0, _, _, _, _, _ => none
  | k + 1, x1347, x1348, x1349, x1350, x1351 => F44_2_step n k0 (F44_2_it n k0 k) x1347 x1348 x1349 x1350 x1351
noncomputable def F44_2 {R : Type} (n : Nat) (x1347 : List Ety) (x1348 : Int) (x1349 : Int) (x1350 : List Int) (x1351 : List Ety) (k0 : List Int → List Ety → Option R) : Option R := F44_2_it n k0 n x1347 x1348 x1349 x1350 x1351
noncomputable def F44_2z (n : Nat) : Sm G := inZ G 0 ⟨[4, 6, 23, 24, 25], [(6, (.cell 1 (.own 3)))]⟩ F44_2s fun R x K => F44_2_it n (fun u0 u1 => K (.exit 2) (SSh.enc G F44_2x0 (((), ((), ())), (((), ((), ())), (((), ((), ())), (u0, (u1, ()))))))) n x.1.2.2.1 x.1.2.2.2.1 x.1.2.2.2.2.1 x.2.2.2.1 x.2.2.2.2.1
theorem F44_2_eq (n : Nat) (R : Type) (rec : SSh.den G F44_2s → Option R) (x : SSh.den G F44_2s) (K : AE → St G → Option R) :
  F44_2_step n (fun u0 u1 => K (.exit 2) (SSh.enc G F44_2x0 (((), ((), ())), (((), ((), ())), (((), ((), ())), (u0, (u1, ()))))))) (fun x1347 x1348 x1349 x1350 x1351 => rec (((), ((), (x1347, (x1348, (x1349, ()))))), (((), ((), ())), (((), ((), ())), (x1350, (x1351, ())))))) x.1.2.2.1 x.1.2.2.2.1 x.1.2.2.2.2.1 x.2.2.2.1 x.2.2.2.2.1 = exec prog G (ro G (tabOf (E56 n)) (frOf [F44_0z n, F44_1z n]) R) 0 (codeAt F44c [1, 1, 1, 1, 0, 1, 0, 0]) (.nd .no (.nd .no (.nd (.use 1) .no))) (SSh.enc G F44_2s x) (kLoop G (ro G (tabOf (E56 n)) (frOf [F44_0z n, F44_1z n]) R) 0 ⟨[4, 6, 23, 24, 25], [(6, (.cell 1 (.own 3)))]⟩ F44_2s ⟨⟨[4, 6], []⟩, ⟨[4], []⟩, [(2, ⟨[4, 6], []⟩)]⟩ rec K) := by kernel_rfl
theorem F44_2_ok (n : Nat) : FragOK prog G 0 (codeAt F44c [1, 1, 1, 1, 0, 1, 0]) (F44_2z n) :=
  frag_loop (Z := fun R k (x : SSh.den G F44_2s) K => F44_2_it n (fun u0 u1 => K (.exit 2) (SSh.enc G F44_2x0 (((), ((), ())), (((), ((), ())), (((), ((), ())), (u0, (u1, ()))))))) k x.1.2.2.1 x.1.2.2.2.1 x.1.2.2.2.2.1 x.2.2.2.1 x.2.2.2.2.1) laws fnok (E56_ok n).tab (AllF.of (l := [(1, codeAt F44c [1, 1, 1, 1, 0, 1, 0, 0, 1, 1, 0])]) (by kernel_rfl) (AllF.cons (F44_1_ok n) AllF.nil)) (fun _ _ _ => rfl) (fun R k y K => F44_2_eq n R (fun (x : SSh.den G F44_2s) => F44_2_it n (fun u0 u1 => K (.exit 2) (SSh.enc G F44_2x0 (((), ((), ())), (((), ((), ())), (((), ((), ())), (u0, (u1, ()))))))) k x.1.2.2.1 x.1.2.2.2.1 x.1.2.2.2.2.1 x.2.2.2.1 x.2.2.2.2.1) y K) n
noncomputable def F44 (n : Nat) (a1331 : List Int) (a1332 : List Ety) (a1333 : Int) : Option ((Unit × (Unit × Unit)) × (List Int × (List Ety × Unit))) :=
  (F44_0 n a1333 (8 : Int) a1331 a1332 (fun z1342 z1343 z1344 =>
  (andThen (F62 n z1342) fun r1345 =>
  (F44_2 n z1344 ((z1344.length) : Int) (0 : Int) r1345.2.1 [] (fun z1385 z1386 =>
  some (((), ((), ())), (z1385, (z1386, ()))))))))
noncomputable def F44e (n : Nat) : Ent G := ⟨44, (.cons (.agg (.cons (.imm 0) (.cons (.imm 3) .nil))) (.cons (.int .i64) .nil)), [], (.agg (.cons (.own 0) (.cons (.own 1) .nil))), [(.arr 0 true), (.arr 3 true)], fun x y => F44 n x.1.1 x.1.2.1 x.2.1⟩
theorem F44_eq (n : Nat) (x : ShL.den G (.cons (.agg (.cons (.imm 0) (.cons (.imm 3) .nil))) (.cons (.int .i64) .nil))) (y : denO G []) : (F44e n).F x y = runFn prog G (ro G (tabOf (E56 n)) (frOf [F44_0z n, F44_1z n, F44_2z n]) _) Go.Proofs.Try.f44 (.nd .no (.nd .no (.nd (.nd (.use 0) .no) (.nd .no (.nd (.nd .no (.nd (.use 2) .no)) .no))))) [(0, (.fld 1 (.own 3)))] (ShL.enc G (.cons (.agg (.cons (.imm 0) (.cons (.imm 3) .nil))) (.cons (.int .i64) .nil)) x) (encO G [] y) (decR (.agg (.cons (.own 0) (.cons (.own 1) .nil))) [(.arr 0 true), (.arr 3 true)]) := by kernel_rfl
theorem F44_ok (n : Nat) : EntOK prog G (F44e n) :=
  ent_ok (fr := frOf [F44_0z n, F44_1z n, F44_2z n]) (ann := (.nd .no (.nd .no (.nd (.nd (.use 0) .no) (.nd .no (.nd (.nd .no (.nd (.use 2) .no)) .no)))))) (frm := [(0, (.fld 1 (.own 3)))]) laws fnok (E56_ok n).tab (e := F44e n) (fn := Go.Proofs.Try.f44) (by kernel_rfl) (AllF.ofB (cd := F44c) (l := [(0, codeAt F44c [1, 1, 0, 0]), (2, codeAt F44c [1, 1, 1, 1, 0, 1, 0])]) (by kernel_rfl) (by kernel_rfl) (AllF.cons (F44_0_ok n) (AllF.cons (F44_2_ok n) AllF.nil))) (F44_eq n)
noncomputable def E57 (n : Nat) : List (Ent G) := F44e n :: E56 n
theorem E57_ok (n : Nat) : AllE prog G (E57 n) := AllE.cons (F44_ok n) (E56_ok n)
noncomputable def F20 (n : Nat) (a1222 : List Int) (a1223 : List Ety) : Option ((Unit × (Unit × Unit)) × (List Int × (List Ety × Unit))) :=
  (andThen (F28 n a1222 a1223) fun r1224 =>
  (bif (!r1224.1) then
  some (((), ((), ())), ([], ([], ())))
  else (andThen (F45 n a1222 a1223) fun r1226 =>
  (andThen (F44 n a1222 a1223 r1226.1) fun r1387 =>
  some (((), ((), ())), (r1387.2.1, (r1387.2.2.1, ())))))))
noncomputable def F20e (n : Nat) : Ent G := ⟨20, (.cons (.agg (.cons (.imm 0) (.cons (.imm 3) .nil))) .nil), [], (.agg (.cons (.own 0) (.cons (.own 1) .nil))), [(.arr 0 true), (.arr 3 true)], fun x y => F20 n x.1.1 x.1.2.1⟩
theorem F20_eq (n : Nat) (x : ShL.den G (.cons (.agg (.cons (.imm 0) (.cons (.imm 3) .nil))) .nil)) (y : denO G []) : (F20e n).F x y = runFn prog G (ro G (tabOf (E57 n)) (frOf []) _) Go.Proofs.Try.f20 .no [(0, (.fld 0 (.own 0))), (0, (.fld 1 (.own 3)))] (ShL.enc G (.cons (.agg (.cons (.imm 0) (.cons (.imm 3) .nil))) .nil) x) (encO G [] y) (decR (.agg (.cons (.own 0) (.cons (.own 1) .nil))) [(.arr 0 true), (.arr 3 true)]) := by kernel_rfl
theorem F20_ok (n : Nat) : EntOK prog G (F20e n) :=
  ent_ok (fr := frOf []) (ann := .no) (frm := [(0, (.fld 0 (.own 0))), (0, (.fld 1 (.own 3)))]) laws fnok (E57_ok n).tab (e := F20e n) (fn := Go.Proofs.Try.f20) (by kernel_rfl) (AllF.ofB (cd := F20c) (l := []) (by kernel_rfl) (by kernel_rfl) AllF.nil) (F20_eq n)
noncomputable def E58 (n : Nat) : List (Ent G) := F20e n :: E57 n
theorem E58_ok (n : Nat) : AllE prog G (E58 n) := AllE.cons (F20_ok n) (E57_ok n)
noncomputable def F5 (n : Nat) (a1118 : List Int) (a1119 : List Ety) : Option (Bool × Unit) :=
  (andThen (F7 n a1118 a1119 (1048576 : Int)) fun r1120 =>
  (bif (decide (r1120.1 < (0 : Int))) then
  some (true, ())
  else (andThen (F9 n a1118 a1119) fun r1122 =>
  (andThen (F19 n r1122.2.1 r1122.2.2.1) fun r1220 =>
  (andThen (F9 n a1118 a1119) fun r1221 =>
  (andThen (F20 n r1221.2.1 r1221.2.2.1) fun r1388 =>
  (andThen (F12 n r1388.2.1 r1388.2.2.1 r1220.1.1 r1220.1.2.1) fun r1389 =>
  (bif (!r1389.1) then
  some (false, ())
  else (andThen (F9 n a1118 a1119) fun r1391 =>
  (andThen (F12 n r1221.2.1 r1221.2.2.1 r1391.2.1 r1391.2.2.1) fun r1392 =>
  (bif (!r1392.1) then
  some (false, ())
  else (andThen (F13 n (1 : Int) r1221.2.1 r1221.2.2.1) fun r1394 =>
  (bif (decide (r1394.1 < (0 : Int))) then
  some (false, ())
  else (andThen (F12 n r1388.2.1 r1388.2.2.1 r1220.1.1 r1220.1.2.1) fun r1396 =>
  (bif (!r1396.1) then
  some (false, ())
  else (andThen (F13 n (1 : Int) r1388.2.1 r1388.2.2.1) fun r1398 =>
  (andThen (F18 n r1398.2.1 r1398.2.2.1 (1 : Int)) fun r1399 =>
  (bif (decide (r1399.1 < (0 : Int))) then
  some (false, ())
  else (bif (r1399.1 != r1398.1) then
  some (false, ())
  else (andThen (F9 n a1118 a1119) fun r1402 =>
  (andThen (F20 n r1402.2.1 r1402.2.2.1) fun r1403 =>
  (andThen (F12 n r1403.2.1 r1403.2.2.1 r1220.1.1 r1220.1.2.1) fun r1404 =>
  (bif (!r1404.1) then
  some (false, ())
  else (andThen (F18 n r1398.2.1 r1398.2.2.1 (1 : Int)) fun r1406 =>
  (bif (decide (r1406.1 < (0 : Int))) then
  some (false, ())
  else (bif (r1406.1 != r1398.1) then
  some (false, ())
  else some (true, ())))))))))))))))))))))))))))
noncomputable def F5e (n : Nat) : Ent G := ⟨5, (.cons (.agg (.cons (.imm 0) (.cons (.imm 5) .nil))) .nil), [], .bool, [], fun x y => F5 n x.1.1 x.1.2.1⟩
theorem F5_eq (n : Nat) (x : ShL.den G (.cons (.agg (.cons (.imm 0) (.cons (.imm 5) .nil))) .nil)) (y : denO G []) : (F5e n).F x y = runFn prog G (ro G (tabOf (E58 n)) (frOf []) _) Go.Proofs.Try.f5 .no [(0, .fz)] (ShL.enc G (.cons (.agg (.cons (.imm 0) (.cons (.imm 5) .nil))) .nil) x) (encO G [] y) (decR .bool []) := by kernel_rfl
theorem F5_ok (n : Nat) : EntOK prog G (F5e n) :=
  ent_ok (fr := frOf []) (ann := .no) (frm := [(0, .fz)]) laws fnok (E58_ok n).tab (e := F5e n) (fn := Go.Proofs.Try.f5) (by kernel_rfl) (AllF.ofB (cd := F5c) (l := []) (by kernel_rfl) (by kernel_rfl) AllF.nil) (F5_eq n)
noncomputable def E59 (n : Nat) : List (Ent G) := F5e n :: E58 n
theorem E59_ok (n : Nat) : AllE prog G (E59 n) := AllE.cons (F5_ok n) (E58_ok n)
-- 6 loop.example/slowworm/laws.FnExactDictSet
noncomputable def F6c : Code := bodyOf Go.Proofs.Try.f6
-- 21 loop.example/slowworm/spec.DictSet
noncomputable def F21c : Code := bodyOf Go.Proofs.Try.f21
-- 47 loop.example/slowworm/spec.setKey
noncomputable def F47c : Code := bodyOf Go.Proofs.Try.f47
noncomputable def F47_0x0 : SSh := ⟨67, [(1, .str), (2, (.int .i64)), (6, (.ptr 0 0)), (7, (.ptr 1 0)), (8, (.int .i64))], [(.box 31 (.cons .nil0 (.cons .nil0 .nil))), (.box 31 (.cons (.own 2) (.cons (.own 3) .nil))), (.arr 0 true), (.arr 3 true)]⟩
noncomputable def F47_0s : SSh := ⟨67, [(1, .str), (2, (.int .i64)), (6, (.ptr 0 0)), (7, (.ptr 1 0)), (8, (.int .i64))], [(.box 31 (.cons .nil0 (.cons .nil0 .nil))), (.box 31 (.cons (.own 2) (.cons (.own 3) .nil))), (.arr 0 true), (.arr 3 true)]⟩
noncomputable def F47_0 {R : Type} (n : Nat) (x1448 : ByteArray) (x1449 : Int) (x1450 : Int) (x1451 : List Int) (x1452 : List Ety) (k0 : ByteArray → Int → Int → List Int → List Ety → Option R) : Option R :=
  (bif (decide (((x1452.length) : Int) ≥ (IntKind.wrap .i64 ((IntKind.wrap .i64 (((x1451.length) : Int) * (2 : Int))).tdiv (3 : Int))))) then
  (andThen (F43 n x1451 x1452) fun r1458 =>
  (andThen (F42 n (IntKind.wrap .i64 (r1458.1 + (1 : Int)))) fun r1460 =>
  (andThen (F41 n x1451 x1452 r1460.1) fun r1461 =>
  (andThen (F36 n r1461.2.1 r1461.2.2.1 x1448) fun r1462 =>
  (k0 x1448 x1449 r1462.1 r1461.2.1 r1461.2.2.1)))))
  else (k0 x1448 x1449 x1450 x1451 x1452))
noncomputable def F47_0z (n : Nat) : Sm G := inZ G 0 ⟨[1, 2, 6, 7, 8], []⟩ F47_0s fun R x K => F47_0 n x.1.1 x.1.2.1 x.1.2.2.2.2.1 x.2.2.2.1 x.2.2.2.2.1 (fun u0 u1 u2 u3 u4 => K .normal (SSh.enc G F47_0x0 ((u0, (u1, ((), ((), (u2, ()))))), (((), ((), ())), (((), ((), ())), (u3, (u4, ())))))))
theorem F47_0_eq (n : Nat) (R : Type) (x : SSh.den G F47_0s) (K : AE → St G → Option R) :
  F47_0 n x.1.1 x.1.2.1 x.1.2.2.2.2.1 x.2.2.2.1 x.2.2.2.2.1 (fun u0 u1 u2 u3 u4 => K .normal (SSh.enc G F47_0x0 ((u0, (u1, ((), ((), (u2, ()))))), (((), ((), ())), (((), ((), ())), (u3, (u4, ()))))))) = exec prog G (ro G (tabOf (E59 n)) (frOf []) R) 0 (codeAt F47c [1, 1, 1, 1, 0]) .no (SSh.enc G F47_0s x) (kNrm G (ro G (tabOf (E59 n)) (frOf []) R) 0 ⟨⟨[1, 2, 6, 7, 8], []⟩, ⟨[6], []⟩, []⟩ K) := by kernel_rfl
theorem F47_0_ok (n : Nat) : FragOK prog G 0 (codeAt F47c [1, 1, 1, 1, 0]) (F47_0z n) :=
  frag_plain laws fnok (E59_ok n).tab (AllF.of (l := []) (by kernel_rfl) AllF.nil) (F47_0_eq n)
noncomputable def F47 (n : Nat) (a1435 : List Int) (a1436 : List Ety) (a1437 : ByteArray) (a1438 : Int) : Option ((Unit × (Unit × Unit)) × (List Int × (List Ety × Unit))) :=
  (andThen (F35 n a1435 a1436) fun r1439 =>
  (andThen (F36 n r1439.2.1 r1439.2.2.1 a1437) fun r1440 =>
  (bif (decide ((0 : Int) ≤ r1440.1)) then
  (bif (decide (r1440.1 < ((r1439.2.1.length) : Int))) then
  (bif (decide ((r1439.2.1.getD (r1440.1.toNat) (0 : Int)) ≥ (0 : Int))) then
  (bif (decide ((0 : Int) ≤ r1440.1)) then
  (bif (decide (r1440.1 < ((r1439.2.1.length) : Int))) then
  let v1445 := (r1439.2.1.getD (r1440.1.toNat) (0 : Int))
  (bif (decide ((0 : Int) ≤ v1445)) then
  (bif (decide (v1445 < ((r1439.2.2.1.length) : Int))) then
  let v1446 := (v1445.toNat)
  some (((), ((), ())), (r1439.2.1, ((r1439.2.2.1.set v1446 (Ety.mk (r1439.2.2.1.getD v1446 (Ety.mk ({ data := #[] } : ByteArray) (0 : Int) (0 : Int) false)).key (r1439.2.2.1.getD v1446 (Ety.mk ({ data := #[] } : ByteArray) (0 : Int) (0 : Int) false)).hash a1438 (r1439.2.2.1.getD v1446 (Ety.mk ({ data := #[] } : ByteArray) (0 : Int) (0 : Int) false)).live)), ())))
  else none)
  else none)
  else none)
  else none)
  else (F47_0 n a1437 a1438 r1440.1 r1439.2.1 r1439.2.2.1 (fun z1463 z1464 z1465 z1466 z1467 =>
  (bif (decide ((0 : Int) ≤ z1465)) then
  (bif (decide (z1465 < ((z1466.length) : Int))) then
  (andThen (F52 n z1463) fun r1471 =>
  let v1472 := ((Ety.mk z1463 r1471.1 z1464 true) :: [])
  (bif (decide (((z1467.length) + (v1472.length)) ≤ (68719476736 : Nat))) then
  some (((), ((), ())), ((z1466.set (z1465.toNat) ((z1467.length) : Int)), ((z1467 ++ v1472), ())))
  else none))
  else none)
  else none))))
  else none)
  else none)))
noncomputable def F47e (n : Nat) : Ent G := ⟨47, (.cons (.agg (.cons (.imm 0) (.cons (.imm 3) .nil))) (.cons .str (.cons (.int .i64) .nil))), [], (.agg (.cons (.own 0) (.cons (.own 1) .nil))), [(.arr 0 true), (.arr 3 true)], fun x y => F47 n x.1.1 x.1.2.1 x.2.1 x.2.2.1⟩
theorem F47_eq (n : Nat) (x : ShL.den G (.cons (.agg (.cons (.imm 0) (.cons (.imm 3) .nil))) (.cons .str (.cons (.int .i64) .nil)))) (y : denO G []) : (F47e n).F x y = runFn prog G (ro G (tabOf (E59 n)) (frOf [F47_0z n]) _) Go.Proofs.Try.f47 (.nd .no (.nd .no (.nd .no (.nd .no (.nd (.use 0) .no))))) [] (ShL.enc G (.cons (.agg (.cons (.imm 0) (.cons (.imm 3) .nil))) (.cons .str (.cons (.int .i64) .nil))) x) (encO G [] y) (decR (.agg (.cons (.own 0) (.cons (.own 1) .nil))) [(.arr 0 true), (.arr 3 true)]) := by kernel_rfl
theorem F47_ok (n : Nat) : EntOK prog G (F47e n) :=
  ent_ok (fr := frOf [F47_0z n]) (ann := (.nd .no (.nd .no (.nd .no (.nd .no (.nd (.use 0) .no)))))) (frm := []) laws fnok (E59_ok n).tab (e := F47e n) (fn := Go.Proofs.Try.f47) (by kernel_rfl) (AllF.ofB (cd := F47c) (l := [(0, codeAt F47c [1, 1, 1, 1, 0])]) (by kernel_rfl) (by kernel_rfl) (AllF.cons (F47_0_ok n) AllF.nil)) (F47_eq n)
noncomputable def E60 (n : Nat) : List (Ent G) := F47e n :: E59 n
theorem E60_ok (n : Nat) : AllE prog G (E60 n) := AllE.cons (F47_ok n) (E59_ok n)
noncomputable def F21 (n : Nat) (a1418 : List Int) (a1419 : List Ety) (a1420 : ByteArray) (a1421 : Int) : Option (((Unit × (Unit × Unit)) × (Bool × Unit)) × (List Int × (List Ety × Unit))) :=
  (andThen (F25 n a1418 a1419) fun r1422 =>
  (bif (!r1422.1) then
  some ((((), ((), ())), (false, ())), ([], ([], ())))
  else (andThen (F34 n a1420) fun r1424 =>
  (bif (!r1424.1) then
  some ((((), ((), ())), (false, ())), ([], ([], ())))
  else (andThen (F46 n a1421 (-1000000 : Int) (1000000 : Int)) fun r1426 =>
  (bif (!r1426.1) then
  some ((((), ((), ())), (false, ())), ([], ([], ())))
  else (andThen (F36 n a1418 a1419 a1420) fun r1428 =>
  (bif (decide ((0 : Int) ≤ r1428.1)) then
  (bif (decide (r1428.1 < ((a1418.length) : Int))) then
  (bif (decide ((a1418.getD (r1428.1.toNat) (0 : Int)) < (0 : Int))) then
  (andThen (F43 n a1418 a1419) fun r1432 =>
  (bif (decide (r1432.1 ≥ (40 : Int))) then
  (andThen (F35 n a1418 a1419) fun r1434 =>
  some ((((), ((), ())), (false, ())), (r1434.2.1, (r1434.2.2.1, ()))))
  else (andThen (F47 n a1418 a1419 a1420 a1421) fun r1474 =>
  some ((((), ((), ())), (true, ())), (r1474.2.1, (r1474.2.2.1, ()))))))
  else (andThen (F47 n a1418 a1419 a1420 a1421) fun r1475 =>
  some ((((), ((), ())), (true, ())), (r1475.2.1, (r1475.2.2.1, ())))))
  else none)
  else none))))))))
noncomputable def F21e (n : Nat) : Ent G := ⟨21, (.cons (.agg (.cons (.imm 0) (.cons (.imm 3) .nil))) (.cons .str (.cons (.int .i64) .nil))), [], (.tup (.cons (.agg (.cons (.own 0) (.cons (.own 1) .nil))) (.cons .bool .nil))), [(.arr 0 true), (.arr 3 true)], fun x y => F21 n x.1.1 x.1.2.1 x.2.1 x.2.2.1⟩
theorem F21_eq (n : Nat) (x : ShL.den G (.cons (.agg (.cons (.imm 0) (.cons (.imm 3) .nil))) (.cons .str (.cons (.int .i64) .nil)))) (y : denO G []) : (F21e n).F x y = runFn prog G (ro G (tabOf (E60 n)) (frOf []) _) Go.Proofs.Try.f21 .no [(0, (.fld 0 (.own 0))), (0, (.fld 1 (.own 3)))] (ShL.enc G (.cons (.agg (.cons (.imm 0) (.cons (.imm 3) .nil))) (.cons .str (.cons (.int .i64) .nil))) x) (encO G [] y) (decR (.tup (.cons (.agg (.cons (.own 0) (.cons (.own 1) .nil))) (.cons .bool .nil))) [(.arr 0 true), (.arr 3 true)]) := by kernel_rfl
theorem F21_ok (n : Nat) : EntOK prog G (F21e n) :=
  ent_ok (fr := frOf []) (ann := .no) (frm := [(0, (.fld 0 (.own 0))), (0, (.fld 1 (.own 3)))]) laws fnok (E60_ok n).tab (e := F21e n) (fn := Go.Proofs.Try.f21) (by kernel_rfl) (AllF.ofB (cd := F21c) (l := []) (by kernel_rfl) (by kernel_rfl) AllF.nil) (F21_eq n)
noncomputable def E61 (n : Nat) : List (Ent G) := F21e n :: E60 n
theorem E61_ok (n : Nat) : AllE prog G (E61 n) := AllE.cons (F21_ok n) (E60_ok n)
-- 22 loop.example/slowworm/impl.DictSet
noncomputable def F22c : Code := bodyOf Go.Proofs.Try.f22
-- 49 (loop.example/slowworm/impl.Dict).find
noncomputable def F49c : Code := bodyOf Go.Proofs.Try.f49
noncomputable def F49 (n : Nat) (a1489 : List Int) (a1490 : List Ety) (a1491 : ByteArray) : Option (Int × Unit) :=
  (andThen (F38 n a1489 a1490 a1491) fun r1492 =>
  let v1494 := (IntKind.wrap .i64 (((r1492.1.length) : Int) - (1 : Int)))
  (bif (decide ((0 : Int) ≤ v1494)) then
  (bif (decide (v1494 < ((r1492.1.length) : Int))) then
  let v1496 := (r1492.1.getD (v1494.toNat) (0 : Int))
  (bif (decide ((0 : Int) ≤ v1496)) then
  (bif (decide (v1496 < ((a1489.length) : Int))) then
  let v1498 := (a1489.getD (v1496.toNat) (0 : Int))
  some ((if ((-1 : Int) > v1498) then (-1 : Int) else v1498), ())
  else none)
  else none)
  else none)
  else none))
noncomputable def F49e (n : Nat) : Ent G := ⟨49, (.cons (.agg (.cons (.imm 0) (.cons (.imm 3) .nil))) (.cons .str .nil)), [], (.int .i64), [], fun x y => F49 n x.1.1 x.1.2.1 x.2.1⟩
theorem F49_eq (n : Nat) (x : ShL.den G (.cons (.agg (.cons (.imm 0) (.cons (.imm 3) .nil))) (.cons .str .nil))) (y : denO G []) : (F49e n).F x y = runFn prog G (ro G (tabOf (E61 n)) (frOf []) _) Go.Proofs.Try.f49 .no [(0, .fz)] (ShL.enc G (.cons (.agg (.cons (.imm 0) (.cons (.imm 3) .nil))) (.cons .str .nil)) x) (encO G [] y) (decR (.int .i64) []) := by kernel_rfl
theorem F49_ok (n : Nat) : EntOK prog G (F49e n) :=
  ent_ok (fr := frOf []) (ann := .no) (frm := [(0, .fz)]) laws fnok (E61_ok n).tab (e := F49e n) (fn := Go.Proofs.Try.f49) (by kernel_rfl) (AllF.ofB (cd := F49c) (l := []) (by kernel_rfl) (by kernel_rfl) AllF.nil) (F49_eq n)
noncomputable def E62 (n : Nat) : List (Ent G) := F49e n :: E61 n
theorem E62_ok (n : Nat) : AllE prog G (E62 n) := AllE.cons (F49_ok n) (E61_ok n)
noncomputable def F22_0x0 : SSh := ⟨59, [(1, .str), (2, (.int .i64)), (3, (.ptr 0 0)), (6, (.ptr 1 0))], [(.box 31 (.cons (.own 2) (.cons (.own 3) .nil))), (.box 31 (.cons .nil0 (.cons .nil0 .nil))), (.arr 0 true), (.arr 3 true)]⟩
noncomputable def F22_0s : SSh := ⟨59, [(1, .str), (2, (.int .i64)), (3, (.ptr 0 0)), (6, (.ptr 1 0))], [(.box 31 (.cons (.own 2) (.cons (.own 3) .nil))), (.box 31 (.cons .nil0 (.cons .nil0 .nil))), (.arr 0 true), (.arr 3 true)]⟩
noncomputable def F22_0 {R : Type} (n : Nat) (x1506 : ByteArray) (x1507 : Int) (x1508 : List Int) (x1509 : List Ety) (k0 : ByteArray → Int → List Int → List Ety → Option R) : Option R :=
  (bif (decide (((x1509.length) : Int) ≥ (IntKind.wrap .i64 ((IntKind.wrap .i64 ((2 : Int) * ((x1508.length) : Int))).tdiv (3 : Int))))) then
  (andThen (F45 n x1508 x1509) fun r1515 =>
  (andThen (F44 n x1508 x1509 (IntKind.wrap .i64 (r1515.1 + (1 : Int)))) fun r1517 =>
  (k0 x1506 x1507 r1517.2.1 r1517.2.2.1)))
  else (k0 x1506 x1507 x1508 x1509))
noncomputable def F22_0z (n : Nat) : Sm G := inZ G 0 ⟨[1, 2, 3, 6], []⟩ F22_0s fun R x K => F22_0 n x.1.1 x.1.2.1 x.2.2.2.1 x.2.2.2.2.1 (fun u0 u1 u2 u3 => K .normal (SSh.enc G F22_0x0 ((u0, (u1, ((), ((), ())))), (((), ((), ())), (((), ((), ())), (u2, (u3, ())))))))
theorem F22_0_eq (n : Nat) (R : Type) (x : SSh.den G F22_0s) (K : AE → St G → Option R) :
  F22_0 n x.1.1 x.1.2.1 x.2.2.2.1 x.2.2.2.2.1 (fun u0 u1 u2 u3 => K .normal (SSh.enc G F22_0x0 ((u0, (u1, ((), ((), ())))), (((), ((), ())), (((), ((), ())), (u2, (u3, ()))))))) = exec prog G (ro G (tabOf (E62 n)) (frOf []) R) 0 (codeAt F22c [1, 1, 1, 1, 1, 0]) .no (SSh.enc G F22_0s x) (kNrm G (ro G (tabOf (E62 n)) (frOf []) R) 0 ⟨⟨[1, 2, 3, 6], []⟩, ⟨[6, 7], []⟩, []⟩ K) := by kernel_rfl
theorem F22_0_ok (n : Nat) : FragOK prog G 0 (codeAt F22c [1, 1, 1, 1, 1, 0]) (F22_0z n) :=
  frag_plain laws fnok (E62_ok n).tab (AllF.of (l := []) (by kernel_rfl) AllF.nil) (F22_0_eq n)
noncomputable def F22 (n : Nat) (a1478 : List Int) (a1479 : List Ety) (a1480 : ByteArray) (a1481 : Int) : Option (((Unit × (Unit × Unit)) × (Bool × Unit)) × (List Int × (List Ety × Unit))) :=
  (andThen (F28 n a1478 a1479) fun r1482 =>
  (bif (!r1482.1) then
  some ((((), ((), ())), (false, ())), ([], ([], ())))
  else (bif (decide (((a1480.size) : Int) > (20 : Int))) then
  some ((((), ((), ())), (false, ())), ([], ([], ())))
  else (andThen (F48 n a1481 (-1000000 : Int) (1000000 : Int)) fun r1486 =>
  (bif (!r1486.1) then
  some ((((), ((), ())), (false, ())), ([], ([], ())))
  else (andThen (F37 n a1478 a1479) fun r1488 =>
  (andThen (F49 n r1488.2.1 r1488.2.2.1 a1480) fun r1500 =>
  (bif (decide (r1500.1 ≥ (0 : Int))) then
  (bif (decide ((0 : Int) ≤ r1500.1)) then
  (bif (decide (r1500.1 < ((r1488.2.2.1.length) : Int))) then
  let v1502 := (r1500.1.toNat)
  some ((((), ((), ())), (true, ())), (r1488.2.1, ((r1488.2.2.1.set v1502 (Ety.mk (r1488.2.2.1.getD v1502 (Ety.mk ({ data := #[] } : ByteArray) (0 : Int) (0 : Int) false)).key (r1488.2.2.1.getD v1502 (Ety.mk ({ data := #[] } : ByteArray) (0 : Int) (0 : Int) false)).hash a1481 (r1488.2.2.1.getD v1502 (Ety.mk ({ data := #[] } : ByteArray) (0 : Int) (0 : Int) false)).live)), ())))
  else none)
  else none)
  else (andThen (F45 n r1488.2.1 r1488.2.2.1) fun r1504 =>
  (bif (r1504.1 == (40 : Int)) then
  some ((((), ((), ())), (false, ())), (r1488.2.1, (r1488.2.2.1, ())))
  else (F22_0 n a1480 a1481 r1488.2.1 r1488.2.2.1 (fun z1518 z1519 z1520 z1521 =>
  (andThen (F50v1 n z1518 z1519 z1520 z1521) fun r1522 =>
  some ((((), ((), ())), (true, ())), (r1522.2.2.1, (r1522.2.2.2.2.1, ()))))))))))))))))
noncomputable def F22e (n : Nat) : Ent G := ⟨22, (.cons (.agg (.cons (.imm 0) (.cons (.imm 3) .nil))) (.cons .str (.cons (.int .i64) .nil))), [], (.tup (.cons (.agg (.cons (.own 0) (.cons (.own 1) .nil))) (.cons .bool .nil))), [(.arr 0 true), (.arr 3 true)], fun x y => F22 n x.1.1 x.1.2.1 x.2.1 x.2.2.1⟩
theorem F22_eq (n : Nat) (x : ShL.den G (.cons (.agg (.cons (.imm 0) (.cons (.imm 3) .nil))) (.cons .str (.cons (.int .i64) .nil)))) (y : denO G []) : (F22e n).F x y = runFn prog G (ro G (tabOf (E62 n)) (frOf [F22_0z n]) _) Go.Proofs.Try.f22 (.nd .no (.nd .no (.nd .no (.nd .no (.nd .no (.nd (.use 0) .no)))))) [(0, (.fld 0 (.own 0))), (0, (.fld 1 (.own 3)))] (ShL.enc G (.cons (.agg (.cons (.imm 0) (.cons (.imm 3) .nil))) (.cons .str (.cons (.int .i64) .nil))) x) (encO G [] y) (decR (.tup (.cons (.agg (.cons (.own 0) (.cons (.own 1) .nil))) (.cons .bool .nil))) [(.arr 0 true), (.arr 3 true)]) := by kernel_rfl
theorem F22_ok (n : Nat) : EntOK prog G (F22e n) :=
  ent_ok (fr := frOf [F22_0z n]) (ann := (.nd .no (.nd .no (.nd .no (.nd .no (.nd .no (.nd (.use 0) .no))))))) (frm := [(0, (.fld 0 (.own 0))), (0, (.fld 1 (.own 3)))]) laws fnok (E62_ok n).tab (e := F22e n) (fn := Go.Proofs.Try.f22) (by kernel_rfl) (AllF.ofB (cd := F22c) (l := [(0, codeAt F22c [1, 1, 1, 1, 1, 0])]) (by kernel_rfl) (by kernel_rfl) (AllF.cons (F22_0_ok n) AllF.nil)) (F22_eq n)
noncomputable def E63 (n : Nat) : List (Ent G) := F22e n :: E62 n
theorem E63_ok (n : Nat) : AllE prog G (E63 n) := AllE.cons (F22_ok n) (E62_ok n)
noncomputable def F6 (n : Nat) (a1409 : List Int) (a1410 : List Ety) (a1411 : ByteArray) (a1412 : Int) : Option (Bool × Unit) :=
  (bif (decide (((a1411.size) : Int) > (1048576 : Int))) then
  some (true, ())
  else (andThen (F7 n a1409 a1410 (1048576 : Int)) fun r1415 =>
  (bif (decide (r1415.1 < (0 : Int))) then
  some (true, ())
  else (andThen (F9 n a1409 a1410) fun r1417 =>
  (andThen (F21 n r1417.2.1 r1417.2.2.1 a1411 a1412) fun r1476 =>
  (andThen (F9 n a1409 a1410) fun r1477 =>
  (andThen (F22 n r1477.2.1 r1477.2.2.1 a1411 a1412) fun r1523 =>
  (andThen (F12 n r1523.2.1 r1523.2.2.1 r1476.2.1 r1476.2.2.1) fun r1524 =>
  (bif (!r1524.1) then
  some (false, ())
  else (bif (!(r1523.1.2.1 == r1476.1.2.1)) then
  some (false, ())
  else (andThen (F9 n a1409 a1410) fun r1527 =>
  (andThen (F12 n r1477.2.1 r1477.2.2.1 r1527.2.1 r1527.2.2.1) fun r1528 =>
  (bif (!r1528.1) then
  some (false, ())
  else (andThen (F13 n (1 : Int) r1477.2.1 r1477.2.2.1) fun r1530 =>
  (bif (decide (r1530.1 < (0 : Int))) then
  some (false, ())
  else (andThen (F12 n r1523.2.1 r1523.2.2.1 r1476.2.1 r1476.2.2.1) fun r1532 =>
  (bif (!r1532.1) then
  some (false, ())
  else (bif (!(r1523.1.2.1 == r1476.1.2.1)) then
  some (false, ())
  else (andThen (F13 n (1 : Int) r1523.2.1 r1523.2.2.1) fun r1535 =>
  (andThen (F18 n r1535.2.1 r1535.2.2.1 (1 : Int)) fun r1536 =>
  (bif (decide (r1536.1 < (0 : Int))) then
  some (false, ())
  else (bif (r1536.1 != r1535.1) then
  some (false, ())
  else (andThen (F9 n a1409 a1410) fun r1539 =>
  (andThen (F22 n r1539.2.1 r1539.2.2.1 a1411 a1412) fun r1540 =>
  (andThen (F12 n r1540.2.1 r1540.2.2.1 r1476.2.1 r1476.2.2.1) fun r1541 =>
  (bif (!r1541.1) then
  some (false, ())
  else (bif (!(r1540.1.2.1 == r1476.1.2.1)) then
  some (false, ())
  else (andThen (F18 n r1535.2.1 r1535.2.2.1 (1 : Int)) fun r1544 =>
  (bif (decide (r1544.1 < (0 : Int))) then
  some (false, ())
  else (bif (r1544.1 != r1535.1) then
  some (false, ())
  else some (true, ())))))))))))))))))))))))))))))))
noncomputable def F6e (n : Nat) : Ent G := ⟨6, (.cons (.agg (.cons (.imm 0) (.cons (.imm 5) .nil))) (.cons .str (.cons (.int .i64) .nil))), [], .bool, [], fun x y => F6 n x.1.1 x.1.2.1 x.2.1 x.2.2.1⟩
theorem F6_eq (n : Nat) (x : ShL.den G (.cons (.agg (.cons (.imm 0) (.cons (.imm 5) .nil))) (.cons .str (.cons (.int .i64) .nil)))) (y : denO G []) : (F6e n).F x y = runFn prog G (ro G (tabOf (E63 n)) (frOf []) _) Go.Proofs.Try.f6 .no [(0, .fz)] (ShL.enc G (.cons (.agg (.cons (.imm 0) (.cons (.imm 5) .nil))) (.cons .str (.cons (.int .i64) .nil))) x) (encO G [] y) (decR .bool []) := by kernel_rfl
theorem F6_ok (n : Nat) : EntOK prog G (F6e n) :=
  ent_ok (fr := frOf []) (ann := .no) (frm := [(0, .fz)]) laws fnok (E63_ok n).tab (e := F6e n) (fn := Go.Proofs.Try.f6) (by kernel_rfl) (AllF.ofB (cd := F6c) (l := []) (by kernel_rfl) (by kernel_rfl) AllF.nil) (F6_eq n)
noncomputable def E64 (n : Nat) : List (Ent G) := F6e n :: E63 n
theorem E64_ok (n : Nat) : AllE prog G (E64 n) := AllE.cons (F6_ok n) (E63_ok n)
end Go.Proofs.Ytfpgihjociacnaa.Am
