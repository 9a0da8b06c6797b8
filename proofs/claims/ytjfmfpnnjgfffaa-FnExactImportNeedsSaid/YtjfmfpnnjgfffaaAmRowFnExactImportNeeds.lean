/- For every input the law FnExactImportNeeds returns true, and each argument reads afterwards as before; no condition. -/
import Derived.Test.YtjfmfpnnjgfffaaRows
import Derived.Test.YtjfmfpnnjgfffaaAmRowE
import Derived.Test.YtjfmfpnnjgfffaaAmImpD
import Derived.WalkKit
import Derived.ProofKit
import Derived.OpenShut
import Derived.ShutString
import Derived.ChangeOld
import Derived.Below
import Derived.SizedLaws
namespace Go.Proofs.Ytjfmfpnnjgfffaa.fnExactImportNeeds
open Go.ChangeShapes Go.WideShapes Go.ChangeAt Go.RowKit
set_option linter.unusedVariables false
theorem own : ownKnob Try.prog.godebug = none := by kernel_rfl
theorem laidOut : laidOutB Try.prog = true := by kernel_rfl
theorem runs (W : World) (v0 v1 : Value)
    (y0 : Am.Cd.den Am.G.T (.imm 6)) (h0 : Am.VR0 Try.prog Am.G W (Am.Cd.enc (.imm 6) y0) v0) (s0 : Am.SmV Am.G (Am.Cd.enc (.imm 6) y0))
    (y1 : Am.Cd.den Am.G.T (.int .i64)) (h1 : Am.VR0 Try.prog Am.G W (Am.Cd.enc (.int .i64) y1) v1) (s1 : Am.SmV Am.G (Am.Cd.enc (.int .i64) y1))
    : Calls Try.prog 3 #[v0, v1] W fun e W' => e = .returned (.bool true) ∧ Below W.heap.size W W' := by
  refine Am.walkE (args := [v0, v1]) (x := (y0, (y1, ()))) (Am.F3_ok 4000000) rfl (fun i d v hd hv => ?_) (Am.law_needs (Nat.le_refl _) y0 s0 y1 s1)
  match i, hd, hv with
  | 0, hd, hv => cases hd; cases hv; exact h0
  | 1, hd, hv => cases hd; cases hv; exact h1
  | i + 2, hd, hv => simp at hv
set_option maxRecDepth 100000 in
theorem lifted (os : Os) (started : os.Started) (H : Type) (enc : TypeId × Value → H) :
    ReturnsInHanded {} Try.checked os 3 .any (Rows.fnExactImportNeedsSpec.pre6 enc Try.prog Try.f3 Rows.fnExactImportNeedsRow.domain false) (Rows.fnExactImportNeedsSpec.post enc Try.prog Try.f3 false true false false) := by
  refine returnsInHanded_of_change_sized (C := Try.checked) own started (by kernel_rfl) Try.func3
    (ChangeSpec.witness6 (enc := enc) (C := Try.checked) false ⟨#[], #[.slice none 0 0, .int .i64 0], []⟩ 8 (by kernel_rfl) (by kernel_rfl) (by kernel_rfl) (by kernel_rfl)) ?_
  intro W base args ds gs before hval0 hW hcnd hsz0 _
  have hval : ∀ (j : Nat) t v, Try.f3.params[j]? = some t → args[j]? = some v → Value.okWide Try.prog W .any base t v := hval0
  have hW' := hW
  obtain ⟨p, q, hA0, hV, rfl, hfz, hnd⟩ := hW
  have hA : DataW.TrodAll enc Try.prog W 0 (fun _ => true) true Try.f3.params.toList args.toList ds p := hA0
  rw [Try.params3] at hA hval
  obtain ⟨v0, vs0, d0, ds0, p0, q0, hargs0, rfl, rfl, h0, r0⟩ := trodAll_cons hA
  obtain ⟨v1, vs1, d1, ds1, p1, q1, hargs1, rfl, rfl, h1, r1⟩ := trodAll_cons r0
  obtain ⟨e2, rfl, rfl⟩ := trodAll_nil r1
  obtain rfl : args = #[v0, v1] := by cases args; simp_all
  obtain ⟨rfl, rfl⟩ := trodVars_none hV
  have k0 := h0
  have lt0 : ∀ x ∈ p0, x.block < W.heap.size := by obtain ⟨m, hm⟩ := k0; exact DataW.trod_lt m _ _ _ hm
  obtain ⟨y0, w0, s0⟩ := Am.arg_ok (t := 22) (c := .imm 6) (by kernel_rfl) (hval 0 22 v0 rfl rfl) h0
  have k1 := h1
  have lt1 : ∀ x ∈ p1, x.block < W.heap.size := by obtain ⟨m, hm⟩ := k1; exact DataW.trod_lt m _ _ _ hm
  obtain ⟨y1, w1, s1⟩ := Am.arg_ok (t := 3) (c := .int .i64) (by kernel_rfl) (hval 1 3 v1 rfl rfl) h1
  clear hA0 hval0 hsz0
  refine (runs W v0 v1 y0 w0 s0 y1 w1 s1).mono fun e W' ⟨he, bel⟩ => ?_
  subst he
  exact ⟨_, rfl, _, _, _, [], _, [], hW', trodAll_mk1 (shut_bool Try.underlying4 _), (trodAll_cons_mk (Below.trod laidOut (by kernel_rfl) (of_decide_eq_true (by kernel_rfl)) k0 bel lt0) (trodAll_cons_mk (Below.trod laidOut (by kernel_rfl) (of_decide_eq_true (by kernel_rfl)) k1 bel lt1) trodAll_mk0)), rfl, bel.frame _, fun h => by cases h⟩
theorem over : Rows.fnExactImportNeedsRow.holds Try.pinned (OpenSpec.ofChange Rows.fnExactImportNeedsSpec) :=
  OpenClaim.holds_of_wide 3 Try.f3 rfl rfl rfl rfl rfl rfl rfl ⟨rfl, rfl, rfl, rfl, rfl⟩ rfl rfl rfl rfl rfl (by kernel_rfl) Try.func3 (by kernel_rfl)
    (of_decide_eq_true (by kernel_rfl)) (by unfold Func.isWrapper; first | (rw [if_pos (by decide +kernel)]; kernel_rfl) | (rw [if_neg (by decide +kernel)]; exact ⟨rfl, rfl⟩))
    (fun os started H enc _ => lifted os started H enc)
theorem proved : Rows.FnExactImportNeedsSaid := over
#print axioms proved
end Go.Proofs.Ytjfmfpnnjgfffaa.fnExactImportNeeds
namespace Go.Proofs.Ytjfmfpnnjgfffaa
theorem FnExactImportNeeds_holds : Rows.FnExactImportNeedsSaid := fnExactImportNeeds.proved
end Go.Proofs.Ytjfmfpnnjgfffaa
