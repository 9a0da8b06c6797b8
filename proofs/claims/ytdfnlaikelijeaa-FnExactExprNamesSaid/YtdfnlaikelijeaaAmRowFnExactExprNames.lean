/- For every input the law FnExactExprNames returns true, and each argument reads afterwards as before; no condition. -/
import Derived.Test.YtdfnlaikelijeaaRows
import Derived.Test.YtdfnlaikelijeaaAmRowE
import Derived.Test.YtdfnlaikelijeaaAmExprZ
import Derived.WalkKit
import Derived.ProofKit
import Derived.OpenShut
import Derived.ShutString
import Derived.ChangeOld
import Derived.Below
import Derived.SizedLaws
namespace Go.Proofs.Ytdfnlaikelijeaa.fnExactExprNames
open Go.ChangeShapes Go.WideShapes Go.ChangeAt Go.RowKit
set_option linter.unusedVariables false
theorem own : ownKnob Try.prog.godebug = none := by kernel_rfl
theorem laidOut : laidOutB Try.prog = true := by kernel_rfl
theorem runs (W : World) (v0 : Value)
    (y0 : Am.denC Am.G.T [.int .i64, .str, .imm 2, .imm 4]) (h0 : Am.VR0 Try.prog Am.G W (.agg (Am.encC [.int .i64, .str, .imm 2, .imm 4] y0)) v0) (s0 : ∀ (j : Nat) (d : Am.AV Am.G.T), (Am.encC [.int .i64, .str, .imm 2, .imm 4] y0)[j]? = some d → Am.SmV Am.G d)
    : Calls Try.prog 7 #[v0] W fun e W' => e = .returned (.bool true) ∧ Below W.heap.size W W' := by
  refine Am.walkE (args := [v0]) (x := (y0, ())) (Am.F7_ok 4000000) rfl (fun i d v hd hv => ?_) (Am.law_xnames (Nat.le_refl _) y0 s0)
  match i, hd, hv with
  | 0, hd, hv => cases hd; cases hv; exact h0
  | i + 1, hd, hv => simp at hv
set_option maxRecDepth 100000 in
theorem lifted (os : Os) (started : os.Started) (H : Type) (enc : TypeId × Value → H) :
    ReturnsInHanded {} Try.checked os 7 .any (Rows.fnExactExprNamesSpec.pre6 enc Try.prog Try.f7 Rows.fnExactExprNamesRow.domain false) (Rows.fnExactExprNamesSpec.post enc Try.prog Try.f7 false true false false) := by
  refine returnsInHanded_of_change_sized (C := Try.checked) own started (by kernel_rfl) Try.func7
    (ChangeSpec.witness6 (enc := enc) (C := Try.checked) false ⟨#[], #[.agg #[.int .i64 0, .string ⟨#[]⟩, .slice none 0 0, .slice none 0 0]], []⟩ 8 (by kernel_rfl) (by kernel_rfl) (by kernel_rfl) (by kernel_rfl)) ?_
  intro W base args ds gs before hval0 hW hcnd hsz0 _
  have hval : ∀ (j : Nat) t v, Try.f7.params[j]? = some t → args[j]? = some v → Value.okWide Try.prog W .any base t v := hval0
  have hW' := hW
  obtain ⟨p, q, hA0, hV, rfl, hfz, hnd⟩ := hW
  have hA : DataW.TrodAll enc Try.prog W 0 (fun _ => true) true Try.f7.params.toList args.toList ds p := hA0
  rw [Try.params7] at hA hval
  obtain ⟨v0, vs0, d0, ds0, p0, q0, hargs0, rfl, rfl, h0, r0⟩ := trodAll_cons hA
  obtain ⟨e1, rfl, rfl⟩ := trodAll_nil r0
  obtain rfl : args = #[v0] := by cases args; simp_all
  obtain ⟨rfl, rfl⟩ := trodVars_none hV
  have k0 := h0
  have lt0 : ∀ x ∈ p0, x.block < W.heap.size := by obtain ⟨m, hm⟩ := k0; exact DataW.trod_lt m _ _ _ hm
  obtain ⟨y0, w0, s0⟩ := Am.struct_ok (cds := [.int .i64, .str, .imm 2, .imm 4]) Try.underlying25 (by kernel_rfl) (hval 0 25 v0 rfl rfl) h0
  clear hA0 hval0 hsz0
  refine (runs W v0 y0 w0 s0).mono fun e W' ⟨he, bel⟩ => ?_
  subst he
  exact ⟨_, rfl, _, _, _, [], _, [], hW', trodAll_mk1 (shut_bool Try.underlying4 _), (trodAll_cons_mk (Below.trod laidOut (by kernel_rfl) (of_decide_eq_true (by kernel_rfl)) k0 bel lt0) trodAll_mk0), rfl, bel.frame _, fun h => by cases h⟩
theorem over : Rows.fnExactExprNamesRow.holds Try.pinned (OpenSpec.ofChange Rows.fnExactExprNamesSpec) :=
  OpenClaim.holds_of_wide 7 Try.f7 rfl rfl rfl rfl rfl rfl rfl ⟨rfl, rfl, rfl, rfl, rfl⟩ rfl rfl rfl rfl rfl (by kernel_rfl) Try.func7 (by kernel_rfl)
    (of_decide_eq_true (by kernel_rfl)) (by unfold Func.isWrapper; first | (rw [if_pos (by decide +kernel)]; kernel_rfl) | (rw [if_neg (by decide +kernel)]; exact ⟨rfl, rfl⟩))
    (fun os started H enc _ => lifted os started H enc)
theorem proved : Rows.FnExactExprNamesSaid := over
#print axioms proved
end Go.Proofs.Ytdfnlaikelijeaa.fnExactExprNames
namespace Go.Proofs.Ytdfnlaikelijeaa
theorem FnExactExprNames_holds : Rows.FnExactExprNamesSaid := fnExactExprNames.proved
end Go.Proofs.Ytdfnlaikelijeaa
