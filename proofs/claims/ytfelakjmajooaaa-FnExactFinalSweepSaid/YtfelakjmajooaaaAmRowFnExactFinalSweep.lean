/- For every input the law FnExactFinalSweep returns true, and each argument reads afterwards as before; no condition. -/
import Derived.Test.YtfelakjmajooaaaRows
import Derived.Test.YtfelakjmajooaaaAmRowE
import Derived.Test.YtfelakjmajooaaaAmFinD
import Derived.WalkKit
import Derived.ProofKit
import Derived.OpenShut
import Derived.ShutString
import Derived.ChangeOld
import Derived.Below
import Derived.SizedLaws
namespace Go.Proofs.Ytfelakjmajooaaa.fnExactFinalSweep
open Go.ChangeShapes Go.WideShapes Go.ChangeAt Go.RowKit
set_option linter.unusedVariables false
theorem own : ownKnob Try.prog.godebug = none := by kernel_rfl
theorem laidOut : laidOutB Try.prog = true := by kernel_rfl
theorem runs (W : World) (v0 v1 v2 : Value)
    (y0 : Am.Cd.den Am.G.T (.imm 2)) (h0 : Am.VR0 Try.prog Am.G W (Am.Cd.enc (.imm 2) y0) v0) (s0 : Am.SmV Am.G (Am.Cd.enc (.imm 2) y0))
    (y1 : Am.Cd.den Am.G.T (.imm 0)) (h1 : Am.VR0 Try.prog Am.G W (Am.Cd.enc (.imm 0) y1) v1) (s1 : Am.SmV Am.G (Am.Cd.enc (.imm 0) y1))
    (y2 : Am.Cd.den Am.G.T (.imm 4)) (h2 : Am.VR0 Try.prog Am.G W (Am.Cd.enc (.imm 4) y2) v2) (s2 : Am.SmV Am.G (Am.Cd.enc (.imm 4) y2))
    : Calls Try.prog 3 #[v0, v1, v2] W fun e W' => e = .returned (.bool true) ∧ Below W.heap.size W W' := by
  refine Am.walkE (args := [v0, v1, v2]) (x := (y0, (y1, (y2, ())))) (Am.F3_ok 4000000) rfl (fun i d v hd hv => ?_) (Am.law_fin (Nat.le_refl _) y0 s0 y1 s1 y2 s2)
  match i, hd, hv with
  | 0, hd, hv => cases hd; cases hv; exact h0
  | 1, hd, hv => cases hd; cases hv; exact h1
  | 2, hd, hv => cases hd; cases hv; exact h2
  | i + 3, hd, hv => simp at hv
set_option maxRecDepth 100000 in
theorem lifted (os : Os) (started : os.Started) (H : Type) (enc : TypeId × Value → H) :
    ReturnsInHanded {} Try.checked os 3 .any (Rows.fnExactFinalSweepSpec.pre6 enc Try.prog Try.f3 Rows.fnExactFinalSweepRow.domain false) (Rows.fnExactFinalSweepSpec.post enc Try.prog Try.f3 false true false false) := by
  refine returnsInHanded_of_change_sized (C := Try.checked) own started (by kernel_rfl) Try.func3
    (ChangeSpec.witness6 (enc := enc) (C := Try.checked) false ⟨#[], #[.slice none 0 0, .slice none 0 0, .slice none 0 0], []⟩ 8 (by kernel_rfl) (by kernel_rfl) (by kernel_rfl) (by kernel_rfl)) ?_
  intro W base args ds gs before hval0 hW hcnd hsz0 _
  have hval : ∀ (j : Nat) t v, Try.f3.params[j]? = some t → args[j]? = some v → Value.okWide Try.prog W .any base t v := hval0
  have hW' := hW
  obtain ⟨p, q, hA0, hV, rfl, hfz, hnd⟩ := hW
  have hA : DataW.TrodAll enc Try.prog W 0 (fun _ => true) true Try.f3.params.toList args.toList ds p := hA0
  rw [Try.params3] at hA hval
  obtain ⟨v0, vs0, d0, ds0, p0, q0, hargs0, rfl, rfl, h0, r0⟩ := trodAll_cons hA
  obtain ⟨v1, vs1, d1, ds1, p1, q1, hargs1, rfl, rfl, h1, r1⟩ := trodAll_cons r0
  obtain ⟨v2, vs2, d2, ds2, p2, q2, hargs2, rfl, rfl, h2, r2⟩ := trodAll_cons r1
  obtain ⟨e3, rfl, rfl⟩ := trodAll_nil r2
  obtain rfl : args = #[v0, v1, v2] := by cases args; simp_all
  obtain ⟨rfl, rfl⟩ := trodVars_none hV
  have k0 := h0
  have lt0 : ∀ x ∈ p0, x.block < W.heap.size := by obtain ⟨m, hm⟩ := k0; exact DataW.trod_lt m _ _ _ hm
  obtain ⟨y0, w0, s0⟩ := Am.arg_ok (t := 22) (c := .imm 2) (by kernel_rfl) (hval 0 22 v0 rfl rfl) h0
  have k1 := h1
  have lt1 : ∀ x ∈ p1, x.block < W.heap.size := by obtain ⟨m, hm⟩ := k1; exact DataW.trod_lt m _ _ _ hm
  obtain ⟨y1, w1, s1⟩ := Am.arg_ok (t := 23) (c := .imm 0) (by kernel_rfl) (hval 1 23 v1 rfl rfl) h1
  have k2 := h2
  have lt2 : ∀ x ∈ p2, x.block < W.heap.size := by obtain ⟨m, hm⟩ := k2; exact DataW.trod_lt m _ _ _ hm
  obtain ⟨y2, w2, s2⟩ := Am.arg_ok (t := 24) (c := .imm 4) (by kernel_rfl) (hval 2 24 v2 rfl rfl) h2
  clear hA0 hval0 hsz0
  refine (runs W v0 v1 v2 y0 w0 s0 y1 w1 s1 y2 w2 s2).mono fun e W' ⟨he, bel⟩ => ?_
  subst he
  exact ⟨_, rfl, _, _, _, [], _, [], hW', trodAll_mk1 (shut_bool Try.underlying4 _), (trodAll_cons_mk (Below.trod laidOut (by kernel_rfl) (of_decide_eq_true (by kernel_rfl)) k0 bel lt0) (trodAll_cons_mk (Below.trod laidOut (by kernel_rfl) (of_decide_eq_true (by kernel_rfl)) k1 bel lt1) (trodAll_cons_mk (Below.trod laidOut (by kernel_rfl) (of_decide_eq_true (by kernel_rfl)) k2 bel lt2) trodAll_mk0))), rfl, bel.frame _, fun h => by cases h⟩
theorem over : Rows.fnExactFinalSweepRow.holds Try.pinned (OpenSpec.ofChange Rows.fnExactFinalSweepSpec) :=
  OpenClaim.holds_of_wide 3 Try.f3 rfl rfl rfl rfl rfl rfl rfl ⟨rfl, rfl, rfl, rfl, rfl⟩ rfl rfl rfl rfl rfl (by kernel_rfl) Try.func3 (by kernel_rfl)
    (of_decide_eq_true (by kernel_rfl)) (by unfold Func.isWrapper; first | (rw [if_pos (by decide +kernel)]; kernel_rfl) | (rw [if_neg (by decide +kernel)]; exact ⟨rfl, rfl⟩))
    (fun os started H enc _ => lifted os started H enc)
theorem proved : Rows.FnExactFinalSweepSaid := over
#print axioms proved
end Go.Proofs.Ytfelakjmajooaaa.fnExactFinalSweep
namespace Go.Proofs.Ytfelakjmajooaaa
theorem FnExactFinalSweep_holds : Rows.FnExactFinalSweepSaid := fnExactFinalSweep.proved
end Go.Proofs.Ytfelakjmajooaaa
