/- For every input the law FnTextSwap returns true, and each argument reads afterwards as before; no condition. -/
import Derived.Test.YtmbpcjacbnloaaaDoorRows
import Derived.Test.YtmbpcjacbnloaaaDoorAmRowE
import Derived.Test.YtmbpcjacbnloaaaDoorAmTextL
import Derived.WalkKit
import Derived.ProofKit
import Derived.OpenShut
import Derived.ShutString
import Derived.ChangeOld
import Derived.Below
import Derived.SizedLaws
import Derived.Test.YtmbpcjacbnloaaaDoorCards
import Derived.Test.YtmbpcjacbnloaaaDoorTie
import Derived.Deep.DeepHandedRow
import Derived.LaidMore
import Derived.Lay
import Derived.SevenTiedAt
import Derived.Stop.Joined
import Derived.JoinedCond
namespace Go.Proofs.YtmbpcjacbnloaaaDoor.fnTextSwap
open Go.ChangeShapes Go.WideShapes Go.ChangeAt Go.RowKit
set_option linter.unusedVariables false
theorem own : ownKnob Tryd.prog.godebug = none := by kernel_rfl
theorem laidOut : laidOutB Tryd.prog = true := by kernel_rfl
theorem runs (W : World) (hg : ∀ b p, Am.G.gl b = some p → ∃ v, W.cell? ⟨b, 0, none⟩ = some v ∧ p v) (v0 : Value)
    (y0 : Am.Cd.den Am.G.T (.imm 1)) (h0 : Am.VR0 Tryd.prog Am.G W (Am.Cd.enc (.imm 1) y0) v0) (s0 : Am.SmV Am.G (Am.Cd.enc (.imm 1) y0))
    : Calls Tryd.prog 6 #[v0] W fun e W' => e = .returned (.bool true) ∧ Below W.heap.size W W' := by
  refine Am.walkG (hg := hg) (args := [v0]) (x := (y0, ())) (Am.F6_ok 20000) rfl (fun i d v hd hv => ?_) (Am.law6V (Nat.le_refl _) y0 s0)
  match i, hd, hv with
  | 0, hd, hv => cases hd; cases hv; exact h0
  | i + 1, hd, hv => simp at hv
theorem glv (W : World) (h : W.ShapedOpen Tryd.prog) : ∀ b p, Am.G.gl b = some p → ∃ v, W.cell? ⟨b, 0, none⟩ = some v ∧ p v := by
  intro b p hp
  match b, hp with
  | 0, hp => cases hp; obtain ⟨x, hx⟩ := Tryd.lays146.s1_3 W h; exact ⟨_, hx, x, rfl⟩
set_option maxRecDepth 100000 in
theorem lifted (os : Os) (started : os.Started) (H : Type) (enc : TypeId × Value → H) (F : Stop.Interp) :
    ReturnsInHanded {} Tryd.checked os 6 .any ((OpenSpec.ofChange Rows.fnTextSwapSpec).preRow enc Tryd.prog Tryd.f6 Rows.fnTextSwapRow.domain false Rows.fnTextSwapRow.laid) (((OpenSpec.ofChange Rows.fnTextSwapSpec).at F).post enc Tryd.prog Tryd.f6 false true false false) := by
  refine returnsInHanded_of_row (C := Tryd.checked) (s := OpenSpec.ofChange Rows.fnTextSwapSpec) own started (by kernel_rfl) Tryd.func6
    (ChangeSpec.witness_shaped (enc := enc) (C := Tryd.checked) (os := os) (X := fun w _ => laidMetH Tryd.prog Rows.fnTextSwapRow.laid w) false (World.laidAll Tryd.prog os Rows.fnTextSwapRow.laid) #[.slice none 0 0] 8 (World.laidAll_os _ _ _)
      (World.shaped_of_ZipB (by kernel_rfl) (by kernel_rfl)) (by kernel_rfl) (by kernel_rfl) (by kernel_rfl)
      (by rw [MakeChecks.laidMetH_plain _ _ _ (by kernel_rfl)]; exact laidMet_laidAll _ (by kernel_rfl) (by kernel_rfl))) ?_
  intro W base args ds gs before hval0 hW hcnd _ hsz0 hL hsh _
  have hval : ∀ (j : Nat) t v, Tryd.f6.params[j]? = some t → args[j]? = some v → Value.okWide Tryd.prog W .any base t v := hval0
  have hW' := hW
  obtain ⟨p, q, hA0, hV, rfl, hfz, hnd⟩ := hW
  have hA : DataW.TrodAll enc Tryd.prog W 0 (fun _ => true) true Tryd.f6.params.toList args.toList ds p := hA0
  rw [Tryd.params6] at hA hval
  obtain ⟨v0, vs0, d0, ds0, p0, q0, hargs0, rfl, rfl, h0, r0⟩ := trodAll_cons hA
  obtain ⟨e1, rfl, rfl⟩ := trodAll_nil r0
  obtain rfl : args = #[v0] := by cases args; simp_all
  obtain ⟨rfl, rfl⟩ := trodVars_none hV
  have k0 := h0
  have lt0 : ∀ x ∈ p0, x.block < W.heap.size := by obtain ⟨m, hm⟩ := k0; exact DataW.trod_lt m _ _ _ hm
  obtain ⟨y0, w0, s0⟩ := Am.arg_ok (t := 25) (c := .imm 1) (by kernel_rfl) (hval 0 25 v0 rfl rfl) h0
  clear hA0 hval0 hsz0
  refine (runs W (glv W hsh) v0 y0 w0 s0).mono fun e W' ⟨he, bel⟩ => ?_
  subst he
  exact ⟨_, rfl, _, _, _, [], _, [], hW', trodAll_mk1 (shut_bool Tryd.underlying4 _), (trodAll_cons_mk (Below.trod laidOut (by kernel_rfl) (of_decide_eq_true (by kernel_rfl)) k0 bel lt0) trodAll_mk0), rfl, bel.frame _, fun h => by cases h⟩
theorem over : Rows.FnTextSwapSaid :=
  OpenClaim.holds_of_cond 6 Tryd.f6 rfl rfl rfl rfl rfl rfl rfl ⟨rfl, rfl, rfl, rfl, rfl⟩ rfl rfl rfl rfl rfl (by kernel_rfl) Tryd.func6 (by kernel_rfl)
    (of_decide_eq_true (by kernel_rfl)) (by unfold Func.isWrapper; first | (rw [if_pos (by decide +kernel)]; kernel_rfl) | (rw [if_neg (by decide +kernel)]; exact ⟨rfl, rfl⟩))
    (fun os started H enc _ F0 => by rw [OpenClaim.pre_eq_preRow]; exact lifted os started H enc F0)
theorem proved : Rows.FnTextSwapCardSaid :=
  Claim7.holds_tied_plain_at .later [] [.data, .pinned] true (true, "499c1a6fa11ca8119383c219a2adfe745b432e27eeae4a9613cdd1638905dc75") false over (fun _ h => by cases h) (by kernel_rfl) (fun _ h => by cases h) fnTextSwap_row_tie rfl ⟨rfl, rfl⟩ (by kernel_rfl) rfl
    (fun f fn hf hfn => by
      obtain rfl : f = 6 := Option.some.inj ((show Tryd.prog.funcNamed "loop.example/slowworm/laws.FnTextSwap" = some 6 by kernel_rfl).symm.trans hf) |>.symm
      obtain rfl : fn = Tryd.f6 := (Option.some.inj (Tryd.func6.symm.trans hfn)).symm
      exact ⟨by kernel_rfl, fun j t ht => by
        rw [Tryd.params6] at ht
        have hm : t ∈ [25] := by simpa using Array.mem_of_getElem? ht
        have hall : ([25].all fun u => !Tryd.prog.wantsStandIn u) = true := by kernel_rfl
        exact (show Tryd.prog.wantsStandIn t = false by simpa using List.all_eq_true.1 hall t hm)⟩)
    (by kernel_rfl)
#print axioms proved
end Go.Proofs.YtmbpcjacbnloaaaDoor.fnTextSwap
namespace Go.Proofs.YtmbpcjacbnloaaaDoor
theorem FnTextSwap_holds : Rows.FnTextSwapCardSaid := fnTextSwap.proved
end Go.Proofs.YtmbpcjacbnloaaaDoor
