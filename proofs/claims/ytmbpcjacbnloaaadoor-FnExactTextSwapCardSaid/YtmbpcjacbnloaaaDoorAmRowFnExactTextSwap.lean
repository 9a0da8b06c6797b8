/- For every input the law FnExactTextSwap returns true, and each argument reads afterwards as before; no condition. -/
import Derived.Test.YtmbpcjacbnloaaaDoorRows
import Derived.Test.YtmbpcjacbnloaaaDoorAmRowE
import Derived.Test.YtmbpcjacbnloaaaDoorAmTextL
import Derived.WalkKit
import Derived.ProofKit
import Derived.OpenShut
import Derived.ShutString
import Derived.ChangeOld
import Derived.Below
import Derived.SizedLaws
import Derived.Test.YtmbpcjacbnloaaaDoorCards
import Derived.Test.YtmbpcjacbnloaaaDoorTie
import Derived.Deep.DeepHandedRow
import Derived.LaidMore
import Derived.Lay
import Derived.SevenTiedAt
import Derived.Stop.Joined
import Derived.JoinedCond
namespace Go.Proofs.YtmbpcjacbnloaaaDoor.fnExactTextSwap
open Go.ChangeShapes Go.WideShapes Go.ChangeAt Go.RowKit
set_option linter.unusedVariables false
theorem own : ownKnob Tryd.prog.godebug = none := by kernel_rfl
theorem laidOut : laidOutB Tryd.prog = true := by kernel_rfl
theorem runs (W : World) (hg : ∀ b p, Am.G.gl b = some p → ∃ v, W.cell? ⟨b, 0, none⟩ = some v ∧ p v) (v0 v1 v2 : Value)
    (y0 : Am.Cd.den Am.G.T (.str)) (h0 : Am.VR0 Tryd.prog Am.G W (Am.Cd.enc (.str) y0) v0) (s0 : Am.SmV Am.G (Am.Cd.enc (.str) y0))
    (y1 : Am.Cd.den Am.G.T (.str)) (h1 : Am.VR0 Tryd.prog Am.G W (Am.Cd.enc (.str) y1) v1) (s1 : Am.SmV Am.G (Am.Cd.enc (.str) y1))
    (y2 : Am.Cd.den Am.G.T (.str)) (h2 : Am.VR0 Tryd.prog Am.G W (Am.Cd.enc (.str) y2) v2) (s2 : Am.SmV Am.G (Am.Cd.enc (.str) y2))
    : Calls Tryd.prog 3 #[v0, v1, v2] W fun e W' => e = .returned (.bool true) ∧ Below W.heap.size W W' := by
  refine Am.walkG (hg := hg) (args := [v0, v1, v2]) (x := (y0, (y1, (y2, ())))) (Am.F3_ok 20000) rfl (fun i d v hd hv => ?_) (Am.law3V (Nat.le_refl _) y0 s0 y1 s1 y2 s2)
  match i, hd, hv with
  | 0, hd, hv => cases hd; cases hv; exact h0
  | 1, hd, hv => cases hd; cases hv; exact h1
  | 2, hd, hv => cases hd; cases hv; exact h2
  | i + 3, hd, hv => simp at hv
theorem glv (W : World) (h : W.ShapedOpen Tryd.prog) : ∀ b p, Am.G.gl b = some p → ∃ v, W.cell? ⟨b, 0, none⟩ = some v ∧ p v := by
  intro b p hp
  match b, hp with
  | 0, hp => cases hp; obtain ⟨x, hx⟩ := Tryd.lays146.s1_3 W h; exact ⟨_, hx, x, rfl⟩
set_option maxRecDepth 100000 in
theorem lifted (os : Os) (started : os.Started) (H : Type) (enc : TypeId × Value → H) (F : Stop.Interp) :
    ReturnsInHanded {} Tryd.checked os 3 .any ((OpenSpec.ofChange Rows.fnExactTextSwapSpec).preRow enc Tryd.prog Tryd.f3 Rows.fnExactTextSwapRow.domain false Rows.fnExactTextSwapRow.laid) (((OpenSpec.ofChange Rows.fnExactTextSwapSpec).at F).post enc Tryd.prog Tryd.f3 false true false false) := by
  refine returnsInHanded_of_row (C := Tryd.checked) (s := OpenSpec.ofChange Rows.fnExactTextSwapSpec) own started (by kernel_rfl) Tryd.func3
    (ChangeSpec.witness_shaped (enc := enc) (C := Tryd.checked) (os := os) (X := fun w _ => laidMetH Tryd.prog Rows.fnExactTextSwapRow.laid w) false (World.laidAll Tryd.prog os Rows.fnExactTextSwapRow.laid) #[.string ⟨#[]⟩, .string ⟨#[]⟩, .string ⟨#[]⟩] 8 (World.laidAll_os _ _ _)
      (World.shaped_of_ZipB (by kernel_rfl) (by kernel_rfl)) (by kernel_rfl) (by kernel_rfl) (by kernel_rfl)
      (by rw [MakeChecks.laidMetH_plain _ _ _ (by kernel_rfl)]; exact laidMet_laidAll _ (by kernel_rfl) (by kernel_rfl))) ?_
  intro W base args ds gs before hval0 hW hcnd _ hsz0 hL hsh _
  have hval : ∀ (j : Nat) t v, Tryd.f3.params[j]? = some t → args[j]? = some v → Value.okWide Tryd.prog W .any base t v := hval0
  have hW' := hW
  obtain ⟨p, q, hA0, hV, rfl, hfz, hnd⟩ := hW
  have hA : DataW.TrodAll enc Tryd.prog W 0 (fun _ => true) true Tryd.f3.params.toList args.toList ds p := hA0
  rw [Tryd.params3] at hA hval
  obtain ⟨v0, vs0, d0, ds0, p0, q0, hargs0, rfl, rfl, h0, r0⟩ := trodAll_cons hA
  obtain ⟨v1, vs1, d1, ds1, p1, q1, hargs1, rfl, rfl, h1, r1⟩ := trodAll_cons r0
  obtain ⟨v2, vs2, d2, ds2, p2, q2, hargs2, rfl, rfl, h2, r2⟩ := trodAll_cons r1
  obtain ⟨e3, rfl, rfl⟩ := trodAll_nil r2
  obtain rfl : args = #[v0, v1, v2] := by cases args; simp_all
  obtain ⟨rfl, rfl⟩ := trodVars_none hV
  have k0 := h0
  have lt0 : ∀ x ∈ p0, x.block < W.heap.size := by obtain ⟨m, hm⟩ := k0; exact DataW.trod_lt m _ _ _ hm
  obtain ⟨y0, w0, s0⟩ := Am.arg_ok (t := 9) (c := .str) (by kernel_rfl) (hval 0 9 v0 rfl rfl) h0
  have k1 := h1
  have lt1 : ∀ x ∈ p1, x.block < W.heap.size := by obtain ⟨m, hm⟩ := k1; exact DataW.trod_lt m _ _ _ hm
  obtain ⟨y1, w1, s1⟩ := Am.arg_ok (t := 9) (c := .str) (by kernel_rfl) (hval 1 9 v1 rfl rfl) h1
  have k2 := h2
  have lt2 : ∀ x ∈ p2, x.block < W.heap.size := by obtain ⟨m, hm⟩ := k2; exact DataW.trod_lt m _ _ _ hm
  obtain ⟨y2, w2, s2⟩ := Am.arg_ok (t := 9) (c := .str) (by kernel_rfl) (hval 2 9 v2 rfl rfl) h2
  clear hA0 hval0 hsz0
  refine (runs W (glv W hsh) v0 v1 v2 y0 w0 s0 y1 w1 s1 y2 w2 s2).mono fun e W' ⟨he, bel⟩ => ?_
  subst he
  exact ⟨_, rfl, _, _, _, [], _, [], hW', trodAll_mk1 (shut_bool Tryd.underlying4 _), (trodAll_cons_mk (Below.trod laidOut (by kernel_rfl) (of_decide_eq_true (by kernel_rfl)) k0 bel lt0) (trodAll_cons_mk (Below.trod laidOut (by kernel_rfl) (of_decide_eq_true (by kernel_rfl)) k1 bel lt1) (trodAll_cons_mk (Below.trod laidOut (by kernel_rfl) (of_decide_eq_true (by kernel_rfl)) k2 bel lt2) trodAll_mk0))), rfl, bel.frame _, fun h => by cases h⟩
theorem over : Rows.FnExactTextSwapSaid :=
  OpenClaim.holds_of_cond 3 Tryd.f3 rfl rfl rfl rfl rfl rfl rfl ⟨rfl, rfl, rfl, rfl, rfl⟩ rfl rfl rfl rfl rfl (by kernel_rfl) Tryd.func3 (by kernel_rfl)
    (of_decide_eq_true (by kernel_rfl)) (by unfold Func.isWrapper; first | (rw [if_pos (by decide +kernel)]; kernel_rfl) | (rw [if_neg (by decide +kernel)]; exact ⟨rfl, rfl⟩))
    (fun os started H enc _ F0 => by rw [OpenClaim.pre_eq_preRow]; exact lifted os started H enc F0)
theorem proved : Rows.FnExactTextSwapCardSaid :=
  Claim7.holds_tied_plain_at .later [] [.data, .pinned] true (true, "499c1a6fa11ca8119383c219a2adfe745b432e27eeae4a9613cdd1638905dc75") false over (fun _ h => by cases h) (by kernel_rfl) (fun _ h => by cases h) fnExactTextSwap_row_tie rfl ⟨rfl, rfl⟩ (by kernel_rfl) rfl
    (fun f fn hf hfn => by
      obtain rfl : f = 3 := Option.some.inj ((show Tryd.prog.funcNamed "loop.example/slowworm/laws.FnExactTextSwap" = some 3 by kernel_rfl).symm.trans hf) |>.symm
      obtain rfl : fn = Tryd.f3 := (Option.some.inj (Tryd.func3.symm.trans hfn)).symm
      exact ⟨by kernel_rfl, fun j t ht => by
        rw [Tryd.params3] at ht
        have hm : t ∈ [9, 9, 9] := by simpa using Array.mem_of_getElem? ht
        have hall : ([9, 9, 9].all fun u => !Tryd.prog.wantsStandIn u) = true := by kernel_rfl
        exact (show Tryd.prog.wantsStandIn t = false by simpa using List.all_eq_true.1 hall t hm)⟩)
    (by kernel_rfl)
#print axioms proved
end Go.Proofs.YtmbpcjacbnloaaaDoor.fnExactTextSwap
namespace Go.Proofs.YtmbpcjacbnloaaaDoor
theorem FnExactTextSwap_holds : Rows.FnExactTextSwapCardSaid := fnExactTextSwap.proved
end Go.Proofs.YtmbpcjacbnloaaaDoor
