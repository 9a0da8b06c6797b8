/- The heap with which a program begins: it is what the reference has, it is valid, and each of its objects is shown. -/
import Derived.Test.YtfknenaecihchaaAmPl
import Derived.Test.YtfknenaecihchaaAmHeapF
import Derived.Test.YtfknenaecihchaaAmOpen
namespace Go.Proofs.Ytfknenaecihchaa.Am
open Go
set_option autoImplicit false
set_option linter.unusedVariables false
set_option maxRecDepth 100000

noncomputable def H0 : List Obj := match F7 1000 with | some r => r.1.1 | none => []
theorem new_ok : F7 1000 = some ((H0, ()), ()) := by kernel_rfl
theorem newS_ok : F9 1000 = some ((H0, ()), ()) := by kernel_rfl
theorem same_ok : F8 1000 H0 H0 = some (true, ()) := by kernel_rfl
theorem ok_ok : F10 1000 H0 = some (true, ()) := by kernel_rfl
/-- what an object is shown as is something -/
noncomputable def shown (k : Int) : Bool := match F11 1000 H0 4 ({ data := #[] } : ByteArray) k with | some r => !(r.1.toList == ({ data := #[] } : ByteArray).toList) | none => false
theorem shown_all : ((List.range 19).all fun k => shown (k : Nat)) = true := by kernel_rfl
theorem shown_ok {k : Int} (h : 0 ≤ k ∧ k < 19) : ∃ s, F11 1000 H0 4 ({ data := #[] } : ByteArray) k = some (s, ()) ∧ (!(s.toList == ({ data := #[] } : ByteArray).toList)) = true := by
  obtain ⟨j, rfl⟩ := Int.eq_ofNat_of_zero_le h.1
  have := List.all_eq_true.1 shown_all j (List.mem_range.2 (by omega))
  unfold shown at this
  split at this
  · rename_i r hr
    obtain ⟨s, u⟩ := r
    exact ⟨s, hr, this⟩
  · cases this
theorem law3 {z : List Int} (hz : okb z) : F3 1000 z = some (true, ()) := by
  unfold F3
  by_cases h0 : (z.length : Int) > 1048576
  · rw [bp h0]
  rw [bn h0, new_ok]; simp only [ats]
  have fin : ∀ k : Int, 0 ≤ k ∧ k < 19 → (andThen (F9 1000) fun r249 => (andThen (F8 1000 H0 r249.1.1) fun r339 => (bif (!r339.1) then some (false, ()) else (andThen (F10 1000 H0) fun r777 => (bif r777.1 then (andThen (F11 1000 H0 (4 : Int) ({ data := #[] } : ByteArray) k) fun r1562 => some ((!((r1562.1.toList) == (({ data := #[] } : ByteArray).toList))), ())) else some (false, ())))))) = some (true, ()) := by
    intro k hk
    obtain ⟨s, e1, e2⟩ := shown_ok hk
    rw [newS_ok]; simp only [ats]
    rw [same_ok]; simp only [ats, Bool.not_true, cf]
    rw [ok_ok]; simp only [ats, ct]
    rw [e1]; simp only [ats]
    rw [e2]
  unfold F3_0
  by_cases hp : (z.length : Int) > 0
  · rw [bp hp, bp hp]
    have hb := hz.get (i := 0) (by omega)
    refine fin _ ?_
    rw [wp (by omega), tm hb.1]
    exact ⟨Int.emod_nonneg _ (by omega), Int.emod_lt_of_pos _ (by omega)⟩
  · rw [bn hp]
    exact fin 0 (by omega)
theorem okb_of {l : List Int} (h : SmV G (.imm 1 (l : List (G.T 1)))) : okb l := fun x hx => by
  obtain ⟨i, hi, e⟩ := List.getElem_of_mem hx
  have hh := h.elt (i := i) (x := x) (by rw [← e]; exact List.getElem?_eq_getElem hi) (j := 0) (d := .lit (.int .u8 x)) rfl
  have w : (Lit.int .u8 x).wf = true := by cases hh with | int _ _ w => exact w
  simp only [Lit.wf, Bool.and_eq_true, decide_eq_true_eq] at w
  have e1 : IntKind.min .u8 = 0 := by decide
  have e2 : IntKind.max .u8 = 255 := by decide
  omega
theorem law3V (hn : 1000 ≤ 1000) (y : Cd.den G.T (.imm 1)) (s : SmV G (Cd.enc (.imm 1) y)) : F3 1000 y = some (true, ()) := law3 (okb_of s)
end Go.Proofs.Ytfknenaecihchaa.Am
