/- The abstract machine: cutting, conversions, least and greatest. -/
import Derived.Test.YtjfmfpnnjgfffaaAmMore
namespace Go.Proofs.Ytjfmfpnnjgfffaa.Am
open Go
set_option autoImplicit false
set_option linter.unusedVariables false
set_option linter.unusedSectionVars false
set_option linter.unusedSimpArgs false

section
variable {P : Program} {G : Sig} {F N : Nat → Prop} {c c' c'' : Cf G}

theorem minmax2_ok {mx : Bool} {a b d : AV G.T} {va vb : Value} {l : List Nat} (h : Runs P G c.os (minmax2 G mx a b) l d) (ha : VR P G F c a va) (hb : VR P G F c b vb) :
    ∃ v, (if mx then Builtin.max2 va vb else Builtin.min2 va vb).run P c.w = .ok v c.w ∧ VR P G F c d v := by
  unfold minmax2 at h
  split at h
  · obtain rfl := ha.lit_inv
    obtain rfl := hb.lit_inv
    split at h
    · obtain ⟨rfl, -⟩ := h.pure_inv; exact ⟨_, rfl, .lit _⟩
    · obtain ⟨rfl, -⟩ := h.pure_inv; exact ⟨_, rfl, .lit _⟩
  · exact h.fail_inv.elim

theorem minmaxV_ok {mx : Bool} {at_ : Array TypeId} {ty : TypeId} : ∀ {l : List (AV G.T)} {a d : AV G.T} {va : Value} {vs : List Value} {lg : List Nat}, Runs P G c.os (minmaxV G mx a l) lg d → VR P G F c a va →
    l.length = vs.length → (∀ (i : Nat) (d : AV G.T) (v : Value), l[i]? = some d → vs[i]? = some v → VR P G F c d v) →
    ∃ v, (vs.foldlM (m := Sem) (fun x y => if mx then Builtin.max2 x y else Builtin.min2 x y) va).run P c.w = .ok v c.w ∧ VR P G F c d v
  | [], a, d, va, vs, lg, h, ha, hl, hr => by
    obtain ⟨rfl, -⟩ := h.pure_inv
    have : vs = [] := List.eq_nil_of_length_eq_zero hl.symm
    subst this
    exact ⟨va, rfl, ha⟩
  | b :: l, a, d, va, [], lg, h, ha, hl, hr => by simp at hl
  | b :: l, a, d, va, vb :: vs, lg, h, ha, hl, hr => by
    simp only [minmaxV] at h
    obtain ⟨e, l1, l2, rfl, h1, h2⟩ := h.bind_inv
    obtain ⟨v, h3, h4⟩ := minmax2_ok h1 ha (hr 0 b vb rfl rfl)
    obtain ⟨u, h5, h6⟩ := minmaxV_ok (at_ := at_) (ty := ty) h2 h4 (by simpa using hl) (fun i d v hd hv => hr (i + 1) d v (by simpa using hd) (by simpa using hv))
    refine ⟨u, ?_, h6⟩
    rw [List.foldlM_cons, Sem.run_bind]
    cases mx <;> simp_all

def ORel (P : Program) (G : Sig) (F : Nat → Prop) (c : Cf G) (x : Option (AV G.T)) (vx : Option Value) : Prop := match x, vx with | none, none => True | some a, some v => VR P G F c a v | _, _ => False

theorem optI_ok {x : Option (AV G.T)} {vx : Option Value} {d n : Int} {l : List Nat} (h : Runs P G c.os (optI G x d) l n)
    (hx : ORel P G F c x vx) :
    (x = none ∧ vx = none ∧ n = d) ∨ ∃ a k, x = some a ∧ vx = some (.int k n) := by
  cases x with
  | none =>
    obtain ⟨rfl, -⟩ := h.pure_inv
    cases vx with
    | none => exact .inl ⟨rfl, rfl, rfl⟩
    | some v => exact hx.elim
  | some a =>
    cases vx with
    | none => exact hx.elim
    | some v =>
      obtain ⟨k, rfl⟩ := vInt_ok h hx
      exact .inr ⟨a, k, rfl, rfl⟩

theorem bound_run {k : IntKind} {n : Int} {y : Nat} {code : BoundsCode} (h0 : 0 ≤ n) (h1 : n ≤ (y : Int)) (w : World) : (Instr.sliceBound (.int k n) y code).run P w = .ok n.toNat w := by
  unfold Instr.sliceBound
  simp only [asIntOf, Sem.run_bind, Sem.run_pure, Result.andThen_ok]
  rw [if_pos ⟨h0, h1⟩]; rfl

/-- the bounds of a cut -/
theorem cut0_ok {α : Type} {lo hi mx : Option (AV G.T)} {vlo vhi vmx : Option Value} {n : Nat} {K : Int → Int → RdG G α} {Z : RdG G α} {r : α} {l : List Nat} (h : Runs P G c.os (cut0 G lo hi mx (n : Int) K Z) l r)
    (h1 : ORel P G F c lo vlo) (h2 : ORel P G F c hi vhi) (h3 : ORel P G F c mx vmx) {cap : Nat} (hcap : n ≤ cap) (isS : Bool) :
    (∃ l' lg, Runs P G c.os Z lg r ∧ l' = () ∧ (Instr.sliceBounds isS n cap vlo vhi vmx).run P c.w = .ok (0, 0, 0) c.w ∧ mx.isSome = true) ∨
    ∃ (a b : Nat) (lg : List Nat), mx = none ∧ a ≤ b ∧ b ≤ n ∧ (lo = none → a = 0) ∧ (hi = none → b = n) ∧ Runs P G c.os (K a b) lg r ∧ (Instr.sliceBounds isS n cap vlo vhi vmx).run P c.w = .ok (a, b, cap) c.w := by
  unfold cut0 at h
  cases mx with
  | some m =>
    left
    simp only at h
    cases hi with
    | none => exact h.fail_inv.elim
    | some hv =>
    obtain ⟨m', l1, l2, rfl, g1, g2⟩ := h.bind_inv
    obtain ⟨lo', l3, l4, rfl, g3, g4⟩ := g2.bind_inv
    obtain ⟨hi', l5, l6, rfl, g5, g6⟩ := g4.bind_inv
    obtain ⟨e1, g7⟩ := g6.test_inv
    obtain ⟨e2, g8⟩ := g7.test_inv
    obtain ⟨e3, g9⟩ := g8.test_inv
    have e1 := of_decide_eq_true e1
    have e2 := of_decide_eq_true e2
    have e3 := of_decide_eq_true e3
    subst e1 e2 e3
    cases vmx with
    | none => exact h3.elim
    | some vm =>
      obtain ⟨km, rfl⟩ := vInt_ok g1 h3
      refine ⟨(), _, g9, rfl, ?_, rfl⟩
      have b0 : ∀ (k : IntKind) (y : Nat) (cd : BoundsCode), (Instr.sliceBound (.int k 0) y cd).run P c.w = .ok 0 c.w := fun k y cd => bound_run (Int.le_refl _) (by omega) c.w
      unfold Instr.sliceBounds
      cases vhi with
      | none => exact h2.elim
      | some vh =>
        obtain ⟨kh, rfl⟩ := vInt_ok g5 h2
        rcases optI_ok g3 h1 with ⟨rfl, rfl, -⟩ | ⟨a2, kl, rfl, rfl⟩
        · simp only [Sem.run_bind, b0, Result.andThen_ok, Sem.run_pure]
        · simp only [Sem.run_bind, b0, Result.andThen_ok, Sem.run_pure, Option.isSome_some, if_true]
  | none =>
    right
    simp only at h
    obtain ⟨lo', l3, l4, rfl, g3, g4⟩ := h.bind_inv
    obtain ⟨hi', l5, l6, rfl, g5, g6⟩ := g4.bind_inv
    obtain ⟨e1, g7⟩ := g6.test_inv
    obtain ⟨e2, g8⟩ := g7.test_inv
    obtain ⟨e3, g9⟩ := g8.test_inv
    have e1 := of_decide_eq_true e1
    have e2 := of_decide_eq_true e2
    have e3 := of_decide_eq_true e3
    cases vmx with
    | some v => exact h3.elim
    | none =>
      refine ⟨lo'.toNat, hi'.toNat, l6, rfl, by omega, by omega, ?_, ?_, ?_, ?_⟩
      · intro hlo; subst hlo
        obtain ⟨rfl, -⟩ := g3.pure_inv; rfl
      · intro hhi; subst hhi
        obtain ⟨rfl, -⟩ := g5.pure_inv; simp
      · rw [show ((lo'.toNat : Nat) : Int) = lo' from by omega, show ((hi'.toNat : Nat) : Int) = hi' from by omega]; exact g9
      · unfold Instr.sliceBounds
        rcases optI_ok g5 h2 with ⟨rfl, rfl, rfl⟩ | ⟨a, kh, rfl, rfl⟩
        · rcases optI_ok g3 h1 with ⟨rfl, rfl, rfl⟩ | ⟨a2, kl, rfl, rfl⟩
          · simp [Sem.run_bind]
          · simp only [Sem.run_bind, Sem.run_pure, Result.andThen_ok, bound_run (P := P) e1 e2 c.w, Option.isSome_none, Bool.false_eq_true, if_false, Int.toNat_natCast]
        · have hb : ∀ cd, (Instr.sliceBound (.int kh hi') cap cd).run P c.w = .ok hi'.toNat c.w := fun cd => bound_run (by omega) (by omega) c.w
          rcases optI_ok g3 h1 with ⟨rfl, rfl, rfl⟩ | ⟨a2, kl, rfl, rfl⟩
          · cases isS <;> simp [Sem.run_bind, hb]
          · have hb2 : ∀ cd, (Instr.sliceBound (.int kl lo') hi'.toNat cd).run P c.w = .ok lo'.toNat c.w := fun cd => bound_run (by omega) (by omega) c.w
            cases isS <;> simp [Sem.run_bind, hb, hb2]

end
end Go.Proofs.Ytjfmfpnnjgfffaa.Am
