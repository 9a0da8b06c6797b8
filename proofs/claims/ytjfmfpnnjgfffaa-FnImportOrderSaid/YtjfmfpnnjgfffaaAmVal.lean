/- The abstract machine: operations that only compute or read. -/
import Derived.Test.YtjfmfpnnjgfffaaAmOps
namespace Go.Proofs.Ytjfmfpnnjgfffaa.Am
open Go
set_option autoImplicit false
set_option linter.unusedVariables false
set_option linter.unusedSectionVars false
set_option linter.unusedSimpArgs false

section
variable {P : Program} {G : Sig} {F N : Nat → Prop} {c : Cf G}

def VOp (P : Program) (G : Sig) (F : Nat → Prop) (c : Cf G) (s : Sem Value) (d : AV G.T) : Prop := ∃ v, s.run P c.w = .ok v c.w ∧ VR P G F c d v

theorem VR.lit_inv {v u : Value} (h : VR P G F c (.lit v) u) : u = v := by cases h; rfl
theorem VR.agg_inv {cs : List (AV G.T)} {u : Value} (h : VR P G F c (.agg cs) u) : ∃ vs : Array Value, u = .agg vs ∧ cs.length = vs.size ∧ ∀ (i : Nat) (d : AV G.T) (v : Value), cs[i]? = some d → vs[i]? = some v → VR P G F c d v := by
  cases h with | agg _ vs hn h => exact ⟨vs, rfl, hn, h⟩
theorem VR.tup_inv {cs : List (AV G.T)} {u : Value} (h : VR P G F c (.tup cs) u) : ∃ vs : Array Value, u = .tuple vs ∧ cs.length = vs.size ∧ ∀ (i : Nat) (d : AV G.T) (v : Value), cs[i]? = some d → vs[i]? = some v → VR P G F c d v := by
  cases h with | tup _ vs hn h => exact ⟨vs, rfl, hn, h⟩

theorem run_ok {α β : Type} {x : Sem α} {f : α → Sem β} {w w' : World} {a : α} (h : x.run P w = .ok a w') : (x >>= f).run P w = (f a).run P w' := by
  rw [Sem.run_bind, h]; rfl

theorem run_underlying' {t : TypeId} {d : TypeDesc} (h : P.underlying t = some d) (w : World) : (underlying t).run P w = .ok d w := by
  unfold underlying
  rw [run_ok (a := P) (w' := w) rfl, h]; rfl
theorem run_typeInfo' {t : TypeId} {i : TypeInfo} (h : P.info? t = some i) (w : World) : (typeInfo t).run P w = .ok i w := by
  unfold typeInfo
  rw [run_ok (a := P) (w' := w) rfl, h]; rfl
theorem run_sizeOf' {t : TypeId} {i : TypeInfo} (h : P.info? t = some i) (w : World) : (sizeOf t).run P w = .ok i.size w := by
  unfold sizeOf
  rw [run_ok (run_typeInfo' h w)]; rfl

theorem aggT_run {t : TypeId} {b : Bool} (hi : (P.underlying t).isSome) (h : aggT P t = b) (w : World) : (isAgg t).run P w = .ok b w := by
  unfold isAgg aggT at *
  cases hu : P.underlying t with
  | none => simp [hu] at hi
  | some d =>
    rw [run_ok (run_underlying' hu w)]
    rw [hu] at h
    cases d <;> simp_all <;> rfl

theorem forIn_list {β : Type} (as : Array Field) (b : β) (f : Field → β → Sem (ForInStep β)) : (forIn as b f : Sem β) = forIn as.toList b f := by
  rw [← Array.forIn_toList]

theorem eqTerm_run {n : Nat} {t : TypeId} {x y : AV G.T} {vx vy : Value} {b : Bool} {l : List Nat} (h : Runs P G c.os (eqTerm P G t x y) l b)
    (hx : VR P G F c x vx) (hy : VR P G F c y vy) : aggT P t = false ∧ (Op.equalIn (n + 1) t vx vy).run P c.w = .ok b c.w := by
  unfold eqTerm at h
  split at h
  · rename_i hu
    split at h
    · obtain rfl := hx.lit_inv
      obtain rfl := hy.lit_inv
      split at h
      · rename_i hk; subst hk
        obtain ⟨rfl, -⟩ := h.pure_inv
        refine ⟨by simp [aggT, hu], ?_⟩
        unfold Op.equalIn
        rw [run_ok (run_underlying' hu c.w)]; simp
      · exact h.fail_inv.elim
    · exact h.fail_inv.elim
  · rename_i hu
    split at h
    · obtain rfl := hx.lit_inv
      obtain rfl := hy.lit_inv
      obtain ⟨rfl, -⟩ := h.pure_inv
      refine ⟨by simp [aggT, hu], ?_⟩
      unfold Op.equalIn
      rw [run_ok (run_underlying' hu c.w)]; simp
    · exact h.fail_inv.elim
  · rename_i hu
    split at h
    · obtain rfl := hx.lit_inv
      obtain rfl := hy.lit_inv
      obtain ⟨rfl, -⟩ := h.pure_inv
      refine ⟨by simp [aggT, hu], ?_⟩
      unfold Op.equalIn
      rw [run_ok (run_underlying' hu c.w)]; simp
    · exact h.fail_inv.elim
  · exact h.fail_inv.elim

theorem part_run {t : TypeId} {cs : Array Value} {off : Nat} {v : Value} (ha : aggT P t = false) (hs : (P.underlying t).isSome) (h : cs[off]? = some v) (w : World) : (part t cs off).run P w = .ok v w := by
  unfold part
  rw [run_ok (aggT_run hs ha w)]
  simp [h]

theorem eqLoop_run {n : Nat} {xs ys : Array Value} {cs ds : List (AV G.T)} (hx : VR P G F c (.agg cs) (.agg xs)) (hy : VR P G F c (.agg ds) (.agg ys)) :
    ∀ (L : List Field) (b : Bool) (l : List Nat), (∀ f ∈ L, f.name ≠ "_") → Runs P G c.os (eqCells P G cs ds (L.map fun f => (f.offset, f.type))) l b →
    (forIn L ((none : Option Bool), ()) fun f __s =>
              if f.name ≠ "_" then do
                let __do_lift ← part f.type xs f.offset
                let __do_lift_1 ← part f.type ys f.offset
                let __do_lift ← Op.equalIn (n + 1) f.type __do_lift __do_lift_1
                if (!__do_lift) = true then pure (ForInStep.done (some false, ()))
                  else pure (ForInStep.yield (none, ()))
              else pure (ForInStep.yield (none, ())) : Sem (Option Bool × Unit)).run P c.w = .ok (if b then none else some false, ()) c.w := by
  obtain ⟨vs, e, hn, hxr⟩ := hx.agg_inv; cases e
  obtain ⟨vs', e, hn', hyr⟩ := hy.agg_inv; cases e
  intro L
  induction L with
  | nil => intro b l _ h; obtain ⟨rfl, -⟩ := h.pure_inv; rfl
  | cons f L ih =>
    intro b l hnm h
    simp only [List.map_cons, eqCells] at h
    split at h
    · rename_i a b' ha hb
      obtain ⟨x, l1, l2, rfl, h1, h2⟩ := h.bind_inv
      have hxs : f.offset < xs.size := by rw [← hn]; exact (List.getElem?_eq_some_iff.1 ha).1
      have hys : f.offset < ys.size := by rw [← hn']; exact (List.getElem?_eq_some_iff.1 hb).1
      have vx : xs[f.offset]? = some xs[f.offset] := by simp [hxs]
      have vy : ys[f.offset]? = some ys[f.offset] := by simp [hys]
      obtain ⟨hag, hr⟩ := eqTerm_run (n := n) h1 (hxr _ _ _ ha vx) (hyr _ _ _ hb vy)
      have hs : (P.underlying f.type).isSome := by
        cases hh : P.underlying f.type with
        | none => unfold eqTerm at h1; rw [hh] at h1; exact h1.fail_inv.elim
        | some _ => rfl
      have hne : f.name ≠ "_" := hnm f (by simp)
      rw [List.forIn_cons]
      simp only [hne, ne_eq, not_false_eq_true, if_true]
      simp only [Sem.run_bind, part_run hag hs vx, part_run hag hs vy, Result.andThen_ok, hr]
      cases x with
      | false =>
        have : b = false := by
          split at h2
          · exact h2.pure_inv.1
          · obtain ⟨y, _, _, _, _, h4⟩ := h2.bind_inv
            simpa using h4.pure_inv.1
        subst this; rfl
      | true =>
        simp only [Bool.not_true, Bool.false_eq_true, if_false, Sem.run_pure, Result.andThen_ok]
        cases L with
        | nil =>
          have := h2.pure_inv.1
          subst this; rfl
        | cons g L =>
          simp only [List.map_cons] at h2
          obtain ⟨y, l3, l4, rfl, h3, h4⟩ := h2.bind_inv
          have := h4.pure_inv.1
          simp only [Bool.true_and] at this
          subst this
          exact ih b l3 (fun f hf => hnm f (by simp [hf])) (by simpa using h3)
    · exact h.fail_inv.elim

theorem eqStruct_run {n : Nat} {t : TypeId} {xs ys : Array Value} {cs ds : List (AV G.T)} {fs : List (Nat × TypeId)} {b : Bool} {l : List Nat} (hf : eqFields P t = some fs) (h : Runs P G c.os (eqCells P G cs ds fs) l b)
    (hx : VR P G F c (.agg cs) (.agg xs)) (hy : VR P G F c (.agg ds) (.agg ys)) : (Op.equalIn (n + 2) t (.agg xs) (.agg ys)).run P c.w = .ok b c.w := by
  unfold eqFields at hf
  split at hf
  · rename_i fields hu
    split at hf
    · cases hf
    · split at hf
      · cases hf
      · split at hf
        · rename_i hst hg hall
          cases hf
          unfold Op.equalIn
          rw [run_ok (run_underlying' hu c.w)]
          simp only [Sem.run_bind, run_program, Result.andThen_ok, hst, forIn_list]
          have hnm : ∀ f ∈ fields.toList, f.name ≠ "_" := by
            intro f hf
            have := List.all_eq_true.1 hall f hf
            simp only [Bool.and_eq_true, bne_iff_ne, ne_eq] at this
            exact this.1
          rw [if_neg (by simp)]
          rw [run_ok (eqLoop_run (n := n) hx hy fields.toList b l hnm h)]
          cases b <;> rfl
        · cases hf
  · cases hf

theorem binV_ok {op : BinOp} {t : TypeId} {x y d : AV G.T} {vx vy : Value} {xo yo : Operand} {l : List Nat} (h : Runs P G c.os (binV P G op t x y) l d)
    (hx : VR P G F c x vx) (hy : VR P G F c y vy) : VOp P G F c (do eqGuard op t xo yo vx vy; binOp op t vx vy) d := by
  unfold binV at h
  split at h
  · rename_i k a k' b
    obtain rfl := hx.lit_inv
    obtain rfl := hy.lit_inv
    have hg : (eqGuard op t xo yo (.int k a) (.int k' b)).run P c.w = .ok () c.w := by
      unfold eqGuard; simp only [Sem.run_bind]; split <;> rfl
    unfold VOp; simp only [run_ok hg]
    split at h
    · obtain ⟨h0, h⟩ := h.test_inv
      obtain ⟨rfl, -⟩ := h.pure_inv
      have h0 := of_decide_eq_true h0
      refine ⟨_, ?_, .lit _⟩
      simp [binOp, Op.shift, Int.not_lt.2 h0]
    · obtain ⟨h0, h⟩ := h.test_inv
      obtain ⟨rfl, -⟩ := h.pure_inv
      have h0 := of_decide_eq_true h0
      refine ⟨_, ?_, .lit _⟩
      simp [binOp, Op.shift, Int.not_lt.2 h0]
    · split at h
      · rename_i hk; subst hk
        split at h <;> first
          | exact h.fail_inv.elim
          | (obtain ⟨rfl, -⟩ := h.pure_inv; refine ⟨_, ?_, .lit _⟩; simp [binOp, Op.intArith, Op.intBits, Op.intCmp]; done)
          | (obtain ⟨h0, h'⟩ := h.test_inv; obtain ⟨rfl, -⟩ := h'.pure_inv; refine ⟨_, ?_, .lit _⟩
             have h0' : b ≠ 0 := by simpa using h0
             simp [binOp, Op.intDiv, h0'])
      · exact h.fail_inv.elim
  · rename_i a b
    obtain rfl := hx.lit_inv
    obtain rfl := hy.lit_inv
    have hg : (eqGuard op t xo yo (.string a) (.string b)).run P c.w = .ok () c.w := by
      unfold eqGuard; simp only [Sem.run_bind]; split <;> rfl
    unfold VOp; simp only [run_ok hg]
    split at h
    · obtain ⟨h0, h'⟩ := h.test_inv
      obtain ⟨rfl, -⟩ := h'.pure_inv
      have h0 := of_decide_eq_true h0
      unfold maxSz at h0
      refine ⟨_, ?_, .lit _⟩
      have : ¬ ((a.size + b.size : Nat) : Int) > IntKind.i64.max := by
        have e : IntKind.i64.max = 9223372036854775807 := by decide
        rw [e]; omega
      simp only [binOp, Op.stringOp]
      rw [if_neg this]; rfl
    · obtain ⟨rfl, -⟩ := h.pure_inv; exact ⟨_, rfl, .lit _⟩
    · obtain ⟨rfl, -⟩ := h.pure_inv; exact ⟨_, rfl, .lit _⟩
    · obtain ⟨rfl, -⟩ := h.pure_inv; exact ⟨_, rfl, .lit _⟩
    · exact h.fail_inv.elim
  · rename_i a b
    obtain rfl := hx.lit_inv
    obtain rfl := hy.lit_inv
    split at h
    · rename_i hu
      have he : (Op.equal t (.bool a) (.bool b)).run P c.w = .ok (a == b) c.w := by
        unfold Op.equal
        show (Op.equalIn (9999 + 1) t (.bool a) (.bool b)).run P c.w = _
        unfold Op.equalIn
        rw [run_ok (run_underlying' hu c.w)]; simp
      split at h
      · obtain ⟨rfl, -⟩ := h.pure_inv
        refine ⟨_, ?_, .lit _⟩
        simp [eqGuard, binOp, Sem.run_bind, he]
      · obtain ⟨rfl, -⟩ := h.pure_inv
        refine ⟨_, ?_, .lit _⟩
        simp [eqGuard, binOp, Sem.run_bind, he]
      · exact h.fail_inv.elim
    · exact h.fail_inv.elim
  · rename_i cs ds
    obtain ⟨xs, rfl, -, -⟩ := hx.agg_inv
    obtain ⟨ys, rfl, -, -⟩ := hy.agg_inv
    split at h
    · rename_i fs hf
      have hgt : P.eqGuardType P.depth t = false := by
        unfold eqFields at hf
        split at hf
        · split at hf
          · cases hf
          · split at hf
            · cases hf
            · rename_i hh; simpa using hh
        · cases hf
      split at h
      · obtain ⟨b, l1, l2, rfl, h1, h2⟩ := h.bind_inv
        obtain ⟨rfl, -⟩ := h2.pure_inv
        have he : (Op.equal t (.agg xs) (.agg ys)).run P c.w = .ok b c.w := eqStruct_run (n := 9998) hf h1 hx hy
        refine ⟨_, ?_, .lit _⟩
        simp [eqGuard, binOp, Sem.run_bind, he, hgt]
      · obtain ⟨b, l1, l2, rfl, h1, h2⟩ := h.bind_inv
        obtain ⟨rfl, -⟩ := h2.pure_inv
        have he : (Op.equal t (.agg xs) (.agg ys)).run P c.w = .ok b c.w := eqStruct_run (n := 9998) hf h1 hx hy
        refine ⟨_, ?_, .lit _⟩
        simp [eqGuard, binOp, Sem.run_bind, he, hgt]
      · exact h.fail_inv.elim
    · exact h.fail_inv.elim
  · exact h.fail_inv.elim

end
end Go.Proofs.Ytjfmfpnnjgfffaa.Am
