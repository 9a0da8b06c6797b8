/- The abstract machine: every operation. -/
import Derived.Test.YtjfmfpnnjgfffaaAmCall2
namespace Go.Proofs.Ytjfmfpnnjgfffaa.Am
open Go
set_option autoImplicit false
set_option linter.unusedVariables false
set_option linter.unusedSectionVars false
set_option linter.unusedSimpArgs false

section
variable {P : Program} {G : Sig} {F N : Nat → Prop} {c : Cf G}

structure FnOK (P : Program) (G : Sig) : Prop where
  fn : ∀ f, G.fn f = true → ∃ fn, P.funcs[f]? = some fn ∧ (fn.name == "runtime.NumGoroutine") = false ∧ fn.body.isNone = false

/-- what an operation leads to -/
def OpOK (P : Program) (G : Sig) (F N : Nat → Prop) (c : Cf G) (a : Act) (o : Oper) (os' : List (AObj G.T G.U)) (d : AV G.T) : Prop :=
  ∀ (K : Act → World → Prop) (Q : Exit → Act → World → Prop), (∀ v w' m', Tr G F c ⟨w', m', os'⟩ → OK P G F N ⟨w', m', os'⟩ → VR P G F ⟨w', m', os'⟩ d v → K (a.put o.dst v) w') → o.wp P a c.w K Q

variable {a : Act} {o : Oper} {os' : List (AObj G.T G.U)} {d : AV G.T}

theorem OpOK.value {s : Sem Value} (he : execOp a.eval o = (do pure (Next.value (← s)))) (h : OpTo P G F N c s os' d) : OpOK P G F N c a o os' d := by
  intro K Q hK
  obtain ⟨v, w', m', h1, h2, h3, h4⟩ := h
  unfold Oper.wp
  rw [he, Sem.run_bind, h1]
  exact hK v w' m' h2 h3 h4

theorem OpOK.skip {s : Sem Unit} (he : execOp a.eval o = (do s; pure Next.skip)) (h : OpTo P G F N c (do s; pure undef) os' .undef) : OpOK P G F N c a o os' .undef := by
  intro K Q hK
  obtain ⟨v, w', m', h1, h2, h3, h4⟩ := h
  unfold Oper.wp
  rw [he, Sem.run_bind]
  rw [Sem.run_bind] at h1
  cases hs : s.run P c.w with
  | halt e w2 => rw [hs] at h1; cases h1
  | ok u w2 =>
    rw [hs] at h1
    simp only [Result.andThen_ok, Sem.run_pure] at h1
    cases h1
    exact hK undef w' m' h2 h3 (.undef _)

theorem one_inv {x : RdG G (AV G.T)} {l : List Nat} {r : OpRes G.T G.U} (h : Runs P G c.os (one G x) l r) : ∃ l' d, Runs P G c.os x l' d ∧ r = ⟨d, [], []⟩ := by
  obtain ⟨d, l1, l2, rfl, h1, h2⟩ := h.bind_inv
  obtain ⟨rfl, -⟩ := h2.pure_inv
  exact ⟨l1, d, h1, rfl⟩

theorem OpOK.vop {s : Sem Value} {nb : Nat} {x : RdG G (AV G.T)} {l : List Nat} {r : OpRes G.T G.U} (ok : OK P G F N c) (he : execOp a.eval o = (do pure (Next.value (← s))))
    (h : Runs P G c.os (one G x) l r) (hv : ∀ l' d, Runs P G c.os x l' d → VOp P G F c s d) : OpOK P G F N c a o (addObjs (setObjs c.os r.upd) nb r.new) r.d := by
  obtain ⟨l', d, h1, rfl⟩ := one_inv h
  exact OpOK.value he ((hv l' d h1).to ok)

theorem OpOK.ret {v : Value} {nb : Nat} {x : AV G.T} {l : List Nat} {r : OpRes G.T G.U} (ok : OK P G F N c) (he : execOp a.eval o = pure (Next.value v))
    (h : Runs P G c.os (Am.ret G x) l r) (hv : VR P G F c x v) : OpOK P G F N c a o (addObjs (setObjs c.os r.upd) nb r.new) r.d := by
  obtain ⟨rfl, -⟩ := h.pure_inv
  exact OpOK.value (s := pure v) he ⟨v, c.w, c.m, rfl, Tr.refl F c, ok, hv⟩

theorem parts_ok {ss : List (AV G.T)} {os : List (AObj G.T G.U)} (sl : Slots P G F c ss a) (ps : Array (Nat × Operand)) :
    Parts P G F c (ps.toList.map fun p => (p.1, opnd G ⟨ss, os⟩ p.2)) (ps.map fun (i, x) => (i, a.eval x)).toList := by
  refine ⟨by simp, fun i p q hp hq => ?_⟩
  simp only [List.getElem?_map, Option.map_eq_some_iff, Array.toList_map] at hp hq
  obtain ⟨p', h1, rfl⟩ := hp
  obtain ⟨q', h2, rfl⟩ := hq
  rw [h1] at h2; cases h2
  exact ⟨rfl, opnd_rel sl _⟩

theorem orel_map {ss : List (AV G.T)} {os : List (AObj G.T G.U)} (sl : Slots P G F c ss a) (x : Option Operand) : ORel P G F c (x.map (opnd G ⟨ss, os⟩)) (x.map a.eval) := by
  cases x with
  | none => trivial
  | some x => exact opnd_rel sl x

theorem vInt_rel {x : AV G.T} {v : Value} {n : Int} {l : List Nat} (h : Runs P G c.os (vInt G x) l n) (hx : VR P G F c x v) : ∃ k, v = .int k n := vInt_ok h hx

theorem array_two {α : Type} {x : Array α} {a b : α} (h : x.toList = [a, b]) : x = #[a, b] := by
  rw [← Array.toArray_toList (xs := x), h]
theorem array_one {α : Type} {x : Array α} {a : α} (h : x.toList = [a]) : x = #[a] := by
  rw [← Array.toArray_toList (xs := x), h]

theorem ptr_val {o n : Nat} {v : Value} (h : VR P G F c (.ptr o n) v) : ∃ b, v = .pointer (some b) := by cases h <;> exact ⟨_, rfl⟩
theorem elem_val {o i n : Nat} {v : Value} (h : VR P G F c (.elem o i n) v) : ∃ b, v = .pointer (some b) := by cases h <;> exact ⟨_, rfl⟩
theorem pel_val {k n : Nat} {x : G.T k} {v : Value} (h : VR P G F c (.pel k x n) v) : ∃ b, v = .pointer (some b) := by cases h; exact ⟨_, rfl⟩
theorem pol_val {k n : Nat} {x : G.T k} {v : Value} (h : VR P G F c (.pol k x n) v) : ∃ b, v = .pointer (some b) := by cases h; exact ⟨_, rfl⟩
theorem zel_val {o k i n : Nat} {v : Value} (h : VR P G F c (.zel o k i n) v) : ∃ b, v = .pointer (some b) := by cases h <;> exact ⟨_, rfl⟩
theorem spe_val {o k i t j n : Nat} {v : Value} (h : VR P G F c (.spe o k i t j n) v) : ∃ b, v = .pointer (some b) := by cases h <;> exact ⟨_, rfl⟩
theorem jel_val {o k n : Nat} {x : G.T k} {v : Value} (h : VR P G F c (.jel o k x n) v) : ∃ b, v = .pointer (some b) := by cases h <;> exact ⟨_, rfl⟩
theorem clo_val {f : FuncId} {cs : List (AV G.T)} {v : Value} (h : VR P G F c (.clo f cs) v) : ∃ vs : Array Value, v = .func (.func f) #[] vs ∧ cs.length = vs.size ∧ ∀ (i : Nat) (d : AV G.T) (v : Value), cs[i]? = some d → vs[i]? = some v → VR P G F c d v := by
  cases h with | clo _ _ vs hn h => exact ⟨vs, rfl, hn, h⟩

theorem callFunc_run {f : FuncId} {args : Array Value} (FN : FnOK P G) (h : G.fn f = true) (w : World) : (callFunc f args).run P w = .ok (.enter f args) w := by
  obtain ⟨fn, h1, h2, h3⟩ := FN.fn f h
  unfold callFunc
  simp only [Sem.run_bind, run_program, Result.andThen_ok, h1, h2, h3, Bool.false_eq_true, if_false, Sem.run_pure]

set_option maxHeartbeats 4000000 in
theorem opSem_ok {nb : Nat} {ss : List (AV G.T)} {os : List (AObj G.T G.U)} {l : List Nat} {r : OpRes G.T G.U} (L : Laws P G) (FN : FnOK P G) (ok : OK P G F N c) (hnb0 : nb ≤ c.os.length) (hnb3 : ∀ i, i < r.new.length → c.os[nb + i]? = some .free) (sl : Slots P G F c ss a)
    (h : Runs P G c.os (opSem P G nb o (opnd G ⟨ss, os⟩)) l r) : OpOK P G F N c a o (addObjs (setObjs c.os r.upd) nb r.new) r.d := by
  have rel := fun x => opnd_rel (P := P) (F := F) (c := c) (os := os) sl x
  unfold opSem at h
  cases ho : o.op <;> simp only [ho] at h
  case move x => exact OpOK.ret ok (by simp [execOp, ho]) h (rel x)
  case assign x => exact OpOK.ret ok (by simp [execOp, ho]) h (rel x)
  case pick b x y =>
    split at h
    · rename_i hb
      have := rel b
      rw [hb] at this
      exact OpOK.ret ok (by simp [execOp, ho, this.lit_inv, asBool]) h (rel x)
    · rename_i hb
      have := rel b
      rw [hb] at this
      exact OpOK.ret ok (by simp [execOp, ho, this.lit_inv, asBool]) h (rel y)
    · exact h.fail_inv.elim
  case alloc e =>
    split at h
    · rename_i z hz
      rw [Option.bind_eq_some_iff] at hz
      have hz0 := hz
      obtain ⟨zz, h1, h2⟩ := hz
      split at h
      · rename_i q hq
        obtain ⟨rfl, -⟩ := h.pure_inv
        exact OpOK.value (s := Instr.alloc e true (.tuple #[])) (by simp [execOp, ho]) (allocU_ok ok (hnb3 0 (by simp)) h1 h2 fun c β => L.mku e q hq z (by rw [h1]; exact h2) F c β)
      · obtain ⟨rfl, -⟩ := h.pure_inv
        exact OpOK.value (s := Instr.alloc e true (.tuple #[])) (by simp [execOp, ho]) (allocI_ok (l := G.ini e) ok (fun j hj => hnb3 j (by simpa using hj)) h1 h2)
    · exact h.fail_inv.elim
  case box e x =>
    split at h
    · rename_i z hz
      obtain ⟨rfl, -⟩ := h.pure_inv
      exact OpOK.value (s := Instr.box e (a.eval x)) (by simp [execOp, ho]) (boxI_ok (l := G.ini e) ok (fun j hj => hnb3 j (by simpa using hj)) hz (rel x))
    · exact h.fail_inv.elim
  case build t ps =>
    refine OpOK.vop (s := Instr.build t (ps.map fun (i, x) => (i, a.eval x))) ok (by simp [execOp, ho]) h fun l' d h' => ?_
    have := buildV_ok (parts_ok sl ps) h'
    rwa [Array.toArray_toList] at this
  case buildSlice t n ps =>
    obtain ⟨k, l1, l2, rfl, g1, g2⟩ := h.bind_inv
    obtain ⟨hk, -⟩ := g1.ofOpt_inv
    split at g2
    case isFalse => exact g2.fail_inv.elim
    rename_i hn
    split at g2
    case isFalse => exact g2.fail_inv.elim
    rename_i hle
    obtain ⟨⟨xs, upd⟩, l3, l4, rfl, g3, g4⟩ := g2.bind_inv
    obtain ⟨rfl, -⟩ := g4.pure_inv
    have := buildSlice_ok L ok (hnb3 0 (by simp)) hk (parts_ok sl ps) g3 (by rw [List.length_map, ← hn]; exact hle)
    rw [List.length_map, ← hn, Array.toArray_toList] at this
    exact OpOK.value (s := Instr.buildSlice t n (ps.map fun (i, x) => (i, a.eval x))) (by simp [execOp, ho]) this
  case load t x => exact OpOK.vop (s := Instr.loadAt t (a.eval x)) ok (by simp [execOp, ho]) h fun l' d h' => loadV_ok L ok h' (rel x)
  case store t x y =>
    have := storeV_ok (nb := nb) L ok h (rel x) (rel y)
    have hd : r.d = .undef := by
      unfold storeV at h
      split at h
      · exact h.fail_inv.elim
      · split at h
        · exact h.fail_inv.elim
        · split at h
          case isFalse => exact h.fail_inv.elim
          split at h
          · obtain ⟨_, _, g⟩ := h.look_inv
            split at g
            · split at g
              · obtain ⟨rfl, -⟩ := g.pure_inv; rfl
              · exact g.fail_inv.elim
            · exact g.fail_inv.elim
          · obtain ⟨_, _, g⟩ := h.look_inv
            split at g
            · split at g
              · obtain ⟨_, _, _, _, _, g2⟩ := g.bind_inv
                split at g2
                · obtain ⟨_, _, _, _, _, g3⟩ := g2.bind_inv
                  obtain ⟨rfl, -⟩ := g3.pure_inv; rfl
                · exact g2.fail_inv.elim
              · exact g.fail_inv.elim
            · exact g.fail_inv.elim
          · split at h
            case isFalse => exact h.fail_inv.elim
            obtain ⟨_, _, g⟩ := h.look_inv
            split at g
            · split at g
              · split at g
                · split at g
                  · split at g
                    · obtain ⟨_, _, g2⟩ := g.look_inv
                      split at g2
                      · split at g2
                        · split at g2
                          · obtain ⟨rfl, -⟩ := g2.pure_inv; rfl
                          · exact g2.fail_inv.elim
                        · exact g2.fail_inv.elim
                      · exact g2.fail_inv.elim
                    · exact g.fail_inv.elim
                  · split at g
                    · obtain ⟨rfl, -⟩ := g.pure_inv; rfl
                    · exact g.fail_inv.elim
                  · exact g.fail_inv.elim
                · exact g.fail_inv.elim
              split at g
              · split at g
                · split at g
                  · obtain ⟨_, g1⟩ := g.test_inv
                    obtain ⟨_, _, g2⟩ := g1.look_inv
                    split at g2
                    · obtain ⟨_, _, _, _, _, g4⟩ := g2.bind_inv
                      split at g4
                      · obtain ⟨rfl, -⟩ := g4.pure_inv; rfl
                      · exact g4.fail_inv.elim
                    · exact g2.fail_inv.elim
                  · exact g.fail_inv.elim
                · split at g
                  · split at g
                    · obtain ⟨rfl, -⟩ := g.pure_inv; rfl
                    · exact g.fail_inv.elim
                  · exact g.fail_inv.elim
                · exact g.fail_inv.elim
              split at g
              · split at g
                · obtain ⟨_, _, _, _, _, g2⟩ := g.bind_inv
                  split at g2
                  · obtain ⟨rfl, -⟩ := g2.pure_inv; rfl
                  · exact g2.fail_inv.elim
                · exact g.fail_inv.elim
              · exact g.fail_inv.elim
            · exact g.fail_inv.elim
          · split at h
            · split at h
              · obtain ⟨_, _, g⟩ := h.look_inv
                split at g
                · split at g
                  · obtain ⟨rfl, -⟩ := g.pure_inv; rfl
                  · exact g.fail_inv.elim
                · exact g.fail_inv.elim
              · exact h.fail_inv.elim
            · exact h.fail_inv.elim
          · exact h.fail_inv.elim
    rw [hd] at this ⊢
    exact OpOK.skip (s := Instr.storeAt t (a.eval x) (a.eval y)) (by simp [execOp, ho]) this
  case nilCheck x =>
    have hr := rel x
    split at h
    · rename_i o' n hx
      rw [hx] at hr
      obtain ⟨b, hb⟩ := ptr_val hr
      exact OpOK.ret ok (by simp [execOp, ho, hb]) h hr
    · rename_i o' i n hx
      rw [hx] at hr
      obtain ⟨b, hb⟩ := elem_val hr
      exact OpOK.ret ok (by simp [execOp, ho, hb]) h hr
    · rename_i k y n hx
      rw [hx] at hr
      obtain ⟨b, hb⟩ := pel_val hr
      exact OpOK.ret ok (by simp [execOp, ho, hb]) h hr
    · rename_i k y n hx
      rw [hx] at hr
      obtain ⟨b, hb⟩ := pol_val hr
      exact OpOK.ret ok (by simp [execOp, ho, hb]) h hr
    · rename_i o' k y n hx
      rw [hx] at hr
      obtain ⟨b, hb⟩ := jel_val hr
      exact OpOK.ret ok (by simp [execOp, ho, hb]) h hr
    · rename_i o' k i n hx
      rw [hx] at hr
      obtain ⟨b, hb⟩ := zel_val hr
      exact OpOK.ret ok (by simp [execOp, ho, hb]) h hr
    · rename_i o' k i tk j n hx
      rw [hx] at hr
      obtain ⟨b, hb⟩ := spe_val hr
      exact OpOK.ret ok (by simp [execOp, ho, hb]) h hr
    · rename_i f cs hx
      rw [hx] at hr
      obtain ⟨b, hb, -⟩ := clo_val hr
      exact OpOK.ret ok (by simp [execOp, ho, hb]) h hr
    · exact h.fail_inv.elim
  case binOp op t x y yt =>
    split at h
    · rename_i b hb
      obtain ⟨h1, i, j, rfl⟩ := nilTest_inv hb
      exact OpOK.vop (s := (do eqGuard op t x (.const (.slice none i j)) (a.eval x) (a.eval (.const (.slice none i j))); binOp op t (a.eval x) (a.eval (.const (.slice none i j))))) ok (by simp [execOp, ho]) h fun l' d h' => eqNil_ok L h' h1 (rel x) ⟨i, j, rfl⟩
    · exact OpOK.vop (s := (do eqGuard op t x y (a.eval x) (a.eval y); binOp op t (a.eval x) (a.eval y))) ok (by simp [execOp, ho]) h fun l' d h' => binV_ok h' (rel x) (rel y)
  case unOp op t x => exact OpOK.vop (s := Op.unary op (a.eval x)) ok (by simp [execOp, ho]) h fun l' d h' => unV_ok h' (rel x)
  case convert s t x => exact OpOK.vop (s := convert s t (a.eval x)) ok (by simp [execOp, ho]) h fun l' d h' => convV_ok L ok h' (rel x)
  case makeSlice t x y =>
    split at h
    · rename_i hmk
      unfold makeM at h
      obtain ⟨n, l3, l4, rfl, g3, g4⟩ := h.bind_inv
      obtain ⟨m, l5, l6, rfl, g5, g6⟩ := g4.bind_inv
      obtain ⟨kn, hn⟩ := vInt_ok g3 (rel x)
      obtain ⟨km, hm⟩ := vInt_ok g5 (rel y)
      obtain ⟨e1, g7⟩ := g6.test_inv
      obtain ⟨e2, g8⟩ := g7.test_inv
      obtain ⟨e3, g9⟩ := g8.test_inv
      split at g9
      · rename_i q hq
        obtain ⟨rfl, -⟩ := g9.pure_inv
        refine OpOK.value (s := Instr.makeSlice t (a.eval x) (a.eval y)) (by simp [execOp, ho]) ?_
        rw [hn, hm]
        exact makeM_ok L ok (hnb3 0 (by simp)) hmk (of_decide_eq_true e1) (of_decide_eq_true e2) (of_decide_eq_true e3) hq
      · exact g9.fail_inv.elim
    · obtain ⟨k, l1, l2, rfl, g1, g2⟩ := h.bind_inv
      obtain ⟨hk, -⟩ := g1.ofOpt_inv
      obtain ⟨n, l3, l4, rfl, g3, g4⟩ := g2.bind_inv
      obtain ⟨m, l5, l6, rfl, g5, g6⟩ := g4.bind_inv
      obtain ⟨kn, hn⟩ := vInt_ok g3 (rel x)
      obtain ⟨km, hm⟩ := vInt_ok g5 (rel y)
      obtain ⟨e1, g7⟩ := g6.test_inv
      obtain ⟨e2, g8⟩ := g7.test_inv
      obtain ⟨e3, g9⟩ := g8.test_inv
      split at g9
      · split at g9
        · rename_i hti
          obtain ⟨e4, g9⟩ := g9.test_inv
          obtain ⟨rfl, -⟩ := g9.pure_inv
          refine OpOK.value (s := Instr.makeSlice t (a.eval x) (a.eval y)) (by simp [execOp, ho]) ?_
          rw [hn, hm]
          exact makeV_ok L ok (hnb3 0 (by simp)) hk (of_decide_eq_true e1) (of_decide_eq_true e2) (of_decide_eq_true e3) (fun _ => of_decide_eq_true e4)
        · rename_i hti
          obtain ⟨rfl, -⟩ := g9.pure_inv
          refine OpOK.value (s := Instr.makeSlice t (a.eval x) (a.eval y)) (by simp [execOp, ho]) ?_
          rw [hn, hm]
          exact makeV_ok L ok (hnb3 0 (by simp)) hk (of_decide_eq_true e1) (of_decide_eq_true e2) (of_decide_eq_true e3) (fun h => by rw [hti] at h; cases h)
      · rename_i e he
        split at g9
        · rename_i q hq
          obtain ⟨rfl, -⟩ := g9.pure_inv
          refine OpOK.value (s := Instr.makeSlice t (a.eval x) (a.eval y)) (by simp [execOp, ho]) ?_
          rw [hn, hm]
          exact makeG_ok L ok (hnb3 0 (by simp)) he (of_decide_eq_true e1) (of_decide_eq_true e2) (of_decide_eq_true e3) hq
        · exact g9.fail_inv.elim
  case makeMap t r0 =>
    split at h
    case h_2 => exact h.fail_inv.elim
    split at h
    case h_2 => exact h.fail_inv.elim
    rename_i q hq
    obtain ⟨rfl, -⟩ := h.pure_inv
    exact OpOK.value (s := Instr.makeMap t none) (by simp [execOp, ho]) (makeMap_ok L ok (hnb3 0 (by simp)) hq)
  case mapUpdate t m k x =>
    obtain ⟨h1, h2⟩ := mapUp_ok (nb := nb) L ok h (rel m) (rel k) (rel x)
    rw [h2] at h1 ⊢
    exact OpOK.skip (s := Instr.mapUpdate t (a.eval m) (a.eval k) (a.eval x)) (by simp [execOp, ho]) h1
  case lookup t x k co => exact OpOK.vop (s := Instr.lookup t (a.eval x) (a.eval k) co) ok (by simp [execOp, ho]) h fun l' d h' => look_ok L ok h' (rel x) (rel k)
  case makeFunc fn first cap =>
    cases fn
    case func f =>
      simp only at h
      split at h
      · rename_i hf
        have hf' : first = #[] := Array.eq_empty_of_size_eq_zero hf
        subst hf'
        refine OpOK.ret (v := .func (.func f) #[] (cap.map a.eval)) ok (by simp [execOp, ho, Instr.makeFunc]) h (.clo f _ _ (by simp) fun i d v hd hv => ?_)
        simp only [List.getElem?_map, Option.map_eq_some_iff, Array.getElem?_map] at hd hv
        obtain ⟨p, h1, rfl⟩ := hd
        obtain ⟨q, h2, rfl⟩ := hv
        have : some p = some q := by rw [← h1, ← h2]; simp
        cases this
        exact rel p
      · exact h.fail_inv.elim
    all_goals exact h.fail_inv.elim
  case slice t x lo hi mx =>
    exact OpOK.value (s := Instr.sliceAt t (a.eval x) (lo.map a.eval) (hi.map a.eval) (mx.map a.eval)) (by simp [execOp, ho]) (sliceV_ok L ok h (rel x) (orel_map sl lo) (orel_map sl hi) (orel_map sl mx))
  case fieldAddr s x f => exact OpOK.vop (s := Instr.fieldAt s (a.eval x) f) ok (by simp [execOp, ho]) h fun l' d h' => fieldAddrV_ok h' (rel x)
  case field s x f => exact OpOK.vop (s := Instr.field s (a.eval x) f) ok (by simp [execOp, ho]) h fun l' d h' => fieldV_ok h' (rel x)
  case indexAddr t x i =>
    obtain ⟨n, l1, l2, rfl, g1, g2⟩ := h.bind_inv
    obtain ⟨k, hk⟩ := vInt_ok g1 (rel i)
    exact OpOK.vop (s := Instr.indexAt t (a.eval x) (a.eval i)) ok (by simp [execOp, ho]) g2 fun l' d h' => by rw [hk]; exact indexAddrV_ok L ok h' (rel x)
  case index t x i =>
    obtain ⟨n, l1, l2, rfl, g1, g2⟩ := h.bind_inv
    obtain ⟨k, hk⟩ := vInt_ok g1 (rel i)
    exact OpOK.vop (s := Instr.index t (a.eval x) (a.eval i)) ok (by simp [execOp, ho]) g2 fun l' d h' => indexV_ok h' (rel x) hk
  case extract x i =>
    have hr := rel x
    split at h
    · rename_i vs hx
      rw [hx] at hr
      split at h
      · rename_i v hv
        obtain ⟨ws, hw, hn, hr⟩ := hr.tup_inv
        have hlt : i < ws.size := by rw [← hn]; exact (List.getElem?_eq_some_iff.1 hv).1
        have hwi : ws[i]? = some ws[i] := by simp [hlt]
        exact OpOK.ret (v := ws[i]) ok (by simp [execOp, ho, hw, Instr.extract, hwi]) h (hr i v _ hv hwi)
      · exact h.fail_inv.elim
    · exact h.fail_inv.elim
  case call cl =>
    split at h
    · rename_i f hc
      split at h
      · rename_i g cs hf
        have hr := rel f
        rw [hf] at hr
        obtain ⟨caps, hcap, hn, hcr⟩ := clo_val hr
        have hcall := callV_ok (vals := (cl.args.map a.eval ++ caps).toList) L ok hnb0 hnb3 h (by simp [hn]) fun i d v hd hv => by
          rw [Array.toList_append, List.getElem?_append] at hv
          rw [List.getElem?_append] at hd
          simp only [List.length_map, Array.length_toList, Array.size_map, Array.toList_map] at hd hv
          split at hd
          · rename_i hi
            rw [if_pos hi] at hv
            simp only [List.getElem?_map, Option.map_eq_some_iff] at hd hv
            obtain ⟨p, h1, rfl⟩ := hd
            obtain ⟨q, h2, rfl⟩ := hv
            rw [h1] at h2; cases h2
            exact rel p
          · rename_i hi
            rw [if_neg hi] at hv
            exact hcr _ d v hd (by simpa using hv)
        obtain ⟨hfn, hcall⟩ := hcall
        rw [Array.toArray_toList] at hcall
        intro K Q hK
        unfold Oper.wp
        have he : (execOp a.eval o).run P c.w = .ok (.enter g (cl.args.map a.eval ++ caps)) c.w := by
          simp only [execOp, ho, resolve, hc, hcap, Deferred.ofValue, Sem.run_bind, Sem.run_pure, Result.andThen_ok, invoke, Array.empty_append, callFunc_run FN hfn]
        rw [he]
        refine hcall.mono ?_
        rintro e w' ⟨v, m', rfl, h1, h2, h3⟩
        exact hK v w' m' h1 h2 h3
      · exact h.fail_inv.elim
    · rename_i hc
      split at h
      · rename_i x t hx ht
        have e1 := array_one hx
        have e2 := array_one ht
        refine OpOK.vop (s := Builtin.len_ cl.argTypes o.type #[a.eval x]) ok ?_ h fun l' d h' => lenV_ok L ok h' (rel x) (by rw [e2]; rfl)
        simp [execOp, ho, resolve, hc, invoke, builtin, e1]
      · exact h.fail_inv.elim
    · rename_i hc
      split at h
      · rename_i s x t tx hx ht
        have e1 := array_two hx
        have e2 := array_two ht
        refine OpOK.value (s := Builtin.append_ #[t, tx] o.type #[a.eval s, a.eval x]) ?_ (appendV_ok L ok hnb3 h (rel s) (rel x))
        simp [execOp, ho, resolve, hc, invoke, builtin, e1, e2]
      · exact h.fail_inv.elim
    · rename_i hc
      split at h
      · rename_i x t hx ht
        have e1 := array_one hx
        have e2 := array_one ht
        obtain ⟨h1, h2⟩ := clearV_ok (nb := nb) (ty := o.type) L ok h (rel x)
        rw [h2]
        refine OpOK.value (s := Builtin.clear_ #[t] o.type #[a.eval x]) ?_ h1
        simp [execOp, ho, resolve, hc, invoke, builtin, e1, e2]
      · exact h.fail_inv.elim
    · rename_i hc
      split at h
      · rename_i x t hx ht
        have e1 := array_one hx
        have e2 := array_one ht
        refine OpOK.vop (s := Builtin.cap_ cl.argTypes o.type #[a.eval x]) ok ?_ h fun l' d h' => capV_ok h' (rel x) (by rw [e2]; rfl)
        simp [execOp, ho, resolve, hc, invoke, builtin, e1]
      · exact h.fail_inv.elim
    · rename_i hc
      split at h
      · rename_i x y hx
        cases hargs : cl.args.toList with
        | nil => rw [hargs] at hx; simp at hx
        | cons p ps =>
          rw [hargs] at hx
          simp only [List.map_cons, List.cons.injEq] at hx
          obtain ⟨rfl, rfl⟩ := hx
          refine OpOK.vop (s := Builtin.min_ cl.argTypes o.type (cl.args.map a.eval)) ok ?_ h fun l' d h' => ?_
          · simp [execOp, ho, resolve, hc, invoke, builtin]
          · obtain ⟨v, h1, h2⟩ := minmaxV_ok (at_ := #[]) (ty := 0) (vs := ps.map a.eval) h' (rel p) (by simp) fun i d v hd hv => by
              simp only [List.getElem?_map, Option.map_eq_some_iff] at hd hv
              obtain ⟨q1, g1, rfl⟩ := hd
              obtain ⟨q2, g2, rfl⟩ := hv
              rw [g1] at g2; cases g2
              exact rel q1
            refine ⟨v, ?_, h2⟩
            unfold Builtin.min_
            rw [Array.toList_map, hargs]
            exact h1
      · exact h.fail_inv.elim
    · rename_i hc
      split at h
      · rename_i x y hx
        cases hargs : cl.args.toList with
        | nil => rw [hargs] at hx; simp at hx
        | cons p ps =>
          rw [hargs] at hx
          simp only [List.map_cons, List.cons.injEq] at hx
          obtain ⟨rfl, rfl⟩ := hx
          refine OpOK.vop (s := Builtin.max_ cl.argTypes o.type (cl.args.map a.eval)) ok ?_ h fun l' d h' => ?_
          · simp [execOp, ho, resolve, hc, invoke, builtin]
          · obtain ⟨v, h1, h2⟩ := minmaxV_ok (at_ := #[]) (ty := 0) (vs := ps.map a.eval) h' (rel p) (by simp) fun i d v hd hv => by
              simp only [List.getElem?_map, Option.map_eq_some_iff] at hd hv
              obtain ⟨q1, g1, rfl⟩ := hd
              obtain ⟨q2, g2, rfl⟩ := hv
              rw [g1] at g2; cases g2
              exact rel q1
            refine ⟨v, ?_, h2⟩
            unfold Builtin.max_
            rw [Array.toList_map, hargs]
            exact h1
      · exact h.fail_inv.elim
    · exact h.fail_inv.elim
  all_goals exact h.fail_inv.elim

end
end Go.Proofs.Ytjfmfpnnjgfffaa.Am
