/- The abstract machine: normal forms; whole pieces of code. -/
import Derived.Test.YtjfmfpnnjgfffaaAmDraw2
import Derived.Deep.LoopGhost
namespace Go.Proofs.Ytjfmfpnnjgfffaa.Am
open Go
set_option autoImplicit false
set_option linter.unusedVariables false
set_option linter.unusedSectionVars false
set_option linter.unusedSimpArgs false

section
variable {P : Program} {G : Sig} {F : Nat → Prop} {c0 c c' : Cf G}

-- forgetting slots ---------------------------------------------------------------------------------------------------------
theorem keepSlots_len {live : List Nat} : ∀ {l : List (AV G.T)} {i : Nat}, (keepSlots G live i l).length = l.length
  | [], i => rfl
  | v :: l, i => by simp only [keepSlots, List.length_cons, keepSlots_len]
theorem keepSlots_get {live : List Nat} : ∀ {l : List (AV G.T)} {i t : Nat} {d : AV G.T}, (keepSlots G live i l)[t]? = some d → d = .undef ∨ l[t]? = some d
  | [], i, t, d, h => by simp [keepSlots] at h
  | v :: l, i, 0, d, h => by
    simp only [keepSlots, List.getElem?_cons_zero, Option.some.injEq] at h
    split at h
    · exact .inr (by simp [h])
    · exact .inl h.symm
  | v :: l, i, t + 1, d, h => by
    simp only [keepSlots, List.getElem?_cons_succ] at h
    simpa using keepSlots_get h

theorem Rel.keep {σ : St G} {a : Act} (h : Rel P G F c0 σ a c) (live : List Nat) : Rel P G F c0 ⟨keepSlots G live 0 σ.slots, σ.objs⟩ a c where
  objs := h.objs
  slots := ⟨by rw [keepSlots_len]; exact h.slots.1, fun t d v hd hv => by
    rcases keepSlots_get hd with rfl | h1
    · exact .undef _
    · exact h.slots.2 t d v h1 hv⟩
  defers := h.defers
  ok := h.ok
  tr := h.tr

-- other forms ----------------------------------------------------------------------------------------------------------------
theorem slots_set {N : Nat → Prop} {ss : List (AV G.T)} {a : Act} {q : Nat} {d : AV G.T} (h : Slots P G F c ss a) (t : Tr G F c c') (hv : ∀ v, a.tmps[q]? = some v → VR P G F c' d v) : Slots P G F c' (ss.set q d) a := by
  refine ⟨by simp [h.1], fun t' d' v' hd' hv' => ?_⟩
  by_cases e : t' = q
  · subst e
    have hlt : t' < ss.length := by have := (List.getElem?_eq_some_iff.1 hd').1; simpa using this
    rw [List.getElem?_set_self hlt] at hd'
    cases hd'; exact hv v' hv'
  · rw [List.getElem?_set_ne (Ne.symm e)] at hd'
    exact (h.2 t' d' v' hd' hv').mono t

theorem runP_runs {α : Type} {os : List (AObj G.T G.U)} {x : RdG G α} : ∀ {a : α}, runP G os x = some a → ∃ l, Runs P G os x l a := by
  induction x with
  | pure a => intro b h; cases h; exact ⟨[], .pure a⟩
  | look o k ih =>
    intro b h
    obtain ⟨l, h1⟩ := ih _ (show runP G os (k (os.getD o .free)) = some b from h)
    exact ⟨o :: l, .look o k l b h1⟩
  | test b k ih =>
    intro a h
    cases b
    · cases h
    · obtain ⟨l, h1⟩ := ih (show runP G os k = some a from h)
      exact ⟨l, .test k l a h1⟩
  | call f args objs k ih => intro b h; cases h
  | fail => intro b h; cases h

/-- a row gets a new name, perhaps without its end -/
theorem mv_ok {N : Nat → Prop} {o k : Nat} {xs ys : List (G.T k)} {β : Blk} (ok : OK P G F N c) (ho : c.os[o]? = some (.arr k xs true)) (hm : c.m[o]? = some β) (hlen : ys.Sublist xs) (hsub : ∀ (q : Nat) (y : G.T k), ys[q]? = some y → xs[q]? = some y) :
    ∃ m', Tr G F c ⟨c.w, m', addObjs (setObjs (padTo c.os (c.os.length + 1)) [(o, .dead)]) c.os.length [.arr k ys true]⟩ ∧ OK P G F N ⟨c.w, m', addObjs (setObjs (padTo c.os (c.os.length + 1)) [(o, .dead)]) c.os.length [.arr k ys true]⟩ ∧
      (addObjs (setObjs (padTo c.os (c.os.length + 1)) [(o, .dead)]) c.os.length [.arr k ys true])[c.os.length]? = some (.arr k ys true) ∧ m'[c.os.length]? = some β := by
  have hlt := (List.getElem?_eq_some_iff.1 ho).1
  have ok1 := pad_ok ok (c.os.length + 1)
  have t1 := pad_tr (F := F) ok (c.os.length + 1)
  have hfree : (padC c (c.os.length + 1)).os[c.os.length]? = some .free := padTo_free (Nat.le_refl _) (by omega)
  have ho1 : (padC c (c.os.length + 1)).os[o]? = some (.arr k xs true) := (padTo_lt hlt).trans ho
  have hm1 : (padC c (c.os.length + 1)).m[o]? = some β := by
    obtain ⟨ob, g1, g2⟩ := t1.extA o _ ho (by simp) (.inl rfl)
    rw [ho1] at g1; cases g1
    rcases g2 with g2 | ⟨_, g2⟩
    · cases g2
    · exact g2.trans hm
  have mv : Mov (padC c (c.os.length + 1)) o c.os.length β (.arr k xs true) (.arr k ys true) (padC c (c.os.length + 1)).w := {
    ho := ho1, hm := hm1, mu := rfl, nb := hfree, sys := ⟨rfl, rfl, rfl⟩, size := rfl, keep := fun _ _ => rfl, fz := fun _ h => h }
  have tr := mv.tr (F := F) ok1
  have hob : ObjR P G F (movCf (padC c (c.os.length + 1)) o c.os.length β (.arr k ys true) (padC c (c.os.length + 1)).w) β (.arr k ys true) := by
    obtain ⟨hk, hh⟩ := ok1.obj _ _ _ ho1 hm1
    refine ⟨hk, ?_⟩
    rcases hh with ⟨h1, h2, h3⟩ | ⟨b, cs, h1, h2, h3, h4, h5, h6⟩
    · subst h3
      exact .inl ⟨h1, h2, List.sublist_nil.1 hlen⟩
    · exact .inr ⟨b, cs, h1, h2, h3, h4, Nat.le_trans (Nat.mul_le_mul_right _ hlen.length_le) h5, fun q y hy => (h6 q y (hsub q y hy)).mono tr⟩
  obtain ⟨a1, a2⟩ := mv.at_nb ok1.len
  exact ⟨_, t1.trans ok1 tr, mv.ok ok1 hob, a1, a2⟩

theorem frmB_ok {N : Nat → Prop} {f : Frm} {x : AV G.T} {v : Value} {d : AV G.T} {upd : List (Nat × AObj G.T G.U)} {new : List (AObj G.T G.U)} (L : Laws P G) (ok : OK P G F N c) (h : frmB G c.os f x = some (d, upd, new)) (hx : VR P G F c x v) :
    ∃ m', Tr G F c ⟨c.w, m', addObjs (setObjs (padTo c.os (c.os.length + new.length)) upd) c.os.length new⟩ ∧ OK P G F N ⟨c.w, m', addObjs (setObjs (padTo c.os (c.os.length + new.length)) upd) c.os.length new⟩ ∧
      VR P G F ⟨c.w, m', addObjs (setObjs (padTo c.os (c.os.length + new.length)) upd) c.os.length new⟩ d v := by
  have plain : ∀ d', VR P G F c d' v → ∃ m', Tr G F c ⟨c.w, m', padTo c.os (c.os.length + 0)⟩ ∧ OK P G F N ⟨c.w, m', padTo c.os (c.os.length + 0)⟩ ∧ VR P G F ⟨c.w, m', padTo c.os (c.os.length + 0)⟩ d' v := by
    intro d' hd
    rw [padTo_self (by omega)]
    exact ⟨c.m, Tr.refl F c, ok, hd⟩
  unfold frmB at h
  split at h
  · -- rows inside become plain lists
    split at h
    · rename_i d1 upd1 hr
      cases h
      obtain ⟨l, hr⟩ := runP_runs (P := P) hr
      obtain ⟨s1, s2, s3⟩ := snaps_ok (vs := [v]) L ok hr (by simp) (fun i d w hd hw => by
        cases i with
        | zero => simp at hd hw; subst hd; subst hw; exact hx
        | succ i => simp at hd)
      obtain ⟨hf, hu⟩ := frz_setObjs s2
      rw [show (c.os.length + ([] : List (AObj G.T G.U)).length) = c.os.length from rfl, padTo_self (Nat.le_refl _)]
      exact ⟨c.m, hf.tr (F := F), hf.ok ok, s3 _ hf hu 0 d v (by simp) (by simp)⟩
    · cases h
  · -- nil as a plain list
    split at h
    · rename_i hk
      cases h
      cases hx with
      | nil0 a ha => exact plain _ (VR_imm_of_nil hk a)
    · cases h
  · -- a row becomes a plain list
    split at h
    · rename_i k xs wr ho
      have ho := getD_look ho rfl
      cases h
      have hf := frz_set ho
      rw [show (c.os.length + ([] : List (AObj G.T G.U)).length) = c.os.length from rfl, padTo_self (Nat.le_refl _)]
      refine ⟨c.m, hf.tr (F := F), hf.ok ok, ?_⟩
      have hlt := (List.getElem?_eq_some_iff.1 ho).1
      have ho2 := List.getElem?_set_self (a := (AObj.arr k xs false : AObj G.T G.U)) hlt
      cases hx with
      | ownDead _ _ _ _ hd => rw [ho] at hd; cases hd
      | ownNil _ k2 wr2 β a ho' hm hb ha => rw [ho] at ho'; cases ho'; exact VR_imm_of_nil (ok.obj _ _ _ ho hm).1 a
      | own _ k2 xs2 wr2 β b cap ho' hm hb hcap hn ht =>
        rw [ho] at ho'; cases ho'
        have := VR_imm_of_arr (n := xs.length) (cap := cap) (hf.ok ok) ho2 hm hb (Nat.le_refl _) hcap ht
        rwa [List.take_length] at this
    · cases h
  · split at h
    · rename_i k xs wr ho
      have ho := getD_look ho rfl
      split at h
      case h_1 => cases h
      rename_i hti
      cases h
      have hf := frz_set ho
      rw [show (c.os.length + ([] : List (AObj G.T G.U)).length) = c.os.length from rfl, padTo_self (Nat.le_refl _)]
      refine ⟨c.m, hf.tr (F := F), hf.ok ok, ?_⟩
      have hlt := (List.getElem?_eq_some_iff.1 ho).1
      have ho2 := List.getElem?_set_self (a := (AObj.arr k xs false : AObj G.T G.U)) hlt
      cases hx with
      | preDead _ _ _ _ _ hd => rw [ho] at hd; cases hd
      | preNil _ _ k2 wr2 β a ho' hm hb ha => rw [ho] at ho'; cases ho'; rw [List.take_nil]; exact VR_imm_of_nil (ok.obj _ _ _ ho hm).1 a
      | pre _ _ k2 xs2 wr2 β b cap ho' hm hb hle hcap =>
        rw [ho] at ho'; cases ho'
        exact VR_imm_of_arr (hf.ok ok) ho2 hm hb hle hcap (fun h => by rw [hti] at h; cases h)
    · cases h
  · cases h; exact plain _ hx
  · -- nil as a row of its own
    split at h
    · rename_i hk
      cases h
      cases hx with
      | nil0 a ha =>
        have ok1 := pad_ok ok (c.os.length + 1)
        have hfree : (padC c (c.os.length + 1)).os[c.os.length]? = some .free := padTo_free (Nat.le_refl _) (by omega)
        obtain ⟨m', t', ok', hv⟩ := nil_new ok1 hfree hk a ha
        exact ⟨m', (pad_tr ok _).trans ok1 t', ok', hv⟩
    · cases h
  · cases h; exact plain _ hx
  · -- a new row, of what is nowhere
    split at h
    · rename_i hk
      cases h
      cases hx with
      | nil0 a ha =>
        have ok1 := pad_ok ok (c.os.length + 1)
        have hfree : (padC c (c.os.length + 1)).os[c.os.length]? = some .free := padTo_free (Nat.le_refl _) (by omega)
        obtain ⟨m', t', ok', hv⟩ := nil_new ok1 hfree hk a ha
        exact ⟨m', (pad_tr ok _).trans ok1 t', ok', hv⟩
    · cases h
  · -- a row gets a new name
    split at h
    case h_2 => cases h
    rename_i k xs ho
    have ho := getD_look ho rfl
    cases h
    cases hx with
    | ownDead _ _ _ _ hd => rw [ho] at hd; cases hd
    | ownNil _ k2 wr2 β a ho' hm hb ha =>
      rw [ho] at ho'; cases ho'
      obtain ⟨m', h1, h2, h3, h4⟩ := mv_ok ok ho hm (List.Sublist.refl _) (fun _ _ h => h)
      exact ⟨m', h1, h2, .ownNil _ _ true β a h3 h4 hb ha⟩
    | own _ k2 xs2 wr2 β b cap ho' hm hb hcap hn ht =>
      rw [ho] at ho'; cases ho'
      obtain ⟨m', h1, h2, h3, h4⟩ := mv_ok ok ho hm (List.Sublist.refl _) (fun _ _ h => h)
      exact ⟨m', h1, h2, .own _ _ xs true β b cap h3 h4 hb hcap hn ht⟩
  · -- the beginning of a row is a row
    rename_i kk oo n2
    split at h
    case h_2 => cases h
    rename_i k xs ho
    have ho := getD_look ho rfl
    split at h
    case h_1 => cases h
    rename_i hti
    cases h
    have hsub : ∀ (n : Nat) (q : Nat) (y : G.T k), (xs.take n)[q]? = some y → xs[q]? = some y := by
      intro n q y hq
      rw [List.getElem?_take] at hq
      split at hq
      · exact hq
      · cases hq
    cases hx with
    | preDead _ _ _ _ _ hd => rw [ho] at hd; cases hd
    | preNil _ _ k2 wr2 β a ho' hm hb ha =>
      rw [ho] at ho'; cases ho'
      rw [List.take_nil]
      obtain ⟨m', h1, h2, h3, h4⟩ := mv_ok ok ho hm (List.Sublist.refl _) (fun _ _ h => h)
      exact ⟨m', h1, h2, .ownNil _ _ true β a h3 h4 hb ha⟩
    | pre _ _ k2 xs2 wr2 β b cap ho' hm hb hle hcap hn =>
      rw [ho] at ho'; cases ho'
      obtain ⟨m', h1, h2, h3, h4⟩ := mv_ok ok ho hm (List.take_sublist n2 xs) (hsub n2)
      have hl : (xs.take n2).length = n2 := by simp; omega
      refine ⟨m', h1, h2, ?_⟩
      have := VR.own (P := P) (F := F) (c := ⟨c.w, m', addObjs (setObjs (padTo c.os (c.os.length + 1)) [(oo, .dead)]) c.os.length [.arr k (xs.take n2) true]⟩) _ _ (xs.take n2) true β b cap h3 h4 hb (by rw [hl]; exact hcap) hn (fun h => by rw [hti] at h; cases h)
      rw [hl] at this
      exact this
  · cases h; exact plain _ hx
  · cases h
  · cases h
  · cases h

theorem notIn_ne {α : Type} {o : Nat} : ∀ {l : List (Nat × α)}, notIn o l = true → ∀ p ∈ l, p.1 ≠ o
  | [], _, p, hp => by simp at hp
  | q :: l, h, p, hp => by
    simp only [notIn] at h
    split at h
    · cases h
    · rename_i hb
      rcases List.mem_cons.1 hp with rfl | hp
      · intro e; subst e; rw [Nat.beq_refl] at hb; cases hb
      · exact notIn_ne h p hp
theorem setObjs_ne {o : Nat} : ∀ {l : List (Nat × AObj G.T G.U)} {os : List (AObj G.T G.U)}, (∀ p ∈ l, p.1 ≠ o) → (setObjs os l)[o]? = os[o]?
  | [], _, _ => rfl
  | (n, x) :: l, os, h => by
    simp only [setObjs]
    rw [setObjs_ne fun p hp => h p (List.mem_cons_of_mem _ hp)]
    unfold setObj
    exact List.getElem?_set_ne (h (n, x) (by simp))
theorem setAt_get {α : Type} : ∀ {l : List α} {i j : Nat} {a : α}, (setAt l i a)[j]? = if i = j then (if j < l.length then some a else none) else l[j]?
  | [], i, j, a => by simp [setAt]
  | b :: l, 0, j, a => by cases j <;> simp [setAt]
  | b :: l, i + 1, j, a => by
    cases j with
    | zero => simp [setAt]
    | succ j => simp [setAt, setAt_get (l := l) (i := i)]
theorem setAt_len {α : Type} : ∀ {l : List α} {i : Nat} {a : α}, (setAt l i a).length = l.length
  | [], i, a => by simp [setAt]
  | b :: l, 0, a => by simp [setAt]
  | b :: l, i + 1, a => by simp [setAt, setAt_len (l := l)]

theorem frmV_ok {N : Nat → Prop} {f : Frm} {x : AV G.T} {v : Value} {d : AV G.T} {upd : List (Nat × AObj G.T G.U)} {new : List (AObj G.T G.U)} (L : Laws P G) (ok : OK P G F N c) (h : frmV G c.os f x = some (d, upd, new)) (hx : VR P G F c x v) :
    ∃ m', Tr G F c ⟨c.w, m', addObjs (setObjs (padTo c.os (c.os.length + new.length)) upd) c.os.length new⟩ ∧ OK P G F N ⟨c.w, m', addObjs (setObjs (padTo c.os (c.os.length + new.length)) upd) c.os.length new⟩ ∧
      VR P G F ⟨c.w, m', addObjs (setObjs (padTo c.os (c.os.length + new.length)) upd) c.os.length new⟩ d v := by
  unfold frmV at h
  split at h
  · rename_i i f o off
    split at h
    case h_2 => cases h
    rename_i bt cs ho
    have ho := getD_look ho rfl
    split at h
    case h_2 => cases h
    rename_i y hy
    split at h
    case h_2 => cases h
    rename_i q hq
    split at h
    case h_2 => cases h
    rename_i hno
    cases h
    obtain ⟨d, upd, new⟩ := q
    have hlt : o < c.os.length := (List.getElem?_eq_some_iff.1 ho).1
    have hpo : ∃ β, c.m[o]? = some β := ⟨c.m[o]'(by rw [ok.len]; exact hlt), by simp [show o < c.m.length from by rw [ok.len]; exact hlt]⟩
    obtain ⟨β, hm⟩ := hpo
    obtain ⟨b, cells, hb, hfp, hheap, hsz, hrow⟩ := ok.obj o _ β ho hm
    obtain ⟨u, hu, hyr⟩ := hrow i y hy
    rw [Nat.zero_add] at hu
    obtain ⟨m', t1, ok1, hv1⟩ := frmB_ok L ok hq hyr
    have e1 : (addObjs (setObjs (padTo c.os (c.os.length + new.length)) upd) c.os.length new)[o]? = some (.box bt cs) := by
      rw [addObjs_low hlt, setObjs_ne (notIn_ne hno)]
      rw [padTo_lt hlt]; exact ho
    have hm1 : m'[o]? = some β := by
      obtain ⟨ob, g1, g2⟩ := t1.ext o _ ho (by simp)
      rw [e1] at g1; cases g1
      rcases g2 with g2 | ⟨_, g2 | ⟨_, g2, _⟩⟩
      · cases g2
      · exact g2.trans hm
      · cases g2
    obtain ⟨t2, ok2⟩ := weak_box2 (ds' := setAt cs i d) ok1 e1 (by rw [setAt_len]) fun β2 b2 cells2 h1 h2 h3 h4 hrow2 j e he => by
      rw [hm1] at h1; cases h1
      rw [hb] at h2; cases h2
      have h3 : c.w.heap[b]? = some (.cells cells2 bt (0, 0)) := h3
      rw [hheap] at h3; cases h3
      rw [setAt_get] at he
      split at he
      · rename_i hij
        subst hij
        split at he
        · cases he; exact ⟨u, by rw [Nat.zero_add]; exact hu, hv1⟩
        · cases he
      · exact hrow2 j e he
    have hlen2 : o < (addObjs (setObjs (padTo c.os (c.os.length + new.length)) upd) c.os.length new).length := (List.getElem?_eq_some_iff.1 e1).1
    have es : addObjs (setObjs (padTo c.os (c.os.length + new.length)) (upd ++ [(o, AObj.box bt (setAt cs i d))])) c.os.length new = setObj (addObjs (setObjs (padTo c.os (c.os.length + new.length)) upd) c.os.length new) o (.box bt (setAt cs i d)) := by
      rw [setObjs_append]
      show addObjs (setObj _ o _) _ _ = _
      rw [addObjs_set hlt]
    rw [es]
    exact ⟨m', t1.trans ok1 t2, ok2, (hx.mono t1).mono t2⟩
  · cases h
    rw [show (c.os.length + ([] : List (AObj G.T G.U)).length) = c.os.length from rfl, padTo_self (Nat.le_refl _)]
    exact ⟨c.m, Tr.refl F c, ok, hx⟩
  · -- a field
    rename_i i f l
    split at h
    case h_2 => cases h
    rename_i y hy
    split at h
    case h_2 => cases h
    rename_i q hq
    cases h
    obtain ⟨d, upd, new⟩ := q
    cases hx with
    | agg _ vs hn hall =>
      have hi : i < l.length := (List.getElem?_eq_some_iff.1 hy).1
      have hv : vs[i]? = some (vs[i]'(by omega)) := by simp [show i < vs.size by omega]
      obtain ⟨m', t1, ok1, hv1⟩ := frmB_ok L ok hq (hall i y _ hy hv)
      refine ⟨m', t1, ok1, .agg _ _ (by rw [setAt_len]; exact hn) fun j e w he hw => ?_⟩
      rw [setAt_get] at he
      split at he
      · rename_i hij
        subst hij
        rw [if_pos hi] at he
        cases he; rw [hv] at hw; cases hw; exact hv1
      · exact (hall j e w he hw).mono t1
  · cases h
    rw [show (c.os.length + ([] : List (AObj G.T G.U)).length) = c.os.length from rfl, padTo_self (Nat.le_refl _)]
    exact ⟨c.m, Tr.refl F c, ok, hx⟩
  · -- a cell of an object
    rename_i o i f
    split at h
    case h_2 => cases h
    rename_i bt cs ho
    have ho := getD_look ho rfl
    split at h
    case h_2 => cases h
    rename_i y hy
    split at h
    case h_2 => cases h
    rename_i q hq
    split at h
    case h_2 => cases h
    rename_i hno
    cases h
    obtain ⟨d, upd, new⟩ := q
    have hlt : o < c.os.length := (List.getElem?_eq_some_iff.1 ho).1
    have hpo : ∃ β, c.m[o]? = some β := ⟨c.m[o]'(by rw [ok.len]; exact hlt), by simp [show o < c.m.length from by rw [ok.len]; exact hlt]⟩
    obtain ⟨β, hm⟩ := hpo
    obtain ⟨b, cells, hb, hfp, hheap, hsz, hrow⟩ := ok.obj o _ β ho hm
    obtain ⟨u, hu, hyr⟩ := hrow i y hy
    rw [Nat.zero_add] at hu
    obtain ⟨m', t1, ok1, hv1⟩ := frmB_ok L ok hq hyr
    have e1 : (addObjs (setObjs (padTo c.os (c.os.length + new.length)) upd) c.os.length new)[o]? = some (.box bt cs) := by
      rw [addObjs_low hlt, setObjs_ne (notIn_ne hno)]
      rw [padTo_lt hlt]; exact ho
    have hm1 : m'[o]? = some β := by
      obtain ⟨ob, g1, g2⟩ := t1.ext o _ ho (by simp)
      rw [e1] at g1; cases g1
      rcases g2 with g2 | ⟨_, g2 | ⟨_, g2, _⟩⟩
      · cases g2
      · exact g2.trans hm
      · cases g2
    obtain ⟨t2, ok2⟩ := weak_box2 (ds' := setAt cs i d) ok1 e1 (by rw [setAt_len]) fun β2 b2 cells2 h1 h2 h3 h4 hrow2 j e he => by
      rw [hm1] at h1; cases h1
      rw [hb] at h2; cases h2
      have h3 : c.w.heap[b]? = some (.cells cells2 bt (0, 0)) := h3
      rw [hheap] at h3; cases h3
      rw [setAt_get] at he
      split at he
      · rename_i hij
        subst hij
        split at he
        · cases he; exact ⟨u, by rw [Nat.zero_add]; exact hu, hv1⟩
        · cases he
      · exact hrow2 j e he
    have hlen2 : o < (addObjs (setObjs (padTo c.os (c.os.length + new.length)) upd) c.os.length new).length := (List.getElem?_eq_some_iff.1 e1).1
    have es : addObjs (setObjs (padTo c.os (c.os.length + new.length)) (upd ++ [(o, AObj.box bt (setAt cs i d))])) c.os.length new = setObj (addObjs (setObjs (padTo c.os (c.os.length + new.length)) upd) c.os.length new) o (.box bt (setAt cs i d)) := by
      rw [setObjs_append]
      show addObjs (setObj _ o _) _ _ = _
      rw [addObjs_set hlt]
    rw [es]
    exact ⟨m', t1.trans ok1 t2, ok2, (hx.mono t1).mono t2⟩
  · exact frmB_ok L ok h hx

theorem frms_ok (L : Laws P G) : ∀ {l : List (Nat × Frm)} {σ σ' : St G} {a : Act} {c : Cf G}, frms G l σ = some σ' → Rel P G F c0 σ a c → ∃ c', c'.w = c.w ∧ Rel P G F c0 σ' a c'
  | [], σ, σ', a, c, h, rel => by simp only [frms, Option.some.injEq] at h; subst h; exact ⟨c, rfl, rel⟩
  | (t, f) :: l, σ, σ', a, c, h, rel => by
    simp only [frms, Option.bind_eq_some_iff] at h
    obtain ⟨⟨d, upd, new⟩, h1, h2⟩ := h
    simp only at h2
    -- the value in the slot
    by_cases ht : t < a.tmps.size
    · have hts : t < σ.slots.length := by rw [rel.slots.1]; exact ht
      have hsv : σ.slots.getD t .undef = σ.slots[t] := by simp [List.getD, hts]
      have hx := rel.slots.2 t σ.slots[t] a.tmps[t] (by simp [hts]) (by simp [ht])
      rw [hsv, ← rel.objs] at h1
      obtain ⟨m', t', ok', hv⟩ := frmV_ok L rel.ok h1 hx
      have e : addObjs (setObjs (padTo c.os (c.os.length + new.length)) upd) c.os.length new = (σ.app G (some t) σ.objs.length ⟨d, upd, new⟩).objs := by rw [rel.objs]; rfl
      rw [e] at t' ok' hv
      have rel' : Rel P G F c0 (σ.app G (some t) σ.objs.length ⟨d, upd, new⟩) a ⟨c.w, m', (σ.app G (some t) σ.objs.length ⟨d, upd, new⟩).objs⟩ :=
        { objs := rfl, slots := slots_set (N := Nof c0) rel.slots t' (fun v hv2 => by rw [show a.tmps[t]? = some a.tmps[t] from by simp [ht]] at hv2; cases hv2; exact hv), defers := rel.defers, ok := ok', tr := rel.tr.trans rel.ok t' }
      obtain ⟨c2, e2, r2⟩ := frms_ok L h2 rel'
      exact ⟨c2, e2, r2⟩
    · -- out of range: undef
      have hts : ¬ t < σ.slots.length := by rw [rel.slots.1]; exact ht
      have hsv : σ.slots.getD t .undef = .undef := by simp [List.getD, List.getElem?_eq_none (Nat.le_of_not_lt hts)]
      rw [hsv, ← rel.objs] at h1
      obtain ⟨m', t', ok', hv⟩ := frmV_ok (v := undef) L rel.ok h1 (.undef _)
      have e : addObjs (setObjs (padTo c.os (c.os.length + new.length)) upd) c.os.length new = (σ.app G (some t) σ.objs.length ⟨d, upd, new⟩).objs := by rw [rel.objs]; rfl
      rw [e] at t' ok' hv
      have rel' : Rel P G F c0 (σ.app G (some t) σ.objs.length ⟨d, upd, new⟩) a ⟨c.w, m', (σ.app G (some t) σ.objs.length ⟨d, upd, new⟩).objs⟩ :=
        { objs := rfl, slots := slots_set (N := Nof c0) rel.slots t' (fun v hv2 => absurd (Array.getElem?_eq_some_iff.1 hv2).1 ht), defers := rel.defers, ok := ok', tr := rel.tr.trans rel.ok t' }
      obtain ⟨c2, e2, r2⟩ := frms_ok L h2 rel'
      exact ⟨c2, e2, r2⟩

-- new names ---------------------------------------------------------------------------------------------------------------------
theorem dedup_nodup : ∀ {l acc : List Nat}, acc.Nodup → (dedup l acc).Nodup
  | [], acc, h => h
  | o :: l, acc, h => by
    simp only [dedup]
    split
    · exact dedup_nodup h
    · rename_i hm
      refine dedup_nodup (List.nodup_append.2 ⟨h, by simp, fun p hp q hq => ?_⟩)
      simp at hq; subst hq
      exact fun e => lmem_false hm (e ▸ hp)
theorem dedup_pre : ∀ {l acc : List Nat} {i : Nat}, i < acc.length → (dedup l acc)[i]? = acc[i]?
  | [], acc, i, h => rfl
  | o :: l, acc, i, h => by
    simp only [dedup]
    split
    · exact dedup_pre h
    · rw [dedup_pre (by simp; omega), List.getElem?_append_left h]

theorem gc_ok (L : Laws P G) {σ : St G} {a : Act} (rel : Rel P G F c0 σ a c) : ∃ c', c'.w = c.w ∧ Rel P G F c0 (gc G c0.os.length σ) a c' := by
  let p := c0.os.length
  let ns := dedup (reachP G σ.objs 1024 (List.range p ++ namesL σ.slots) []) (List.range p)
  have hnd : ns.Nodup := dedup_nodup List.nodup_range
  have hpre : ∀ i, i < p → ns[i]? = some i := fun i hi => by
    show (dedup _ _)[i]? = _
    rw [dedup_pre (by simpa using hi)]; simp [hi]
  let c2 : Cf G := ⟨c.w, ns.map fun o => c.m.getD o ⟨none, 0, [], {}⟩, ns.map fun o => renO (posIn ns) (σ.objs.getD o .free)⟩
  have inv : ∀ (j : Nat) (y : AObj G.T G.U) (β : Blk), c2.os[j]? = some y → c2.m[j]? = some β → y = .free ∨ ∃ o x, ns[j]? = some o ∧ c.os[o]? = some x ∧ y = renO (posIn ns) x ∧ c.m[o]? = some β := by
    intro j y β h1 h2
    simp only [c2, List.getElem?_map, Option.map_eq_some_iff] at h1 h2
    obtain ⟨o, ho, rfl⟩ := h1
    obtain ⟨o', ho', rfl⟩ := h2
    rw [ho] at ho'; cases ho'
    rw [← rel.objs]
    by_cases hlt : o < c.os.length
    · right
      have hx : c.os[o]? = some c.os[o] := by simp [hlt]
      have hlm : o < c.m.length := by rw [rel.ok.len]; exact hlt
      exact ⟨o, c.os[o], ho, hx, by simp [List.getD, hlt], by simp [List.getD, hlm]⟩
    · left
      have : c.os[o]? = none := List.getElem?_eq_none (by omega)
      simp [List.getD, this, renO]
  have inj : ∀ (j j' o : Nat), ns[j]? = some o → ns[j']? = some o → j = j' := fun j j' o h h' => by
    have e : ns[j]? = ns[j']? := h.trans h'.symm
    exact (List.getElem?_inj (List.getElem?_eq_some_iff.1 h).1 hnd).1 e
  have ren : RenOK (posIn ns) c c2 := by
    intro o j hj obj hobj hf
    have hj := posIn_inv hj
    have hlt := (List.getElem?_eq_some_iff.1 hobj).1
    have hlm : o < c.m.length := by rw [rel.ok.len]; exact hlt
    have hgd : σ.objs.getD o .free = obj := by rw [← rel.objs]; simp [List.getD, hobj]
    refine ⟨renO (posIn ns) obj, by show (ns.map fun o => renO (posIn ns) (σ.objs.getD o .free))[j]? = _; rw [List.getElem?_map, hj]; simp only [Option.map_some, hgd], ?_⟩
    by_cases hd : obj = .dead
    · subst hd; exact .inl rfl
    · refine .inr ⟨renO_same.2 (Same.refl_live' hd hf), ?_⟩
      show (ns.map fun o => c.m.getD o ⟨none, 0, [], {}⟩)[j]? = _
      simp [hj, List.getD, hlm]
  have av : ∀ b, Av G F c2 b → Av G F c b := by
    rintro b (hf | ⟨j, y, β, h1, h2, h3, h4⟩)
    · exact .inl hf
    · rcases inv j y β h1 h2 with rfl | ⟨o, x, ho, hx, rfl, hm⟩
      · simp [isMut] at h3
      · rw [renO_mut] at h3
        exact .inr ⟨o, x, β, hx, hm, h3, h4⟩
  have mv : ∀ b, Mv G c2 b → Mv G c b := by
    rintro b ⟨j, y, β, h1, h2, h3, h4⟩
    rcases inv j y β h1 h2 with rfl | ⟨o, x, ho, hx, rfl, hm⟩
    · simp [isMut] at h3
    · rw [renO_mut] at h3
      exact ⟨o, x, β, hx, hm, h3, h4⟩
  have lv : ∀ b, Lv G c2 b → Lv G c b := by
    rintro b ⟨j, y, β, h1, h2, h3, h4⟩
    rcases inv j y β h1 h2 with rfl | ⟨o, x, ho, hx, rfl, hm⟩
    · simp [isLive] at h3
    · rw [renO_live] at h3
      exact ⟨o, x, β, hx, hm, h3, h4⟩
  have ok2 : OK P G F (Nof c0) c2 := by
    constructor
    · simp [c2]
    · intro j y β h1 h2
      rcases inv j y β h1 h2 with rfl | ⟨o, x, ho, hx, rfl, hm⟩
      · trivial
      · exact ObjR.ren (c := c) (c' := c2) L rfl ren (rel.ok.obj o x β hx hm) (fun _ b hb => av b hb) (fun _ b hb => mv b hb)
    · intro j y β h1 h2 hl b hb
      rcases inv j y β h1 h2 with rfl | ⟨o, x, ho, hx, rfl, hm⟩
      · simp [isLive] at hl
      · rw [renO_live] at hl; exact rel.ok.own o x β hx hm hl b hb
    · intro j y β h1 h2 hl b hb
      rcases inv j y β h1 h2 with rfl | ⟨o, x, ho, hx, rfl, hm⟩
      · simp [isMut] at hl
      · rw [renO_mut] at hl; exact rel.ok.wr o x β hx hm hl b hb
    · intro j j' y y' β β' h1 h2 h3 h4 hl hl' hne b hb hb'
      rcases inv j y β h1 h3 with rfl | ⟨o, x, ho, hx, rfl, hm⟩
      · simp [isLive] at hl
      · rcases inv j' y' β' h2 h4 with rfl | ⟨o', x', ho', hx', rfl, hm'⟩
        · simp [isLive] at hl'
        · rw [renO_live] at hl hl'
          exact rel.ok.apart o o' x x' β β' hx hx' hm hm' hl hl' (fun e => hne (inj j j' o ho (e ▸ ho'))) b hb hb'
    · exact rel.ok.low
    · intro b v hb
      refine ⟨(rel.ok.gl b v hb).1, ?_⟩
      rintro ⟨j, y, β, h1, h2, h3, h4⟩
      rcases inv j y β h1 h2 with rfl | ⟨o, x, ho, hx, rfl, hm⟩
      · simp [isLive] at h3
      · rw [renO_live] at h3; exact (rel.ok.gl b v hb).2 ⟨o, x, β, hx, hm, h3, h4⟩
  refine ⟨c2, rfl, { objs := rfl, slots := ⟨?_, ?_⟩, defers := rel.defers, ok := ok2, tr := ?_ }⟩
  · show (renL (posIn ns) σ.slots).length = _
    rw [renL_length]; exact rel.slots.1
  · intro t d v hd hv
    obtain ⟨e, he, rfl⟩ := renL_get hd
    exact VR.ren (c := c) (c' := c2) L rfl ren (rel.slots.2 t e v he hv) (fun _ b hb => av b hb) (fun _ b hb => mv b hb)
  · exact {
      sys := rel.tr.sys
      size := rel.tr.size
      keep := rel.tr.keep
      ext := fun o obj ho hf => by
        have hop : o < p := (List.getElem?_eq_some_iff.1 ho).1
        obtain ⟨x, h1, h2⟩ := rel.tr.ext o obj ho hf
        have hgd : σ.objs.getD o .free = x := by rw [← rel.objs]; simp [List.getD, h1]
        have hlm : o < c.m.length := by rw [rel.ok.len]; exact (List.getElem?_eq_some_iff.1 h1).1
        refine ⟨renO (posIn ns) x, by show (ns.map fun o => renO (posIn ns) (σ.objs.getD o .free))[o]? = _; rw [List.getElem?_map, hpre o hop]; simp only [Option.map_some, hgd], ?_⟩
        rcases h2 with rfl | ⟨h2, h3⟩
        · exact .inl rfl
        · refine .inr ⟨renO_same.2 h2, ?_⟩
          have e : (ns.map fun o => c.m.getD o ⟨none, 0, [], {}⟩)[o]? = c.m[o]? := by
            simp [hpre o hop, List.getD, hlm]
          rcases h3 with h3 | ⟨h3, h5, h4⟩
          · exact .inl (e.trans h3)
          · refine .inr ⟨h3, by rw [renO_usr]; exact h5, ?_⟩
            show MLe _ (ns.map fun o => c.m.getD o ⟨none, 0, [], {}⟩)[o]?
            rw [e]; exact h4
      mv := fun b hb h => rel.tr.mv b hb (mv b h)
      fz := rel.tr.fz
      lv := fun b hb h => rel.tr.lv b hb (lv b h) }

theorem nrm_ok (L : Laws P G) {n : Nrm} {σ σ' : St G} {a : Act} (h : nrm G c0.os.length n σ = some σ') (rel : Rel P G F c0 σ a c) : ∃ c', c'.w = c.w ∧ Rel P G F c0 σ' a c' := by
  unfold nrm at h
  rw [Option.map_eq_some_iff] at h
  obtain ⟨σ1, h1, rfl⟩ := h
  obtain ⟨c1, e1, r1⟩ := frms_ok L h1 (rel.keep n.live)
  obtain ⟨c2, e2, r2⟩ := gc_ok L r1
  exact ⟨c2, e2.trans e1, r2⟩

theorem nrmThen_ok {S : Tab G} {fr : Nat → Sm G} {R : Type} (L : Laws P G) {n : Nrm} {σ : St G} {a : Act} {K : St G → Option R} {r : R} (h : nrmThen G (ro G S fr R) c0.os.length n σ K = some r) (rel : Rel P G F c0 σ a c) :
    ∃ σ' c', c'.w = c.w ∧ Rel P G F c0 σ' a c' ∧ K σ' = some r := by
  unfold nrmThen at h
  split at h
  · rename_i σ' hn
    rw [forceK_eq] at h
    obtain ⟨c', e, r'⟩ := nrm_ok L hn rel
    exact ⟨σ', c', e, r', h⟩
  · exact absurd h (by simp [ro])

-- a draw ---------------------------------------------------------------------------------------------------------------------
theorem drew_tr (F : Nat → Prop) (c : Cf G) : Tr G F c ⟨c.w.drew, c.m, c.os⟩ where
  sys := ⟨rfl, rfl, rfl⟩
  size := Nat.le_refl _
  keep := fun _ _ _ => rfl
  ext := fun o obj ho hf => ⟨obj, ho, by cases obj <;> simp_all [Same]⟩
  mv := fun _ _ h => h
  fz := fun _ h => h
  lv := fun _ _ h => h

theorem Rel.drew {σ : St G} {a : Act} (h : Rel P G F c0 σ a c) : Rel P G F c0 σ a ⟨c.w.drew, c.m, c.os⟩ where
  objs := h.objs
  slots := ⟨h.slots.1, fun t d v hd hv => (h.slots.2 t d v hd hv).mono (drew_tr F c)⟩
  defers := h.defers
  ok := {
    len := h.ok.len
    obj := fun o obj β h1 h2 => (h.ok.obj o obj β h1 h2).mono (drew_tr F c) fun _ _ _ => rfl
    own := h.ok.own, wr := h.ok.wr, apart := h.ok.apart, low := h.ok.low, gl := h.ok.gl.step (drew_tr F c) }
  tr := h.tr.trans h.ok (drew_tr F c)

-- code ------------------------------------------------------------------------------------------------------------------------
def AE.exit' : AE → Exit
  | .normal => .normal
  | .exit id => .exit id
  | .ret => .ret

/-- a summary of a piece of code -/
def FragOK (P : Program) (G : Sig) (p : Nat) (cd : Code) (Z : Sm G) : Prop :=
  ∀ (R : Type) (σ : St G) (K : AE → St G → Option R) (r : R), Z R σ K = some r → ∀ (F : Nat → Prop) (c0 : Cf G) (a : Act) (c : Cf G) (Q : Exit → Act → World → Prop),
    c0.os.length = p → Rel P G F c0 σ a c → (∀ e σ' a' c', Rel P G F c0 σ' a' c' → K e σ' = some r → Q e.exit' a' c'.w) → cd.wp P Q a c.w

theorem exec_sound {S : Tab G} {fr : Nat → Sm G} {R : Type} (L : Laws P G) (FN : FnOK P G) (hS : TabOK P G S) : ∀ (cd : Code) (n : Ann) (σ : St G) (K : AE → St G → Option R) (r : R) (a : Act) (c : Cf G) (Q : Exit → Act → World → Prop),
    (∀ q ∈ uses cd n, FragOK P G c0.os.length q.2 (fr q.1)) → exec P G (ro G S fr R) c0.os.length cd n σ K = some r → Rel P G F c0 σ a c → (∀ e σ' a' c', Rel P G F c0 σ' a' c' → K e σ' = some r → Q e.exit' a' c'.w) → cd.wp P Q a c.w := by
  intro cd
  induction cd with
  | skip => intro n σ K r a c Q hu h rel hQ; exact wp_skip (hQ .normal σ a c rel h)
  | label l => intro n σ K r a c Q hu h rel hQ; exact wp_label (hQ .normal σ a c rel h)
  | exit id => intro n σ K r a c Q hu h rel hQ; exact wp_exit (hQ (.exit id) σ a c rel h)
  | ret => intro n σ K r a c Q hu h rel hQ; exact wp_ret (hQ .ret σ a c rel h)
  | goto l => intro n σ K r a c Q hu h rel hQ; exact absurd h (by simp [exec, ro])
  | refuse w => intro n σ K r a c Q hu h rel hQ; exact absurd h (by simp [exec, ro])
  | scope x ih => intro n σ K r a c Q hu h rel hQ; exact absurd h (by simp [exec, ro])
  | rangeFunc f ps x y ih1 ih2 => intro n σ K r a c Q hu h rel hQ; exact absurd h (by simp [exec, ro])
  | region id ops draw =>
    intro n σ K r a c Q hu h rel hQ
    simp only [exec] at h
    split at h
    · rename_i hd
      subst hd
      split at h
      case isFalse => exact absurd h (by simp [ro])
      rename_i hfol
      split at h
      case isFalse => exact absurd h (by simp [ro])
      rename_i hedge
      refine wp_region_any hfol ?_
      have relp := (rel.drew).pad (σ.objs.length + 6 * ops.toList.length)
      have hlen : (padTo σ.objs (σ.objs.length + 6 * ops.toList.length)).length = σ.objs.length + 6 * ops.toList.length := by rw [padTo_len]; omega
      obtain ⟨E, σ2, h1, h2, h3, h4, h5, h6⟩ := draw_inv hS h hlen (by omega)
      rw [forceK_eq] at h2
      have hEi : ∀ x ∈ E, ops[x.i]? = some x.o := by
        intro x hx
        obtain ⟨j, hj⟩ := mem_get? hx
        have a1 : (E.map (·.i))[j]? = some x.i := by simp [hj]
        have a2 : (E.map (·.o))[j]? = some x.o := by simp [hj]
        rw [h4] at a1
        rw [h3] at a2
        have hjl : j < ops.toList.length := by have := (List.getElem?_eq_some_iff.1 a1).1; simpa using this
        rw [List.getElem?_range' hjl] at a1
        simp at a1
        rw [← a1]; simpa using a2
      have hmem : ∀ i, i ∈ E.map (·.i) ↔ i < ops.size := fun i => by rw [h4, List.mem_range'_1]; simp
      refine any_sound (N := σ.objs.length) (M := σ.objs.length + 6 * ops.toList.length) L FN hedge (fun a' c' rel' => ?_) ops.size (Array.replicate ops.size false) _ a _ E relp h1 h6 hEi (by simp) (fun i hi => ?_) (by rw [h4]; exact List.nodup_range') ?_ hlen ?_ ?_
      · obtain ⟨c2, e2, r2⟩ := gc_ok L rel'
        rw [← e2]
        exact hQ .normal _ a' c2 r2 h2
      · have h0 : (Array.replicate ops.size false).getD i true = false := by simp [Array.getD, hi]
        rw [h0, hmem]; simp [hi]
      · intro i o ho hl
        simp only [Array.getD] at hl
        split at hl
        · simp at hl
        · cases hl
      · intro x hx n h7 h8
        have : x.i < ops.toList.length := by have := (hmem x.i).1 (List.mem_map.2 ⟨x, hx, rfl⟩); simpa using this
        exact padTo_free (by omega) (by omega)
      · have : E.length = (E.map (·.i)).length := by simp
        rw [this, h4]; simp
    · rename_i hd
      have hd : draw = false := by simpa using hd
      subst hd
      refine wp_region ?_
      have := opsRun_sound (Q := Q) (pre := []) L FN hS h rfl rel fun σ' a' c' rel' hk => hQ .normal σ' a' c' rel' hk
      rw [List.range_eq_range']
      simpa using this
  | seq x y ih1 ih2 =>
    intro n σ K r a c Q hu h rel hQ
    have main : ∀ n : Ann, (∀ q ∈ uses x n.a ++ uses y n.b, FragOK P G c0.os.length q.2 (fr q.1)) → (exec P G (ro G S fr R) c0.os.length x n.a σ fun e σ' => match e with | .normal => exec P G (ro G S fr R) c0.os.length y n.b σ' K | e => K e σ') = some r → (Code.seq x y).wp P Q a c.w := by
      clear h hu n
      intro n hu h
      refine wp_seq (ih1 n.a σ _ r a c _ (fun q hq => hu q (List.mem_append.2 (.inl hq))) h rel fun e σ' a' c' rel' hk => ?_)
      cases e with
      | normal => exact ih2 n.b σ' K r a' c' Q (fun q hq => hu q (List.mem_append.2 (.inr hq))) hk rel' hQ
      | exit id => exact hQ (.exit id) σ' a' c' rel' hk
      | ret => exact hQ .ret σ' a' c' rel' hk
    cases n with
    | use i => exact hu (i, .seq x y) (by simp [uses]) R σ K r h F c0 a c Q rfl rel hQ
    | no => exact main .no hu h
    | nd u v => exact main (.nd u v) hu h
  | cond b x y ih1 ih2 =>
    intro n σ K r a c Q hu h rel hQ
    have main : ∀ n : Ann, (∀ q ∈ uses x n.a ++ uses y n.b, FragOK P G c0.os.length q.2 (fr q.1)) → (match opnd G σ b with
      | .lit (.bool t) => (match (generalizing := false) b with
        | .tmp d => (ro G S fr R).ite t (setLit G σ d true fun σ => exec P G (ro G S fr R) c0.os.length x n.a σ K) (setLit G σ d false fun σ => exec P G (ro G S fr R) c0.os.length y n.b σ K)
        | _ => (ro G S fr R).ite t (exec P G (ro G S fr R) c0.os.length x n.a σ K) (exec P G (ro G S fr R) c0.os.length y n.b σ K))
      | .bl lo hi => (ro G S fr R).ite lo (exec P G (ro G S fr R) c0.os.length x n.a σ K) ((ro G S fr R).ite hi ((ro G S fr R).both (exec P G (ro G S fr R) c0.os.length x n.a σ K) (exec P G (ro G S fr R) c0.os.length y n.b σ K)) (exec P G (ro G S fr R) c0.os.length y n.b σ K))
      | _ => (ro G S fr R).fail) = some r → (Code.cond b x y).wp P Q a c.w := by
      clear h hu n
      intro n hu h
      split at h
      · rename_i t ht
        have hb := opnd_rel (os := σ.objs) rel.slots b
        have ht' : opnd G ⟨σ.slots, σ.objs⟩ b = .lit (.bool t) := ht
        rw [ht'] at hb
        have hb := hb.lit_inv
        replace h : (ro G S fr R).ite t (exec P G (ro G S fr R) c0.os.length x n.a σ K) (exec P G (ro G S fr R) c0.os.length y n.b σ K) = some r := by
          cases b with
          | tmp d =>
            have hd : σ.slots.getD d .undef = .lit (.bool t) := ht
            cases t
            · have h2 := ite_false h; rw [setLit_eq hd] at h2; exact h2
            · have h2 := ite_true h; rw [setLit_eq hd] at h2; exact h2
          | const v => exact h
          | global g => exact h
          | func f => exact h
        refine wp_cond_split hb (fun e => ?_) (fun e => ?_)
        · subst e; exact ih1 n.a σ K r a c Q (fun q hq => hu q (List.mem_append.2 (.inl hq))) h rel hQ
        · subst e; exact ih2 n.b σ K r a c Q (fun q hq => hu q (List.mem_append.2 (.inr hq))) h rel hQ
      · rename_i lo hi ht
        have hb := opnd_rel (os := σ.objs) rel.slots b
        have ht' : opnd G ⟨σ.slots, σ.objs⟩ b = .bl lo hi := ht
        rw [ht'] at hb
        obtain ⟨t, hb, h1, h2⟩ : ∃ t, a.eval b = .bool t ∧ (lo = true → t = true) ∧ (t = true → hi = true) := by
          revert hb
          generalize a.eval b = v
          intro hb
          cases hb with
          | bl _ _ t h1 h2 => exact ⟨t, rfl, h1, h2⟩
        refine wp_cond_split hb (fun e => ?_) (fun e => ?_)
        · have hx : exec P G (ro G S fr R) c0.os.length x n.a σ K = some r := by
            cases lo with
            | true => exact ite_true h
            | false =>
              have h3 := ite_false h
              rw [h2 e] at h3
              exact (both_inv (ite_true h3)).1
          exact ih1 n.a σ K r a c Q (fun q hq => hu q (List.mem_append.2 (.inl hq))) hx rel hQ
        · have hx : exec P G (ro G S fr R) c0.os.length y n.b σ K = some r := by
            cases lo with
            | true => rw [h1 rfl] at e; cases e
            | false =>
              have h3 := ite_false h
              cases hi with
              | false => exact ite_false h3
              | true => exact (both_inv (ite_true h3)).2
          exact ih2 n.b σ K r a c Q (fun q hq => hu q (List.mem_append.2 (.inr hq))) hx rel hQ
      · exact absurd h (by simp [ro])
    cases n with
    | use i => exact hu (i, .cond b x y) (by simp [uses]) R σ K r h F c0 a c Q rfl rel hQ
    | no => exact main .no hu h
    | nd u v => exact main (.nd u v) hu h
  | block id x ih =>
    intro n σ K r a c Q hu h rel hQ
    have main : ∀ n : Ann, (∀ q ∈ uses x n.a, FragOK P G c0.os.length q.2 (fr q.1)) → (exec P G (ro G S fr R) c0.os.length x n.a σ fun e σ' => match e with | .exit id' => if id' = id then K .normal σ' else K (.exit id') σ' | e => K e σ') = some r → (Code.block id x).wp P Q a c.w := by
      clear h hu n
      intro n hu h
      refine wp_block (ih n.a σ _ r a c _ hu h rel fun e σ' a' c' rel' hk => ?_)
      cases e with
      | normal => exact hQ .normal σ' a' c' rel' hk
      | exit id' =>
        simp only at hk
        show Exit.inBlock id Q (.exit id') a' c'.w
        simp only [Exit.inBlock]
        split at hk
        · rename_i hid; rw [if_pos hid]; exact hQ .normal σ' a' c' rel' hk
        · rename_i hid; rw [if_neg hid]; exact hQ (.exit id') σ' a' c' rel' hk
      | ret => exact hQ .ret σ' a' c' rel' hk
    cases n with
    | use i => exact hu (i, .block id x) (by simp [uses]) R σ K r h F c0 a c Q rfl rel hQ
    | no => exact main .no hu h
    | nd u v => exact main (.nd u v) hu h
  | loop x ih =>
    intro n σ K r a c Q hu h rel hQ
    simp only [exec] at h
    simp only [uses] at hu
    split at h
    · rename_i i
      exact hu (i, .loop x) (by simp) R σ K r h F c0 a c Q rfl rel hQ
    · exact absurd h (by simp [ro])

end
end Go.Proofs.Ytjfmfpnnjgfffaa.Am
