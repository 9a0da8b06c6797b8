/- The abstract machine: calls. -/
import Derived.Test.YtjfmfpnnjgfffaaAmRen
namespace Go.Proofs.Ytjfmfpnnjgfffaa.Am
open Go
set_option autoImplicit false
set_option linter.unusedVariables false
set_option linter.unusedSectionVars false
set_option linter.unusedSimpArgs false

section lists
variable {T U : Nat → Type}

theorem setObj_len {os : List (AObj T U)} {o : Nat} {x : AObj T U} : (setObj os o x).length = os.length := by simp [setObj]

theorem setObjs_len : ∀ {upd : List (Nat × AObj T U)} {os : List (AObj T U)}, (setObjs os upd).length = os.length
  | [], os => rfl
  | (o, x) :: upd, os => by simp only [setObjs]; rw [setObjs_len, setObj_len]

theorem setObjs_other : ∀ {upd : List (Nat × AObj T U)} {os : List (AObj T U)} {o : Nat}, (∀ p ∈ upd, p.1 ≠ o) → (setObjs os upd)[o]? = os[o]?
  | [], os, o, _ => rfl
  | (q, x) :: upd, os, o, hne => by
    simp only [setObjs]
    rw [setObjs_other (fun p hp => hne p (by simp [hp]))]
    exact List.getElem?_set_ne (hne (q, x) (by simp))

theorem zip_fst : ∀ {ns : List Nat} {xs : List (AObj T U)} {p : Nat × AObj T U}, p ∈ ns.zip xs → p.1 ∈ ns
  | [], xs, p, h => by simp at h
  | n :: ns, [], p, h => by simp at h
  | n :: ns, x :: xs, p, h => by
    rw [List.zip_cons_cons] at h
    rcases List.mem_cons.1 h with rfl | h
    · simp
    · simp [zip_fst h]

theorem setObjs_zip : ∀ {ns : List Nat} {xs : List (AObj T U)} {os : List (AObj T U)}, ns.Nodup → (∀ n ∈ ns, n < os.length) → ∀ {j o : Nat} {x : AObj T U}, ns[j]? = some o → xs[j]? = some x → (setObjs os (ns.zip xs))[o]? = some x
  | [], xs, os, _, _, j, o, x, h, _ => by simp at h
  | n :: ns, [], os, _, _, j, o, x, _, h => by simp at h
  | n :: ns, y :: xs, os, hd, hl, j, o, x, h1, h2 => by
    rw [List.zip_cons_cons]
    simp only [setObjs]
    have h0 := hl n (by simp)
    have hd' := List.nodup_cons.1 hd
    cases j with
    | zero =>
      simp at h1 h2; subst h1 h2
      rw [setObjs_other (upd := ns.zip xs) (os := setObj os n y) (o := n) (fun p hp e => hd'.1 (by rw [← e]; exact zip_fst hp))]
      exact List.getElem?_set_self h0
    | succ j =>
      simp at h1 h2
      exact setObjs_zip hd'.2 (fun m hm => by rw [setObj_len]; exact hl m (by simp [hm])) h1 h2

theorem addObjs_len : ∀ {l : List (AObj T U)} {os : List (AObj T U)} {nb : Nat}, (addObjs os nb l).length = os.length
  | [], os, nb => rfl
  | x :: l, os, nb => by simp only [addObjs]; rw [addObjs_len, setObj_len]

theorem addObjs_other : ∀ {l : List (AObj T U)} {os : List (AObj T U)} {nb o : Nat}, (o < nb ∨ nb + l.length ≤ o) → (addObjs os nb l)[o]? = os[o]?
  | [], os, nb, o, _ => rfl
  | x :: l, os, nb, o, h => by
    simp only [addObjs]
    rw [addObjs_other (by simp at h; omega)]
    exact List.getElem?_set_ne (by simp at h; omega)

theorem addObjs_new : ∀ {l : List (AObj T U)} {os : List (AObj T U)} {nb i : Nat} {x : AObj T U}, nb + l.length ≤ os.length → l[i]? = some x → (addObjs os nb l)[nb + i]? = some x
  | [], os, nb, i, x, _, h => by simp at h
  | y :: l, os, nb, i, x, h, hx => by
    simp only [addObjs]
    simp at h
    cases i with
    | zero =>
      simp at hx; subst hx
      rw [addObjs_other (by omega)]
      exact List.getElem?_set_self (by omega)
    | succ i =>
      simp at hx
      have := addObjs_new (os := setObj os nb y) (nb := nb + 1) (by rw [setObj_len]; omega) hx
      rw [show nb + (i + 1) = nb + 1 + i from by omega]; exact this

def setM (m : List Blk) (nb : Nat) : List Blk → List Blk
  | [] => m
  | β :: l => setM (m.set nb β) (nb + 1) l
theorem setM_len : ∀ {l : List Blk} {m : List Blk} {nb : Nat}, (setM m nb l).length = m.length
  | [], m, nb => rfl
  | x :: l, m, nb => by simp only [setM]; rw [setM_len]; simp
theorem setM_other : ∀ {l : List Blk} {m : List Blk} {nb o : Nat}, (o < nb ∨ nb + l.length ≤ o) → (setM m nb l)[o]? = m[o]?
  | [], m, nb, o, _ => rfl
  | x :: l, m, nb, o, h => by
    simp only [setM]
    rw [setM_other (by simp at h; omega)]
    exact List.getElem?_set_ne (by simp at h; omega)
def setMz (m : List Blk) : List (Nat × Blk) → List Blk
  | [] => m
  | (o, β) :: l => setMz (m.set o β) l
theorem setMz_len : ∀ {l : List (Nat × Blk)} {m : List Blk}, (setMz m l).length = m.length
  | [], m => rfl
  | (o, β) :: l, m => by simp only [setMz]; rw [setMz_len]; simp
theorem setMz_other : ∀ {l : List (Nat × Blk)} {m : List Blk} {o : Nat}, (∀ p ∈ l, p.1 ≠ o) → (setMz m l)[o]? = m[o]?
  | [], m, o, _ => rfl
  | (q, x) :: l, m, o, hne => by
    simp only [setMz]
    rw [setMz_other (fun p hp => hne p (by simp [hp]))]
    exact List.getElem?_set_ne (hne (q, x) (by simp))
theorem zipM_fst : ∀ {ns : List Nat} {xs : List Blk} {p : Nat × Blk}, p ∈ ns.zip xs → p.1 ∈ ns
  | [], xs, p, h => by simp at h
  | n :: ns, [], p, h => by simp at h
  | n :: ns, x :: xs, p, h => by
    rw [List.zip_cons_cons] at h
    rcases List.mem_cons.1 h with rfl | h
    · simp
    · simp [zipM_fst h]
theorem setMz_zip : ∀ {ns : List Nat} {xs : List Blk} {m : List Blk}, ns.Nodup → (∀ n ∈ ns, n < m.length) → ∀ {j o : Nat} {x : Blk}, ns[j]? = some o → xs[j]? = some x → (setMz m (ns.zip xs))[o]? = some x
  | [], xs, m, _, _, j, o, x, h, _ => by simp at h
  | n :: ns, [], m, _, _, j, o, x, _, h => by simp at h
  | n :: ns, y :: xs, m, hd, hl, j, o, x, h1, h2 => by
    rw [List.zip_cons_cons]
    simp only [setMz]
    have h0 := hl n (by simp)
    have hd' := List.nodup_cons.1 hd
    cases j with
    | zero =>
      simp at h1 h2; subst h1 h2
      rw [setMz_other (fun p hp e => hd'.1 (by rw [← e]; exact zipM_fst hp))]
      exact List.getElem?_set_self h0
    | succ j =>
      simp at h1 h2
      exact setMz_zip hd'.2 (fun q hq => by rw [List.length_set]; exact hl q (by simp [hq])) h1 h2
theorem setM_new : ∀ {l : List Blk} {m : List Blk} {nb i : Nat} {x : Blk}, nb + l.length ≤ m.length → l[i]? = some x → (setM m nb l)[nb + i]? = some x
  | [], m, nb, i, x, _, h => by simp at h
  | y :: l, m, nb, i, x, h, hx => by
    simp only [setM]
    simp at h
    cases i with
    | zero =>
      simp at hx; subst hx
      rw [setM_other (by omega)]
      exact List.getElem?_set_self (by omega)
    | succ i =>
      simp at hx
      have := setM_new (m := m.set nb y) (nb := nb + 1) (by simp; omega) hx
      rw [show nb + (i + 1) = nb + 1 + i from by omega]; exact this
end lists

theorem posFrom_inv {o : Nat} : ∀ {ns : List Nat} {i j : Nat}, posFrom o i ns = some j → i ≤ j ∧ ns[j - i]? = some o
  | [], i, j, h => by simp [posFrom] at h
  | n :: ns, i, j, h => by
    simp only [posFrom] at h
    split at h
    · rename_i e
      have := Nat.eq_of_beq_eq_true e
      cases h
      exact ⟨Nat.le_refl _, by simp [this]⟩
    · obtain ⟨h1, h2⟩ := posFrom_inv h
      refine ⟨by omega, ?_⟩
      rw [show j - i = (j - (i + 1)) + 1 from by omega]; simpa using h2
theorem posIn_inv {ns : List Nat} {o j : Nat} (h : posIn ns o = some j) : ns[j]? = some o := by
  have := posFrom_inv h; simpa using this.2

theorem lmem_true {o : Nat} : ∀ {l : List Nat}, lmem o l = true → o ∈ l
  | [], h => by simp [lmem] at h
  | x :: l, h => by
    simp only [lmem] at h
    split at h
    · rename_i e; simp [Nat.eq_of_beq_eq_true e]
    · simp [lmem_true h]
theorem lmem_false {o : Nat} : ∀ {l : List Nat}, lmem o l = false → o ∉ l
  | [], h => by simp
  | x :: l, h => by
    simp only [lmem] at h
    split at h
    · cases h
    · rename_i e
      simp only [List.mem_cons, not_or]
      refine ⟨fun hh => ?_, lmem_false h⟩
      subst hh
      simp [Nat.beq_refl] at e

section
variable {P : Program} {G : Sig} {F F' N : Nat → Prop} {c c' c'' : Cf G}

theorem reach_ok : ∀ {n : Nat} {l : List Nat} {acc rs : List (Nat × AObj G.T G.U)} {lg : List Nat}, Runs P G c.os (reach G n l acc) lg rs → (acc.map (·.1)).Nodup → (∀ p ∈ acc, isLive p.2 = true ∧ c.os[p.1]? = some p.2) →
    (rs.map (·.1)).Nodup ∧ ∀ p ∈ rs, isLive p.2 = true ∧ c.os[p.1]? = some p.2
  | 0, l, acc, rs, lg, h, _, _ => by simp only [reach] at h; exact h.fail_inv.elim
  | n + 1, [], acc, rs, lg, h, h1, h2 => by
    simp only [reach] at h
    obtain ⟨rfl, -⟩ := h.pure_inv; exact ⟨h1, h2⟩
  | n + 1, o :: l, acc, rs, lg, h, h1, h2 => by
    simp only [reach] at h
    split at h
    · exact reach_ok h h1 h2
    · rename_i hm
      obtain ⟨lg', rfl, g⟩ := h.look_inv
      split at g
      · exact reach_ok g h1 h2
      · exact reach_ok g h1 h2
      · rename_i hx hx2
        have hl : isLive (c.os.getD o .free) = true := by
          cases hh : c.os.getD o .free <;> simp_all [isLive]
        have ho := getD_look rfl hl
        refine reach_ok g ?_ fun p hp => ?_
        · simp only [List.map_append, List.map_cons, List.map_nil]
          rw [List.nodup_append]
          refine ⟨h1, by simp, fun a ha b hb => ?_⟩
          simp at hb; subst hb
          exact fun e => lmem_false hm (e ▸ ha)
        · rcases List.mem_append.1 hp with hp | hp
          · exact h2 p hp
          · simp at hp; subst hp; exact ⟨hl, ho⟩

theorem snaps_ok {m : List Bool} {xs ds : List (AV G.T)} {vs : List Value} {l : List Nat} {upd : List (Nat × AObj G.T G.U)} (L : Laws P G) (ok : OK P G F N c) (h : Runs P G c.os (snaps G m xs) l (ds, upd)) (hlen : xs.length = vs.length)
    (hx : ∀ (i : Nat) (d : AV G.T) (v : Value), xs[i]? = some d → vs[i]? = some v → VR P G F c d v) :
    ds.length = xs.length ∧ (∀ p ∈ upd, FU c.os p) ∧
    ∀ os', Frz c.os os' → (∀ p ∈ upd, os'[p.1]? = some p.2) → ∀ (i : Nat) (d : AV G.T) (v : Value), ds[i]? = some d → vs[i]? = some v → VR P G F ⟨c.w, c.m, os'⟩ d v := by
  induction xs generalizing m ds vs l upd with
  | nil =>
    simp only [snaps] at h
    obtain ⟨e, -⟩ := h.pure_inv; cases e
    exact ⟨rfl, fun p hp => by simp at hp, fun os' _ _ i d v hd => by simp at hd⟩
  | cons x xs ih =>
    cases vs with
    | nil => simp at hlen
    | cons v vs =>
    simp only [snaps] at h
    obtain ⟨⟨d1, u1⟩, l1, l2, rfl, h1, h2⟩ := h.bind_inv
    obtain ⟨⟨ds2, u2⟩, l3, l4, rfl, h3, h4⟩ := h2.bind_inv
    obtain ⟨e, -⟩ := h4.pure_inv; cases e
    obtain ⟨a1, a2, a3⟩ := ih h3 (by simpa using hlen) (fun i d v hd hv => hx (i + 1) d v (by simpa using hd) (by simpa using hv))
    have hx0 := hx 0 x v rfl rfl
    have b : (∀ p ∈ u1, FU c.os p) ∧ ∀ os', Frz c.os os' → (∀ p ∈ u1, os'[p.1]? = some p.2) → VR P G F ⟨c.w, c.m, os'⟩ d1 v := by
      split at h1
      · obtain ⟨e, -⟩ := h1.pure_inv; cases e
        exact ⟨fun p hp => by simp at hp, fun os' hf _ => hx0.mono hf.tr⟩
      · unfold snapV at h1
        split at h1
        · obtain ⟨⟨cs', u'⟩, l5, l6, rfl, g1, g2⟩ := h1.bind_inv
          obtain ⟨e, -⟩ := g2.pure_inv; cases e
          obtain ⟨ws, rfl, hn, hr⟩ := hx0.agg_inv
          obtain ⟨f1, f2, f3⟩ := fzL_ok (vs := ws.toList) L ok g1 (fun i d v hd hv => hr i d v hd (by simpa using hv))
          exact ⟨f2, fun os' hf hu => .agg _ _ (by rw [f1]; exact hn) fun i d v hd hv => f3 os' hf hu i d v hd (by simpa using hv)⟩
        · exact fz1_ok L ok h1 hx0
    refine ⟨by simp [a1], fun p hp => ?_, fun os' hf hu i d u hd hv => ?_⟩
    · rcases List.mem_append.1 hp with hp | hp
      · exact b.1 p hp
      · exact a2 p hp
    · cases i with
      | zero => simp at hd hv; subst hd hv; exact b.2 os' hf fun p hp => hu p (List.mem_append.2 (.inl hp))
      | succ i => simp at hd hv; exact a3 os' hf (fun p hp => hu p (List.mem_append.2 (.inr hp))) i d u hd hv

end
end Go.Proofs.Ytjfmfpnnjgfffaa.Am
