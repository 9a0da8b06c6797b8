/- The abstract machine: cells of values, freezing, building, conversions, cutting. -/
import Derived.Test.YtjfmfpnnjgfffaaAmVal3
namespace Go.Proofs.Ytjfmfpnnjgfffaa.Am
open Go
set_option autoImplicit false
set_option linter.unusedVariables false
set_option linter.unusedSectionVars false
set_option linter.unusedSimpArgs false

section
variable {P : Program} {G : Sig} {F N : Nat → Prop} {c : Cf G}

theorem isCell_one {d : AV G.T} {v : Value} (h : isCell d = true) (hr : VR P G F c d v) : v.oneCell' = true ∧ v.cells = #[v] := by
  cases hr <;> simp_all [isCell, Value.oneCell', Value.cells]
  cases v <;> simp_all [isCell, Value.oneCell', Value.cells]

theorem allCell_get {l : List (AV G.T)} (h : allCell l = true) : ∀ (i : Nat) (d : AV G.T), l[i]? = some d → isCell d = true := by
  induction l with
  | nil => intro i d h; simp at h
  | cons v l ih =>
    simp only [allCell] at h
    split at h
    · rename_i hv
      intro i d hd
      cases i with
      | zero => simp at hd; subst hd; exact hv
      | succ i => simp at hd; exact ih h i d hd
    · cases h

theorem flatC_rel {d : AV G.T} {v : Value} {ds : List (AV G.T)} (h : flatC d = some ds) (hr : VR P G F c d v) :
    v.cells.size = ds.length ∧ ∀ (i : Nat) (e : AV G.T) (u : Value), ds[i]? = some e → v.cells[i]? = some u → VR P G F c e u ∧ u.oneCell' = true ∧ isCell e = true := by
  unfold flatC at h
  split at h
  · rename_i cs
    split at h
    · rename_i ha
      cases h
      obtain ⟨vs, rfl, hn, hr⟩ := hr.agg_inv
      refine ⟨hn.symm, fun i e u he hu => ?_⟩
      have := hr i e u he hu
      exact ⟨this, (isCell_one (allCell_get ha i e he) this).1, allCell_get ha i e he⟩
    · cases h
  · split at h
    · rename_i hv
      cases h
      obtain ⟨h1, h2⟩ := isCell_one hv hr
      refine ⟨by rw [h2]; rfl, fun i e u he hu => ?_⟩
      rw [h2] at hu
      cases i with
      | zero => simp at he hu; subst he hu; exact ⟨hr, h1, hv⟩
      | succ i => simp at he
    · cases h

-- freezing --------------------------------------------------------------------------------------------------------------
/-- the same objects, some rows frozen -/
def Frz (os os' : List (AObj G.T G.U)) : Prop :=
  os.length = os'.length ∧ ∀ (o : Nat) (obj : AObj G.T G.U), os[o]? = some obj → os'[o]? = some obj ∨ (∃ k xs wr, obj = .arr k xs wr ∧ os'[o]? = some (.arr k xs false)) ∨ ∃ u x, obj = .usr u x ∧ os'[o]? = some .dead

theorem Frz.refl (os : List (AObj G.T G.U)) : Frz os os := ⟨rfl, fun o obj h => .inl h⟩
theorem Frz.trans {a b d : List (AObj G.T G.U)} (h : Frz a b) (k : Frz b d) : Frz a d := by
  refine ⟨h.1.trans k.1, fun o obj ho => ?_⟩
  rcases h.2 o obj ho with h1 | ⟨kk, xs, wr, rfl, h1⟩ | ⟨u, x, rfl, h1⟩
  · exact k.2 o obj h1
  · rcases k.2 _ _ h1 with h2 | ⟨k2, xs2, wr2, e, h2⟩ | ⟨u, x, e, h2⟩
    · exact .inr (.inl ⟨kk, xs, wr, rfl, h2⟩)
    · cases e; exact .inr (.inl ⟨kk, xs, wr, rfl, h2⟩)
    · cases e
  · rcases k.2 _ _ h1 with h2 | ⟨k2, xs2, wr2, e, h2⟩ | ⟨u, x, e, h2⟩
    · exact .inr (.inr ⟨u, x, rfl, h2⟩)
    · cases e
    · cases e

theorem Frz.back {os os' : List (AObj G.T G.U)} (h : Frz os os') {o : Nat} {obj : AObj G.T G.U} (ho : os'[o]? = some obj) : os[o]? = some obj ∨ (∃ k xs wr, os[o]? = some (.arr k xs wr) ∧ obj = .arr k xs false) ∨ ∃ u x, os[o]? = some (.usr u x) ∧ obj = .dead := by
  have hlt : o < os.length := by rw [h.1]; exact (List.getElem?_eq_some_iff.1 ho).1
  have h0 : os[o]? = some os[o] := by simp [hlt]
  rcases h.2 o _ h0 with h1 | ⟨k, xs, wr, e, h1⟩ | ⟨u, x, e, h1⟩
  · rw [ho] at h1; cases h1; exact .inl h0
  · rw [ho] at h1; cases h1; rw [e] at h0; exact .inr (.inl ⟨k, xs, wr, h0, rfl⟩)
  · rw [ho] at h1; cases h1; rw [e] at h0; exact .inr (.inr ⟨u, x, h0, rfl⟩)

theorem Frz.tr {os' : List (AObj G.T G.U)} (h : Frz c.os os') : Tr G F c ⟨c.w, c.m, os'⟩ where
  sys := ⟨rfl, rfl, rfl⟩
  size := Nat.le_refl _
  keep := fun _ _ _ => rfl
  ext := fun o obj ho hf => by
    rcases h.2 o obj ho with h1 | ⟨k, xs, wr, rfl, h1⟩ | ⟨u, x, rfl, h1⟩
    · exact ⟨obj, h1, by cases obj <;> simp_all [Same]⟩
    · exact ⟨_, h1, .inr ⟨by simp [Same], .inl rfl⟩⟩
    · exact ⟨_, h1, .inl rfl⟩
  mv := fun b hb hh => by
    obtain ⟨o, obj, β, h1, h2, h3, h4⟩ := hh
    rcases h.back h1 with h5 | ⟨k, xs, wr, h5, rfl⟩ | ⟨u, x, h5, rfl⟩
    · exact ⟨o, obj, β, h5, h2, h3, h4⟩
    · simp [isMut] at h3
    · simp [isMut] at h3
  fz := fun a h => h
  lv := fun b hb hh => by
    obtain ⟨o, obj, β, h1, h2, h3, h4⟩ := hh
    rcases h.back h1 with h5 | ⟨k, xs, wr, h5, rfl⟩ | ⟨u, x, h5, rfl⟩
    · exact ⟨o, obj, β, h5, h2, h3, h4⟩
    · exact ⟨o, _, β, h5, h2, rfl, h4⟩
    · simp [isLive] at h3

theorem Frz.ok {os' : List (AObj G.T G.U)} (h : Frz c.os os') (ok : OK P G F N c) : OK P G F N ⟨c.w, c.m, os'⟩ where
  len := ok.len.trans h.1
  obj := fun o obj β ho hm => by
    have t := h.tr (F := F) (c := c)
    rcases h.back ho with h5 | ⟨k, xs, wr, h5, rfl⟩ | ⟨u, x, h5, rfl⟩
    · have h6 := ok.obj _ _ _ h5 hm
      cases obj with
      | dead => trivial
      | free => trivial
      | usr u x => exact h6
      | box bt ds =>
        obtain ⟨b, cs, h1, h2, h3, h4, h5⟩ := h6
        exact ⟨b, cs, h1, h2, h3, h4, h5.mono t⟩
      | arr k xs wr =>
        obtain ⟨h1, h2⟩ := h6
        refine ⟨h1, h2.imp id ?_⟩
        rintro ⟨b, cs, h1, h2, h3, h4, h5, h6⟩
        exact ⟨b, cs, h1, h2, h3, h4, h5, fun i x hx => (h6 i x hx).mono t⟩
    · have h6 := ok.obj _ _ _ h5 hm
      obtain ⟨h1, h2⟩ := h6
      refine ⟨h1, h2.imp id ?_⟩
      rintro ⟨b, cs, h1, h2, h3, h4, h5, h6⟩
      exact ⟨b, cs, h1, h2, h3, h4, h5, fun i x hx => (h6 i x hx).mono t⟩
    · trivial
  own := fun o obj β ho hm hl => by
    rcases h.back ho with h5 | ⟨k, xs, wr, h5, rfl⟩ | ⟨u, x, h5, rfl⟩
    · exact ok.own _ _ _ h5 hm hl
    · exact ok.own _ _ _ h5 hm rfl
    · simp [isLive] at hl
  wr := fun o obj β ho hm hl => by
    rcases h.back ho with h5 | ⟨k, xs, wr, h5, rfl⟩ | ⟨u, x, h5, rfl⟩
    · exact ok.wr _ _ _ h5 hm hl
    · simp [isMut] at hl
    · simp [isMut] at hl
  apart := fun o o' obj obj' β β' ho ho' hm hm' hl hl' hne => by
    rcases h.back ho with h5 | ⟨k, xs, wr, h5, rfl⟩ | ⟨u, x, h5, rfl⟩
    · rcases h.back ho' with h6 | ⟨k', xs', wr', h6, rfl⟩ | ⟨u, x, h6, rfl⟩
      · exact ok.apart _ _ _ _ _ _ h5 h6 hm hm' hl hl' hne
      · exact ok.apart _ _ _ _ _ _ h5 h6 hm hm' hl rfl hne
      · simp [isLive] at hl'
    · rcases h.back ho' with h6 | ⟨k', xs', wr', h6, rfl⟩ | ⟨u, x, h6, rfl⟩
      · exact ok.apart _ _ _ _ _ _ h5 h6 hm hm' rfl hl' hne
      · exact ok.apart _ _ _ _ _ _ h5 h6 hm hm' rfl rfl hne
      · simp [isLive] at hl'
    · simp [isLive] at hl
  low := ok.low
  gl := ok.gl.step (h.tr (F := F))

theorem setObj_lt {os : List (AObj G.T G.U)} {o : Nat} {x : AObj G.T G.U} (h : o < os.length) : setObj os o x = os.set o x := rfl

theorem frz_set {os : List (AObj G.T G.U)} {o k : Nat} {xs : List (G.T k)} {wr : Bool} (h : os[o]? = some (.arr k xs wr)) : Frz os (setObj os o (.arr k xs false)) := by
  have hlt := (List.getElem?_eq_some_iff.1 h).1
  rw [setObj_lt hlt]
  refine ⟨by simp, fun o' obj ho => ?_⟩
  by_cases e : o' = o
  · subst e; rw [h] at ho; cases ho
    exact .inr (.inl ⟨k, xs, wr, rfl, by simp [hlt]⟩)
  · left; rw [List.getElem?_set_ne (Ne.symm e)]; exact ho
theorem frz_kill {os : List (AObj G.T G.U)} {o u : Nat} {x : G.U u} (h : os[o]? = some (.usr u x)) : Frz os (setObj os o .dead) := by
  have hlt := (List.getElem?_eq_some_iff.1 h).1
  rw [setObj_lt hlt]
  refine ⟨by simp, fun o' obj ho => ?_⟩
  by_cases e : o' = o
  · subst e; rw [h] at ho; cases ho
    exact .inr (.inr ⟨u, x, rfl, by simp [hlt]⟩)
  · left; rw [List.getElem?_set_ne (Ne.symm e)]; exact ho
/-- what freezing changes -/
def FU (os : List (AObj G.T G.U)) (p : Nat × AObj G.T G.U) : Prop :=
  (∃ k ys wr, os[p.1]? = some (.arr k ys wr) ∧ p.2 = .arr k ys false) ∨ (∃ u x, os[p.1]? = some (.usr u x) ∧ p.2 = .dead) ∨ (os[p.1]? = some .dead ∧ p.2 = .dead)
theorem FU.lt {os : List (AObj G.T G.U)} {p : Nat × AObj G.T G.U} (h : FU os p) : p.1 < os.length := by
  rcases h with ⟨_, _, _, h, _⟩ | ⟨_, _, h, _⟩ | ⟨h, _⟩ <;> exact (List.getElem?_eq_some_iff.1 h).1
theorem frz_FU {os : List (AObj G.T G.U)} {p : Nat × AObj G.T G.U} (h : FU os p) : Frz os (setObj os p.1 p.2) := by
  obtain ⟨o, x⟩ := p
  rcases h with ⟨k, ys, wr, h1, h2⟩ | ⟨u, y, h1, h2⟩ | ⟨h1, h2⟩
  · simp only at h1 h2; subst h2; exact frz_set h1
  · simp only at h1 h2; subst h2; exact frz_kill h1
  · simp only at h1 h2; subst h2
    have hlt := (List.getElem?_eq_some_iff.1 h1).1
    show Frz os (setObj os o .dead)
    rw [setObj_lt hlt]
    refine ⟨by simp, fun o' obj ho => ?_⟩
    by_cases e : o' = o
    · subst e; rw [h1] at ho; cases ho; left; simp [hlt]
    · left; rw [List.getElem?_set_ne (Ne.symm e)]; exact ho
theorem FU.mono {os os' : List (AObj G.T G.U)} {p : Nat × AObj G.T G.U} (h : FU os p) (hf : Frz os os') : FU os' p := by
  rcases h with ⟨k, ys, wr, h1, h2⟩ | ⟨u, y, h1, h2⟩ | ⟨h1, h2⟩
  · rcases hf.2 _ _ h1 with h5 | ⟨k2, z2, w2, e, h5⟩ | ⟨u, x, e, h5⟩
    · exact .inl ⟨k, ys, wr, h5, h2⟩
    · cases e; exact .inl ⟨k, ys, false, h5, h2⟩
    · cases e
  · rcases hf.2 _ _ h1 with h5 | ⟨k2, z2, w2, e, h5⟩ | ⟨u, x, e, h5⟩
    · exact .inr (.inl ⟨u, y, h5, h2⟩)
    · cases e
    · exact .inr (.inr ⟨h5, h2⟩)
  · rcases hf.2 _ _ h1 with h5 | ⟨k2, z2, w2, e, h5⟩ | ⟨u, x, e, h5⟩
    · exact .inr (.inr ⟨h5, h2⟩)
    · cases e
    · cases e
theorem FU.stay {os os' : List (AObj G.T G.U)} {o : Nat} {x : AObj G.T G.U} (hx : (∃ k ys, x = .arr k ys false) ∨ x = .dead) (h : os[o]? = some x) (hf : Frz os os') : os'[o]? = some x := by
  rcases hf.2 _ _ h with h5 | ⟨k2, z2, w2, e, h5⟩ | ⟨u, y, e, h5⟩
  · exact h5
  · rcases hx with ⟨k, ys, e2⟩ | e2 <;> rw [e] at e2 <;> cases e2; rw [e]; exact h5
  · rcases hx with ⟨k, ys, e2⟩ | e2 <;> rw [e] at e2 <;> cases e2

/-- a frozen row, as a plain list -/
theorem VR_imm_of_arr {o k : Nat} {xs : List (G.T k)} {β : Blk} {b cap n : Nat} (ok : OK P G F N c) (h : c.os[o]? = some (.arr k xs false)) (hm : c.m[o]? = some β) (hb : β.b = some b)
    (hn : n ≤ xs.length) (hcap : n ≤ cap) (ht : G.tight k = true → n = 0 → cap = 0) : VR P G F c (.imm k (xs.take n)) (.slice (some ⟨b, 0, none⟩) n cap) := by
  have hl : (xs.take n).length = n := by simp; omega
  have hh := arr_holds ok h hm hb
  obtain ⟨hk, hobj⟩ := ok.obj _ _ _ h hm
  have hfp : β.fp = [b] := by
    rcases hobj with ⟨hb', -, -⟩ | ⟨b', cs, hb', hfp, -⟩
    · rw [hb] at hb'; cases hb'
    · rw [hb] at hb'; cases hb'; exact hfp
  have hav : ¬ Av G F c b := by
    rintro (hf | ⟨o', obj', β', h1, h2, h3, h4⟩)
    · exact (ok.own _ _ _ h hm rfl b (by simp [hfp])).1 hf
    · by_cases e : o' = o
      · subst e; rw [h] at h1; cases h1; simp [isMut] at h3
      · have hl' : isLive obj' = true := by cases obj' <;> simp_all [isMut, isLive]
        exact ok.apart o o' _ obj' β β' h h1 hm h2 rfl hl' (Ne.symm e) b (by simp [hfp]) h4
  have hsome : ∀ (i : Nat) (x : G.T k), (xs.take n)[i]? = some x → xs[i]? = some x := by
    intro i x hx; rw [List.getElem?_take] at hx; split at hx
    · exact hx
    · cases hx
  have := VR.imm (P := P) (F := F) (c := c) k (xs.take n) (some ⟨b, 0, none⟩) cap (fun i j => (c.w.cell? ((⟨b, 0, none⟩ : Addr).add (i * esz P G k + j))).getD undef) hk (by omega)
    (fun i x hx j d hd => by
      obtain ⟨ad, u, e, h1, h2⟩ := hh i x (hsome i x hx) j d hd
      cases e
      exact ⟨_, rfl, hav, by rw [h1]; rfl⟩)
    (fun i x hx j d hd => by
      obtain ⟨ad, u, e, h1, h2⟩ := hh i x (hsome i x hx) j d hd
      cases e
      rw [h1]; exact h2) (by rw [hl]; exact ht)
  rwa [hl] at this

theorem VR_imm_of_nil {k : Nat} (hk : k < G.n) (a : Option Addr) : VR P G F c (.imm k []) (.slice a 0 0) :=
  VR.imm k [] a 0 (fun _ _ => undef) hk (Nat.le_refl _) (fun i x hx => by simp at hx) (fun i x hx => by simp at hx) (fun _ _ => rfl)

theorem fz1_FU {x d : AV G.T} {l : List Nat} {upd : List (Nat × AObj G.T G.U)} (h : Runs P G c.os (fz1 G x) l (d, upd)) : ∀ p ∈ upd, FU c.os p := by
  unfold fz1 at h
  split at h
  · obtain ⟨l', rfl, h1⟩ := h.look_inv
    split at h1
    · rename_i k xs wr ho
      obtain ⟨e, -⟩ := h1.pure_inv; cases e
      exact fun p hp => by simp at hp; subst hp; exact .inl ⟨k, xs, wr, getD_look ho rfl, rfl⟩
    · exact h1.fail_inv.elim
  · obtain ⟨l', rfl, h1⟩ := h.look_inv
    split at h1
    · rename_i k xs wr ho
      split at h1
      case h_1 => exact h1.fail_inv.elim
      obtain ⟨e, -⟩ := h1.pure_inv; cases e
      exact fun p hp => by simp at hp; subst hp; exact .inl ⟨k, xs, wr, getD_look ho rfl, rfl⟩
    · exact h1.fail_inv.elim
  · obtain ⟨l', rfl, h1⟩ := h.look_inv
    split at h1
    · rename_i u x ho
      split at h1
      · obtain ⟨e, -⟩ := h1.pure_inv; cases e
        exact fun p hp => by simp at hp; subst hp; exact .inr (.inl ⟨u, x, getD_look ho rfl, rfl⟩)
      · exact h1.fail_inv.elim
    · exact h1.fail_inv.elim
  · obtain ⟨e, -⟩ := h.pure_inv; cases e
    exact fun p hp => by simp at hp

theorem fz1_ok {x d : AV G.T} {v : Value} {l : List Nat} {upd : List (Nat × AObj G.T G.U)} (L : Laws P G) (ok : OK P G F N c) (h : Runs P G c.os (fz1 G x) l (d, upd)) (hx : VR P G F c x v) :
    (∀ p ∈ upd, FU c.os p) ∧
    ∀ os', Frz c.os os' → (∀ p ∈ upd, os'[p.1]? = some p.2) → VR P G F ⟨c.w, c.m, os'⟩ d v := by
  refine ⟨fz1_FU h, ?_⟩
  unfold fz1 at h
  split at h
  · obtain ⟨l', rfl, h1⟩ := h.look_inv
    clear h
    split at h1
    · rename_i k xs wr ho
      have ho := getD_look ho rfl
      obtain ⟨e, -⟩ := h1.pure_inv; cases e
      refine fun os' hf hu => ?_
      have h2 := hu _ List.mem_cons_self
      simp only at h2
      have ok' := hf.ok ok
      cases hx with
      | ownDead _ _ _ _ hd => rw [ho] at hd; cases hd
      | ownNil _ k2 wr2 β a ho' hm hb ha => rw [ho] at ho'; cases ho'; exact VR_imm_of_nil (ok.obj _ _ _ ho hm).1 a
      | own _ k2 xs2 wr2 β b cap ho' hm hb hcap hn ht =>
        rw [ho] at ho'; cases ho'
        have := VR_imm_of_arr (n := xs.length) (cap := cap) ok' h2 hm hb (Nat.le_refl _) hcap ht
        rwa [List.take_length] at this
    · exact h1.fail_inv.elim
  · obtain ⟨l', rfl, h1⟩ := h.look_inv
    clear h
    split at h1
    · rename_i k xs wr ho
      have ho := getD_look ho rfl
      split at h1
      case h_1 => exact h1.fail_inv.elim
      rename_i hti
      obtain ⟨e, -⟩ := h1.pure_inv; cases e
      refine fun os' hf hu => ?_
      have h2 := hu _ List.mem_cons_self
      simp only at h2
      have ok' := hf.ok ok
      cases hx with
      | preDead _ _ _ _ _ hd => rw [ho] at hd; cases hd
      | preNil _ _ k2 wr2 β a ho' hm hb ha => rw [ho] at ho'; cases ho'; rw [List.take_nil]; exact VR_imm_of_nil (ok.obj _ _ _ ho hm).1 a
      | pre _ _ k2 xs2 wr2 β b cap ho' hm hb hle hcap =>
        rw [ho] at ho'; cases ho'
        exact VR_imm_of_arr ok' h2 hm hb hle hcap (fun h => by rw [hti] at h; cases h)
    · exact h1.fail_inv.elim
  · obtain ⟨l', rfl, h1⟩ := h.look_inv
    clear h
    split at h1
    · rename_i o j _ u x ho
      have ho := getD_look ho rfl
      split at h1
      · rename_i d' hd
        obtain ⟨e, -⟩ := h1.pure_inv; cases e
        refine fun os' hf hu => ?_
        have h2 := hu _ List.mem_cons_self
        simp only at h2
        cases hx with
        | refDead _ _ _ hdd => rw [ho] at hdd; cases hdd
        | ref _ _ u2 x2 β _ ho' hm hr =>
          rw [ho] at ho'; cases ho'
          refine (L.zrt u x _ _ (ok.obj _ _ _ ho hm).1 j _ _ hd hr).vr (fun b _ => rfl) (fun b hb => ?_) (L.ztt u x (fun e => by rw [e] at hd; simp at hd))
          rintro (hf2 | ⟨o', obj', β', h3, h4, h5, h6⟩)
          · exact (ok.own _ _ _ ho hm rfl b hb).1 hf2
          · by_cases e : o' = o
            · subst e
              have h3 : os'[o']? = some obj' := h3
              rw [h2] at h3; cases h3; simp [isMut] at h5
            · have hl' : isLive obj' = true := by cases obj' <;> simp_all [isMut, isLive]
              rcases hf.back h3 with h7 | ⟨k, xs, wr, h7, rfl⟩ | ⟨u, x, h7, rfl⟩
              · exact ok.apart o o' _ obj' β β' ho h7 hm h4 rfl hl' (Ne.symm e) b hb h6
              · simp [isMut] at h5
              · simp [isMut] at h5
      · exact h1.fail_inv.elim
    · exact h1.fail_inv.elim
  · obtain ⟨e, -⟩ := h.pure_inv; cases e
    exact fun os' hf _ => hx.mono hf.tr

theorem fzL_ok {xs ds : List (AV G.T)} {vs : List Value} {l : List Nat} {upd : List (Nat × AObj G.T G.U)} (L : Laws P G) (ok : OK P G F N c) (h : Runs P G c.os (fzL G xs) l (ds, upd))
    (hx : ∀ (i : Nat) (d : AV G.T) (v : Value), xs[i]? = some d → vs[i]? = some v → VR P G F c d v) :
    ds.length = xs.length ∧ (∀ p ∈ upd, FU c.os p) ∧
    ∀ os', Frz c.os os' → (∀ p ∈ upd, os'[p.1]? = some p.2) → ∀ (i : Nat) (d : AV G.T) (v : Value), ds[i]? = some d → vs[i]? = some v → VR P G F ⟨c.w, c.m, os'⟩ d v := by
  induction xs generalizing ds vs l upd with
  | nil =>
    obtain ⟨e, -⟩ := h.pure_inv; cases e
    exact ⟨rfl, fun p hp => by simp at hp, fun os' _ _ i d v hd => by simp at hd⟩
  | cons x xs ih =>
    obtain ⟨⟨d1, u1⟩, l1, l2, rfl, h1, h2⟩ := h.bind_inv
    obtain ⟨⟨ds2, u2⟩, l3, l4, rfl, h3, h4⟩ := h2.bind_inv
    obtain ⟨e, -⟩ := h4.pure_inv; cases e
    cases vs with
    | nil =>
      obtain ⟨a1, a2, a3⟩ := ih (vs := []) h3 (fun i d v _ hv => by simp at hv)
      refine ⟨by simp [a1], fun p hp => ?_, fun os' hf hu i d v hd hv => by simp at hv⟩
      rcases List.mem_append.1 hp with hp | hp
      · exact fz1_FU h1 p hp
      · exact a2 p hp
    | cons v vs =>
      obtain ⟨b1, b2⟩ := fz1_ok L ok h1 (hx 0 x v (by simp) (by simp))
      obtain ⟨a1, a2, a3⟩ := ih (vs := vs) h3 (fun i d v hd hv => hx (i + 1) d v (by simpa using hd) (by simpa using hv))
      refine ⟨by simp [a1], fun p hp => ?_, fun os' hf hu i d v hd hv => ?_⟩
      · rcases List.mem_append.1 hp with hp | hp
        · exact b1 p hp
        · exact a2 p hp
      · cases i with
        | zero => simp at hd hv; subst hd hv; exact b2 os' hf fun p hp => hu p (List.mem_append.2 (.inl hp))
        | succ i => simp at hd hv; exact a3 os' hf (fun p hp => hu p (List.mem_append.2 (.inr hp))) i d v hd hv

/-- the freezes of a list, done -/
theorem frz_setObjs {upd : List (Nat × AObj G.T G.U)} : ∀ {os : List (AObj G.T G.U)}, (∀ p ∈ upd, FU os p) →
    Frz os (setObjs os upd) ∧ ∀ p ∈ upd, (setObjs os upd)[p.1]? = some p.2 := by
  induction upd with
  | nil => intro os _; exact ⟨Frz.refl _, fun p hp => by simp at hp⟩
  | cons q upd ih =>
    intro os h
    have hq := h q (by simp)
    have hf := frz_FU hq
    obtain ⟨g1, g2⟩ := ih (os := setObj os q.1 q.2) fun p hp => (h p (by simp [hp])).mono hf
    refine ⟨hf.trans g1, fun p hp => ?_⟩
    rcases List.mem_cons.1 hp with rfl | hp
    · have hlt := hq.lt
      have h3 : (setObj os p.1 p.2)[p.1]? = some p.2 := by rw [setObj_lt hlt]; simp [hlt]
      exact FU.stay (by rcases hq with ⟨k, ys, wr, _, e⟩ | ⟨u, y, _, e⟩ | ⟨_, e⟩ <;> rw [e] <;> first | exact .inl ⟨_, _, rfl⟩ | exact .inr rfl) h3 g1
    · exact g2 p hp

end
end Go.Proofs.Ytjfmfpnnjgfffaa.Am
