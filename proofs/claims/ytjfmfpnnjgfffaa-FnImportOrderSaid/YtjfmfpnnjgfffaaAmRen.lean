/- The abstract machine: renaming objects. -/
import Derived.Test.YtjfmfpnnjgfffaaAmCut2
namespace Go.Proofs.Ytjfmfpnnjgfffaa.Am
open Go
set_option autoImplicit false
set_option linter.unusedVariables false
set_option linter.unusedSectionVars false
set_option linter.unusedSimpArgs false

section
variable {P : Program} {G : Sig} {F F' N : Nat → Prop} {c c' c'' : Cf G}

theorem renL_get {ρ : Nat → Option Nat} : ∀ {cs : List (AV G.T)} {i : Nat} {d : AV G.T}, (renL ρ cs)[i]? = some d → ∃ e, cs[i]? = some e ∧ d = renV ρ e
  | [], i, d, h => by simp [renL] at h
  | e :: cs, 0, d, h => by simp [renL] at h; exact ⟨e, rfl, h.symm⟩
  | e :: cs, i + 1, d, h => by simp [renL] at h; obtain ⟨e', h1, h2⟩ := renL_get h; exact ⟨e', by simpa using h1, h2⟩
theorem renL_length {ρ : Nat → Option Nat} : ∀ {cs : List (AV G.T)}, (renL ρ cs).length = cs.length
  | [] => rfl
  | e :: cs => by simp [renL, renL_length]
theorem hasImmL_get : ∀ {cs : List (AV G.T)} {i : Nat} {d : AV G.T}, cs[i]? = some d → hasImm d = true → hasImmL cs = true
  | [], i, d, h, _ => by simp at h
  | e :: cs, 0, d, h, hh => by simp at h; subst h; simp [hasImmL, hh]
  | e :: cs, i + 1, d, h, hh => by simp at h; simp [hasImmL, hasImmL_get h hh]

/-- names go over -/
def RenOK (ρ : Nat → Option Nat) (c c' : Cf G) : Prop :=
  ∀ o o', ρ o = some o' → ∀ obj, c.os[o]? = some obj → obj ≠ .free → ∃ obj', c'.os[o']? = some obj' ∧ (obj' = .dead ∨ (Same obj obj' ∧ c'.m[o']? = c.m[o]?))

theorem renV_leaf {ρ : Nat → Option Nat} {k : Nat} {x : G.T k} {j : Nat} {d : AV G.T} (L : Laws P G) (hk : k < G.n) (h : (G.op k x)[j]? = some d) : renV ρ d = d := by
  rcases L.leaf k hk x j d h with ⟨v, rfl, _⟩ | ⟨k', ys, rfl, _⟩ <;> simp [renV]

theorem leaf_old (L : Laws P G) {k : Nat} (hk : k < G.n) {x : G.T k} {j : Nat} {d : AV G.T} (h : (G.op k x)[j]? = some d) : hasOld d = false := by
  rcases L.leaf k hk x j d h with ⟨v, rfl, _⟩ | ⟨k', ys, rfl, _⟩ <;> rfl
theorem old1_imm (L : Laws P G) {k : Nat} (hk : k < G.n) {x : G.T k} {j : Nat} {d : AV G.T} (h : (G.op k x)[j]? = some d) : hasImm (old1 d) = false := by
  rcases L.leaf k hk x j d h with ⟨v, rfl, _⟩ | ⟨k', ys, rfl, _⟩ <;> rfl
theorem renV_old1 {ρ : Nat → Option Nat} (L : Laws P G) {k : Nat} (hk : k < G.n) {x : G.T k} {j : Nat} {d : AV G.T} (h : (G.op k x)[j]? = some d) : renV ρ (old1 d) = old1 d := by
  rcases L.leaf k hk x j d h with ⟨v, rfl, _⟩ | ⟨k', ys, rfl, _⟩ <;> simp [renV, old1]
theorem hasOldL_get : ∀ {cs : List (AV G.T)} {i : Nat} {d : AV G.T}, cs[i]? = some d → hasOld d = true → hasOldL cs = true
  | [], i, d, h, _ => by simp at h
  | e :: cs, 0, d, h, hh => by simp at h; subst h; simp [hasOldL, hh]
  | e :: cs, i + 1, d, h, hh => by simp at h; simp [hasOldL, hasOldL_get h hh]

theorem VR.ren {ρ : Nat → Option Nat} (L : Laws P G) (hw : c'.w.heap = c.w.heap) (hρ : RenOK ρ c c') {d : AV G.T} {v : Value} (h : VR P G F c d v) :
    (hasImm d = true → ∀ b, Av G F' c' b → Av G F c b) → (hasOld d = true → ∀ b, Mv G c' b → Mv G c b) → VR P G F' c' (renV ρ d) v := by
  have hcell : ∀ a, c'.w.cell? a = c.w.cell? a := fun a => by simp only [World.cell?, hw]
  induction h with
  | lit v => intro _ _; simp only [renV]; exact .lit v
  | nil0 a ha => intro _ _; simp only [renV]; exact .nil0 a ha
  | undef v => intro _ _; simp only [renV]; exact .undef v
  | bl lo hi b h1 h2 => intro _ _; simp only [renV]; exact .bl lo hi b h1 h2
  | imm k xs a cap f hk hcap hc hv ht ih =>
    intro hav hmv
    simp only [renV]
    refine .imm k xs a cap f hk hcap (fun i x hx j d hd => ?_) (fun i x hx j d hd => ?_) ht
    · obtain ⟨ad, h1, h2, h3⟩ := hc i x hx j d hd
      exact ⟨ad, h1, fun hh => h2 (hav rfl _ hh), by rw [hcell]; exact h3⟩
    · have := ih i x hx j d hd (fun _ => hav rfl) (fun ho => by rw [leaf_old L hk hd] at ho; cases ho)
      rwa [renV_leaf L hk hd] at this
  | pel k x off ad f hk hc hv ih =>
    intro hav hmv
    simp only [renV]
    refine .pel k x off ad f hk (fun j d hd => ?_) (fun j d hd => ?_)
    · obtain ⟨h2, h3⟩ := hc j d hd
      exact ⟨fun hh => h2 (hav rfl _ hh), by rw [hcell]; exact h3⟩
    · have := ih j d hd (fun _ => hav rfl) (fun ho => by rw [leaf_old L hk hd] at ho; cases ho)
      rwa [renV_leaf L hk hd] at this
  | old k xs a cap f hk hcap hc hv ih =>
    intro hav hmv
    simp only [renV]
    refine .old k xs a cap f hk hcap (fun i x hx j d hd => ?_) (fun i x hx j d hd => ?_)
    · obtain ⟨ad, h1, h2, h3⟩ := hc i x hx j d hd
      exact ⟨ad, h1, fun hh => h2 (hmv rfl _ hh), by rw [hcell]; exact h3⟩
    · have := ih i x hx j d hd (fun ho => by rw [old1_imm L hk hd] at ho; cases ho) (fun _ => hmv rfl)
      rwa [renV_old1 L hk hd] at this
  | pol k x off ad f hk hc hv ih =>
    intro hav hmv
    simp only [renV]
    refine .pol k x off ad f hk (fun j d hd => ?_) (fun j d hd => ?_)
    · obtain ⟨h2, h3⟩ := hc j d hd
      exact ⟨fun hh => h2 (hmv rfl _ hh), by rw [hcell]; exact h3⟩
    · have := ih j d hd (fun ho => by rw [old1_imm L hk hd] at ho; cases ho) (fun _ => hmv rfl)
      rwa [renV_old1 L hk hd] at this
  | refDead o j v h h1 h2 =>
    intro _ _
    simp only [renV]
    split
    · rename_i o' ho'
      obtain ⟨x, h3, h4⟩ := hρ o o' ho' _ h (by simp)
      rcases h4 with rfl | ⟨h4, _⟩
      · exact .refDead o' j v h3 h1 h2
      · cases x <;> simp [Same] at h4
    · exact .undef _
  | ref o j u x β v h hm hr h1 h2 =>
    intro _ _
    simp only [renV]
    split
    · rename_i o' ho'
      obtain ⟨x', h3, h4⟩ := hρ o o' ho' _ h (by simp)
      rcases h4 with rfl | ⟨h4, h5⟩
      · exact .refDead o' j v h3 h1 h2
      · cases x' <;> simp [Same] at h4
        exact .ref o' j _ _ β v h3 (h5.trans hm) hr h1 h2
    · exact .undef _
  | jkDead o k xs a cap h ha =>
    intro _ _
    simp only [renV]
    split
    · rename_i o' ho'
      obtain ⟨x, h3, h4⟩ := hρ o o' ho' _ h (by simp)
      rcases h4 with rfl | ⟨h4, _⟩
      · exact .jkDead o' k xs a cap h3 ha
      · cases x <;> simp [Same] at h4
    · exact .undef _
  | jk o k xs u y β a n cap h hm hr ha =>
    intro _ _
    simp only [renV]
    split
    · rename_i o' ho'
      obtain ⟨x', h3, h4⟩ := hρ o o' ho' _ h (by simp)
      rcases h4 with rfl | ⟨h4, h5⟩
      · cases hr; exact .jkDead o' k xs a cap h3 ha
      · cases x' <;> simp [Same] at h4
        exact .jk o' k xs _ _ β a n cap h3 (h5.trans hm) hr ha
    · exact .undef _
  | jelDead o k x off ad h =>
    intro _ _
    simp only [renV]
    split
    · rename_i o' ho'
      obtain ⟨x', h3, h4⟩ := hρ o o' ho' _ h (by simp)
      rcases h4 with rfl | ⟨h4, _⟩
      · exact .jelDead o' k x off ad h3
      · cases x' <;> simp [Same] at h4
    · exact .undef _
  | jel o k x off u y β ad h hm hr =>
    intro _ _
    simp only [renV]
    split
    · rename_i o' ho'
      obtain ⟨x', h3, h4⟩ := hρ o o' ho' _ h (by simp)
      rcases h4 with rfl | ⟨h4, h5⟩
      · exact .jelDead o' k x off _ h3
      · cases x' <;> simp [Same] at h4
        exact .jel o' k x off _ _ β ad h3 (h5.trans hm) hr
    · exact .undef _
  | zelDead o k i off ad h =>
    intro _ _
    simp only [renV]
    split
    · rename_i o' ho'
      obtain ⟨x', h3, h4⟩ := hρ o o' ho' _ h (by simp)
      rcases h4 with rfl | ⟨h4, _⟩
      · exact .zelDead o' k i off ad h3
      · cases x' <;> simp [Same] at h4
    · exact .undef _
  | zel o k i off u y β ad n cap h hm hr hi =>
    intro _ _
    simp only [renV]
    split
    · rename_i o' ho'
      obtain ⟨x', h3, h4⟩ := hρ o o' ho' _ h (by simp)
      rcases h4 with rfl | ⟨h4, h5⟩
      · exact .zelDead o' k i off _ h3
      · cases x' <;> simp [Same] at h4
        exact .zel o' k i off _ _ β ad n cap h3 (h5.trans hm) hr hi
    · exact .undef _
  | subDead o i t v h h1 h2 =>
    intro _ _
    simp only [renV]
    split
    · rename_i o' ho'
      obtain ⟨x', h3, h4⟩ := hρ o o' ho' _ h (by simp)
      rcases h4 with rfl | ⟨h4, _⟩
      · exact .subDead o' i t v h3 h1 h2
      · cases x' <;> simp [Same] at h4
    · exact .undef _
  | sub o i t u y β v h hm ht hr h1 h2 =>
    intro _ _
    simp only [renV]
    split
    · rename_i o' ho'
      obtain ⟨x', h3, h4⟩ := hρ o o' ho' _ h (by simp)
      rcases h4 with rfl | ⟨h4, h5⟩
      · exact .subDead o' i t v h3 h1 h2
      · cases x' <;> simp [Same] at h4
        exact .sub o' i t _ _ β v h3 (h5.trans hm) ht hr h1 h2
    · exact .undef _
  | speDead o k i t j off ad h =>
    intro _ _
    simp only [renV]
    split
    · rename_i o' ho'
      obtain ⟨x', h3, h4⟩ := hρ o o' ho' _ h (by simp)
      rcases h4 with rfl | ⟨h4, _⟩
      · exact .speDead o' k i t j off ad h3
      · cases x' <;> simp [Same] at h4
    · exact .undef _
  | spe o k i t j off u y β ad h hm ht hr =>
    intro _ _
    simp only [renV]
    split
    · rename_i o' ho'
      obtain ⟨x', h3, h4⟩ := hρ o o' ho' _ h (by simp)
      rcases h4 with rfl | ⟨h4, h5⟩
      · exact .speDead o' k i t j off _ h3
      · cases x' <;> simp [Same] at h4
        exact .spe o' k i t j off _ _ β ad h3 (h5.trans hm) ht hr
    · exact .undef _
  | agg cs vs hn h ih =>
    intro hav hmv
    simp only [renV]
    refine .agg _ vs (by rw [renL_length]; exact hn) fun i d v hd hv => ?_
    obtain ⟨e, he, rfl⟩ := renL_get hd
    exact ih i e v he hv (fun hh => hav (by simp only [hasImm]; exact hasImmL_get he hh)) (fun hh => hmv (by simp only [hasOld]; exact hasOldL_get he hh))
  | tup cs vs hn h ih =>
    intro hav hmv
    simp only [renV]
    refine .tup _ vs (by rw [renL_length]; exact hn) fun i d v hd hv => ?_
    obtain ⟨e, he, rfl⟩ := renL_get hd
    exact ih i e v he hv (fun hh => hav (by simp only [hasImm]; exact hasImmL_get he hh)) (fun hh => hmv (by simp only [hasOld]; exact hasOldL_get he hh))
  | clo f cs vs hn h ih =>
    intro hav hmv
    simp only [renV]
    refine .clo f _ vs (by rw [renL_length]; exact hn) fun i d v hd hv => ?_
    obtain ⟨e, he, rfl⟩ := renL_get hd
    exact ih i e v he hv (fun hh => hav (by simp only [hasImm]; exact hasImmL_get he hh)) (fun hh => hmv (by simp only [hasOld]; exact hasOldL_get he hh))
  | ownDead o a n cap h =>
    intro _ _
    simp only [renV]
    split
    · rename_i o' ho'
      obtain ⟨x, h1, h2⟩ := hρ o o' ho' _ h (by simp)
      rcases h2 with rfl | ⟨h2, _⟩
      · exact .ownDead o' _ _ _ h1
      · cases x <;> simp [Same] at h2
    · exact .undef _
  | ownNil o k wr β a h hm hb ha =>
    intro _ _
    simp only [renV]
    split
    · rename_i o' ho'
      obtain ⟨x, h1, h2⟩ := hρ o o' ho' _ h (by simp)
      rcases h2 with rfl | ⟨h2, h3⟩
      · exact .ownDead o' _ _ _ h1
      · cases x <;> simp [Same] at h2
        rename_i k' ys wr'
        obtain ⟨rfl, h2⟩ := h2
        cases ys with
        | nil => exact .ownNil o' k wr' β a h1 (h3.trans hm) hb ha
        | cons y ys => simp at h2
    · exact .undef _
  | own o k xs wr β b cap h hm hb hcap hn ht =>
    intro _ _
    simp only [renV]
    split
    · rename_i o' ho'
      obtain ⟨x, h1, h2⟩ := hρ o o' ho' _ h (by simp)
      rcases h2 with rfl | ⟨h2, h3⟩
      · exact .ownDead o' _ _ _ h1
      · cases x <;> simp [Same] at h2
        rename_i k' ys wr'
        obtain ⟨rfl, h2⟩ := h2
        rw [h2]
        exact .own o' k ys wr' β b cap h1 (h3.trans hm) hb (by omega) hn (fun h g => ht h (by omega))
    · exact .undef _
  | preDead o n a n' cap h =>
    intro _ _
    simp only [renV]
    split
    · rename_i o' ho'
      obtain ⟨x, h1, h2⟩ := hρ o o' ho' _ h (by simp)
      rcases h2 with rfl | ⟨h2, _⟩
      · exact .preDead o' n _ _ _ h1
      · cases x <;> simp [Same] at h2
    · exact .undef _
  | preNil o n k wr β a h hm hb ha =>
    intro _ _
    simp only [renV]
    split
    · rename_i o' ho'
      obtain ⟨x, h1, h2⟩ := hρ o o' ho' _ h (by simp)
      rcases h2 with rfl | ⟨h2, h3⟩
      · exact .preDead o' n _ _ _ h1
      · cases x <;> simp [Same] at h2
        rename_i k' ys wr'
        obtain ⟨rfl, h2⟩ := h2
        cases ys with
        | nil => exact .preNil o' n k wr' β a h1 (h3.trans hm) hb ha
        | cons y ys => simp at h2
    · exact .undef _
  | sufDead o n a n' cap h =>
    intro _ _
    simp only [renV]
    split
    · rename_i o' ho'
      obtain ⟨x, h1, h2⟩ := hρ o o' ho' _ h (by simp)
      rcases h2 with rfl | ⟨h2, _⟩
      · exact .sufDead o' n _ _ _ h1
      · cases x <;> simp [Same] at h2
    · exact .undef _
  | sufEnd o n k xs wr a cap h hi =>
    intro _ _
    simp only [renV]
    split
    · rename_i o' ho'
      obtain ⟨x, h1, h2⟩ := hρ o o' ho' _ h (by simp)
      rcases h2 with rfl | ⟨h2, h3⟩
      · exact .sufDead o' n _ _ _ h1
      · cases x <;> simp [Same] at h2
        rename_i k' ys wr'
        obtain ⟨rfl, h2⟩ := h2
        exact .sufEnd o' n k ys wr' a cap h1 (by omega)
    · exact .undef _
  | suf o n k xs wr β b cap h hm hb hle =>
    intro _ _
    simp only [renV]
    split
    · rename_i o' ho'
      obtain ⟨x, h1, h2⟩ := hρ o o' ho' _ h (by simp)
      rcases h2 with rfl | ⟨h2, h3⟩
      · exact .sufDead o' n _ _ _ h1
      · cases x <;> simp [Same] at h2
        rename_i k' ys wr'
        obtain ⟨rfl, h2⟩ := h2
        rw [h2]
        exact .suf o' n k ys wr' β b cap h1 (h3.trans hm) hb (by omega)
    · exact .undef _
  | pre o n k xs wr β b cap h hm hb hle hcap hn =>
    intro _ _
    simp only [renV]
    split
    · rename_i o' ho'
      obtain ⟨x, h1, h2⟩ := hρ o o' ho' _ h (by simp)
      rcases h2 with rfl | ⟨h2, h3⟩
      · exact .preDead o' n _ _ _ h1
      · cases x <;> simp [Same] at h2
        rename_i k' ys wr'
        obtain ⟨rfl, h2⟩ := h2
        exact .pre o' n k ys wr' β b cap h1 (h3.trans hm) hb (by omega) hcap hn
    · exact .undef _
  | ptrDead o off b h =>
    intro _ _
    simp only [renV]
    split
    · rename_i o' ho'
      obtain ⟨x, h1, h2⟩ := hρ o o' ho' _ h (by simp)
      rcases h2 with rfl | ⟨h2, _⟩
      · exact .ptrDead o' _ _ h1
      · cases x <;> simp [Same] at h2
    · exact .undef _
  | ptr o off obj β b h hl hm hb =>
    intro _ _
    simp only [renV]
    split
    · rename_i o' ho'
      obtain ⟨x, h1, h2⟩ := hρ o o' ho' _ h (live_nf hl)
      rcases h2 with rfl | ⟨h2, h3⟩
      · exact .ptrDead o' _ _ h1
      · exact .ptr o' off x β b h1 h2.nf.2 (h3.trans hm) hb
    · exact .undef _
  | nspNil o off =>
    intro _ _
    simp only [renV]
    split
    · exact .nspNil _ _
    · exact .undef _
  | nspDead o off b h =>
    intro _ _
    simp only [renV]
    split
    · rename_i o' ho'
      obtain ⟨x, h1, h2⟩ := hρ o o' ho' _ h (by simp)
      rcases h2 with rfl | ⟨h2, _⟩
      · exact .nspDead o' off _ h1
      · cases x <;> simp [Same] at h2
    · exact .undef _
  | nsp o off obj β b h hl hm hb =>
    intro _ _
    simp only [renV]
    split
    · rename_i o' ho'
      obtain ⟨x, h1, h2⟩ := hρ o o' ho' _ h (live_nf hl)
      rcases h2 with rfl | ⟨h2, h3⟩
      · exact .nspDead o' off _ h1
      · exact .nsp o' off x β b h1 h2.nf.2 (h3.trans hm) hb
    · exact .undef _
  | elemDead o i off b x h =>
    intro _ _
    simp only [renV]
    split
    · rename_i o' ho'
      obtain ⟨y, h1, h2⟩ := hρ o o' ho' _ h (by simp)
      rcases h2 with rfl | ⟨h2, _⟩
      · exact .elemDead o' _ _ _ _ h1
      · cases y <;> simp [Same] at h2
    · exact .undef _
  | elem o i off k xs wr β b h hm hb hi =>
    intro _ _
    simp only [renV]
    split
    · rename_i o' ho'
      obtain ⟨x, h1, h2⟩ := hρ o o' ho' _ h (by simp)
      rcases h2 with rfl | ⟨h2, h3⟩
      · exact .elemDead o' _ _ _ _ h1
      · cases x <;> simp [Same] at h2
        rename_i k' ys wr'
        obtain ⟨rfl, h2⟩ := h2
        exact .elem o' i off k ys wr' β b h1 (h3.trans hm) hb (by omega)
    · exact .undef _

theorem renO_mut {ρ : Nat → Option Nat} {x : AObj G.T G.U} : isMut (renO ρ x) = isMut x := by cases x <;> rfl
theorem renO_arr {ρ : Nat → Option Nat} {x : AObj G.T G.U} : isArr (renO ρ x) = isArr x := by cases x <;> rfl
theorem renO_usr {ρ : Nat → Option Nat} {x : AObj G.T G.U} : isUsr (renO ρ x) = isUsr x := by cases x <;> rfl
theorem renO_live {ρ : Nat → Option Nat} {x : AObj G.T G.U} : isLive (renO ρ x) = isLive x := by cases x <;> rfl
theorem renO_same {ρ : Nat → Option Nat} {x y : AObj G.T G.U} : Same x (renO ρ y) ↔ Same x y := by cases x <;> cases y <;> simp [renO, Same]
theorem renO_same' {ρ : Nat → Option Nat} {x y : AObj G.T G.U} : Same (renO ρ x) y ↔ Same x y := by cases x <;> cases y <;> simp [renO, Same]
theorem renO_dead {ρ : Nat → Option Nat} {x : AObj G.T G.U} (h : renO ρ x = .dead) : x = .dead := by cases x <;> simp_all [renO]

theorem ObjR.ren {ρ : Nat → Option Nat} (L : Laws P G) (hw : c'.w.heap = c.w.heap) (hρ : RenOK ρ c c') {β : Blk} {x : AObj G.T G.U} (h : ObjR P G F c β x)
    (hav : hasImmO G.flat x = true → ∀ b, Av G F' c' b → Av G F c b) (hmv : hasOldO x = true → ∀ b, Mv G c' b → Mv G c b) : ObjR P G F' c' β (renO ρ x) := by
  cases x with
  | dead => trivial
  | free => trivial
  | usr u y => exact ⟨h.2 _ fun b _ => by rw [hw], fun w2 h2 => h.2 w2 fun b hb => (h2 b hb).trans (by rw [hw])⟩
  | box bt ds =>
    obtain ⟨b, cs, h1, h2, h5, h6, h7⟩ := h
    refine ⟨b, cs, h1, h2, by rw [hw]; exact h5, by rw [renL_length]; exact h6, fun j d hd => ?_⟩
    obtain ⟨e, he, rfl⟩ := renL_get hd
    obtain ⟨v, hv, hr⟩ := h7 j e he
    exact ⟨v, hv, hr.ren L hw hρ (fun hh => hav (by simp only [hasImmO]; exact hasImmL_get he hh)) (fun hh => hmv (by simp only [hasOldO]; exact hasOldL_get he hh))⟩
  | arr k xs wr =>
    obtain ⟨h1, h2⟩ := h
    refine ⟨h1, h2.imp id ?_⟩
    rintro ⟨b, cs, h3, h4, h5, h6, h7, h8⟩
    refine ⟨b, cs, h3, h4, by rw [hw]; exact h5, h6, h7, fun i y hy j d hd => ?_⟩
    obtain ⟨v, hv, hr⟩ := h8 i y hy j d hd
    have := hr.ren (ρ := ρ) L hw hρ (fun hh => hav (by
      simp only [hasImmO]
      cases hf : G.flat k with
      | false => rfl
      | true => obtain ⟨u, rfl⟩ := L.flat k hf y j d hd; cases hh)) (fun ho => by rw [leaf_old L h1 hd] at ho; cases ho)
    rw [renV_leaf L h1 hd] at this
    exact ⟨v, hv, this⟩

end
end Go.Proofs.Ytjfmfpnnjgfffaa.Am
