/- The abstract machine: grown rows; a row is taken out of its cell. -/
import Derived.Test.YtjfmfpnnjgfffaaAmRow4
namespace Go.Proofs.Ytjfmfpnnjgfffaa.Am
open Go
set_option autoImplicit false
set_option linter.unusedVariables false
set_option linter.unusedSectionVars false
set_option linter.unusedSimpArgs false

section
variable {P : Program} {G : Sig} {F N : Nat → Prop} {c c' c'' : Cf G}

/-- an object splits in two -/
structure Spl (c : Cf G) (o nb : Nat) (β β' βn : Blk) (u u' : Nat) (y : G.U u) (y' : G.U u') (r : AObj G.T G.U) : Prop where
  ho : c.os[o]? = some (.usr u y)
  hm : c.m[o]? = some β
  nb : c.os[nb]? = some .free
  sub : ∀ b ∈ β'.fp, b ∈ β.fp
  subn : ∀ b ∈ βn.fp, b ∈ β.fp
  dis : ∀ b ∈ βn.fp, b ∉ β'.fp
  le : BLe β β'
def splCf (c : Cf G) (o nb : Nat) (β' βn : Blk) (u' : Nat) (y' : G.U u') (r : AObj G.T G.U) : Cf G := ⟨c.w, (c.m.set o β').set nb βn, (setObj c.os o (.usr u' y')).set nb r⟩
variable {o nb : Nat} {β β' βn : Blk} {u u' : Nat} {y : G.U u} {y' : G.U u'} {r : AObj G.T G.U}
theorem Spl.ne (h : Spl c o nb β β' βn u u' y y' r) : nb ≠ o := fun e => by have := h.ho; rw [← e, h.nb] at this; cases this
theorem Spl.inv (h : Spl c o nb β β' βn u u' y y' r) (hl : c.m.length = c.os.length) {j : Nat} {z : AObj G.T G.U} {γ : Blk} (h1 : (splCf c o nb β' βn u' y' r).os[j]? = some z) (h2 : (splCf c o nb β' βn u' y' r).m[j]? = some γ) :
    (j = nb ∧ z = r ∧ γ = βn) ∨ (j = o ∧ z = .usr u' y' ∧ γ = β') ∨ (j ≠ o ∧ j ≠ nb ∧ c.os[j]? = some z ∧ c.m[j]? = some γ) := by
  have h1 : ((setObj c.os o (.usr u' y')).set nb r)[j]? = some z := h1
  have h2 : ((c.m.set o β').set nb βn)[j]? = some γ := h2
  have hlo : o < c.os.length := (List.getElem?_eq_some_iff.1 h.ho).1
  have hln : nb < c.os.length := (List.getElem?_eq_some_iff.1 h.nb).1
  unfold setObj at h1
  by_cases e1 : nb = j
  · subst e1
    rw [List.getElem?_set_self (by simpa using hln)] at h1
    rw [List.getElem?_set_self (by simp; omega)] at h2
    cases h1; cases h2; exact .inl ⟨rfl, rfl, rfl⟩
  · rw [List.getElem?_set_ne e1] at h1 h2
    by_cases e2 : o = j
    · subst e2
      rw [List.getElem?_set_self hlo] at h1
      rw [List.getElem?_set_self (by omega)] at h2
      cases h1; cases h2; exact .inr (.inl ⟨rfl, rfl, rfl⟩)
    · rw [List.getElem?_set_ne e2] at h1 h2
      exact .inr (.inr ⟨Ne.symm e2, Ne.symm e1, h1, h2⟩)
theorem Spl.tr (h : Spl c o nb β β' βn u u' y y' r) (hl : c.m.length = c.os.length) : Tr G F c (splCf c o nb β' βn u' y' r) where
  sys := ⟨rfl, rfl, rfl⟩
  size := Nat.le_refl _
  keep := fun _ _ _ => rfl
  ext := fun j z hj hf => by
    have hne : nb ≠ j := fun e => by rw [← e, h.nb] at hj; cases hj; exact hf rfl
    have hlo : o < c.os.length := (List.getElem?_eq_some_iff.1 h.ho).1
    by_cases e : o = j
    · subst e
      rw [h.ho] at hj; cases hj
      refine ⟨.usr u' y', ?_, .inr ⟨trivial, .inr ⟨rfl, rfl, ?_⟩⟩⟩
      · unfold splCf setObj; simp only; rw [List.getElem?_set_ne hne, List.getElem?_set_self hlo]
      · intro γ hγ
        rw [h.hm] at hγ; cases hγ
        refine ⟨β', ?_, h.le⟩
        unfold splCf; simp only; rw [List.getElem?_set_ne hne, List.getElem?_set_self (by omega)]
    · refine ⟨z, ?_, ?_⟩
      · unfold splCf setObj; simp only; rw [List.getElem?_set_ne hne, List.getElem?_set_ne e]; exact hj
      · by_cases hd : z = .dead
        · exact .inl hd
        · refine .inr ⟨Same.refl_live' hd hf, .inl ?_⟩
          unfold splCf; simp only; rw [List.getElem?_set_ne hne, List.getElem?_set_ne e]
  mv := fun b hb hh => by
    obtain ⟨j, z, γ, h1, h2, h3, h4⟩ := hh
    rcases h.inv hl h1 h2 with ⟨rfl, rfl, rfl⟩ | ⟨rfl, rfl, rfl⟩ | ⟨_, _, h5, h6⟩
    · exact ⟨o, _, β, h.ho, h.hm, rfl, h.subn b h4⟩
    · exact ⟨_, _, β, h.ho, h.hm, rfl, h.sub b h4⟩
    · exact ⟨j, z, γ, h5, h6, h3, h4⟩
  fz := fun _ h => h
  lv := fun b hb hh => by
    obtain ⟨j, z, γ, h1, h2, h3, h4⟩ := hh
    rcases h.inv hl h1 h2 with ⟨rfl, rfl, rfl⟩ | ⟨rfl, rfl, rfl⟩ | ⟨_, _, h5, h6⟩
    · exact ⟨o, _, β, h.ho, h.hm, rfl, h.subn b h4⟩
    · exact ⟨_, _, β, h.ho, h.hm, rfl, h.sub b h4⟩
    · exact ⟨j, z, γ, h5, h6, h3, h4⟩
theorem Spl.ok (h : Spl c o nb β β' βn u u' y y' r) (ok : OK P G F N c) (h1 : ObjR P G F (splCf c o nb β' βn u' y' r) β' (.usr u' y')) (h2 : ObjR P G F (splCf c o nb β' βn u' y' r) βn r) : OK P G F N (splCf c o nb β' βn u' y' r) where
  len := by unfold splCf setObj; simp [ok.len]
  obj := fun j z γ a1 a2 => by
    rcases h.inv ok.len a1 a2 with ⟨rfl, rfl, rfl⟩ | ⟨rfl, rfl, rfl⟩ | ⟨_, _, h5, h6⟩
    · exact h2
    · exact h1
    · exact (ok.obj j z γ h5 h6).mono (h.tr ok.len) fun _ _ _ => rfl
  own := fun j z γ a1 a2 hl b hb => by
    rcases h.inv ok.len a1 a2 with ⟨rfl, rfl, rfl⟩ | ⟨rfl, rfl, rfl⟩ | ⟨_, _, h5, h6⟩
    · exact ok.own o _ β h.ho h.hm rfl b (h.subn b hb)
    · exact ok.own _ _ β h.ho h.hm rfl b (h.sub b hb)
    · exact ok.own j z γ h5 h6 hl b hb
  wr := fun j z γ a1 a2 hl b hb => by
    rcases h.inv ok.len a1 a2 with ⟨rfl, rfl, rfl⟩ | ⟨rfl, rfl, rfl⟩ | ⟨_, _, h5, h6⟩
    · exact ok.wr o _ β h.ho h.hm rfl b (h.subn b hb)
    · exact ok.wr _ _ β h.ho h.hm rfl b (h.sub b hb)
    · exact ok.wr j z γ h5 h6 hl b hb
  apart := fun j j' z z' γ γ' a1 a2 a3 a4 l1 l2 hne b hb hb' => by
    rcases h.inv ok.len a1 a3 with ⟨rfl, rfl, rfl⟩ | ⟨rfl, rfl, rfl⟩ | ⟨e1, e2, h5, h6⟩
    · rcases h.inv ok.len a2 a4 with ⟨rfl, rfl, rfl⟩ | ⟨rfl, rfl, rfl⟩ | ⟨e3, e4, h7, h8⟩
      · exact hne rfl
      · exact h.dis b hb hb'
      · exact ok.apart o j' _ z' β γ' h.ho h7 h.hm h8 rfl l2 (Ne.symm e3) b (h.subn b hb) hb'
    · rcases h.inv ok.len a2 a4 with ⟨rfl, rfl, rfl⟩ | ⟨rfl, rfl, rfl⟩ | ⟨e3, e4, h7, h8⟩
      · exact h.dis b hb' hb
      · exact hne rfl
      · exact ok.apart _ j' _ z' β γ' h.ho h7 h.hm h8 rfl l2 (Ne.symm e3) b (h.sub b hb) hb'
    · rcases h.inv ok.len a2 a4 with ⟨rfl, rfl, rfl⟩ | ⟨rfl, rfl, rfl⟩ | ⟨e3, e4, h7, h8⟩
      · exact ok.apart j o z _ γ β h5 h.ho h6 h.hm l1 rfl e1 b hb (h.subn b hb')
      · exact ok.apart j _ z _ γ β h5 h.ho h6 h.hm l1 rfl e1 b hb (h.sub b hb')
      · exact ok.apart j j' z z' γ γ' h5 h7 h6 h8 l1 l2 hne b hb hb'
  low := ok.low
  gl := ok.gl.step (h.tr (F := F) ok.len)

theorem Spl.at_nb (h : Spl c o nb β β' βn u u' y y' r) (hl : c.m.length = c.os.length) : (splCf c o nb β' βn u' y' r).os[nb]? = some r ∧ (splCf c o nb β' βn u' y' r).m[nb]? = some βn := by
  have hln : nb < c.os.length := (List.getElem?_eq_some_iff.1 h.nb).1
  unfold splCf setObj
  exact ⟨List.getElem?_set_self (by simpa using hln), List.getElem?_set_self (by simp; omega)⟩
theorem Spl.at_o (h : Spl c o nb β β' βn u u' y y' r) (hl : c.m.length = c.os.length) : (splCf c o nb β' βn u' y' r).m[o]? = some β' := by
  have hlo : o < c.os.length := (List.getElem?_eq_some_iff.1 h.ho).1
  unfold splCf
  show ((c.m.set o β').set nb βn)[o]? = some β'
  rw [List.getElem?_set_ne h.ne, List.getElem?_set_self (by omega)]
/-- a row is taken out of its cell -/
theorem chk_ok {o i nb u : Nat} {y : G.U u} {g : Grw G.T} {q : (u' : Nat) × G.U u'} {v : Value} (L : Laws P G) (ok : OK P G F N c) (ho : c.os[o]? = some (.usr u y)) (hg : G.gr u y = some g) (hhl : g.hl = none)
    (hv : VR P G F c (.sub o i g.tok) v) (hnb : c.os[nb]? = some .free) (hq : G.grm { g with tok := g.tok + 1, hl := some i } = some q) :
    ∃ m', Tr G F c ⟨c.w, m', (setObj c.os o (.usr q.1 q.2)).set nb (.arr g.k (g.xs.getD i []) true)⟩ ∧ OK P G F N ⟨c.w, m', (setObj c.os o (.usr q.1 q.2)).set nb (.arr g.k (g.xs.getD i []) true)⟩ ∧
      VR P G F ⟨c.w, m', (setObj c.os o (.usr q.1 q.2)).set nb (.arr g.k (g.xs.getD i []) true)⟩ (.own nb) v ∧ ∃ β1 : Blk, m'[o]? = some β1 ∧ β1.z.hs[i]? = some v ∧ β1.z.tok = g.tok + 1 := by
  cases hv with
  | subDead _ _ _ _ hd => rw [ho] at hd; cases hd
  | sub _ _ _ u2 y2 β v ho' hm ht hr h1 h2 =>
  rw [ho] at ho'; cases ho'
  obtain ⟨b, bl, gr⟩ := L.gru u y g hg _ _ (ok.obj _ _ _ ho hm).1
  have hr := hr gr.tok
  have hlt : i < g.xs.length := by rw [← gr.len]; exact (List.getElem?_eq_some_iff.1 hr).1
  have hxi : g.xs[i]? = some g.xs[i] := List.getElem?_eq_getElem hlt
  have hgd : g.xs.getD i [] = g.xs[i] := by simp [List.getD, hlt]
  rw [hgd]
  let β' : Blk := { β with fp := β.fp.filter (fun x => decide (bl i ≠ some x)), z := { β.z with tok := g.tok + 1 } }
  have hble : BLe β β' := ⟨rfl, rfl, rfl, rfl, rfl, by show β.z.tok ≤ g.tok + 1; rw [gr.tok]; omega, fun e => rfl⟩
  have hsub : ∀ x ∈ β'.fp, x ∈ β.fp ∧ bl i ≠ some x := fun x hx => by
    have hx : x ∈ β.fp.filter (fun x => decide (bl i ≠ some x)) := hx
    rw [List.mem_filter] at hx
    exact ⟨hx.1, by simpa using hx.2⟩
  have hin : ∀ x, x ∈ β.fp → bl i ≠ some x → x ∈ β'.fp := fun x h3 h4 => by
    show x ∈ β.fp.filter (fun x => decide (bl i ≠ some x))
    rw [List.mem_filter]; exact ⟨h3, by simpa using h4⟩
  have gr' : GR P G { g with tok := g.tok + 1, hl := some i } c.w β' b (fun j => if j = i then none else bl j) := {
    hk := gr.hk, hK := gr.hK, one := gr.one, flat := gr.flat, nt := gr.nt, tok := rfl, len := gr.len, head := gr.head
    outb := hin b gr.outb fun e => (gr.inb i b e).2 rfl
    cells := by
      obtain ⟨cs, a1, a2, a3⟩ := gr.cells
      exact ⟨cs, a1, a2, a3⟩
    inj := fun j j' bi hne h3 h4 => by
      by_cases e : j = i
      · rw [if_pos e] at h3; cases h3
      · rw [if_neg e] at h3
        by_cases e' : j' = i
        · rw [if_pos e'] at h4; cases h4
        · rw [if_neg e'] at h4; exact gr.inj j j' bi hne h3 h4
    inb := fun j bi h3 => by
      by_cases e : j = i
      · rw [if_pos e] at h3; cases h3
      · rw [if_neg e] at h3
        exact ⟨hin bi (gr.inb j bi h3).1 fun h4 => gr.inj j i bi e h3 h4, (gr.inb j bi h3).2⟩
    inn := fun j w ys h3 h4 hne => by
      have e : j ≠ i := fun e => hne (by rw [e])
      show InR P G c.w (if j = i then none else bl j) g.k w ys
      rw [if_neg e]
      exact gr.inn j w ys h3 h4 (by rw [hhl]; simp) }
  have hu : ∀ (c2 : Cf G), c2.w = c.w → ObjR P G F c2 β' (.usr q.1 q.2) := fun c2 e => ⟨by rw [e]; exact L.grmu _ q hq _ _ _ _ gr', fun w2 hw => L.grmu _ q hq _ _ _ _ (gr'.mono fun x hx => (hw x hx).trans (by rw [e]))⟩
  rcases gr.inn i v _ hr hxi (by rw [hhl]; simp) with ⟨h3, h4, a, rfl, hst⟩ | ⟨bi, cs, cap, h3, rfl, h4, h5, h6, h7⟩
  · have S : Spl c o nb β β' ⟨none, 0, [], {}⟩ u q.1 y q.2 (.arr g.k g.xs[i] true) := {
      ho := ho, hm := hm, nb := hnb, sub := fun x hx => (hsub x hx).1, subn := fun x hx => by simp at hx, dis := fun x hx => by simp at hx, le := hble }
    refine ⟨_, S.tr ok.len, S.ok ok (hu _ rfl) ⟨gr.hk, .inl ⟨rfl, rfl, h3⟩⟩, ?_⟩
    obtain ⟨e1, e2⟩ := S.at_nb ok.len
    have e1 : ((setObj c.os o (.usr q.1 q.2)).set nb (.arr g.k g.xs[i] true))[nb]? = some (.arr g.k [] true) := by rw [← h3]; exact e1
    exact ⟨.ownNil nb g.k true _ a e1 e2 rfl hst, β', S.at_o ok.len, hr, rfl⟩
  · have S : Spl c o nb β β' ⟨some bi, cs.size, [bi], {}⟩ u q.1 y q.2 (.arr g.k g.xs[i] true) := {
      ho := ho, hm := hm, nb := hnb, sub := fun x hx => (hsub x hx).1, subn := fun x hx => by simp at hx; subst hx; exact (gr.inb i _ h3).1
      dis := fun x hx hx2 => by simp at hx; subst hx; exact (hsub _ hx2).2 h3, le := hble }
    have hrow : ∀ (c2 : Cf G), c2.w = c.w → ObjR P G F c2 ⟨some bi, cs.size, [bi], {}⟩ (.arr g.k g.xs[i] true) := fun c2 e => by
      refine ⟨gr.hk, .inr ⟨bi, cs, rfl, rfl, by rw [e]; exact h5, rfl, Nat.le_trans (Nat.mul_le_mul_right _ h4) h6, fun r z hz j d hd => ?_⟩⟩
      obtain ⟨w0, rfl, h8⟩ := h7 r z hz j d hd
      exact ⟨w0, h8, .lit _⟩
    refine ⟨_, S.tr ok.len, S.ok ok (hu _ rfl) (hrow _ rfl), ?_⟩
    obtain ⟨e1, e2⟩ := S.at_nb ok.len
    exact ⟨.own nb g.k _ true _ bi cap e1 e2 rfl h4 h6 (fun h => by rw [gr.nt] at h; cases h), β', S.at_o ok.len, hr, rfl⟩

/-- a row goes into an object, and dies -/
structure Jn (c : Cf G) (o p : Nat) (β β' βp : Blk) (u u' : Nat) (y : G.U u) (y' : G.U u') (r : AObj G.T G.U) (w' : World) : Prop where
  ho : c.os[o]? = some (.usr u y)
  hm : c.m[o]? = some β
  hp : c.os[p]? = some r
  hmp : c.m[p]? = some βp
  mu : isMut r = true
  ne : p ≠ o
  sys : w'.os = c.w.os ∧ w'.tape = c.w.tape ∧ w'.output = c.w.output
  size : w'.heap.size = c.w.heap.size
  keep : ∀ b, b ∉ β.fp → w'.heap[b]? = c.w.heap[b]?
  fz : ∀ a : Addr, c.w.frozen? a = false → w'.frozen? a = false
  sub : ∀ b ∈ β'.fp, b ∈ β.fp ∨ b ∈ βp.fp
  le : BLe β β'
def jnCf (c : Cf G) (o p : Nat) (β' : Blk) (u' : Nat) (y' : G.U u') (w' : World) : Cf G := ⟨w', c.m.set o β', setObj (setObj c.os p .dead) o (.usr u' y')⟩
variable {p : Nat} {βp : Blk} {w' : World}
theorem Jn.inv (h : Jn c o p β β' βp u u' y y' r w') (hl : c.m.length = c.os.length) {j : Nat} {z : AObj G.T G.U} {γ : Blk} (h1 : (jnCf c o p β' u' y' w').os[j]? = some z) (h2 : (jnCf c o p β' u' y' w').m[j]? = some γ) :
    z = .dead ∨ (j = o ∧ z = .usr u' y' ∧ γ = β') ∨ (j ≠ o ∧ j ≠ p ∧ c.os[j]? = some z ∧ c.m[j]? = some γ) := by
  have h1 : ((c.os.set p .dead).set o (.usr u' y'))[j]? = some z := h1
  have h2 : (c.m.set o β')[j]? = some γ := h2
  have hlo : o < c.os.length := (List.getElem?_eq_some_iff.1 h.ho).1
  have hlp : p < c.os.length := (List.getElem?_eq_some_iff.1 h.hp).1
  by_cases e1 : o = j
  · subst e1
    rw [List.getElem?_set_self (by simpa using hlo)] at h1
    rw [List.getElem?_set_self (by omega)] at h2
    cases h1; cases h2; exact .inr (.inl ⟨rfl, rfl, rfl⟩)
  · rw [List.getElem?_set_ne e1] at h1 h2
    by_cases e2 : p = j
    · subst e2
      rw [List.getElem?_set_self hlp] at h1
      cases h1; exact .inl rfl
    · rw [List.getElem?_set_ne e2] at h1
      exact .inr (.inr ⟨Ne.symm e1, Ne.symm e2, h1, h2⟩)
theorem Jn.tr (h : Jn c o p β β' βp u u' y y' r w') (hl : c.m.length = c.os.length) : Tr G F c (jnCf c o p β' u' y' w') where
  sys := h.sys
  size := by show _ ≤ w'.heap.size; rw [h.size]; exact Nat.le_refl _
  keep := fun b hb hh => h.keep b (hh o _ β h.ho h.hm rfl)
  ext := fun j z hj hf => by
    have hlo : o < c.os.length := (List.getElem?_eq_some_iff.1 h.ho).1
    have hlp : p < c.os.length := (List.getElem?_eq_some_iff.1 h.hp).1
    by_cases e : o = j
    · subst e
      rw [h.ho] at hj; cases hj
      refine ⟨.usr u' y', ?_, .inr ⟨trivial, .inr ⟨rfl, rfl, ?_⟩⟩⟩
      · unfold jnCf setObj; simp only; rw [List.getElem?_set_self (by simpa using hlo)]
      · intro γ hγ
        rw [h.hm] at hγ; cases hγ
        refine ⟨β', ?_, h.le⟩
        unfold jnCf; simp only; rw [List.getElem?_set_self (by omega)]
    · by_cases e2 : p = j
      · subst e2
        refine ⟨.dead, ?_, .inl rfl⟩
        unfold jnCf setObj; simp only; rw [List.getElem?_set_ne e, List.getElem?_set_self hlp]
      · refine ⟨z, ?_, ?_⟩
        · unfold jnCf setObj; simp only; rw [List.getElem?_set_ne e, List.getElem?_set_ne e2]; exact hj
        · by_cases hd : z = .dead
          · exact .inl hd
          · refine .inr ⟨Same.refl_live' hd hf, .inl ?_⟩
            unfold jnCf; simp only; rw [List.getElem?_set_ne e]
  mv := fun b hb hh => by
    obtain ⟨j, z, γ, h1, h2, h3, h4⟩ := hh
    rcases h.inv hl h1 h2 with rfl | ⟨rfl, rfl, rfl⟩ | ⟨_, _, h5, h6⟩
    · simp [isMut] at h3
    · rcases h.sub b h4 with h5 | h5
      · exact ⟨_, _, β, h.ho, h.hm, rfl, h5⟩
      · exact ⟨p, _, βp, h.hp, h.hmp, h.mu, h5⟩
    · exact ⟨j, z, γ, h5, h6, h3, h4⟩
  fz := h.fz
  lv := fun b hb hh => by
    obtain ⟨j, z, γ, h1, h2, h3, h4⟩ := hh
    rcases h.inv hl h1 h2 with rfl | ⟨rfl, rfl, rfl⟩ | ⟨_, _, h5, h6⟩
    · simp [isLive] at h3
    · rcases h.sub b h4 with h5 | h5
      · exact ⟨_, _, β, h.ho, h.hm, rfl, h5⟩
      · exact ⟨p, _, βp, h.hp, h.hmp, isMut_live h.mu, h5⟩
    · exact ⟨j, z, γ, h5, h6, h3, h4⟩
theorem Jn.ok (h : Jn c o p β β' βp u u' y y' r w') (ok : OK P G F N c) (h1 : ObjR P G F (jnCf c o p β' u' y' w') β' (.usr u' y')) : OK P G F N (jnCf c o p β' u' y' w') where
  len := by unfold jnCf setObj; simp [ok.len]
  obj := fun j z γ a1 a2 => by
    rcases h.inv ok.len a1 a2 with rfl | ⟨rfl, rfl, rfl⟩ | ⟨e1, e2, h5, h6⟩
    · trivial
    · exact h1
    · refine (ok.obj j z γ h5 h6).mono (h.tr ok.len) fun hl b hb => h.keep b fun hb2 => ?_
      exact ok.apart j o z _ γ β h5 h.ho h6 h.hm hl rfl e1 b hb hb2
  own := fun j z γ a1 a2 hl b hb => by
    rcases h.inv ok.len a1 a2 with rfl | ⟨rfl, rfl, rfl⟩ | ⟨e1, e2, h5, h6⟩
    · simp [isLive] at hl
    · have : ¬ F b ∧ b < c.w.heap.size := by
        rcases h.sub b hb with h5 | h5
        · exact ok.own _ _ β h.ho h.hm rfl b h5
        · exact ok.own p _ βp h.hp h.hmp (isMut_live h.mu) b h5
      exact ⟨this.1, by show b < w'.heap.size; rw [h.size]; exact this.2⟩
    · have := ok.own j z γ h5 h6 hl b hb
      exact ⟨this.1, by show b < w'.heap.size; rw [h.size]; exact this.2⟩
  wr := fun j z γ a1 a2 hl b hb => by
    rcases h.inv ok.len a1 a2 with rfl | ⟨rfl, rfl, rfl⟩ | ⟨e1, e2, h5, h6⟩
    · simp [isMut] at hl
    · rcases h.sub b hb with h5 | h5
      · exact ok.wr _ _ β h.ho h.hm rfl b h5
      · exact ok.wr p _ βp h.hp h.hmp h.mu b h5
    · exact ok.wr j z γ h5 h6 hl b hb
  apart := fun j j' z z' γ γ' a1 a2 a3 a4 l1 l2 hne b hb hb' => by
    rcases h.inv ok.len a1 a3 with rfl | ⟨rfl, rfl, rfl⟩ | ⟨e1, e2, h5, h6⟩
    · simp [isLive] at l1
    · rcases h.inv ok.len a2 a4 with rfl | ⟨rfl, rfl, rfl⟩ | ⟨e3, e4, h7, h8⟩
      · simp [isLive] at l2
      · exact hne rfl
      · rcases h.sub b hb with h9 | h9
        · exact ok.apart _ j' _ z' β γ' h.ho h7 h.hm h8 rfl l2 (Ne.symm e3) b h9 hb'
        · exact ok.apart p j' _ z' βp γ' h.hp h7 h.hmp h8 (isMut_live h.mu) l2 (Ne.symm e4) b h9 hb'
    · rcases h.inv ok.len a2 a4 with rfl | ⟨rfl, rfl, rfl⟩ | ⟨e3, e4, h7, h8⟩
      · simp [isLive] at l2
      · rcases h.sub b hb' with h9 | h9
        · exact ok.apart j _ z _ γ β h5 h.ho h6 h.hm l1 rfl e1 b hb h9
        · exact ok.apart j p z _ γ βp h5 h.hp h6 h.hmp l1 (isMut_live h.mu) e2 b hb h9
      · exact ok.apart j j' z z' γ γ' h5 h7 h6 h8 l1 l2 hne b hb hb'
  low := fun b hb => by show b < w'.heap.size; rw [h.size]; exact ok.low b hb
  gl := ok.gl.step (h.tr (F := F) ok.len)

/-- what lies in an own row of a flat kind -/
theorem own_inr {p k : Nat} {ys : List (G.T k)} {wr : Bool} {βp : Blk} {v : Value} (L : Laws P G) (ok : OK P G F N c) (hp : c.os[p]? = some (.arr k ys wr)) (hmp : c.m[p]? = some βp) (hfl : G.flat k = true) (hv : VR P G F c (.own p) v) :
    ∃ ob, InR P G c.w ob k v ys ∧ ∀ bi, ob = some bi → bi ∈ βp.fp := by
  cases hv with
  | ownDead _ _ _ _ hd => rw [hp] at hd; cases hd
  | ownNil _ k2 wr2 β2 a ho hm hb ha => rw [hp] at ho; cases ho; exact ⟨none, .inl ⟨rfl, rfl, a, rfl, ha⟩, fun bi e => by cases e⟩
  | own _ k2 xs2 wr2 β2 b cap ho hm hb hcap hn =>
    rw [hp] at ho; cases ho
    rw [hmp] at hm; cases hm
    obtain ⟨hk, hob⟩ := ok.obj _ _ _ hp hmp
    rcases hob with ⟨hb', -, -⟩ | ⟨b', cs, hb', hfp, hheap, hcs, hle, hrow⟩
    · rw [hb] at hb'; cases hb'
    · rw [hb] at hb'; cases hb'
      refine ⟨some b, .inr ⟨b, cs, cap, rfl, rfl, hcap, hheap, by rw [hcs]; exact hn, fun q y hy j d hd => ?_⟩, fun bi e => by cases e; rw [hfp]; simp⟩
      obtain ⟨u, h1, h2⟩ := hrow q y hy j d hd
      obtain ⟨w0, rfl⟩ := L.flat k hfl y j d hd
      cases h2
      exact ⟨_, rfl, h1⟩

theorem cells_set {w : World} {b i : Nat} {cs : Array Value} {t : TypeId} {v : Value} (h : w.heap[b]? = some (.cells cs t (0, 0))) : (w.setCell ⟨b, i, none⟩ v).heap[b]? = some (.cells (cs.setIfInBounds i v) t (0, 0)) := by
  have hlt : b < w.heap.size := (Array.getElem?_eq_some_iff.1 h).1
  have hh : w.heap[b] = .cells cs t (0, 0) := by
    have := Array.getElem?_eq_getElem hlt
    rw [this] at h; exact Option.some.inj h
  simp [World.setCell, hlt, Array.getElem_modify, hh]

/-- a row goes back into its cell -/
theorem put_gr {w w' : World} {β β' : Blk} {b i : Nat} {bl : Nat → Option Nat} {g : Grw G.T} {ys : List (G.T g.k)} {v : Value} {ob : Option Nat} (gr : GR P G g w β b bl) (hhl : ∀ j, j ≠ i → g.hl ≠ some j) (hi : i < g.xs.length)
    (hin : InR P G w ob g.k v ys) (hob : ∀ bi, ob = some bi → bi ∈ β'.fp ∧ bi ∉ β.fp) (hfp : ∀ x ∈ β.fp, x ∈ β'.fp) (hrt : β'.z.rt = β.z.rt) (htok : β'.z.tok = g.tok + 1) (hhs : β'.z.hs = β.z.hs.set i v)
    (hw : w' = w.setCell ⟨b, i, none⟩ v) : ∃ bl', GR P G { g with tok := g.tok + 1, hl := none, xs := g.xs.set i ys } w' β' b bl' := by
  obtain ⟨cs, c1, c2, c3⟩ := gr.cells
  have hbo : ∀ b2, b2 ≠ b → w'.heap[b2]? = w.heap[b2]? := fun b2 h => by rw [hw]; exact heap_setCell_other w _ b2 v h
  have hobb : ∀ bi, ob = some bi → bi ≠ b := fun bi e h => (hob bi e).2 (h ▸ gr.outb)
  refine ⟨fun j => if j = i then ob else bl j, {
    hk := gr.hk, hK := gr.hK, one := gr.one, flat := gr.flat, nt := gr.nt, tok := htok, len := by rw [hhs]; simp [gr.len], head := by rw [hrt]; simpa using gr.head
    outb := hfp b gr.outb, cells := ⟨cs.setIfInBounds i v, by rw [hw]; exact cells_set c1, by simpa using c2, fun j u hj => ?_⟩, inj := fun j j' bi hne h3 h4 => ?_, inb := fun j bi h3 => ?_, inn := fun j u zs h3 h4 _ => ?_ }⟩
  · rw [hhs] at hj
    by_cases e : i = j
    · subst e
      rw [List.getElem?_set_self (by rw [gr.len]; exact hi)] at hj
      rw [Array.getElem?_setIfInBounds_self_of_lt (by omega)]; exact hj
    · rw [List.getElem?_set_ne e] at hj
      rw [Array.getElem?_setIfInBounds_ne e]
      exact c3 j u hj
  · by_cases e : j = i
    · by_cases e' : j' = i
      · exact hne (e.trans e'.symm)
      · simp only [if_pos e] at h3; simp only [if_neg e'] at h4
        exact (hob bi h3).2 (gr.inb j' bi h4).1
    · simp only [if_neg e] at h3
      by_cases e' : j' = i
      · simp only [if_pos e'] at h4
        exact (hob bi h4).2 (gr.inb j bi h3).1
      · simp only [if_neg e'] at h4; exact gr.inj j j' bi hne h3 h4
  · by_cases e : j = i
    · simp only [if_pos e] at h3; exact ⟨(hob bi h3).1, hobb bi h3⟩
    · simp only [if_neg e] at h3; exact ⟨hfp bi (gr.inb j bi h3).1, (gr.inb j bi h3).2⟩
  · rw [hhs] at h3
    by_cases e : i = j
    · subst e
      rw [List.getElem?_set_self (by rw [gr.len]; exact hi)] at h3
      have h4 : (g.xs.set i ys)[i]? = some zs := h4
      rw [List.getElem?_set_self hi] at h4
      cases h3; cases h4
      simp only [if_true]
      exact hin.mono fun bi hb => hbo bi (hobb bi hb)
    · rw [List.getElem?_set_ne e] at h3
      have h4 : (g.xs.set i ys)[j]? = some zs := h4
      rw [List.getElem?_set_ne e] at h4
      simp only [if_neg (Ne.symm e)]
      exact (gr.inn j u zs h3 h4 (hhl j (Ne.symm e))).mono fun bi hb => hbo bi (gr.inb j bi hb).2

/-- the store of an own row into the cell that is empty -/
theorem put_ok {o p i u : Nat} {t : TypeId} {y : G.U u} {g : Grw G.T} {ys : List (G.T g.k)} {q : (u' : Nat) × G.U u'} {v va : Value} (L : Laws P G) (ok : OK P G F N c) (ho : c.os[o]? = some (.usr u y)) (hg : G.gr u y = some g) (hhl : g.hl = some i)
    (hp : c.os[p]? = some (.arr g.k ys true)) (hx : VR P G F c (.zel o g.K i 0) va) (hv : VR P G F c (.own p) v) {ti : TypeInfo} (hi : P.info? t = some ti) (hsz : ti.size = 1)
    (hq : G.grm { g with tok := g.tok + 1, hl := none, xs := g.xs.set i ys } = some q) :
    OpTo P G F N c (do Instr.storeAt t va v; pure undef) (setObj (setObj c.os p .dead) o (.usr q.1 q.2)) .undef := by
  cases hx with
  | zelDead _ _ _ _ _ hd => rw [ho] at hd; cases hd
  | zel _ _ _ _ u2 y2 β ad n cap ho' hm hr hlt =>
    rw [ho] at ho'; cases ho'
    obtain ⟨b, bl, gr⟩ := L.gru u y g hg _ _ (ok.obj _ _ _ ho hm).1
    obtain ⟨cap2, -, hh⟩ := gr.head
    rw [hr] at hh; cases hh
    have hpl : p < c.m.length := by rw [ok.len]; exact (List.getElem?_eq_some_iff.1 hp).1
    have hmp : c.m[p]? = some c.m[p] := List.getElem?_eq_getElem hpl
    have hne : p ≠ o := fun e => by rw [e, ho] at hp; cases hp
    obtain ⟨ob, hin, hob⟩ := own_inr L ok hp hmp gr.flat hv
    have hv1 : v.oneCell' = true ∧ v.cells = #[v] := by
      rcases hin with ⟨-, -, a, e, -⟩ | ⟨bi, cs', cap', -, e, -⟩ <;> rw [e] <;> exact ⟨rfl, rfl⟩
    obtain ⟨cs, c1, c2, c3⟩ := gr.cells
    have hadd : (⟨b, 0, none⟩ : Addr).add (i * esz P G g.K + 0) = ⟨b, i, none⟩ := by
      rw [gr.one]; unfold Addr.add; split <;> simp_all
    rw [hadd]
    let w' := c.w.setCell ⟨b, i, none⟩ v
    let β' : Blk := { β with fp := β.fp ++ (c.m[p]).fp, z := { β.z with tok := g.tok + 1, hs := β.z.hs.set i v } }
    obtain ⟨bl', gr'⟩ := put_gr (w' := w') (β' := β') gr (fun j hj h => by rw [hhl] at h; cases h; exact hj rfl) hlt hin (fun bi e => ⟨List.mem_append_right _ (hob bi e), fun h => ok.apart p o _ _ _ β hp ho hmp hm rfl rfl hne bi (hob bi e) h⟩) (fun x hx => List.mem_append_left _ hx) rfl rfl rfl rfl
    have J : Jn c o p β β' (c.m[p]) u q.1 y q.2 (.arr g.k ys true) w' := {
      ho := ho, hm := hm, hp := hp, hmp := hmp, mu := rfl, ne := hne, sys := ⟨rfl, rfl, rfl⟩, size := by simp [w'],
      keep := fun b2 hb2 => heap_setCell_other c.w _ b2 v (fun e => hb2 (e ▸ gr.outb)), fz := fun x hx => by simp only [w', World.frozen?_setCell]; exact hx
      sub := fun x hx => List.mem_append.1 hx
      le := ⟨rfl, rfl, rfl, rfl, rfl, by show β.z.tok ≤ g.tok + 1; rw [gr.tok]; omega, fun e => by have h1 : g.tok + 1 = β.z.tok := e; rw [gr.tok] at h1; omega⟩ }
    have hobj : ObjR P G F (jnCf c o p β' q.1 q.2 w') β' (.usr q.1 q.2) := ⟨L.grmu _ q hq _ _ _ _ gr', fun w2 hw => L.grmu _ q hq _ _ _ _ (gr'.mono hw)⟩
    refine ⟨undef, w', _, ?_, J.tr ok.len, J.ok ok hobj, .undef _⟩
    have hcell : c.w.cell? ⟨b, i, none⟩ = some (cs[i]'(by omega)) := by simp [World.cell?, c1, show i < cs.size by omega]
    have hfr : c.w.frozen? ⟨b, i, none⟩ = false := frozen_zero c1
    have hst : (store ((⟨b, i, none⟩ : Addr).add 0) v).run P c.w = .ok () w' := by
      show (store ⟨b, i, none⟩ v).run P c.w = _
      rw [run_store P c.w _ v _ hv1.1]
      simp [hcell, hfr, w']
    have e : (storeVar t ⟨b, i, none⟩ v).run P c.w = .ok () w' := by
      unfold storeVar
      simp only [Sem.run_bind, run_sizeOf' hi, Result.andThen_ok]
      rw [if_neg (by rw [hv1.2, hsz]; simp), hv1.2]
      simp only [storeCells, Sem.run_bind, hst, Result.andThen_ok]
      rfl
    simp only [Instr.storeAt, Instr.sureAddr, Sem.run_bind, Sem.run_pure, Result.andThen_ok, e]

/-- a row goes back into its cell, which still holds it -/
theorem back_gr {w : World} {β β' : Blk} {b i : Nat} {bl : Nat → Option Nat} {g : Grw G.T} {ys : List (G.T g.k)} {v : Value} {ob : Option Nat} (gr : GR P G g w β b bl) (hhl : g.hl = some i) (hi : i < g.xs.length)
    (hin : InR P G w ob g.k v ys) (hob : ∀ bi, ob = some bi → bi ∈ β'.fp ∧ bi ∉ β.fp) (hfp : ∀ x ∈ β.fp, x ∈ β'.fp) (hrt : β'.z.rt = β.z.rt) (htok : β'.z.tok = g.tok + 1) (hhs : β'.z.hs = β.z.hs) (hv : β.z.hs[i]? = some v) :
    ∃ bl', GR P G { g with tok := g.tok + 1, hl := none, xs := g.xs.set i ys } w β' b bl' := by
  obtain ⟨cs, c1, c2, c3⟩ := gr.cells
  have hobb : ∀ bi, ob = some bi → bi ≠ b := fun bi e h => (hob bi e).2 (h ▸ gr.outb)
  refine ⟨fun j => if j = i then ob else bl j, {
    hk := gr.hk, hK := gr.hK, one := gr.one, flat := gr.flat, nt := gr.nt, tok := htok, len := by rw [hhs]; simp [gr.len], head := by rw [hrt]; simpa using gr.head
    outb := hfp b gr.outb, cells := ⟨cs, c1, by simpa using c2, fun j u hj => by rw [hhs] at hj; exact c3 j u hj⟩, inj := fun j j' bi hne h3 h4 => ?_, inb := fun j bi h3 => ?_, inn := fun j u zs h3 h4 _ => ?_ }⟩
  · by_cases e : j = i
    · by_cases e' : j' = i
      · exact hne (e.trans e'.symm)
      · simp only [if_pos e] at h3; simp only [if_neg e'] at h4
        exact (hob bi h3).2 (gr.inb j' bi h4).1
    · simp only [if_neg e] at h3
      by_cases e' : j' = i
      · simp only [if_pos e'] at h4
        exact (hob bi h4).2 (gr.inb j bi h3).1
      · simp only [if_neg e'] at h4; exact gr.inj j j' bi hne h3 h4
  · by_cases e : j = i
    · simp only [if_pos e] at h3; exact ⟨(hob bi h3).1, hobb bi h3⟩
    · simp only [if_neg e] at h3; exact ⟨hfp bi (gr.inb j bi h3).1, (gr.inb j bi h3).2⟩
  · rw [hhs] at h3
    by_cases e : i = j
    · subst e
      have h4 : (g.xs.set i ys)[i]? = some zs := h4
      rw [List.getElem?_set_self hi] at h4
      rw [hv] at h3
      cases h3; cases h4
      simp only [if_true]
      exact hin
    · have h4 : (g.xs.set i ys)[j]? = some zs := h4
      rw [List.getElem?_set_ne e] at h4
      simp only [if_neg (Ne.symm e)]
      exact gr.inn j u zs h3 h4 (by rw [hhl]; intro h; cases h; exact e rfl)
theorem back_ok {o p i u : Nat} {y : G.U u} {g : Grw G.T} {ys : List (G.T g.k)} {q : (u' : Nat) × G.U u'} {v : Value} {β : Blk} (L : Laws P G) (ok : OK P G F N c) (ho : c.os[o]? = some (.usr u y)) (hm : c.m[o]? = some β) (hg : G.gr u y = some g) (hhl : g.hl = some i)
    (hp : c.os[p]? = some (.arr g.k ys true)) (hv : VR P G F c (.own p) v) (hhs : β.z.hs[i]? = some v) (hq : G.grm { g with tok := g.tok + 1, hl := none, xs := g.xs.set i ys } = some q) :
    ∃ m', Tr G F c ⟨c.w, m', setObj (setObj c.os p .dead) o (.usr q.1 q.2)⟩ ∧ OK P G F N ⟨c.w, m', setObj (setObj c.os p .dead) o (.usr q.1 q.2)⟩ := by
  obtain ⟨b, bl, gr⟩ := L.gru u y g hg _ _ (ok.obj _ _ _ ho hm).1
  have hlt : i < g.xs.length := by rw [← gr.len]; exact (List.getElem?_eq_some_iff.1 hhs).1
  have hpl : p < c.m.length := by rw [ok.len]; exact (List.getElem?_eq_some_iff.1 hp).1
  have hmp : c.m[p]? = some c.m[p] := List.getElem?_eq_getElem hpl
  have hne : p ≠ o := fun e => by rw [e, ho] at hp; cases hp
  obtain ⟨ob, hin, hob⟩ := own_inr L ok hp hmp gr.flat hv
  let β' : Blk := { β with fp := β.fp ++ (c.m[p]).fp, z := { β.z with tok := g.tok + 1 } }
  obtain ⟨bl', gr'⟩ := back_gr (β' := β') gr hhl hlt hin (fun bi e => ⟨List.mem_append_right _ (hob bi e), fun h => ok.apart p o _ _ _ β hp ho hmp hm rfl rfl hne bi (hob bi e) h⟩) (fun x hx => List.mem_append_left _ hx) rfl rfl rfl hhs
  have J : Jn c o p β β' (c.m[p]) u q.1 y q.2 (.arr g.k ys true) c.w := {
    ho := ho, hm := hm, hp := hp, hmp := hmp, mu := rfl, ne := hne, sys := ⟨rfl, rfl, rfl⟩, size := rfl, keep := fun _ _ => rfl, fz := fun _ h => h
    sub := fun x hx => List.mem_append.1 hx
    le := ⟨rfl, rfl, rfl, rfl, rfl, by show β.z.tok ≤ g.tok + 1; rw [gr.tok]; omega, fun _ => rfl⟩ }
  have hobj : ObjR P G F (jnCf c o p β' q.1 q.2 c.w) β' (.usr q.1 q.2) := ⟨L.grmu _ q hq _ _ _ _ gr', fun w2 hw => L.grmu _ q hq _ _ _ _ (gr'.mono hw)⟩
  exact ⟨_, J.tr ok.len, J.ok ok hobj⟩

theorem litOf_imm {v : Value} {k : Nat} {xs : List (G.T k)} : (litOf v : AV G.T) ≠ .imm k xs := by
  intro h
  unfold litOf at h
  split at h
  · cases h
  · unfold lit1 at h
    split at h <;> cases h
theorem litOf_nil {v : Value} (h : (litOf v : AV G.T) = .nil0) : v = .slice none 0 0 := by
  unfold litOf at h
  split at h
  · cases h
  · unfold lit1 at h
    split at h
    · rfl
    · cases h
    · cases h
    · cases h

/-- rows of no elements -/
theorem makeG_ok {nb : Nat} {t : TypeId} {e : Nat × Nat} {kl kc : IntKind} {l cp : Int} {q : (u' : Nat) × G.U u'} (L : Laws P G) (ok : OK P G F N c) (hnb : c.os[nb]? = some .free) (hg : G.mkg t = some e)
    (h0 : 0 ≤ l) (h1 : l ≤ cp) (h2 : cp ≤ (maxSz : Nat)) (hq : G.grm ⟨e.1, e.2, 0, List.replicate l.toNat [], none⟩ = some q) :
    OpTo P G F N c (Instr.makeSlice t (.int kl l) (.int kc cp)) (setObj c.os nb (.usr q.1 q.2)) (.ref nb 0) := by
  obtain ⟨hkt, hnt, hk2, hfl, hop⟩ := L.mkg t e hg
  obtain ⟨e', i, hu, hE, hk, hi, hsz, hb0, hb1⟩ := kindOf_ok L hkt
  obtain ⟨z, hz1, hzs, hzr⟩ := L.df e.1 hk
  rw [hE, hi] at hz1
  have hz1 : i.zero = some z := hz1
  have hone : esz P G e.1 = 1 := by rw [← L.len e.1 hk (G.df e.1), hop]; rfl
  rw [hone] at hzs hsz
  have hz0 : z.cells[0]? = some (.slice none 0 0) := by
    have hv : z.cells[0]? = some (z.cells[0]'(by omega)) := by simp [hzs]
    rcases hzr 0 _ (.imm e.2 []) hv (by rw [hop]; rfl) with h | ⟨h, -⟩
    · exact absurd h.symm litOf_imm
    · rw [hv, litOf_nil h]
  unfold maxSz at h2
  have hbytes : (i.bytes : Int) * cp ≤ 281474976710656 := by
    have : (i.bytes : Int) * cp ≤ 1024 * 68719476736 := Int.mul_le_mul (by omega) (by omega) (by omega) (by omega)
    omega
  have hr := Go.run_make (P := P) c.w t e' i z hu hi hz1 kl kc l cp h0 h1 hbytes (by omega)
  let cs := madeCells z.cells (cp.toNat * i.size)
  let w1 := c.w.alloc (.cells cs e')
  let β : Blk := ⟨some c.w.heap.size, cs.size, [c.w.heap.size], { rt := [.slice (some ⟨c.w.heap.size, 0, none⟩) l.toNat cp.toNat], tok := 0, hs := List.replicate l.toNat (.slice none 0 0) }⟩
  have s4 : w1.heap = c.w.heap.push (.cells cs (G.E e.1) (0, 0)) := by show c.w.heap.push _ = _; rw [hE]
  have n : New c nb β (.usr q.1 q.2) w1 := {
    nb := hnb, sys := ⟨rfl, rfl, rfl⟩, size := by rw [s4]; simp, keep := fun b hb => by rw [s4, Array.getElem?_push, if_neg (by omega)]
    fp := fun b hb => by simp [β] at hb; subst hb; rw [s4]; simp
    fz := fun a ha => frozen_alloc _ _ _ _ ha }
  have hh : w1.heap[c.w.heap.size]? = some (.cells cs (G.E e.1) (0, 0)) := by rw [s4]; simp
  have hszc : cs.size = cp.toNat := by show (madeCells z.cells (cp.toNat * i.size)).size = _; rw [size_madeCells, hsz, Nat.mul_one]
  have gr : GR P G ⟨e.1, e.2, 0, List.replicate l.toNat [], none⟩ w1 β c.w.heap.size (fun _ => none) := {
    hk := hk2, hK := hk, one := hone, flat := hfl, nt := hnt, tok := rfl, len := by simp [β], head := ⟨cp.toNat, by simp; omega, by simp [β]⟩, outb := by simp [β]
    cells := ⟨cs, hh, by simp; omega, fun j v hj => by
      simp only [β, List.getElem?_replicate] at hj
      split at hj
      case isFalse => cases hj
      rename_i hjl
      cases hj
      have := made_get z.cells (cp.toNat * i.size) j 1 0 hzs (by omega) (by rw [hsz]; omega)
      rw [Nat.mul_one, Nat.add_zero] at this
      show (madeCells z.cells (cp.toNat * i.size))[j]? = _
      rw [this]; exact hz0⟩
    inj := fun _ _ _ _ h => by cases h
    inb := fun _ _ h => by cases h
    inn := fun j v ys hj hy _ => by
      simp only [β, List.getElem?_replicate] at hj hy
      split at hj
      case isFalse => cases hj
      rename_i hjl
      rw [if_pos hjl] at hy
      cases hj; cases hy
      exact .inl ⟨rfl, rfl, none, rfl, fun _ => rfl⟩ }
  have hob : ObjR P G F (newCf c nb β (.usr q.1 q.2) w1) β (.usr q.1 q.2) := ⟨L.grmu _ q hq _ _ _ _ gr, fun w2 hw => L.grmu _ q hq _ _ _ _ (gr.mono hw)⟩
  obtain ⟨a1, a2⟩ := n.at_nb ok.len
  exact ⟨_, _, (newCf c nb β (.usr q.1 q.2) w1).m, hr, n.tr ok.len, n.ok ok hob, .ref nb 0 q.1 q.2 β _ a1 a2 rfl rfl rfl⟩

theorem Runs.bind_in {os : List (AObj G.T G.U)} {α β : Type} {x : RdG G α} {f : α → RdG G β} {a : α} {b : β} {l1 l2 : List Nat} (h1 : Runs P G os x l1 a) (h2 : Runs P G os (f a) l2 b) : Runs P G os (x.bind f) (l1 ++ l2) b := by
  induction h1 with
  | pure a => exact h2
  | look o k l a h ih => exact .look o _ _ _ (ih h2)
  | test k l a h ih => exact .test _ _ _ (ih h2)
  | call g args objs k r os' l a hs h ih => exact .call g args objs _ r os' _ _ hs (ih h2)
theorem Runs.of_opt {os os' : List (AObj G.T G.U)} {α : Type} {x : Option α} {a : α} {l : List Nat} (h : Runs P G os (Rd.ofOpt x) l a) : Runs P G os' (Rd.ofOpt x) l a := by
  obtain ⟨rfl, rfl⟩ := h.ofOpt_inv; exact .pure a

/-- what is appended is no part of a grown row -/
theorem srcOf_same {os os' : List (AObj G.T G.U)} {k : Nat} {x : AV G.T} {ys : List (G.T k)} {l : List Nat} (h : Runs P G os (srcOf G k x) l ys) (hn : noSub x = true)
    (he : ∀ p k' zs wr, os.getD p .free = .arr k' zs wr → os'.getD p .free = .arr k' zs wr) : Runs P G os' (srcOf G k x) l ys := by
  unfold srcOf at h ⊢
  split at h
  · split at h
    · rename_i hu; rw [if_pos hu]; obtain ⟨rfl, rfl⟩ := h.pure_inv; exact .pure _
    · exact h.fail_inv.elim
  · unfold content at h ⊢
    split at h
    · obtain ⟨rfl, rfl⟩ := h.pure_inv; exact .pure _
    · exact h.of_opt
    · split at h
      · rename_i hf; rw [if_pos hf]; exact h.of_opt
      · exact h.fail_inv.elim
    · cases hn
    · rename_i o
      obtain ⟨l', rfl, h1⟩ := h.look_inv
      refine .look _ _ _ _ ?_
      split at h1
      · rename_i k' zs wr ho
        rw [he _ _ _ _ ho]; exact h1.of_opt
      · exact h1.fail_inv.elim
    · rename_i o n
      obtain ⟨l', rfl, h1⟩ := h.look_inv
      refine .look _ _ _ _ ?_
      split at h1
      · rename_i k' zs wr ho
        rw [he _ _ _ _ ho]; exact h1.of_opt
      · exact h1.fail_inv.elim
    · exact h.fail_inv.elim
end
end Go.Proofs.Ytjfmfpnnjgfffaa.Am
