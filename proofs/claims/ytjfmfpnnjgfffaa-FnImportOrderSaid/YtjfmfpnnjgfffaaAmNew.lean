/- The abstract machine: new objects, changed objects. -/
import Derived.Test.YtjfmfpnnjgfffaaAmVal4
namespace Go.Proofs.Ytjfmfpnnjgfffaa.Am
open Go
set_option autoImplicit false
set_option linter.unusedVariables false
set_option linter.unusedSectionVars false
set_option linter.unusedSimpArgs false

section
variable {P : Program} {G : Sig} {F N : Nat → Prop} {c c' c'' : Cf G}

theorem isMut_live {T U : Nat → Type} {x : AObj T U} (h : isMut x = true) : isLive x = true := by cases x <;> simp_all [isMut, isLive]

theorem Tr.trans (t : Tr G F c c') (ok' : OK P G F N c') (t' : Tr G F c' c'') : Tr G F c c'' where
  sys := ⟨t'.sys.1.trans t.sys.1, t'.sys.2.1.trans t.sys.2.1, t'.sys.2.2.trans t.sys.2.2⟩
  size := Nat.le_trans t.size t'.size
  keep := fun b hb h => by
    rw [← t.keep b hb h]
    refine t'.keep b (Nat.lt_of_lt_of_le hb t.size) fun o obj β h1 h2 h3 h4 => ?_
    rcases t.av b hb (.inr ⟨o, obj, β, h1, h2, h3, h4⟩) with h5 | ⟨o', obj', β', h5, h6, h7, h8⟩
    · exact (ok'.own _ _ _ h1 h2 (isMut_live h3) b h4).1 h5
    · exact h _ _ _ h5 h6 h7 h8
  ext := fun o obj ho hf => by
    obtain ⟨x, h1, h2⟩ := t.ext o obj ho hf
    have hxf : x ≠ .free := by
      rcases h2 with rfl | ⟨h2, _⟩
      · simp
      · exact live_nf h2.nf.2
    obtain ⟨y, h3, h4⟩ := t'.ext o x h1 hxf
    refine ⟨y, h3, ?_⟩
    rcases h4 with h4 | ⟨h4, h5⟩
    · exact .inl h4
    · rcases h2 with rfl | ⟨h2, h6⟩
      · exact (by cases y <;> simp [Same] at h4)
      · refine .inr ⟨by cases obj <;> cases x <;> cases y <;> simp_all [Same], ?_⟩
        rcases h6 with h6 | ⟨h7, h6⟩
        · rcases h5 with h5 | ⟨h8, h9, h5⟩
          · exact .inl (h5.trans h6)
          · refine .inr ⟨?_, h9, by rw [← h6]; exact h5⟩
            cases obj <;> cases x <;> simp_all [Same, isArr]
        · have h10 : isUsr y = true := by cases x <;> cases y <;> simp_all [Same, isUsr]
          rcases h5 with h5 | ⟨h8, h9, h5⟩
          · exact .inr ⟨h7, h10, by rw [h5]; exact h6.2⟩
          · exact .inr ⟨h7, h9, h6.2.trans h5⟩
  mv := fun b hb h => t.mv b hb (t'.mv b (Nat.lt_of_lt_of_le hb t.size) h)
  fz := fun a h => t'.fz a (t.fz a h)
  lv := fun b hb h => t.lv b hb (t'.lv b (Nat.lt_of_lt_of_le hb t.size) h)

theorem frozen_alloc (w : World) (cs : Array Value) (e : TypeId) (a : Addr) (h : w.frozen? a = false) : (w.alloc (.cells cs e)).frozen? a = false := by
  unfold World.frozen? at h ⊢
  by_cases hb : a.block < w.heap.size
  · have : (w.alloc (.cells cs e)).heap[a.block]? = w.heap[a.block]? := Go.RowKit.Below.heap_alloc w _ _ hb
    rw [this]; exact h
  · by_cases hb2 : a.block = w.heap.size
    · have : (w.alloc (.cells cs e)).heap[a.block]? = some (.cells cs e (0, 0)) := by rw [hb2]; exact heap_alloc_new w _
      rw [this]; simp
    · have : (w.alloc (.cells cs e)).heap[a.block]? = none := by
        apply Array.getElem?_eq_none
        have : (w.alloc (.cells cs e)).heap.size = w.heap.size + 1 := by simp
        omega
      rw [this]
theorem frozen_block {w w' : World} {a : Addr} (hb : w'.heap[a.block]? = w.heap[a.block]?) (h : w.frozen? a = false) : w'.frozen? a = false := by
  unfold World.frozen? at h ⊢; rw [hb]; exact h
theorem frozen_zero {w : World} {a : Addr} {cs : Array Value} {e : TypeId} (h : w.heap[a.block]? = some (.cells cs e (0, 0))) : w.frozen? a = false := by
  unfold World.frozen?; rw [h]; simp

/-- a new object, in a free place -/
structure New (c : Cf G) (nb : Nat) (β : Blk) (x : AObj G.T G.U) (w' : World) : Prop where
  nb : c.os[nb]? = some .free
  sys : w'.os = c.w.os ∧ w'.tape = c.w.tape ∧ w'.output = c.w.output
  size : c.w.heap.size ≤ w'.heap.size
  keep : ∀ b, b < c.w.heap.size → w'.heap[b]? = c.w.heap[b]?
  fp : ∀ b ∈ β.fp, c.w.heap.size ≤ b ∧ b < w'.heap.size
  fz : ∀ a : Addr, c.w.frozen? a = false → w'.frozen? a = false

def newCf (c : Cf G) (nb : Nat) (β : Blk) (x : AObj G.T G.U) (w' : World) : Cf G := ⟨w', c.m.set nb β, setObj c.os nb x⟩

variable {nb : Nat} {β : Blk} {x : AObj G.T G.U} {w' : World}

theorem New.lt (n : New c nb β x w') : nb < c.os.length := (List.getElem?_eq_some_iff.1 n.nb).1

theorem New.os_inv (n : New c nb β x w') {o : Nat} {obj : AObj G.T G.U} (h : (newCf c nb β x w').os[o]? = some obj) : (o ≠ nb ∧ c.os[o]? = some obj) ∨ (o = nb ∧ obj = x) := by
  unfold newCf setObj at h
  by_cases e : o = nb
  · subst e
    simp only at h
    rw [List.getElem?_set_self n.lt] at h
    exact .inr ⟨rfl, (Option.some.inj h).symm⟩
  · simp only at h
    rw [List.getElem?_set_ne (Ne.symm e)] at h
    exact .inl ⟨e, h⟩

theorem New.m_inv (n : New c nb β x w') (hl : c.m.length = c.os.length) {o : Nat} {b : Blk} (h : (newCf c nb β x w').m[o]? = some b) : (o ≠ nb ∧ c.m[o]? = some b) ∨ (o = nb ∧ b = β) := by
  unfold newCf at h
  by_cases e : o = nb
  · subst e
    simp only at h
    rw [List.getElem?_set_self (by rw [hl]; exact n.lt)] at h
    exact .inr ⟨rfl, (Option.some.inj h).symm⟩
  · simp only at h
    rw [List.getElem?_set_ne (Ne.symm e)] at h
    exact .inl ⟨e, h⟩

theorem New.key (n : New c nb β x w') (hl : c.m.length = c.os.length) (o : Nat) (obj : AObj G.T G.U) (β' : Blk) (h1 : (newCf c nb β x w').os[o]? = some obj) (h2 : (newCf c nb β x w').m[o]? = some β') :
    (c.os[o]? = some obj ∧ c.m[o]? = some β') ∨ (o = nb ∧ obj = x ∧ β' = β) := by
  rcases n.os_inv h1 with ⟨h5, h6⟩ | ⟨rfl, rfl⟩
  · rcases n.m_inv hl h2 with ⟨_, h7⟩ | ⟨h7, _⟩
    · exact .inl ⟨h6, h7⟩
    · exact (h5 h7).elim
  · rcases n.m_inv hl h2 with ⟨h7, _⟩ | ⟨_, rfl⟩
    · exact (h7 rfl).elim
    · exact .inr ⟨rfl, rfl, rfl⟩

theorem New.at_nb (n : New c nb β x w') (hl : c.m.length = c.os.length) : (newCf c nb β x w').os[nb]? = some x ∧ (newCf c nb β x w').m[nb]? = some β := by
  unfold newCf setObj
  exact ⟨List.getElem?_set_self n.lt, List.getElem?_set_self (by rw [hl]; exact n.lt)⟩

theorem New.tr (n : New c nb β x w') (hl : c.m.length = c.os.length) : Tr G F c (newCf c nb β x w') where
  sys := n.sys
  size := n.size
  keep := fun b hb _ => n.keep b hb
  ext := fun o obj ho hf => by
    have hne : nb ≠ o := fun e => by subst e; rw [n.nb] at ho; cases ho; exact hf rfl
    refine ⟨obj, ?_, ?_⟩
    · unfold newCf setObj; simp only; rw [List.getElem?_set_ne hne]; exact ho
    · by_cases hd : obj = .dead
      · exact .inl hd
      · right
        refine ⟨Same.refl_live' hd hf, ?_⟩
        unfold newCf; simp only; rw [List.getElem?_set_ne hne]; exact .inl rfl
  mv := fun b hb h => by
    obtain ⟨o, obj, β', h1, h2, h3, h4⟩ := h
    rcases n.key hl o obj β' h1 h2 with ⟨h6, h7⟩ | ⟨rfl, rfl, rfl⟩
    · exact ⟨o, obj, β', h6, h7, h3, h4⟩
    · have := (n.fp b h4).1; omega
  fz := n.fz
  lv := fun b hb h => by
    obtain ⟨o, obj, β', h1, h2, h3, h4⟩ := h
    rcases n.key hl o obj β' h1 h2 with ⟨h6, h7⟩ | ⟨rfl, rfl, rfl⟩
    · exact ⟨o, obj, β', h6, h7, h3, h4⟩
    · have := (n.fp b h4).1; omega

theorem New.ok (n : New c nb β x w') (ok : OK P G F N c) (hx : ObjR P G F (newCf c nb β x w') β x) : OK P G F N (newCf c nb β x w') := by
  have t := n.tr (F := F) ok.len
  have key := n.key ok.len
  constructor
  · unfold newCf setObj; simp [ok.len]
  · intro o obj β' h1 h2
    rcases key o obj β' h1 h2 with ⟨h3, h4⟩ | ⟨rfl, rfl, rfl⟩
    · have h6 := ok.obj _ _ _ h3 h4
      have hown := ok.own _ _ _ h3 h4
      cases obj with
      | dead => trivial
      | free => trivial
      | usr u y => exact ⟨h6.2 _ fun b hb => n.keep b (hown rfl b hb).2, fun w2 h2 => h6.2 w2 fun b hb => (h2 b hb).trans (n.keep b (hown rfl b hb).2)⟩
      | box bt ds =>
        obtain ⟨b, cs, h1, h2, h5, h6, h7⟩ := h6
        exact ⟨b, cs, h1, h2, by show w'.heap[b]? = _; rw [n.keep b (hown rfl b (by simp [h2])).2]; exact h5, h6, h7.mono t⟩
      | arr k xs wr =>
        obtain ⟨h1, h2⟩ := h6
        refine ⟨h1, h2.imp id ?_⟩
        rintro ⟨b, cs, h1, h2, h5, h6, h7, h8⟩
        exact ⟨b, cs, h1, h2, by show w'.heap[b]? = _; rw [n.keep b (hown rfl b (by simp [h2])).2]; exact h5, h6, h7, fun i y hy => (h8 i y hy).mono t⟩
    · exact hx
  · intro o obj β' h1 h2 hl b hb
    rcases key o obj β' h1 h2 with ⟨h3, h4⟩ | ⟨rfl, rfl, rfl⟩
    · obtain ⟨h5, h6⟩ := ok.own _ _ _ h3 h4 hl b hb
      exact ⟨h5, Nat.lt_of_lt_of_le h6 n.size⟩
    · obtain ⟨h5, h6⟩ := n.fp b hb
      exact ⟨fun hf => by have := ok.low b (.inl hf); omega, h6⟩
  · intro o obj β' h1 h2 hl b hb
    rcases key o obj β' h1 h2 with ⟨h3, h4⟩ | ⟨rfl, rfl, rfl⟩
    · exact ok.wr _ _ _ h3 h4 hl b hb
    · obtain ⟨h5, h6⟩ := n.fp b hb
      exact fun hf => by have := ok.low b (.inr hf); omega
  · intro o o' obj obj' β1 β2 h1 h2 h3 h4 hl hl' hne b hb hb'
    rcases key o obj β1 h1 h3 with ⟨a1, a2⟩ | ⟨rfl, rfl, rfl⟩
    · rcases key o' obj' β2 h2 h4 with ⟨a3, a4⟩ | ⟨rfl, rfl, rfl⟩
      · exact ok.apart _ _ _ _ _ _ a1 a3 a2 a4 hl hl' hne b hb hb'
      · have := (n.fp b hb').1
        have := (ok.own _ _ _ a1 a2 hl b hb).2
        omega
    · rcases key o' obj' β2 h2 h4 with ⟨a3, a4⟩ | ⟨rfl, rfl, rfl⟩
      · have := (n.fp b hb).1
        have := (ok.own _ _ _ a3 a4 hl' b hb').2
        omega
      · exact hne rfl
  · intro b h
    exact Nat.lt_of_lt_of_le (ok.low b h) n.size
  · exact ok.gl.step t

end
end Go.Proofs.Ytjfmfpnnjgfffaa.Am
