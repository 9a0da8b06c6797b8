/- The abstract machine: changed objects; stores; new variables and rows. -/
import Derived.Test.YtjfmfpnnjgfffaaAmNew
import Derived.Laws.CopyRow
import Derived.Laws.Tables
namespace Go.Proofs.Ytjfmfpnnjgfffaa.Am
open Go
set_option autoImplicit false
set_option linter.unusedVariables false
set_option linter.unusedSectionVars false
set_option linter.unusedSimpArgs false

section
variable {P : Program} {G : Sig} {F N : Nat → Prop} {c c' c'' : Cf G}

theorem frozen_setRow {w : World} {b : Nat} {cs R : Array Value} {t : TypeId} (hh : w.heap[b]? = some (.cells cs t (0, 0))) (a : Addr) (h : w.frozen? a = false) : (w.setRow b R).frozen? a = false := by
  by_cases e : a.block = b
  · exact frozen_zero (by rw [e]; exact setRow_heap w b cs _ t _ hh)
  · exact frozen_block (setRow_other w b a.block _ e) h

structure Chg (c : Cf G) (o : Nat) (β : Blk) (x x' : AObj G.T G.U) (w' : World) : Prop where
  ho : c.os[o]? = some x
  hm : c.m[o]? = some β
  mu : isMut x = true
  sys : w'.os = c.w.os ∧ w'.tape = c.w.tape ∧ w'.output = c.w.output
  size : w'.heap.size = c.w.heap.size
  keep : ∀ b, b ∉ β.fp → w'.heap[b]? = c.w.heap[b]?
  same : Same x x'
  fz : ∀ a : Addr, c.w.frozen? a = false → w'.frozen? a = false

def chgCf (c : Cf G) (o : Nat) (x' : AObj G.T G.U) (w' : World) : Cf G := ⟨w', c.m, setObj c.os o x'⟩

variable {o : Nat} {β : Blk} {x x' : AObj G.T G.U} {w' : World}

theorem Chg.lt (h : Chg c o β x x' w') : o < c.os.length := (List.getElem?_eq_some_iff.1 h.ho).1

theorem Chg.inv (h : Chg c o β x x' w') {o' : Nat} {obj : AObj G.T G.U} (h1 : (chgCf c o x' w').os[o']? = some obj) : (o' = o ∧ obj = x') ∨ (o' ≠ o ∧ c.os[o']? = some obj) := by
  unfold chgCf at h1
  rw [setObj_lt h.lt] at h1
  by_cases e : o' = o
  · subst e; left
    rw [List.getElem?_set_self h.lt] at h1
    exact ⟨rfl, (Option.some.inj h1).symm⟩
  · right; rw [List.getElem?_set_ne (Ne.symm e)] at h1; exact ⟨e, h1⟩

theorem Chg.tr (h : Chg c o β x x' w') : Tr G F c (chgCf c o x' w') where
  sys := h.sys
  size := by show _ ≤ w'.heap.size; rw [h.size]; exact Nat.le_refl _
  keep := fun b hb hh => h.keep b (hh o x β h.ho h.hm h.mu)
  ext := fun o' obj ho hf => by
    by_cases e : o' = o
    · subst e
      rw [h.ho] at ho; cases ho
      exact ⟨x', by unfold chgCf; rw [setObj_lt h.lt, List.getElem?_set_self h.lt], .inr ⟨h.same, .inl rfl⟩⟩
    · refine ⟨obj, by unfold chgCf; rw [setObj_lt h.lt, List.getElem?_set_ne (Ne.symm e)]; exact ho, ?_⟩
      by_cases hd : obj = .dead
      · exact .inl hd
      · exact .inr ⟨Same.refl_live' hd hf, .inl rfl⟩
  mv := fun b hb hh => by
    obtain ⟨o', obj, β', h1, h2, h3, h4⟩ := hh
    rcases h.inv h1 with ⟨rfl, rfl⟩ | ⟨_, h5⟩
    · exact ⟨o', x, β', h.ho, h2, h.mu, h4⟩
    · exact ⟨o', obj, β', h5, h2, h3, h4⟩
  fz := h.fz
  lv := fun b hb hh => by
    obtain ⟨o', obj, β', h1, h2, h3, h4⟩ := hh
    rcases h.inv h1 with ⟨rfl, rfl⟩ | ⟨_, h5⟩
    · exact ⟨o', x, β', h.ho, h2, isMut_live h.mu, h4⟩
    · exact ⟨o', obj, β', h5, h2, h3, h4⟩

theorem Chg.ok (h : Chg c o β x x' w') (ok : OK P G F N c) (hx : ObjR P G F (chgCf c o x' w') β x') : OK P G F N (chgCf c o x' w') := by
  have t := h.tr (F := F)
  have hl := isMut_live h.mu
  have hfar : ∀ (o' : Nat) (obj : AObj G.T G.U) (β' : Blk), o' ≠ o → c.os[o']? = some obj → c.m[o']? = some β' → isLive obj = true → ∀ b ∈ β'.fp, w'.heap[b]? = c.w.heap[b]? :=
    fun o' obj β' hne h1 h2 h3 b hb => h.keep b fun hb' => ok.apart _ _ _ _ _ _ h1 h.ho h2 h.hm h3 hl hne b hb hb'
  constructor
  · show c.m.length = (setObj c.os o x').length
    rw [setObj_lt h.lt]; simp [ok.len]
  · intro o' obj β' h1 h2
    rcases h.inv h1 with ⟨rfl, rfl⟩ | ⟨hne, h3⟩
    · have h2' : c.m[o']? = some β' := h2
      have : β' = β := by have := h.hm; rw [h2'] at this; exact Option.some.inj this
      subst this; exact hx
    · have h6 := ok.obj _ _ _ h3 h2
      have hf := hfar o' obj β' hne h3 h2
      cases obj with
      | dead => trivial
      | free => trivial
      | usr u y => exact ⟨h6.2 _ fun b hb => hf rfl b hb, fun w2 h2 => h6.2 w2 fun b hb => (h2 b hb).trans (hf rfl b hb)⟩
      | box bt ds =>
        obtain ⟨b, cs, h1, h2, h5, h6, h7⟩ := h6
        exact ⟨b, cs, h1, h2, by show w'.heap[b]? = _; rw [hf rfl b (by simp [h2])]; exact h5, h6, h7.mono t⟩
      | arr k xs wr =>
        obtain ⟨h1, h2⟩ := h6
        refine ⟨h1, h2.imp id ?_⟩
        rintro ⟨b, cs, h1, h2, h5, h6, h7, h8⟩
        exact ⟨b, cs, h1, h2, by show w'.heap[b]? = _; rw [hf rfl b (by simp [h2])]; exact h5, h6, h7, fun i y hy => (h8 i y hy).mono t⟩
  · intro o' obj β' h1 h2 hl' b hb
    rcases h.inv h1 with ⟨rfl, rfl⟩ | ⟨hne, h3⟩
    · have := ok.own _ _ _ h.ho h2 hl b hb
      exact ⟨this.1, by show b < w'.heap.size; rw [h.size]; exact this.2⟩
    · have := ok.own _ _ _ h3 h2 hl' b hb
      exact ⟨this.1, by show b < w'.heap.size; rw [h.size]; exact this.2⟩
  · intro o' obj β' h1 h2 hl' b hb
    rcases h.inv h1 with ⟨rfl, rfl⟩ | ⟨hne, h3⟩
    · exact ok.wr _ _ _ h.ho h2 h.mu b hb
    · exact ok.wr _ _ _ h3 h2 hl' b hb
  · intro o1 o2 obj obj' β1 β2 h1 h2 h3 h4 hl1 hl2 hne b hb hb'
    rcases h.inv h1 with ⟨rfl, rfl⟩ | ⟨hn1, a1⟩ <;> rcases h.inv h2 with ⟨rfl, rfl⟩ | ⟨hn2, a2⟩
    · exact hne rfl
    · exact ok.apart _ _ _ _ _ _ h.ho a2 h3 h4 hl hl2 hne b hb hb'
    · exact ok.apart _ _ _ _ _ _ a1 h.ho h3 h4 hl1 hl hne b hb hb'
    · exact ok.apart _ _ _ _ _ _ a1 a2 h3 h4 hl1 hl2 hne b hb hb'
  · intro b hb
    show b < w'.heap.size
    rw [h.size]; exact ok.low b hb
  · exact ok.gl.step t

/-- what one operation does: the continuation -/
def OpTo (P : Program) (G : Sig) (F N : Nat → Prop) (c : Cf G) (s : Sem Value) (os' : List (AObj G.T G.U)) (d : AV G.T) : Prop :=
  ∃ v w' m', s.run P c.w = .ok v w' ∧ Tr G F c ⟨w', m', os'⟩ ∧ OK P G F N ⟨w', m', os'⟩ ∧ VR P G F ⟨w', m', os'⟩ d v

theorem VOp.to {s : Sem Value} {d : AV G.T} (ok : OK P G F N c) (h : VOp P G F c s d) : OpTo P G F N c s c.os d := by
  obtain ⟨v, h1, h2⟩ := h
  exact ⟨v, c.w, c.m, h1, Tr.refl F c, ok, h2⟩

/-- a variable of its own -/
theorem box_ok {nb : Nat} {e : TypeId} {z : AV G.T} {v : Value} {ds : List (AV G.T)} (ok : OK P G F N c) (hnb : c.os[nb]? = some .free) (hf : flatC z = some ds) (hr : VR P G F c z v) :
    OpTo P G F N c (do pure (.pointer (some (← newVar e v)))) (setObj c.os nb (.box e ds)) (.ptr nb 0) := by
  obtain ⟨hs, hc⟩ := flatC_rel hf hr
  let w' := c.w.alloc (.cells v.cells e)
  let β : Blk := ⟨some c.w.heap.size, v.cells.size, [c.w.heap.size], {}⟩
  have n : New c nb β (.box e ds) w' := {
    nb := hnb, sys := ⟨rfl, rfl, rfl⟩, size := by simp [w'], keep := fun b hb => Go.RowKit.Below.heap_alloc c.w _ b hb
    fp := fun b hb => by simp [β] at hb; subst hb; simp [w']
    fz := frozen_alloc c.w _ _ }
  have hh : w'.heap[c.w.heap.size]? = some (.cells v.cells e (0, 0)) := heap_alloc_new c.w _
  have t := n.tr (F := F) ok.len
  have hob : ObjR P G F (newCf c nb β (.box e ds) w') β (.box e ds) := by
    refine ⟨c.w.heap.size, v.cells, rfl, rfl, hh, hs, fun j d hd => ?_⟩
    have hlt : j < v.cells.size := by rw [hs]; exact (List.getElem?_eq_some_iff.1 hd).1
    refine ⟨v.cells[j], by simp [hlt], ?_⟩
    exact ((hc j d v.cells[j] hd (by simp [hlt])).1).mono t
  refine ⟨.pointer (some ⟨c.w.heap.size, 0, none⟩), w', (newCf c nb β (.box e ds) w').m, ?_, t, n.ok ok hob, ?_⟩
  · simp [newVar, newRow]; rfl
  · obtain ⟨a1, a2⟩ := n.at_nb ok.len
    exact .ptr nb 0 (.box e ds) β c.w.heap.size a1 rfl a2 rfl

theorem zero_run {e : TypeId} {z : AV G.T} (h : zeroT P G e = some z) : ∃ i v, P.info? e = some i ∧ i.zero = some v ∧ z = litOf v := by
  unfold zeroT at h
  cases hi : P.info? e with
  | none => simp [hi] at h
  | some i =>
    simp only [hi, Option.map_eq_some_iff] at h
    obtain ⟨v, h1, rfl⟩ := h
    exact ⟨i, v, rfl, h1, rfl⟩

theorem alloc_ok {nb : Nat} {e : TypeId} {z : AV G.T} {ds : List (AV G.T)} (ok : OK P G F N c) (hnb : c.os[nb]? = some .free) (hz : zeroT P G e = some z) (hf : flatC z = some ds) :
    OpTo P G F N c (Instr.alloc e true (.tuple #[])) (setObj c.os nb (.box e ds)) (.ptr nb 0) := by
  obtain ⟨i, v, hi, hv, rfl⟩ := zero_run hz
  obtain ⟨u, w', m', h1, h2⟩ := box_ok (e := e) ok hnb hf (litOf_rel F c v)
  refine ⟨u, w', m', ?_, h2⟩
  rw [← h1]
  unfold Instr.alloc zeroValue
  simp only [Sem.run_bind, run_typeInfo' hi, Result.andThen_ok, hv, Sem.run_pure]

theorem mem_get? {α : Type} {l : List α} {a : α} (h : a ∈ l) : ∃ i : Nat, l[i]? = some a := List.getElem?_of_mem h

theorem splice_get {α : Type} (cs vs : List α) (off : Nat) (h : off + vs.length ≤ cs.length) (j : Nat) :
    (splice cs off vs)[j]? = if off ≤ j ∧ j < off + vs.length then vs[j - off]? else cs[j]? := by
  unfold splice
  have hl : (cs.take off).length = off := by simp; omega
  rw [List.append_assoc, List.getElem?_append, hl]
  split
  · rename_i h1
    rw [if_neg (by omega), List.getElem?_take, if_pos h1]
  · rename_i h1
    rw [List.getElem?_append]
    split
    · rename_i h2; rw [if_pos ⟨by omega, by omega⟩]
    · rename_i h2
      rw [if_neg (by omega), List.getElem?_drop]
      congr 1; omega

theorem splice_length {α : Type} (cs vs : List α) (off : Nat) (h : off + vs.length ≤ cs.length) : (splice cs off vs).length = cs.length := by
  unfold splice; simp; omega

/-- storing cells in a block -/
theorem store_cells {b off : Nat} {cs : Array Value} {t : TypeId} {vs : List Value} (hh : c.w.heap[b]? = some (.cells cs t (0, 0))) (hle : off + vs.length ≤ cs.size) (h1 : ∀ v ∈ vs, v.oneCell' = true) :
    (storeCells ⟨b, off, none⟩ vs).run P c.w = .ok () (c.w.setRow b (splice cs.toList off vs).toArray) := by
  have := Go.run_storeCells_at P b off t vs 0 cs c.w hh (by omega) h1
  simpa [splice] using this

theorem store_box {o off : Nat} {t bt : TypeId} {cs vs : List (AV G.T)} {x v : Value} {a : AV G.T} (ok : OK P G F N c) (ho : c.os[o]? = some (.box bt cs)) (hx : VR P G F c (.ptr o off) x)
    (hf : flatC a = some vs) (hv : VR P G F c a v) {i : TypeInfo} (hi : P.info? t = some i) (hsz : vs.length = i.size) (hle : off + vs.length ≤ cs.length) :
    OpTo P G F N c (do Instr.storeAt t x v; pure undef) (setObj c.os o (.box bt (splice cs off vs))) .undef := by
  obtain ⟨hs, hc⟩ := flatC_rel hf hv
  cases hx with
  | ptrDead _ _ _ hd => rw [ho] at hd; cases hd
  | ptr _ _ obj β b ho' hl hm hb =>
    rw [ho] at ho'; cases ho'
    obtain ⟨b', cells, hb', hfp, hh, hn, hrow⟩ := ok.obj _ _ _ ho hm
    rw [hb] at hb'; cases hb'
    let w' := c.w.setRow b (splice cells.toList off v.cells.toList).toArray
    have hle' : off + v.cells.toList.length ≤ cells.size := by simp [hs, hn]; exact hle
    have hone : ∀ u ∈ v.cells.toList, u.oneCell' = true := by
      intro u hu
      obtain ⟨j, hj⟩ := mem_get? hu
      have hlt : j < vs.length := by rw [← hs]; have := (List.getElem?_eq_some_iff.1 hj).1; simpa using this
      exact (hc j vs[j] u (by simp [hlt]) (by simpa using hj)).2.1
    have hrun := store_cells (P := P) hh hle' hone
    have ch : Chg c o β (.box bt cs) (.box bt (splice cs off vs)) w' := {
      ho := ho, hm := hm, mu := rfl, sys := ⟨rfl, rfl, rfl⟩, size := by simp [w'],
      keep := fun b2 hb2 => setRow_other c.w b b2 _ (by rintro rfl; exact hb2 (by simp [hfp])), same := by simp [Same], fz := fun a ha => by
        by_cases e : a.block = b
        · exact frozen_zero (by rw [e]; exact setRow_heap c.w b cells _ bt _ hh)
        · exact frozen_block (setRow_other c.w b a.block _ e) ha }
    have tr := ch.tr (F := F)
    have hob : ObjR P G F (chgCf c o (.box bt (splice cs off vs)) w') β (.box bt (splice cs off vs)) := by
      refine ⟨b, (splice cells.toList off v.cells.toList).toArray, hb, hfp, setRow_heap c.w b cells _ bt _ hh, ?_, fun j d hd => ?_⟩
      · simp only [List.size_toArray]; rw [splice_length _ _ _ (by simpa using hle'), splice_length _ _ _ hle]; simpa using hn
      · rw [splice_get _ _ _ hle] at hd
        simp only [List.getElem?_toArray]
        rw [Nat.zero_add, splice_get _ _ _ (by simpa using hle')]
        split at hd
        · rename_i hj
          have hlt : j - off < v.cells.size := by rw [hs]; omega
          refine ⟨v.cells[j - off], ?_, ((hc _ _ _ hd (by simp [hlt])).1).mono tr⟩
          rw [if_pos (by simp [hs]; omega)]
          simp [hlt]
        · rename_i hj
          obtain ⟨u, hu, hr⟩ := hrow j d hd
          refine ⟨u, ?_, hr.mono tr⟩
          rw [if_neg (by simp [hs]; omega)]
          simpa using hu
    refine ⟨undef, w', c.m, ?_, tr, ch.ok ok hob, .undef _⟩
    have e : (storeVar t ⟨b, off, none⟩ v).run P c.w = .ok () w' := by
      unfold storeVar
      simp only [Sem.run_bind, run_sizeOf' hi, Result.andThen_ok]
      rw [if_neg (by rw [hs, hsz]; simp)]
      exact hrun
    simp only [Instr.storeAt, Instr.sureAddr, Sem.run_bind, Sem.run_pure, Result.andThen_ok, e]

end
end Go.Proofs.Ytjfmfpnnjgfffaa.Am
