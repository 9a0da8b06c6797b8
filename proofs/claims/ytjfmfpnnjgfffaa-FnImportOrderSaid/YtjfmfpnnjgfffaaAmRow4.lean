/- The abstract machine: append. -/
import Derived.Test.YtjfmfpnnjgfffaaAmRow3
namespace Go.Proofs.Ytjfmfpnnjgfffaa.Am
open Go
set_option autoImplicit false
set_option linter.unusedVariables false
set_option linter.unusedSectionVars false
set_option linter.unusedSimpArgs false

section
variable {P : Program} {G : Sig} {F N : Nat → Prop} {c c' c'' : Cf G}

-- an object dies -------------------------------------------------------------------------------------------------------
theorem kill_tr {o : Nat} (hlt : o < c.os.length) : Tr G F c ⟨c.w, c.m, setObj c.os o .dead⟩ where
  sys := ⟨rfl, rfl, rfl⟩
  size := Nat.le_refl _
  keep := fun _ _ _ => rfl
  ext := fun o' obj ho hf => by
    show ∃ obj', (setObj c.os o .dead)[o']? = some obj' ∧ _
    rw [setObj_lt hlt]
    by_cases e : o' = o
    · subst e; exact ⟨.dead, by simp [hlt], .inl rfl⟩
    · refine ⟨obj, by rw [List.getElem?_set_ne (Ne.symm e)]; exact ho, ?_⟩
      by_cases hd : obj = .dead
      · exact .inl hd
      · exact .inr ⟨Same.refl_live' hd hf, .inl rfl⟩
  mv := fun b hb h => by
    obtain ⟨o', obj, β, h1, h2, h3, h4⟩ := h
    have h1 : (setObj c.os o .dead)[o']? = some obj := h1
    rw [setObj_lt hlt] at h1
    by_cases e : o' = o
    · subst e; simp [hlt] at h1; subst h1; simp [isMut] at h3
    · rw [List.getElem?_set_ne (Ne.symm e)] at h1; exact ⟨o', obj, β, h1, h2, h3, h4⟩
  fz := fun _ h => h
  lv := fun b hb h => by
    obtain ⟨o', obj, β, h1, h2, h3, h4⟩ := h
    have h1 : (setObj c.os o .dead)[o']? = some obj := h1
    rw [setObj_lt hlt] at h1
    by_cases e : o' = o
    · subst e; simp [hlt] at h1; subst h1; simp [isLive] at h3
    · rw [List.getElem?_set_ne (Ne.symm e)] at h1; exact ⟨o', obj, β, h1, h2, h3, h4⟩

theorem kill_inv {o o' : Nat} {obj : AObj G.T G.U} {os : List (AObj G.T G.U)} (hlt : o < os.length) (h : (setObj os o .dead)[o']? = some obj) : obj = .dead ∨ (o' ≠ o ∧ os[o']? = some obj) := by
  rw [setObj_lt hlt] at h
  by_cases e : o' = o
  · subst e; simp [hlt] at h; exact .inl h.symm
  · rw [List.getElem?_set_ne (Ne.symm e)] at h; exact .inr ⟨e, h⟩

theorem ObjR.mono {F : Nat → Prop} {c c' : Cf G} {β : Blk} {x : AObj G.T G.U} (h : ObjR P G F c β x) (t : Tr G F c c') (hk : isLive x = true → ∀ b ∈ β.fp, c'.w.heap[b]? = c.w.heap[b]?) : ObjR P G F c' β x := by
  cases x with
  | dead => trivial
  | free => trivial
  | usr u y => exact ⟨h.2 _ fun b hb => hk rfl b hb, fun w2 h2 => h.2 w2 fun b hb => (h2 b hb).trans (hk rfl b hb)⟩
  | box bt ds =>
    obtain ⟨b, cs, h1, h2, h5, h6, h7⟩ := h
    exact ⟨b, cs, h1, h2, (hk rfl b (by simp [h2])).trans h5, h6, h7.mono t⟩
  | arr k xs wr =>
    obtain ⟨h1, h2⟩ := h
    refine ⟨h1, h2.imp id ?_⟩
    rintro ⟨b, cs, h1, h2, h5, h6, h7, h8⟩
    exact ⟨b, cs, h1, h2, (hk rfl b (by simp [h2])).trans h5, h6, h7, fun i y hy => (h8 i y hy).mono t⟩

theorem kill_ok {o : Nat} (hlt : o < c.os.length) (ok : OK P G F N c) : OK P G F N ⟨c.w, c.m, setObj c.os o .dead⟩ where
  len := by show c.m.length = (setObj c.os o .dead).length; rw [setObj_lt hlt]; simp [ok.len]
  obj := fun o' obj β h1 h2 => by
    rcases kill_inv hlt h1 with rfl | ⟨_, h3⟩
    · trivial
    · exact (ok.obj _ _ _ h3 h2).mono (kill_tr hlt) fun _ _ _ => rfl
  own := fun o' obj β h1 h2 hl => by
    rcases kill_inv hlt h1 with rfl | ⟨_, h3⟩
    · simp [isLive] at hl
    · exact ok.own _ _ _ h3 h2 hl
  wr := fun o' obj β h1 h2 hl => by
    rcases kill_inv hlt h1 with rfl | ⟨_, h3⟩
    · simp [isMut] at hl
    · exact ok.wr _ _ _ h3 h2 hl
  apart := fun o1 o2 x1 x2 β1 β2 h1 h2 h3 h4 hl1 hl2 hne => by
    rcases kill_inv hlt h1 with rfl | ⟨_, a1⟩
    · simp [isLive] at hl1
    · rcases kill_inv hlt h2 with rfl | ⟨_, a2⟩
      · simp [isLive] at hl2
      · exact ok.apart _ _ _ _ _ _ a1 a2 h3 h4 hl1 hl2 hne
  low := ok.low
  gl := ok.gl.step (kill_tr (F := F) hlt)

-- an object moves to another name -----------------------------------------------------------------------------------------
structure Mov (c : Cf G) (o nb : Nat) (β : Blk) (x x' : AObj G.T G.U) (w' : World) : Prop where
  ho : c.os[o]? = some x
  hm : c.m[o]? = some β
  mu : isMut x = true
  nb : c.os[nb]? = some .free
  sys : w'.os = c.w.os ∧ w'.tape = c.w.tape ∧ w'.output = c.w.output
  size : w'.heap.size = c.w.heap.size
  keep : ∀ b, b ∉ β.fp → w'.heap[b]? = c.w.heap[b]?
  fz : ∀ a : Addr, c.w.frozen? a = false → w'.frozen? a = false

def movCf (c : Cf G) (o nb : Nat) (β : Blk) (x' : AObj G.T G.U) (w' : World) : Cf G := ⟨w', c.m.set nb β, setObj (setObj c.os o .dead) nb x'⟩

variable {o nb : Nat} {β : Blk} {x x' : AObj G.T G.U} {w' : World}

theorem Mov.lt (h : Mov c o nb β x x' w') : o < c.os.length := (List.getElem?_eq_some_iff.1 h.ho).1
theorem Mov.nblt (h : Mov c o nb β x x' w') : nb < c.os.length := (List.getElem?_eq_some_iff.1 h.nb).1
theorem Mov.ne (h : Mov c o nb β x x' w') : nb ≠ o := fun e => by
  have h1 := h.nb
  rw [e, h.ho] at h1; cases h1
  have := h.mu; simp [isMut] at this

theorem Mov.at_nb (h : Mov c o nb β x x' w') (hl : c.m.length = c.os.length) : (movCf c o nb β x' w').os[nb]? = some x' ∧ (movCf c o nb β x' w').m[nb]? = some β := by
  unfold movCf setObj
  exact ⟨List.getElem?_set_self (by simpa using h.nblt), List.getElem?_set_self (by rw [hl]; exact h.nblt)⟩

theorem Mov.inv (h : Mov c o nb β x x' w') (ok : OK P G F N c) {o' : Nat} {obj : AObj G.T G.U} {β' : Blk} (h1 : (movCf c o nb β x' w').os[o']? = some obj) (h2 : (movCf c o nb β x' w').m[o']? = some β') :
    obj = .dead ∨ (o' ≠ o ∧ c.os[o']? = some obj ∧ c.m[o']? = some β') ∨ (o' = nb ∧ obj = x' ∧ β' = β) := by
  by_cases e : o' = nb
  · subst e
    obtain ⟨a1, a2⟩ := h.at_nb ok.len
    rw [a1] at h1; rw [a2] at h2
    cases h1; cases h2
    exact .inr (.inr ⟨rfl, rfl, rfl⟩)
  · unfold movCf at h1 h2
    simp only at h1 h2
    rw [List.getElem?_set_ne (Ne.symm e)] at h2
    have h1 : ((setObj c.os o .dead).set nb x')[o']? = some obj := h1
    rw [List.getElem?_set_ne (Ne.symm e)] at h1
    rcases kill_inv h.lt h1 with rfl | ⟨hne, h7⟩
    · exact .inl rfl
    · exact .inr (.inl ⟨hne, h7, h2⟩)

theorem Mov.tr (h : Mov c o nb β x x' w') (ok : OK P G F N c) : Tr G F c (movCf c o nb β x' w') where
  sys := h.sys
  size := by show _ ≤ w'.heap.size; rw [h.size]; exact Nat.le_refl _
  keep := fun b hb hh => h.keep b (hh o x β h.ho h.hm h.mu)
  ext := fun o' obj ho hf => by
    have hne : nb ≠ o' := fun e => by subst e; rw [h.nb] at ho; cases ho; exact hf rfl
    show ∃ obj', ((setObj c.os o .dead).set nb x')[o']? = some obj' ∧ (_ ∨ _ ∧ ((c.m.set nb β)[o']? = _ ∨ _ ∧ _ ∧ MLe _ (c.m.set nb β)[o']?))
    rw [List.getElem?_set_ne hne, List.getElem?_set_ne hne, setObj_lt h.lt]
    by_cases e : o' = o
    · subst e; exact ⟨.dead, by simp [h.lt], .inl rfl⟩
    · refine ⟨obj, by rw [List.getElem?_set_ne (Ne.symm e)]; exact ho, ?_⟩
      by_cases hd : obj = .dead
      · exact .inl hd
      · exact .inr ⟨Same.refl_live' hd hf, .inl rfl⟩
  mv := fun b hb hh => by
    obtain ⟨o', obj, β', h1, h2, h3, h4⟩ := hh
    rcases h.inv ok h1 h2 with rfl | ⟨hne, h5, h6⟩ | ⟨rfl, rfl, rfl⟩
    · simp [isMut] at h3
    · exact ⟨o', obj, β', h5, h6, h3, h4⟩
    · exact ⟨o, x, β', h.ho, h.hm, h.mu, h4⟩
  fz := h.fz
  lv := fun b hb hh => by
    obtain ⟨o', obj, β', h1, h2, h3, h4⟩ := hh
    rcases h.inv ok h1 h2 with rfl | ⟨hne, h5, h6⟩ | ⟨rfl, rfl, rfl⟩
    · simp [isLive] at h3
    · exact ⟨o', obj, β', h5, h6, h3, h4⟩
    · exact ⟨o, x, β', h.ho, h.hm, isMut_live h.mu, h4⟩

theorem Mov.ok (h : Mov c o nb β x x' w') (ok : OK P G F N c) (hx : ObjR P G F (movCf c o nb β x' w') β x') : OK P G F N (movCf c o nb β x' w') := by
  have t := h.tr ok
  have hl := isMut_live h.mu
  constructor
  · unfold movCf setObj; simp [ok.len]
  · intro o' obj β' h1 h2
    rcases h.inv ok h1 h2 with rfl | ⟨hne, h5, h6⟩ | ⟨rfl, rfl, rfl⟩
    · trivial
    · exact (ok.obj _ _ _ h5 h6).mono t fun hl' b hb => h.keep b fun hb' => ok.apart _ _ _ _ _ _ h5 h.ho h6 h.hm hl' hl hne b hb hb'
    · exact hx
  · intro o' obj β' h1 h2 hl' b hb
    have hs : (movCf c o nb β x' w').w.heap.size = c.w.heap.size := h.size
    rw [hs]
    rcases h.inv ok h1 h2 with rfl | ⟨hne, h5, h6⟩ | ⟨rfl, rfl, rfl⟩
    · simp [isLive] at hl'
    · exact ok.own _ _ _ h5 h6 hl' b hb
    · exact ok.own _ _ _ h.ho h.hm hl b hb
  · intro o' obj β' h1 h2 hl' b hb
    rcases h.inv ok h1 h2 with rfl | ⟨hne, h5, h6⟩ | ⟨rfl, rfl, rfl⟩
    · simp [isMut] at hl'
    · exact ok.wr _ _ _ h5 h6 hl' b hb
    · exact ok.wr _ _ _ h.ho h.hm h.mu b hb
  · intro o1 o2 y1 y2 β1 β2 h1 h2 h3 h4 hl1 hl2 hne b hb hb'
    rcases h.inv ok h1 h3 with rfl | ⟨hn1, a1, a2⟩ | ⟨rfl, rfl, rfl⟩
    · simp [isLive] at hl1
    · rcases h.inv ok h2 h4 with rfl | ⟨hn2, a3, a4⟩ | ⟨rfl, rfl, rfl⟩
      · simp [isLive] at hl2
      · exact ok.apart _ _ _ _ _ _ a1 a3 a2 a4 hl1 hl2 hne b hb hb'
      · exact ok.apart _ _ _ _ _ _ a1 h.ho a2 h.hm hl1 hl hn1 b hb hb'
    · rcases h.inv ok h2 h4 with rfl | ⟨hn2, a3, a4⟩ | ⟨rfl, rfl, rfl⟩
      · simp [isLive] at hl2
      · exact ok.apart _ _ _ _ _ _ a3 h.ho a4 h.hm hl2 hl hn2 b hb' hb
      · exact hne rfl
  · intro b hb
    have hs : (movCf c o nb β x' w').w.heap.size = c.w.heap.size := h.size
    rw [hs]; exact ok.low b hb
  · exact ok.gl.step t

-- what is appended ---------------------------------------------------------------------------------------------------------
/-- the cells of what is appended -/
def Cells (P : Program) (G : Sig) (F : Nat → Prop) (c : Cf G) (k : Nat) (ys : List (G.T k)) (news : Array Value) : Prop :=
  news.size = ys.length * esz P G k ∧ (∀ v ∈ news.toList, v.oneCell' = true) ∧ ∀ (i : Nat) (x : G.T k), ys[i]? = some x → Row P G F c news (i * esz P G k) (G.op k x)

theorem leaf_one {k : Nat} {x : G.T k} {j : Nat} {d : AV G.T} {v : Value} (L : Laws P G) (hk : k < G.n) (hd : (G.op k x)[j]? = some d) (hr : VR P G F c d v) : v.oneCell' = true := by
  rcases L.leaf k hk x j d hd with ⟨u, rfl, h⟩ | ⟨k', ys, rfl, -⟩
  · obtain rfl := hr.lit_inv; exact h
  · cases hr; rfl

theorem holds_cells {k : Nat} {ys : List (G.T k)} {a : Option Addr} (L : Laws P G) (hk : k < G.n) (h : Holds P G F c a k ys) :
    ∃ news : Array Value, Cells P G F c k ys news ∧ ∀ (cap : Nat) (w2 : World), w2.heap = c.w.heap → (Builtin.firstCells (esz P G k) ys.length (.slice a ys.length cap)).run P w2 = .ok news w2 := by
  have hpos := L.pos k hk
  cases a with
  | none =>
    have : ys = [] := by
      cases ys with
      | nil => rfl
      | cons y ys =>
        have hl := L.len k hk y
        have hl0 : 0 < (G.op k y).length := by omega
        have h0 : (G.op k y)[0]? = some (G.op k y)[0] := by simp [hl0]
        obtain ⟨ad, u, e, -⟩ := h 0 y rfl 0 _ h0
        cases e
    subst this
    exact ⟨#[], ⟨by simp, by simp, fun i x hx => by simp at hx⟩, fun cap w2 _ => rfl⟩
  | some ad =>
    let f : Nat → Value := fun q => (c.w.cell? (ad.add q)).getD undef
    let l : List Value := (List.range (ys.length * esz P G k)).map f
    have hget : ∀ q, q < ys.length * esz P G k → ∃ (x : G.T k) (d : AV G.T), ys[q / esz P G k]? = some x ∧ (G.op k x)[q % esz P G k]? = some d ∧ c.w.cell? (ad.add q) = some (f q) ∧ VR P G F c d (f q) := by
      intro q hq
      have hi : q / esz P G k < ys.length := Nat.div_lt_of_lt_mul (by rw [Nat.mul_comm]; exact hq)
      have hj : q % esz P G k < (G.op k ys[q / esz P G k]).length := by rw [L.len k hk]; exact Nat.mod_lt _ hpos
      obtain ⟨ad', u, e, h1, h2⟩ := h (q / esz P G k) ys[q / esz P G k] (by simp [hi]) (q % esz P G k) (G.op k ys[q / esz P G k])[q % esz P G k] (by simp [hj])
      cases e
      rw [Nat.mul_comm, Nat.div_add_mod] at h1
      exact ⟨ys[q / esz P G k], (G.op k ys[q / esz P G k])[q % esz P G k], by simp [hi], by simp [hj], by simp [f, h1], by simpa [f, h1] using h2⟩
    have hl : ∀ q v, l[q]? = some v → q < ys.length * esz P G k ∧ v = f q := by
      intro q v hv
      simp only [l, List.getElem?_map, Option.map_eq_some_iff] at hv
      obtain ⟨q', hq', rfl⟩ := hv
      have hlt := (List.getElem?_eq_some_iff.1 hq').1
      simp at hlt
      simp [hlt] at hq'
      exact ⟨hlt, by rw [hq']⟩
    refine ⟨l.toArray, ⟨by simp [l], fun v hv => ?_, fun i x hx j d hd => ?_⟩, fun cap w2 hw => ?_⟩
    · obtain ⟨q, hq⟩ := mem_get? (by simpa using hv : v ∈ l)
      obtain ⟨h1, rfl⟩ := hl q v hq
      obtain ⟨x, d, _, h2, _, h3⟩ := hget q h1
      exact leaf_one L hk h2 h3
    · have hi : i < ys.length := (List.getElem?_eq_some_iff.1 hx).1
      have hj : j < esz P G k := by rw [← L.len k hk x]; exact (List.getElem?_eq_some_iff.1 hd).1
      obtain ⟨ad', u, e, h1, h2⟩ := h i x hx j d hd
      cases e
      refine ⟨u, ?_, h2⟩
      have hlt : i * esz P G k + j < ys.length * esz P G k := by
        have : (i + 1) * esz P G k ≤ ys.length * esz P G k := Nat.mul_le_mul_right _ hi
        rw [Nat.add_mul] at this; omega
      simp [l, hlt, f, h1]
    · have := run_loadCells_list (P := P) w2 ad l (fun q v hv => by
        obtain ⟨h1, rfl⟩ := hl q v hv
        obtain ⟨x, d, _, _, h2, _⟩ := hget q h1
        rw [← h2]; simp only [World.cell?, hw])
      have hlen : l.length = ys.length * esz P G k := by simp [l]
      rw [hlen] at this
      exact this

theorem Cells.mono {k : Nat} {ys : List (G.T k)} {news : Array Value} (h : Cells P G F c k ys news) (t : Tr G F c c') : Cells P G F c' k ys news :=
  ⟨h.1, h.2.1, fun i x hx => (h.2.2 i x hx).mono t⟩

end
end Go.Proofs.Ytjfmfpnnjgfffaa.Am
