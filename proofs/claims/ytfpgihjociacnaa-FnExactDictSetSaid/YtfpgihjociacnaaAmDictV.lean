/- Dictionaries that are valid, plainly. -/
import Derived.Test.YtfpgihjociacnaaAmDictP
namespace Go.Proofs.Ytfpgihjociacnaa.Am
open Go
set_option autoImplicit false
set_option linter.unusedVariables false
set_option linter.unusedSimpArgs false

-- counting -----------------------------------------------------------------------------------------------------------------------------
def sumc (l : List Int) : Nat → Nat
  | 0 => 0
  | E + 1 => sumc l E + l.count (E : Int)
theorem sumc_nil (E : Nat) : sumc [] E = 0 := by
  induction E with
  | zero => rfl
  | succ E ih => simp [sumc, ih]
theorem sumc_cons (x : Int) (l : List Int) (E : Nat) : sumc (x :: l) E = sumc l E + (if 0 ≤ x ∧ x < E then 1 else 0) := by
  induction E with
  | zero => rw [if_neg (by omega)]; rfl
  | succ E ih =>
    simp only [sumc, ih, List.count_cons, beq_iff_eq]
    by_cases h : x = E
    · subst h; rw [if_pos rfl, if_neg (by omega), if_pos (by omega)]; omega
    · rw [if_neg h]
      by_cases h2 : 0 ≤ x ∧ x < E
      · rw [if_pos h2, if_pos (by omega)]; omega
      · rw [if_neg h2, if_neg (by omega)]; omega
theorem len_parts {E : Nat} : ∀ {l : List Int}, (∀ x ∈ l, x = -1 ∨ x = -2 ∨ (0 ≤ x ∧ x < E)) → l.length = l.count (-1) + l.count (-2) + sumc l E
  | [], _ => by simp [sumc_nil]
  | x :: l, h => by
    have ih := len_parts (l := l) fun y hy => h y (List.mem_cons_of_mem _ hy)
    rw [List.length_cons, List.count_cons, List.count_cons, sumc_cons, ih]
    rcases h x (by simp) with rfl | rfl | hx
    · simp; omega
    · simp; omega
    · have h1 : (x == (-1 : Int)) = false := by simp; omega
      have h2 : (x == (-2 : Int)) = false := by simp; omega
      rw [h1, h2, if_pos hx]; simp; omega

-- valid dictionaries -------------------------------------------------------------------------------------------------------------------
def ent (d : Dic) (i : Nat) : Ety := d.es.getD i ze
def slot (d : Dic) (s : Nat) : Int := d.ix.getD s 0
def lives (es : List Ety) : Nat := es.countP fun e => e.live
def EOk (e : Ety) : Prop := (e.live = false → e = ze) ∧ (e.live = true → e.key.size ≤ 20 ∧ e.hash = H e.key ∧ -1000000 ≤ e.val ∧ e.val ≤ 1000000)
/-- the slots are in order -/
structure Base (d : Dic) : Prop where
  sz : d.ix.length ∈ szs
  le : d.es.length ≤ d.ix.length * 2 / 3
  lv : lives d.es ≤ 40
  rg : ∀ s, s < d.ix.length → slot d s = -1 ∨ slot d s = -2 ∨ (0 ≤ slot d s ∧ slot d s < d.es.length ∧ (ent d (slot d s).toNat).live = true)
  c1 : ∀ i, i < d.es.length → (ent d i).live = true → d.ix.count (i : Int) = 1
  dr : d.ix.count (-2) + lives d.es = d.es.length
structure Valid (d : Dic) : Prop extends Base d where
  en : ∀ i, i < d.es.length → EOk (ent d i)
  pr : ∀ i, i < d.es.length → (ent d i).live = true → at' d (ent d i).key = i

theorem lives_take {es : List Ety} {E : Nat} (h : E < es.length) : lives (es.take (E + 1)) = lives (es.take E) + (if (es.getD E ze).live then 1 else 0) := by
  unfold lives
  rw [List.take_succ_eq_append_getElem h, List.countP_append, getD_lt h]
  simp [List.countP_cons]
theorem lives_le (es : List Ety) : lives es ≤ es.length := List.countP_le_length
theorem slot_mem {d : Dic} {x : Int} (h : x ∈ d.ix) : ∃ s, s < d.ix.length ∧ slot d s = x := by
  obtain ⟨s, hs, e⟩ := List.getElem_of_mem h
  exact ⟨s, hs, by unfold slot; rw [getD_lt hs, e]⟩
theorem mem_slot {d : Dic} {s : Nat} (h : s < d.ix.length) : slot d s ∈ d.ix := by
  unfold slot; rw [getD_lt h]; exact List.getElem_mem h
theorem Base.count0 {d : Dic} (h : Base d) {i : Nat} (hi : (ent d i).live = false) : d.ix.count (i : Int) = 0 := by
  apply List.count_eq_zero.2
  intro hm
  obtain ⟨s, hs, e⟩ := slot_mem hm
  have := h.rg s hs
  rw [e] at this
  rcases this with g | g | g
  · omega
  · omega
  · rw [show ((i : Int)).toNat = i by omega, hi] at g; cases g.2.2
theorem Base.sum {d : Dic} (h : Base d) : ∀ E, E ≤ d.es.length → sumc d.ix E = lives (d.es.take E)
  | 0, _ => by simp [sumc, lives]
  | E + 1, hE => by
    rw [sumc, Base.sum h E (by omega), lives_take (by omega)]
    congr 1
    by_cases g : (ent d E).live = true
    · rw [h.c1 E (by omega) g]; unfold ent at g; rw [if_pos g]
    · have g' : (ent d E).live = false := by simpa using g
      rw [h.count0 g']; unfold ent at g; rw [if_neg g]
theorem Base.pos {d : Dic} (h : Base d) : 8 ≤ d.ix.length ∧ d.ix.length ≤ 128 := by have := szs_iff.1 h.sz; omega
theorem Base.fin {d : Dic} (h : Base d) : Fin d := by
  have hp := h.pos
  refine ⟨h.sz, ?_, fun s hs => ?_⟩
  · have h1 := len_parts (E := d.es.length) (l := d.ix) fun x hx => by
      obtain ⟨s, hs, rfl⟩ := slot_mem hx
      have := h.rg s hs; omega
    have h2 := h.sum d.es.length (Nat.le_refl _)
    rw [List.take_length] at h2
    have h3 := h.dr; have h4 := h.le
    have h5 : 0 < d.ix.count (-1) := by omega
    obtain ⟨s, hs, e⟩ := slot_mem (List.count_pos_iff.1 h5)
    exact ⟨s, hs, e⟩
  · have := h.rg s hs
    unfold slot at this; omega
theorem ent_lt {d : Dic} {i : Nat} (h : (ent d i).live = true) : i < d.es.length := by
  apply Classical.byContradiction
  intro hn
  unfold ent at h; rw [getD_ge (by omega)] at h; cases h
/-- what is found is live, and has the key -/
theorem Base.found {d : Dic} (h : Base d) (key : ByteArray) : at' d key = -1 ∨ ∃ i : Nat, at' d key = i ∧ i < d.es.length ∧ (ent d i).live = true ∧ (ent d i).key = key := by
  rcases h.fin.at_cases key with g | ⟨g1, g2, g3⟩
  · exact .inl g
  · right
    refine ⟨(at' d key).toNat, by omega, g2, ?_, g3⟩
    have := h.rg _ (h.fin.sl_lt key)
    have e : slot d (sl d key) = at' d key := rfl
    rw [e] at this
    rcases this with g | g | g
    · omega
    · omega
    · exact g.2.2
/-- a live entry with a key is what is found -/
theorem Valid.find {d : Dic} (h : Valid d) {key : ByteArray} {i : Nat} (h1 : (ent d i).live = true) (h2 : (ent d i).key = key) : at' d key = i := by
  rw [← h2]; exact h.pr i (ent_lt h1) h1
theorem Valid.uq {d : Dic} (h : Valid d) {i j : Nat} (h1 : (ent d i).live = true) (h2 : (ent d j).live = true) (h3 : (ent d i).key = (ent d j).key) : i = j := by
  have e1 := h.pr i (ent_lt h1) h1
  have e2 := h.pr j (ent_lt h2) h2
  rw [h3, e2] at e1; omega
theorem Valid.none {d : Dic} (h : Valid d) {key : ByteArray} : at' d key = -1 ↔ ∀ i, (ent d i).live = true → (ent d i).key ≠ key := by
  constructor
  · intro g i h1 h2
    have := h.find h1 h2; omega
  · intro g
    rcases h.toBase.found key with e | ⟨i, e, _, h1, h2⟩
    · exact e
    · exact absurd h2 (g i h1)
end Go.Proofs.Ytfpgihjociacnaa.Am
