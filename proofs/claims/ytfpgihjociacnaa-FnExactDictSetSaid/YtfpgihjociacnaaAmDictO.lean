/- Dictionaries: what setting, dropping and packing do, plainly. -/
import Derived.Test.YtfpgihjociacnaaAmDictV
namespace Go.Proofs.Ytfpgihjociacnaa.Am
open Go
set_option autoImplicit false
set_option linter.unusedVariables false
set_option linter.unusedSimpArgs false

theorem getD_set' {α : Type} {l : List α} {i j : Nat} {v d : α} (h : i < l.length) : (l.set i v).getD j d = if i = j then v else l.getD j d := by
  simp only [List.getD, List.getElem?_set]
  by_cases e : i = j
  · subst e; rw [if_pos rfl, if_pos rfl, if_pos h]; rfl
  · rw [if_neg e, if_neg e]
theorem getD_app {α : Type} {l m : List α} {i : Nat} {d : α} (h : i < l.length) : (l ++ m).getD i d = l.getD i d := by
  simp [List.getD, List.getElem?_append_left h]
theorem getD_snoc {α : Type} {l : List α} {a d : α} : (l ++ [a]).getD l.length d = a := by simp [List.getD]
theorem count_set' {l : List Int} {s : Nat} {x y : Int} (h : s < l.length) : (l.set s x).count y + (if l.getD s 0 = y then 1 else 0) = l.count y + (if x = y then 1 else 0) := by
  have e := List.take_append_drop s l
  have e2 : l = l.take s ++ l.getD s 0 :: l.drop (s + 1) := by
    rw [getD_lt h, ← List.drop_eq_getElem_cons h]; exact e.symm
  have e3 : l.set s x = l.take s ++ x :: l.drop (s + 1) := List.set_eq_take_append_cons_drop ▸ (if_pos h)
  have c1 : l.count y = (l.take s).count y + ((l.drop (s + 1)).count y + (if l.getD s 0 = y then 1 else 0)) := by
    conv => lhs; rw [e2]
    rw [List.count_append, List.count_cons]; simp only [beq_iff_eq]
  have c2 : (l.set s x).count y = (l.take s).count y + ((l.drop (s + 1)).count y + (if x = y then 1 else 0)) := by
    rw [e3, List.count_append, List.count_cons]; simp only [beq_iff_eq]
  omega

theorem st_iff {d : Dic} {key : ByteArray} {s : Nat} : st d key s = true ↔ (slot d s = -1 ∨ (0 ≤ slot d s ∧ (ent d (slot d s).toNat).key = key)) := by
  unfold st; exact decide_eq_true_iff
/-- where the looking goes the same way -/
theorem sl_same {d d' : Dic} {key : ByteArray} (h : Fin d) (hl : d'.ix.length = d.ix.length) (hs : ∀ t, t ≤ kk d key → st d' key (pn d key t) = st d key (pn d key t)) : sl d' key = sl d key := by
  obtain ⟨h1, h2, h3⟩ := h.stp key
  have hp : ∀ t, pn d' key t = pn d key t := fun t => by unfold pn; rw [hl]
  have : kk d' key = kk d key := sl_uq (by omega) (by rw [hp, hs _ (Nat.le_refl _)]; exact h1) (fun u hu => by rw [hp, hs _ (by omega)]; exact h3 u hu)
  unfold sl; rw [this, hp]

-- a new entry --------------------------------------------------------------------------------------------------------------------------
def add (d : Dic) (e : Ety) : Dic := ⟨d.ix.set (sl d e.key) (d.es.length : Int), d.es ++ [e]⟩
theorem add_slot {d : Dic} (h : Fin d) (e : Ety) (s : Nat) : slot (add d e) s = if sl d e.key = s then (d.es.length : Int) else slot d s := getD_set' (h.sl_lt _)
theorem add_ent {d : Dic} {e : Ety} {i : Nat} (h : i < d.es.length) : ent (add d e) i = ent d i := getD_app h
theorem add_new (d : Dic) (e : Ety) : ent (add d e) d.es.length = e := getD_snoc
theorem add_len (d : Dic) (e : Ety) : (add d e).es.length = d.es.length + 1 := by simp [add]
theorem add_sz (d : Dic) (e : Ety) : (add d e).ix.length = d.ix.length := by simp [add]
theorem add_st {d : Dic} (h : Fin d) {e : Ety} {key : ByteArray} {s : Nat} (hs : s < d.ix.length) (hne : sl d e.key ≠ s) : st (add d e) key s = st d key s := by
  have hr : slot d s < d.es.length := h.rg s hs
  have e1 : slot (add d e) s = slot d s := by rw [add_slot h, if_neg hne]
  apply Bool.eq_iff_iff.2
  rw [st_iff, st_iff, e1]
  by_cases g : 0 ≤ slot d s
  · rw [add_ent (by omega)]
  · constructor <;> (rintro (a | a) <;> first | exact .inl a | omega)
theorem pn_lt {d : Dic} (h : Fin d) (key : ByteArray) (t : Nat) : pn d key t < d.ix.length := pos_lt (by have := h.pos; omega) t
theorem add_at_new {d : Dic} (h : Fin d) (e : Ety) (h0 : at' d e.key = -1) : at' (add d e) e.key = d.es.length := by
  obtain ⟨h1, h2, h3⟩ := h.stp e.key
  have hp : ∀ t, pn (add d e) e.key t = pn d e.key t := fun t => by unfold pn; rw [add_sz]
  have hk : kk (add d e) e.key = kk d e.key := sl_uq (by omega) (by
      rw [hp]
      show st (add d e) e.key (sl d e.key) = true
      rw [st_iff, add_slot h, if_pos rfl]
      exact .inr ⟨by omega, by rw [show ((d.es.length : Nat) : Int).toNat = d.es.length by omega, add_new]⟩) (fun u hu => by
      rw [hp, add_st h (pn_lt h _ _) (fun e' => by
        have := h3 u hu
        rw [← e', h1] at this; cases this)]
      exact h3 u hu)
  have : sl (add d e) e.key = sl d e.key := by unfold sl; rw [hk, hp]
  show slot (add d e) (sl (add d e) e.key) = _
  rw [this, add_slot h, if_pos rfl]
theorem add_at_old {d : Dic} (h : Fin d) (e : Ety) (h0 : at' d e.key = -1) {key : ByteArray} (hk : 0 ≤ at' d key) : at' (add d e) key = at' d key := by
  have h0' : slot d (sl d e.key) = -1 := h0
  have hne : ∀ t, t ≤ kk d key → sl d e.key ≠ pn d key t := by
    intro t ht e'
    obtain ⟨h1, h2, h3⟩ := h.stp key
    have hs : st d key (pn d key t) = true := by rw [← e', st_iff]; exact .inl h0'
    have : t = kk d key := by
      apply Classical.byContradiction
      intro hn
      have := h3 t (by omega)
      rw [hs] at this; cases this
    subst this
    have : slot d (pn d key (kk d key)) = at' d key := rfl
    rw [← e', h0'] at this; omega
  have hs := sl_same (d' := add d e) h (add_sz d e) (fun t ht => add_st h (pn_lt h _ _) (hne t ht))
  show slot (add d e) (sl (add d e) key) = _
  rw [hs, add_slot h, if_neg (show sl d e.key ≠ sl d key from hne _ (Nat.le_refl _))]; rfl
theorem lives_snoc (es : List Ety) (e : Ety) : lives (es ++ [e]) = lives es + (if e.live then 1 else 0) := by
  unfold lives; rw [List.countP_append]; simp [List.countP_cons]
theorem add_valid {d : Dic} (h : Valid d) {e : Ety} (he : EOk e) (hv : e.live = true) (h0 : at' d e.key = -1) (hl : d.es.length < d.ix.length * 2 / 3) (h40 : lives d.es < 40) : Valid (add d e) := by
  have hf := h.toBase.fin
  have h0' : slot d (sl d e.key) = -1 := h0
  have hc : ∀ y : Int, (add d e).ix.count y + (if (-1 : Int) = y then 1 else 0) = d.ix.count y + (if (d.es.length : Int) = y then 1 else 0) := fun y => by
    have := count_set' (l := d.ix) (x := (d.es.length : Int)) (y := y) (hf.sl_lt e.key)
    rw [show d.ix.getD (sl d e.key) 0 = -1 from h0'] at this
    exact this
  have hout : d.ix.count ((d.es.length : Nat) : Int) = 0 := h.toBase.count0 (by unfold ent; rw [getD_ge (Nat.le_refl _)]; rfl)
  refine ⟨⟨by rw [add_sz]; exact h.sz, by rw [add_sz, add_len]; omega, ?_, ?_, ?_, ?_⟩, ?_, ?_⟩
  · show lives (d.es ++ [e]) ≤ 40
    rw [lives_snoc, hv]; simp; omega
  · intro s hs
    rw [add_sz] at hs
    rw [add_slot hf, add_len]
    by_cases g : sl d e.key = s
    · rw [if_pos g]
      exact .inr (.inr ⟨by omega, by omega, by rw [show ((d.es.length : Nat) : Int).toNat = d.es.length by omega, add_new]; exact hv⟩)
    · rw [if_neg g]
      rcases h.rg s hs with a | a | ⟨a, b, c⟩
      · exact .inl a
      · exact .inr (.inl a)
      · exact .inr (.inr ⟨a, by omega, by rw [add_ent (by omega)]; exact c⟩)
  · intro i hi hlv
    rw [add_len] at hi
    have := hc i
    rw [if_neg (by omega)] at this
    by_cases g : i = d.es.length
    · subst g; rw [if_pos rfl, hout] at this; exact this
    · rw [if_neg (by omega)] at this
      rw [add_ent (by omega)] at hlv
      rw [h.c1 i (by omega) hlv] at this; exact this
  · have := hc (-2)
    rw [if_neg (by omega), if_neg (by omega)] at this
    have hd := h.dr
    show (add d e).ix.count (-2) + lives (d.es ++ [e]) = _
    rw [lives_snoc, hv, add_len, if_pos rfl]; omega
  · intro i hi
    rw [add_len] at hi
    by_cases g : i = d.es.length
    · subst g; rw [add_new]; exact he
    · rw [add_ent (by omega)]; exact h.en i (by omega)
  · intro i hi hlv
    rw [add_len] at hi
    by_cases g : i = d.es.length
    · subst g; rw [add_new]; exact add_at_new hf e h0
    · rw [add_ent (by omega)] at hlv ⊢
      have hp := h.pr i (by omega) hlv
      rw [add_at_old hf e h0 (by omega), hp]
end Go.Proofs.Ytfpgihjociacnaa.Am
