/- Dictionaries: both tests of the slots. -/
import Derived.Test.YtfpgihjociacnaaAmDictX
namespace Go.Proofs.Ytfpgihjociacnaa.Am
open Go
set_option autoImplicit false
set_option linter.unusedVariables false
set_option linter.unusedSimpArgs false

theorem count_take {l : List Int} {j : Nat} (h : j < l.length) (x : Int) : (l.take (j + 1)).count x = (l.take j).count x + (if l.getD j 0 = x then 1 else 0) := by
  rw [List.take_succ_eq_append_getElem h, List.count_append, getD_lt h, List.count_singleton]
  simp only [beq_iff_eq]
theorem count_take_le (l : List Int) (j : Nat) (x : Int) : (l.take j).count x ≤ j :=
  Nat.le_trans List.count_le_length (List.length_take_le _ _)
def cnts (l : List Int) (E j : Nat) : List Int := (List.range E).map fun (i : Nat) => (((l.take j).count (i : Int) : Nat) : Int)
def sns (l : List Int) (E j : Nat) : List Bool := (List.range E).map fun (i : Nat) => decide (0 < (l.take j).count (i : Int))
theorem cnts_len (l : List Int) (E j : Nat) : (cnts l E j).length = E := by simp [cnts]
theorem sns_len (l : List Int) (E j : Nat) : (sns l E j).length = E := by simp [sns]
theorem cnts_get {l : List Int} {E j i : Nat} (h : i < E) : (cnts l E j).getD i 0 = (((l.take j).count (i : Int) : Nat) : Int) := by
  rw [getD_lt (by rw [cnts_len]; exact h)]; simp [cnts]
theorem sns_get {l : List Int} {E j i : Nat} (h : i < E) : (sns l E j).getD i false = decide (0 < (l.take j).count (i : Int)) := by
  rw [getD_lt (by rw [sns_len]; exact h)]; simp [sns]
theorem cnts_zero (l : List Int) (E : Nat) : cnts l E 0 = List.replicate E 0 := by
  apply List.ext_getElem (by simp [cnts])
  intro i h1 h2; simp [cnts]
theorem sns_zero (l : List Int) (E : Nat) : sns l E 0 = List.replicate E false := by
  apply List.ext_getElem (by simp [sns])
  intro i h1 h2; simp [sns]
theorem cnts_set {l : List Int} {E j v : Nat} (h : j < l.length) (hv : v < E) (e : l.getD j 0 = (v : Int)) : (cnts l E j).set v ((cnts l E j).getD v 0 + 1) = cnts l E (j + 1) := by
  rw [cnts_get hv]
  apply List.ext_getElem (by simp [cnts])
  intro i h1 h2
  rw [List.getElem_set]
  simp only [cnts, List.getElem_map, List.getElem_range]
  rw [count_take h, e]
  by_cases g : v = i
  · subst g; simp
  · rw [if_neg g, if_neg (by omega)]; simp
theorem cnts_same {l : List Int} {E j : Nat} (h : j < l.length) (e : l.getD j 0 < 0) : cnts l E (j + 1) = cnts l E j := by
  apply List.ext_getElem (by simp [cnts])
  intro i h1 h2
  simp only [cnts, List.getElem_map, List.getElem_range]
  rw [count_take h, if_neg (by omega)]; simp
theorem sns_set {l : List Int} {E j v : Nat} (h : j < l.length) (hv : v < E) (e : l.getD j 0 = (v : Int)) : (sns l E j).set v true = sns l E (j + 1) := by
  apply List.ext_getElem (by simp [sns])
  intro i h1 h2
  rw [List.getElem_set]
  simp only [sns, List.getElem_map, List.getElem_range]
  rw [count_take h, e]
  by_cases g : v = i
  · subst g; simp
  · rw [if_neg g, if_neg (by omega)]; simp
theorem sns_same {l : List Int} {E j : Nat} (h : j < l.length) (e : l.getD j 0 < 0) : sns l E (j + 1) = sns l E j := by
  apply List.ext_getElem (by simp [sns])
  intro i h1 h2
  simp only [sns, List.getElem_map, List.getElem_range]
  rw [count_take h, if_neg (by omega)]; simp

def sok (d : Dic) (s : Nat) : Prop := slot d s = -1 ∨ slot d s = -2 ∨ (0 ≤ slot d s ∧ slot d s < d.es.length ∧ (ent d (slot d s).toNat).live = true)
theorem all_step {p : Nat → Prop} {i n : Nat} (g : i < n) : (∀ j, i ≤ j → j < n → p j) ↔ p i ∧ ∀ j, i + 1 ≤ j → j < n → p j := by
  constructor
  · intro h; exact ⟨h i (by omega) g, fun j h1 h2 => h j (by omega) h2⟩
  · rintro ⟨h1, h2⟩ j h3 h4
    by_cases e : j = i
    · subst e; exact h1
    · exact h2 j (by omega) h4
open Classical in
theorem slotsI_it {R : Type} {n : Nat} {d : Dic} {k0 : Bool → Option R} {k1 : Int → List Int → List Ety → List Int → Option R} (hx : d.ix.length ≤ 9000) : ∀ (fuel j : Nat), j ≤ d.ix.length → d.ix.length + 1 ≤ fuel + j →
    F28_1_it n k0 k1 fuel ((d.ix.take j).count (-2) : Nat) d.ix d.ix.length j d.ix d.es (cnts d.ix d.es.length j) =
      if ∀ s, j ≤ s → s < d.ix.length → sok d s then k1 (d.ix.count (-2) : Nat) d.ix d.es (cnts d.ix d.es.length d.ix.length) else k0 false
  | fuel, j, hj, hf => by
    obtain ⟨f, rfl⟩ : ∃ f, fuel = f + 1 := ⟨fuel - 1, by omega⟩
    simp only [F28_1_it, F28_1_step, F28_0]
    by_cases g : j < d.ix.length
    · rw [bp (by omega), bp (by omega), bp (by omega), show ((j : Nat) : Int).toNat = j by omega]
      have ih := slotsI_it (R := R) (n := n) (d := d) (k0 := k0) (k1 := k1) hx f (j + 1) (by omega) (by omega)
      have e1 := all_step (p := sok d) g
      have hc := count_take g (-2)
      have hcl := count_take_le d.ix j (-2)
      rw [slot_eq] at hc
      rw [slot_eq, wp (x := (j : Int) + 1) (by omega), show ((j : Nat) : Int) + 1 = ((j + 1 : Nat) : Int) by omega]
      have fin : sok d j → F28_1_it n k0 k1 f ((d.ix.take (j + 1)).count (-2) : Nat) d.ix d.ix.length ((j + 1 : Nat) : Int) d.ix d.es (cnts d.ix d.es.length (j + 1)) = if ∀ s, j ≤ s → s < d.ix.length → sok d s then k1 (d.ix.count (-2) : Nat) d.ix d.es (cnts d.ix d.es.length d.ix.length) else k0 false := by
        intro hk
        rw [ih]
        by_cases h6 : ∀ s, j + 1 ≤ s → s < d.ix.length → sok d s
        · rw [if_pos h6, if_pos (e1.2 ⟨hk, h6⟩)]
        · rw [if_neg h6, if_neg (fun h => h6 (e1.1 h).2)]
      by_cases h2 : slot d j = -2
      · rw [eqp h2]
        rw [if_pos h2] at hc
        have := fin (.inr (.inl h2))
        rw [cnts_same g (by show slot d j < 0; omega), hc] at this
        rw [wp (by omega), show (((d.ix.take j).count (-2) : Nat) : Int) + 1 = (((d.ix.take j).count (-2) + 1 : Nat) : Int) by omega]
        exact this
      · rw [eqn h2]
        rw [if_neg h2, Nat.add_zero] at hc
        rw [hc] at fin
        by_cases h1 : slot d j = -1
        · rw [eqp h1]
          have := fin (.inl h1)
          rw [cnts_same g (by show slot d j < 0; omega)] at this
          exact this
        · rw [eqn h1]
          by_cases h3 : slot d j < 0
          · rw [bp h3, if_neg (fun h => by have := (e1.1 h).1; unfold sok at this; omega)]
          · rw [bn h3]
            by_cases h4 : slot d j ≥ d.es.length
            · rw [bp h4, if_neg (fun h => by have := (e1.1 h).1; unfold sok at this; omega)]
            · rw [bn h4, bp (by omega), bp (by omega), ent_eq]
              cases hv : (ent d (slot d j).toNat).live
              · simp only [Bool.not_false, ct]
                rw [if_neg (fun h => by
                  have := (e1.1 h).1; unfold sok at this
                  rcases this with g | g | g
                  · omega
                  · omega
                  · rw [hv] at g; cases g.2.2)]
              · simp only [Bool.not_true, cf]
                rw [cnts_len, bp (by omega), bp (by omega), bp (by omega), bp (by omega)]
                have hlt : (slot d j).toNat < d.es.length := by omega
                have hcn := count_take_le d.ix j (((slot d j).toNat : Nat) : Int)
                rw [wp (by rw [cnts_get hlt]; omega), cnts_set g hlt (by show slot d j = _; omega)]
                exact fin (.inr (.inr ⟨by omega, by omega, hv⟩))
    · have : j = d.ix.length := by omega
      subst this
      rw [bn (by omega), if_pos (fun s h1 h2 => by omega), List.take_length]
open Classical in
theorem slotsS_it {R : Type} {n : Nat} {d : Dic} {k0 : Bool → Option R} {k1 : Int → List Int → List Ety → List Bool → Option R} (hx : d.ix.length ≤ 9000) : ∀ (fuel j : Nat), j ≤ d.ix.length → d.ix.length + 1 ≤ fuel + j →
    F53_2_it n k0 k1 fuel ((d.ix.take j).count (-2) : Nat) j d.ix d.es (sns d.ix d.es.length j) =
      if ∀ s, j ≤ s → s < d.ix.length → (sok d s ∧ (0 ≤ slot d s → (d.ix.take s).count (slot d s) = 0)) then k1 (d.ix.count (-2) : Nat) d.ix d.es (sns d.ix d.es.length d.ix.length) else k0 false
  | fuel, j, hj, hf => by
    obtain ⟨f, rfl⟩ : ∃ f, fuel = f + 1 := ⟨fuel - 1, by omega⟩
    simp only [F53_2_it, F53_2_step, F53_1, F53_0]
    by_cases g : j < d.ix.length
    · rw [bp (by omega), bp (by omega), bp (by omega), show ((j : Nat) : Int).toNat = j by omega]
      have ih := slotsS_it (R := R) (n := n) (d := d) (k0 := k0) (k1 := k1) hx f (j + 1) (by omega) (by omega)
      have e1 := all_step (p := fun s => sok d s ∧ (0 ≤ slot d s → (d.ix.take s).count (slot d s) = 0)) g
      have hc := count_take g (-2)
      have hcl := count_take_le d.ix j (-2)
      rw [slot_eq] at hc
      rw [slot_eq, wp (x := (j : Int) + 1) (by omega), show ((j : Nat) : Int) + 1 = ((j + 1 : Nat) : Int) by omega]
      have fin : sok d j → (0 ≤ slot d j → (d.ix.take j).count (slot d j) = 0) → F53_2_it n k0 k1 f ((d.ix.take (j + 1)).count (-2) : Nat) ((j + 1 : Nat) : Int) d.ix d.es (sns d.ix d.es.length (j + 1)) = if ∀ s, j ≤ s → s < d.ix.length → (sok d s ∧ (0 ≤ slot d s → (d.ix.take s).count (slot d s) = 0)) then k1 (d.ix.count (-2) : Nat) d.ix d.es (sns d.ix d.es.length d.ix.length) else k0 false := by
        intro hk hk2
        rw [ih]
        by_cases h6 : ∀ s, j + 1 ≤ s → s < d.ix.length → (sok d s ∧ (0 ≤ slot d s → (d.ix.take s).count (slot d s) = 0))
        · rw [if_pos h6, if_pos (e1.2 ⟨⟨hk, hk2⟩, h6⟩)]
        · rw [if_neg h6, if_neg (fun h => h6 (e1.1 h).2)]
      by_cases h2 : slot d j = -2
      · rw [eqp h2]
        rw [if_pos h2] at hc
        have := fin (.inr (.inl h2)) (fun h => by omega)
        rw [sns_same g (by show slot d j < 0; omega), hc] at this
        have hle := lives_le d.es
        rw [wp (by omega), show (((d.ix.take j).count (-2) : Nat) : Int) + 1 = (((d.ix.take j).count (-2) + 1 : Nat) : Int) by omega]
        rw [bn (by omega), bn (by omega), bn (by omega), bn (by omega)]
        exact this
      · rw [eqn h2]
        rw [if_neg h2, Nat.add_zero] at hc
        rw [hc] at fin
        by_cases h0 : slot d j < -2
        · rw [bp h0, if_neg (fun h => by have := (e1.1 h).1.1; unfold sok at this; omega)]
        · rw [bn h0]
          by_cases h4 : slot d j ≥ d.es.length
          · rw [bp h4, if_neg (fun h => by have := (e1.1 h).1.1; unfold sok at this; omega)]
          · rw [bn h4]
            by_cases h3 : slot d j ≥ 0
            · have hlt : (slot d j).toNat < d.es.length := by omega
              have ec : (((slot d j).toNat : Nat) : Int) = slot d j := by omega
              rw [bp h3, bp (by omega), sns_len, bp (by omega), sns_get hlt, ec, ent_eq]
              by_cases h5 : 0 < (d.ix.take j).count (slot d j)
              · rw [bp h5, if_neg (fun h => by have := (e1.1 h).1.2 h3; omega)]
              · rw [bn h5, bp (by omega), bp (by omega)]
                cases hv : (ent d (slot d j).toNat).live
                · simp only [Bool.not_false, ct]
                  rw [if_neg (fun h => by
                    have := (e1.1 h).1.1; unfold sok at this
                    rcases this with g | g | g
                    · omega
                    · omega
                    · rw [hv] at g; cases g.2.2)]
                · simp only [Bool.not_true, cf]
                  rw [bp h3, bp (by omega), bp (by omega), sns_set g hlt (by show slot d j = _; omega)]
                  exact fin (.inr (.inr ⟨by omega, by omega, hv⟩)) (fun _ => by omega)
            · rw [bn h3, bn h3]
              have := fin (.inl (by omega)) (fun h => by omega)
              rw [sns_same g (by show slot d j < 0; omega)] at this
              exact this
    · have : j = d.ix.length := by omega
      subst this
      rw [bn (by omega), if_pos (fun s h1 h2 => by omega), List.take_length]
open Classical in
theorem seenS_it {R : Type} {n : Nat} {d : Dic} {v : Int} {sn : List Bool} {k0 : Bool → Option R} {k1 : Int → List Int → List Ety → Option R} (hl : d.es.length ≤ 9000) (hs : sn.length = d.es.length) : ∀ (fuel i : Nat), i ≤ d.es.length → d.es.length + 1 ≤ fuel + i →
    F53_3_it n k0 k1 fuel v i d.ix d.es sn = if ∀ j, i ≤ j → j < d.es.length → sn.getD j false = (ent d j).live then k1 v d.ix d.es else k0 false
  | fuel, i, hi, hf => by
    obtain ⟨f, rfl⟩ : ∃ f, fuel = f + 1 := ⟨fuel - 1, by omega⟩
    simp only [F53_3_it, F53_3_step]
    by_cases g : i < d.es.length
    · rw [bp (by omega), bp (by omega), bp (by omega), bp (by omega), bp (by omega), show ((i : Nat) : Int).toNat = i by omega]
      rw [ent_eq, wp (by omega)]
      have ih := seenS_it (R := R) (n := n) (d := d) (v := v) (k0 := k0) (k1 := k1) hl hs f (i + 1) (by omega) (by omega)
      have e1 := all_step (p := fun j => sn.getD j false = (ent d j).live) g
      rw [show ((i : Nat) : Int) + 1 = ((i + 1 : Nat) : Int) by omega]
      by_cases h : sn.getD i false = (ent d i).live
      · rw [h, show (!((ent d i).live == (ent d i).live)) = false by simp, cf, ih]
        by_cases h6 : ∀ j, i + 1 ≤ j → j < d.es.length → sn.getD j false = (ent d j).live
        · rw [if_pos h6, if_pos (e1.2 ⟨h, h6⟩)]
        · rw [if_neg h6, if_neg (fun h => h6 (e1.1 h).2)]
      · rw [show (!(sn.getD i false == (ent d i).live)) = true by simp only [Bool.not_eq_true', beq_eq_false_iff_ne]; exact h, ct, if_neg (fun h' => h (e1.1 h').1)]
    · rw [bn (by omega), if_pos (fun j h1 h2 => by omega)]
end Go.Proofs.Ytfpgihjociacnaa.Am
