/- Dictionaries: lists that are compared. -/
import Derived.Test.YtdnbepnajhggpaaAmDictI
namespace Go.Proofs.Ytdnbepnajhggpaa.Am
open Go
set_option autoImplicit false
set_option linter.unusedVariables false
set_option linter.unusedSimpArgs false

theorem nums_it {R : Type} {n : Nat} {a : List Int} {k0 : Bool → Option R} {k1 : Option R} (h : a.length ≤ 9000) : ∀ (fuel i : Nat), i ≤ a.length → a.length + 1 ≤ fuel + i →
    F55_0_it n k0 k1 fuel a a i = k1
  | fuel, i, hi, hf => by
    obtain ⟨f, rfl⟩ : ∃ f, fuel = f + 1 := ⟨fuel - 1, by omega⟩
    simp only [F55_0_it, F55_0_step]
    by_cases g : i < a.length
    · rw [bp (by omega), bp (by omega), bp (by omega), bp (by omega), bp (by omega), nen rfl, wp (by omega)]
      exact nums_it h f (i + 1) (by omega) (by omega)
    · rw [bn (by omega)]
theorem nums0 {n : Nat} {a : List Int} (hn : 10000 ≤ n) (h : a.length ≤ 9000) : F55 n a a = some (true, ()) := by
  unfold F55 F55_0
  rw [nen rfl]
  exact nums_it (R := Bool × Unit) h n 0 (by omega) (by omega)
theorem nums {n : Nat} {a : List Int} (hn : 10000 ≤ n) (h : a.length ≤ 9000) : F19 n a a = some (true, ()) := by
  unfold F19
  rw [nums0 hn h]; rfl
theorem texts_it {R : Type} {n : Nat} {a : List ByteArray} {k0 : Bool → Option R} {k1 : Option R} (h : a.length ≤ 9000) : ∀ (fuel i : Nat), i ≤ a.length → a.length + 1 ≤ fuel + i →
    F57_0_it n k0 k1 fuel a a i = k1
  | fuel, i, hi, hf => by
    obtain ⟨f, rfl⟩ : ∃ f, fuel = f + 1 := ⟨fuel - 1, by omega⟩
    simp only [F57_0_it, F57_0_step]
    by_cases g : i < a.length
    · rw [bp (by omega), bp (by omega), bp (by omega), bp (by omega), bp (by omega), keq, nn rfl, wp (by omega)]
      exact texts_it h f (i + 1) (by omega) (by omega)
    · rw [bn (by omega)]
theorem texts {n : Nat} {a : List ByteArray} (hn : 10000 ≤ n) (h : a.length ≤ 9000) : F25 n a a = some (true, ()) := by
  unfold F25 F57 F57_0
  rw [nen rfl]
  have := texts_it (R := Bool × Unit) (n := n) (a := a) (k0 := fun z => some (z, ())) (k1 := some (true, ())) h n 0 (by omega) (by omega)
  rw [show ((0 : Nat) : Int) = 0 from rfl] at this
  rw [this]; rfl
theorem bself (a : ByteArray) : (a == a) = true := by
  first | exact beq_self_eq_true a | (cases a; exact beq_self_eq_true (α := Array UInt8) _) | (cases a; simp [BEq.beq]) | decide
theorem ents_it {R : Type} {n : Nat} {a : List Ety} {k0 : Bool → Option R} {k1 : Option R} (h : a.length ≤ 9000) : ∀ (fuel i : Nat), i ≤ a.length → a.length + 1 ≤ fuel + i →
    F63_0_it n k0 k1 fuel a a i = k1
  | fuel, i, hi, hf => by
    obtain ⟨f, rfl⟩ : ∃ f, fuel = f + 1 := ⟨fuel - 1, by omega⟩
    simp only [F63_0_it, F63_0_step]
    by_cases g : i < a.length
    · rw [bp (by omega), bp (by omega), bp (by omega), bp (by omega), bp (by omega)]
      simp only [bself, beq_self_eq_true, Bool.and_self, Bool.not_true, cf]
      rw [wp (by omega)]
      exact ents_it h f (i + 1) (by omega) (by omega)
    · rw [bn (by omega)]
theorem same {n : Nat} {d : Dic} (hn : 10000 ≤ n) (h1 : d.ix.length ≤ 9000) (h2 : d.es.length ≤ 9000) : F30 n d.ix d.es d.ix d.es = some (true, ()) := by
  unfold F30 F63 F63_0
  rw [nums0 hn h1]
  simp only [ats, ct]
  rw [nen rfl]
  have := ents_it (R := Bool × Unit) (n := n) (a := d.es) (k0 := fun z => some (z, ())) (k1 := some (true, ())) h2 n 0 (by omega) (by omega)
  rw [show ((0 : Nat) : Int) = 0 from rfl] at this
  rw [this]; rfl
open Classical in
theorem one_it {R : Type} {n : Nat} {a : List ByteArray} {s : ByteArray} {k0 : Bool → Option R} {k1 : Option R} (h : a.length ≤ 9000) : ∀ (fuel i : Nat), i ≤ a.length → a.length + 1 ≤ fuel + i →
    F58_0_it n k0 k1 fuel a s i = if ∃ j, i ≤ j ∧ j < a.length ∧ a.getD j ⟨#[]⟩ = s then k0 true else k1
  | fuel, i, hi, hf => by
    obtain ⟨f, rfl⟩ : ∃ f, fuel = f + 1 := ⟨fuel - 1, by omega⟩
    simp only [F58_0_it, F58_0_step]
    by_cases g : i < a.length
    · rw [bp (by omega), bp (by omega), bp (by omega), keq, show ((i : Nat) : Int).toNat = i by omega, wp (by omega)]
      by_cases g2 : a.getD i ⟨#[]⟩ = s
      · rw [bp g2, if_pos ⟨i, Nat.le_refl _, g, g2⟩]
      · rw [bn g2]
        have ih := one_it (R := R) (n := n) (s := s) (k0 := k0) (k1 := k1) h f (i + 1) (by omega) (by omega)
        have : (∃ j, i ≤ j ∧ j < a.length ∧ a.getD j ⟨#[]⟩ = s) ↔ ∃ j, i + 1 ≤ j ∧ j < a.length ∧ a.getD j ⟨#[]⟩ = s := by
          constructor
          · rintro ⟨j, h1, h2, h3⟩
            by_cases e : i = j
            · subst e; exact absurd h3 g2
            · exact ⟨j, by omega, h2, h3⟩
          · rintro ⟨j, h1, h2, h3⟩; exact ⟨j, by omega, h2, h3⟩
        rw [propext this]
        exact ih
    · rw [bn (by omega), if_neg (fun ⟨j, h1, h2, _⟩ => by omega)]
open Classical in
theorem isOne {n : Nat} {a : List ByteArray} {s : ByteArray} (hn : 10000 ≤ n) (h : a.length ≤ 9000) : F26 n a s = some (decide (s ∈ a), ()) := by
  unfold F26 F58 F58_0
  have := one_it (R := Bool × Unit) (n := n) (a := a) (s := s) (k0 := fun z => some (z, ())) (k1 := some (false, ())) h n 0 (by omega) (by omega)
  rw [show ((0 : Nat) : Int) = 0 from rfl] at this
  rw [this]
  have e : (∃ j, 0 ≤ j ∧ j < a.length ∧ a.getD j ⟨#[]⟩ = s) ↔ s ∈ a := by
    constructor
    · rintro ⟨j, _, h2, h3⟩
      rw [getD_lt h2] at h3; rw [← h3]; exact List.getElem_mem _
    · intro hm
      obtain ⟨j, hj, e⟩ := List.getElem_of_mem hm
      exact ⟨j, by omega, hj, by rw [getD_lt hj]; exact e⟩
  by_cases g : s ∈ a
  · rw [if_pos (e.2 g), decide_eq_true g]; rfl
  · rw [if_neg (fun h => g (e.1 h)), decide_eq_false g]; rfl
end Go.Proofs.Ytdnbepnajhggpaa.Am
