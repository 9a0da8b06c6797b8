/- Heaps: numbers and names. -/
import Derived.Test.YtfknenaecihchaaAmHepG
import Derived.Test.YtfknenaecihchaaAmPl
namespace Go.Proofs.Ytfknenaecihchaa.Am
open Go
set_option autoImplicit false
set_option linter.unusedVariables false
set_option linter.unusedSimpArgs false

noncomputable def B (p : Prop) : Bool := @decide p (Classical.propDecidable p)
theorem B_t {p : Prop} (h : p) : B p = true := @decide_eq_true p (Classical.propDecidable p) h
theorem B_f {p : Prop} (h : ¬ p) : B p = false := @decide_eq_false p (Classical.propDecidable p) h
theorem B_iff {p : Prop} : B p = true ↔ p := by
  by_cases h : p
  · exact ⟨fun _ => h, fun _ => B_t h⟩
  · exact ⟨fun e => (by rw [B_f h] at e; cases e), fun e => absurd e h⟩
theorem B_congr {p q : Prop} (h : p ↔ q) : B p = B q := by rw [propext h]
theorem dB {p : Prop} [Decidable p] : decide p = B p := by
  by_cases h : p
  · rw [decide_eq_true h, B_t h]
  · rw [decide_eq_false h, B_f h]
theorem keq (a b : ByteArray) : (a.toList == b.toList) = decide (a = b) := by
  by_cases h : a = b
  · subst h; simp
  · rw [decide_eq_false h, beq_eq_false_iff_ne]
    exact fun e => h (toList_inj e)
theorem all_step {p : Nat → Prop} {i len : Nat} (h : i < len) : (∀ j, i ≤ j → j < len → p j) ↔ (p i ∧ ∀ j, i + 1 ≤ j → j < len → p j) := by
  constructor
  · intro g; exact ⟨g i (Nat.le_refl _) h, fun j h1 h2 => g j (by omega) h2⟩
  · rintro ⟨g1, g2⟩ j h1 h2
    by_cases e : i = j
    · subst e; exact g1
    · exact g2 j (by omega) h2

-- is it one of them --------------------------------------------------------------------------------------------------------------------
theorem idx_it {R : Type} {n : Nat} {l : List ByteArray} {s : ByteArray} {k0 : Int → Option R} {k1 : Option R} (h : l.length ≤ 1048576) : ∀ (fuel i : Nat), i ≤ l.length → l.length + 1 ≤ fuel + i →
    (∃ j : Nat, j < l.length ∧ i ≤ j ∧ l.getD j ⟨#[]⟩ = s ∧ F71_0_it n k0 k1 fuel l s l.length i = k0 j) ∨ ((∀ j, i ≤ j → j < l.length → l.getD j ⟨#[]⟩ ≠ s) ∧ F71_0_it n k0 k1 fuel l s l.length i = k1)
  | fuel, i, hi, hf => by
    obtain ⟨f, rfl⟩ : ∃ f, fuel = f + 1 := ⟨fuel - 1, by omega⟩
    simp only [F71_0_it, F71_0_step]
    by_cases g : i < l.length
    · rw [bp (by omega), bp (by omega), bp (by omega), keq, show ((i : Nat) : Int).toNat = i by omega, wp (by omega)]
      by_cases g2 : s = l.getD i ⟨#[]⟩
      · rw [bp g2]; exact .inl ⟨i, g, Nat.le_refl _, g2.symm, rfl⟩
      · rw [bn g2]
        rcases idx_it (n := n) (s := s) (k0 := k0) (k1 := k1) h f (i + 1) (by omega) (by omega) with ⟨j, j1, j2, j3, j4⟩ | ⟨j1, j2⟩
        · exact .inl ⟨j, j1, by omega, j3, j4⟩
        · refine .inr ⟨fun j h1 h2 => ?_, j2⟩
          by_cases e : i = j
          · subst e; exact fun e => g2 e.symm
          · exact j1 j (by omega) h2
    · rw [bn (by omega)]; exact .inr ⟨fun j h1 h2 => by omega, rfl⟩
theorem mem_get {l : List ByteArray} {s : ByteArray} : s ∈ l ↔ ∃ j, j < l.length ∧ l.getD j ⟨#[]⟩ = s := by
  constructor
  · intro hm
    obtain ⟨j, hj, e⟩ := List.getElem_of_mem hm
    exact ⟨j, hj, by rw [getD_lt hj]; exact e⟩
  · rintro ⟨j, h2, h3⟩
    rw [getD_lt h2] at h3; rw [← h3]; exact List.getElem_mem _
theorem contI {n : Nat} {l : List ByteArray} {s : ByteArray} (hn : 3000000 ≤ n) (h : l.length ≤ 1048576) : F48 n l s = some (B (s ∈ l), ()) := by
  unfold F48 F71 F71_0
  rcases idx_it (R := Int × Unit) (n := n) (l := l) (s := s) (k0 := fun z => some (z, ())) (k1 := some ((-1 : Int), ())) h n 0 (by omega) (by omega) with ⟨j, j1, j2, j3, j4⟩ | ⟨j1, j2⟩
  · rw [show ((0 : Nat) : Int) = 0 from rfl] at j4
    rw [j4]; simp only [ats]
    rw [B_t (mem_get.2 ⟨j, j1, j3⟩), decide_eq_true (by omega)]
  · rw [show ((0 : Nat) : Int) = 0 from rfl] at j2
    rw [j2]; simp only [ats]
    rw [B_f (fun hm => by
      obtain ⟨j, h1, h2⟩ := mem_get.1 hm
      exact j1 j (by omega) h1 h2)]
    rfl
theorem one_it {R : Type} {n : Nat} {l : List ByteArray} {s : ByteArray} {k0 : Bool → Option R} {k1 : Option R} (h : l.length ≤ 1048576) : ∀ (fuel i : Nat), i ≤ l.length → l.length + 1 ≤ fuel + i →
    ((∃ j : Nat, j < l.length ∧ l.getD j ⟨#[]⟩ = s) ∧ F66_0_it n k0 k1 fuel l s i = k0 true) ∨ ((∀ j, i ≤ j → j < l.length → l.getD j ⟨#[]⟩ ≠ s) ∧ F66_0_it n k0 k1 fuel l s i = k1)
  | fuel, i, hi, hf => by
    obtain ⟨f, rfl⟩ : ∃ f, fuel = f + 1 := ⟨fuel - 1, by omega⟩
    simp only [F66_0_it, F66_0_step]
    by_cases g : i < l.length
    · rw [bp (by omega), bp (by omega), bp (by omega), keq, show ((i : Nat) : Int).toNat = i by omega, wp (by omega)]
      by_cases g2 : l.getD i ⟨#[]⟩ = s
      · rw [bp g2]; exact .inl ⟨⟨i, g, g2⟩, rfl⟩
      · rw [bn g2]
        rcases one_it (n := n) (s := s) (k0 := k0) (k1 := k1) h f (i + 1) (by omega) (by omega) with j | ⟨j1, j2⟩
        · exact .inl j
        · refine .inr ⟨fun j h1 h2 => ?_, j2⟩
          by_cases e : i = j
          · subst e; exact g2
          · exact j1 j (by omega) h2
    · rw [bn (by omega)]; exact .inr ⟨fun j h1 h2 => by omega, rfl⟩
theorem isOne {n : Nat} {l : List ByteArray} {s : ByteArray} (hn : 3000000 ≤ n) (h : l.length ≤ 1048576) : F66 n l s = some (B (s ∈ l), ()) := by
  unfold F66 F66_0
  rcases one_it (R := Bool × Unit) (n := n) (l := l) (s := s) (k0 := fun z => some (z, ())) (k1 := some (false, ())) h n 0 (by omega) (by omega) with ⟨⟨j, j1, j3⟩, j4⟩ | ⟨j1, j2⟩
  · rw [show ((0 : Nat) : Int) = 0 from rfl] at j4
    rw [j4, B_t (mem_get.2 ⟨j, j1, j3⟩)]
  · rw [show ((0 : Nat) : Int) = 0 from rfl] at j2
    rw [j2, B_f (fun hm => by
      obtain ⟨j, h1, h2⟩ := mem_get.1 hm
      exact j1 j (by omega) h1 h2)]

theorem idxv_it {R : Type} {n : Nat} {l : List ByteArray} {s : ByteArray} {k0 : Int → Option R} {k1 : Option R} (h : l.length ≤ 1048576) : ∀ (fuel i : Nat), i ≤ l.length → l.length + 1 ≤ fuel + i →
    (∃ j : Nat, j < l.length ∧ i ≤ j ∧ l.getD j ⟨#[]⟩ = s ∧ F71v1_0_it n k0 k1 fuel l s l.length i = k0 j) ∨ ((∀ j, i ≤ j → j < l.length → l.getD j ⟨#[]⟩ ≠ s) ∧ F71v1_0_it n k0 k1 fuel l s l.length i = k1)
  | fuel, i, hi, hf => by
    obtain ⟨f, rfl⟩ : ∃ f, fuel = f + 1 := ⟨fuel - 1, by omega⟩
    simp only [F71v1_0_it, F71v1_0_step]
    by_cases g : i < l.length
    · rw [bp (by omega), bp (by omega), bp (by omega), keq, show ((i : Nat) : Int).toNat = i by omega, wp (by omega)]
      by_cases g2 : s = l.getD i ⟨#[]⟩
      · rw [bp g2]; exact .inl ⟨i, g, Nat.le_refl _, g2.symm, rfl⟩
      · rw [bn g2]
        rcases idxv_it (n := n) (s := s) (k0 := k0) (k1 := k1) h f (i + 1) (by omega) (by omega) with ⟨j, j1, j2, j3, j4⟩ | ⟨j1, j2⟩
        · exact .inl ⟨j, j1, by omega, j3, j4⟩
        · refine .inr ⟨fun j h1 h2 => ?_, j2⟩
          by_cases e : i = j
          · subst e; exact fun e => g2 e.symm
          · exact j1 j (by omega) h2
    · rw [bn (by omega)]; exact .inr ⟨fun j h1 h2 => by omega, rfl⟩
theorem contIv {n : Nat} {l : List ByteArray} {s : ByteArray} (hn : 3000000 ≤ n) (h : l.length ≤ 1048576) : F48v1 n l s = some (B (s ∈ l), ()) := by
  unfold F48v1 F71v1 F71v1_0
  rcases idxv_it (R := Int × Unit) (n := n) (l := l) (s := s) (k0 := fun z => some (z, ())) (k1 := some ((-1 : Int), ())) h n 0 (by omega) (by omega) with ⟨j, j1, j2, j3, j4⟩ | ⟨j1, j2⟩
  · rw [show ((0 : Nat) : Int) = 0 from rfl] at j4
    rw [j4]; simp only [ats]
    rw [B_t (mem_get.2 ⟨j, j1, j3⟩), decide_eq_true (by omega)]
  · rw [show ((0 : Nat) : Int) = 0 from rfl] at j2
    rw [j2]; simp only [ats]
    rw [B_f (fun hm => by
      obtain ⟨j, h1, h2⟩ := mem_get.1 hm
      exact j1 j (by omega) h1 h2)]
    rfl
theorem onev_it {R : Type} {n : Nat} {l : List ByteArray} {s : ByteArray} {k0 : Bool → Option R} {k1 : Option R} (h : l.length ≤ 1048576) : ∀ (fuel i : Nat), i ≤ l.length → l.length + 1 ≤ fuel + i →
    ((∃ j : Nat, j < l.length ∧ l.getD j ⟨#[]⟩ = s) ∧ F66v1_0_it n k0 k1 fuel l s i = k0 true) ∨ ((∀ j, i ≤ j → j < l.length → l.getD j ⟨#[]⟩ ≠ s) ∧ F66v1_0_it n k0 k1 fuel l s i = k1)
  | fuel, i, hi, hf => by
    obtain ⟨f, rfl⟩ : ∃ f, fuel = f + 1 := ⟨fuel - 1, by omega⟩
    simp only [F66v1_0_it, F66v1_0_step]
    by_cases g : i < l.length
    · rw [bp (by omega), bp (by omega), bp (by omega), keq, show ((i : Nat) : Int).toNat = i by omega, wp (by omega)]
      by_cases g2 : l.getD i ⟨#[]⟩ = s
      · rw [bp g2]; exact .inl ⟨⟨i, g, g2⟩, rfl⟩
      · rw [bn g2]
        rcases onev_it (n := n) (s := s) (k0 := k0) (k1 := k1) h f (i + 1) (by omega) (by omega) with j | ⟨j1, j2⟩
        · exact .inl j
        · refine .inr ⟨fun j h1 h2 => ?_, j2⟩
          by_cases e : i = j
          · subst e; exact g2
          · exact j1 j (by omega) h2
    · rw [bn (by omega)]; exact .inr ⟨fun j h1 h2 => by omega, rfl⟩
theorem isOnev {n : Nat} {l : List ByteArray} {s : ByteArray} (hn : 3000000 ≤ n) (h : l.length ≤ 1048576) : F66v1 n l s = some (B (s ∈ l), ()) := by
  unfold F66v1 F66v1_0
  rcases onev_it (R := Bool × Unit) (n := n) (l := l) (s := s) (k0 := fun z => some (z, ())) (k1 := some (false, ())) h n 0 (by omega) (by omega) with ⟨⟨j, j1, j3⟩, j4⟩ | ⟨j1, j2⟩
  · rw [show ((0 : Nat) : Int) = 0 from rfl] at j4
    rw [j4, B_t (mem_get.2 ⟨j, j1, j3⟩)]
  · rw [show ((0 : Nat) : Int) = 0 from rfl] at j2
    rw [j2, B_f (fun hm => by
      obtain ⟨j, h1, h2⟩ := mem_get.1 hm
      exact j1 j (by omega) h1 h2)]

-- letters and digits -------------------------------------------------------------------------------------------------------------------
def isLt (x : Int) : Prop := x = 95 ∨ (97 ≤ x ∧ x ≤ 122) ∨ (65 ≤ x ∧ x ≤ 90)
def isDg (x : Int) : Prop := 48 ≤ x ∧ x ≤ 57
theorem ltI {n : Nat} {x : Int} : F74 n x = some (B (isLt x), ()) := by
  unfold F74
  by_cases h1 : x = 95
  · rw [eqp h1, B_t (.inl h1)]
  rw [eqn h1]
  by_cases h2 : x ≥ 97
  · rw [bp h2]
    by_cases h3 : x ≤ 122
    · rw [bp h3, B_t (.inr (.inl ⟨h2, h3⟩))]
    · rw [bn h3, bp (by omega), decide_eq_false (by omega), B_f (by unfold isLt; omega)]
  · rw [bn h2]
    by_cases h3 : x ≥ 65
    · rw [bp h3, dB, B_congr (show x ≤ 90 ↔ isLt x by unfold isLt; omega)]
    · rw [bn h3, B_f (by unfold isLt; omega)]
theorem ltS {n : Nat} {x : Int} : F105 n x = some (B (isLt x), ()) := by
  unfold F105
  by_cases h2 : x ≥ 97
  · rw [bp h2]
    by_cases h3 : x ≤ 122
    · rw [bp h3, B_t (.inr (.inl ⟨h2, h3⟩))]
    · rw [bn h3, bp (by omega), bn (by omega), B_f (by unfold isLt; omega), show (x == 95) = false from by rw [beq_eq_false_iff_ne]; omega]
  · rw [bn h2]
    by_cases h3 : x ≥ 65
    · rw [bp h3]
      by_cases h4 : x ≤ 90
      · rw [bp h4, B_t (.inr (.inr ⟨h3, h4⟩))]
      · rw [bn h4]
        by_cases h5 : x = 95
        · rw [B_t (.inl h5), beq_iff_eq.2 h5]
        · rw [B_f (by unfold isLt; omega), beq_eq_false_iff_ne.2 h5]
    · rw [bn h3, B_f (by unfold isLt; omega), show (x == 95) = false from by rw [beq_eq_false_iff_ne]; omega]
theorem dgI {n : Nat} {x : Int} : F72 n x = some (B (isDg x), ()) := by
  unfold F72
  by_cases h : x ≥ 48
  · rw [bp h, dB, B_congr (show x ≤ 57 ↔ isDg x by unfold isDg; omega)]
  · rw [bn h, B_f (by unfold isDg; omega)]
theorem dgS {n : Nat} {x : Int} : F106 n x = some (B (isDg x), ()) := by
  unfold F106
  by_cases h : x ≥ 48
  · rw [bp h, dB, B_congr (show x ≤ 57 ↔ isDg x by unfold isDg; omega)]
  · rw [bn h, B_f (by unfold isDg; omega)]

-- names --------------------------------------------------------------------------------------------------------------------------------
noncomputable def kws : List ByteArray := match F99 0 with | some r => r.1 | none => []
theorem kwI {n : Nat} : F99 n = some (kws, ()) := rfl
theorem kwS {n : Nat} : F113 n = some (kws, ()) := rfl
theorem kws_len : kws.length ≤ 100 := by unfold kws F99; decide
def NM (s : ByteArray) : Prop := 1 ≤ s.size ∧ s.size ≤ 12 ∧ ¬ isDg (strOf s 0) ∧ s ∉ kws ∧ ∀ i, i < s.size → isLt (strOf s i) ∨ isDg (strOf s i)
open Classical in
theorem nameI_it {R : Type} {n : Nat} {s : ByteArray} {k0 : Bool → Option R} {k1 : Option R} (h : s.size ≤ 1048576) : ∀ (fuel i : Nat), i ≤ s.size → s.size + 1 ≤ fuel + i →
    F49_0_it n k0 k1 fuel s s.size i = if ∀ j, i ≤ j → j < s.size → (isLt (strOf s j) ∨ isDg (strOf s j)) then k1 else k0 false
  | fuel, i, hi, hf => by
    obtain ⟨f, rfl⟩ : ∃ f, fuel = f + 1 := ⟨fuel - 1, by omega⟩
    simp only [F49_0_it, F49_0_step]
    by_cases g : i < s.size
    · rw [bp (by omega), bp (by omega), bp (by omega), show ((i : Nat) : Int).toNat = i by omega, ltI, wp (by omega)]; simp only [ats]
      have ih := nameI_it (R := R) (n := n) (s := s) (k0 := k0) (k1 := k1) h f (i + 1) (by omega) (by omega)
      have e1 := all_step (p := fun j => isLt (strOf s j) ∨ isDg (strOf s j)) g
      have fin : (isLt (strOf s i) ∨ isDg (strOf s i)) → F49_0_it n k0 k1 f s s.size ((i : Int) + 1) = if ∀ j, i ≤ j → j < s.size → (isLt (strOf s j) ∨ isDg (strOf s j)) then k1 else k0 false := by
        intro hh
        refine Eq.trans ih ?_
        by_cases h6 : ∀ j, i + 1 ≤ j → j < s.size → (isLt (strOf s j) ∨ isDg (strOf s j))
        · rw [if_pos h6, if_pos (e1.2 ⟨hh, h6⟩)]
        · rw [if_neg h6, if_neg (fun h => h6 (e1.1 h).2)]
      by_cases h1 : isLt (strOf s i)
      · rw [B_t h1]; simp only [Bool.not_true, cf]; exact fin (.inl h1)
      · rw [B_f h1]; simp only [Bool.not_false, ct]
        rw [bp (by omega), bp (by omega), dgI]; simp only [ats]
        by_cases h2 : isDg (strOf s i)
        · rw [B_t h2]; simp only [Bool.not_true, cf]; exact fin (.inr h2)
        · rw [B_f h2]; simp only [Bool.not_false, ct]
          rw [if_neg (fun h => (e1.1 h).1.elim h1 h2)]
    · rw [bn (by omega), if_pos (fun j h1 h2 => by omega)]
theorem nameI {n : Nat} {s : ByteArray} (hn : 3000000 ≤ n) : F49 n s = some (B (NM s), ()) := by
  unfold F49
  by_cases h1 : 1 ≤ s.size
  case neg => rw [bp (by omega), B_f (fun h => h1 h.1)]
  rw [bn (by omega)]
  by_cases h2 : s.size ≤ 12
  case neg => rw [bp (by omega), B_f (fun h => h2 h.2.1)]
  rw [bn (by omega), bp (by omega), dgI]; simp only [ats]
  by_cases h3 : isDg (strOf s 0)
  · rw [B_t h3, B_f (p := NM s) (fun h => h.2.2.1 h3)]; rfl
  rw [B_f h3]; simp only [cf]
  unfold F73
  rw [kwI]; simp only [ats]
  rw [contIv hn (by have := kws_len; omega)]; simp only [ats]
  by_cases h4 : s ∈ kws
  · rw [B_t h4, B_f (p := NM s) (fun h => h.2.2.2.1 h4)]; rfl
  rw [B_f h4]; simp only [cf]
  unfold F49_0
  have t := nameI_it (R := Bool × Unit) (n := n) (s := s) (k0 := fun z => some (z, ())) (k1 := some (true, ())) (by omega) n 0 (by omega) (by omega)
  rw [show ((0 : Nat) : Int) = 0 from rfl] at t
  rw [t]
  by_cases h5 : ∀ j, 0 ≤ j → j < s.size → (isLt (strOf s j) ∨ isDg (strOf s j))
  · rw [if_pos h5, B_t (p := NM s) ⟨h1, h2, h3, h4, fun j hj => h5 j (by omega) hj⟩]
  · rw [if_neg h5, B_f (fun h => h5 fun j _ hj => h.2.2.2.2 j hj)]
open Classical in
theorem nameS_it {R : Type} {n : Nat} {s : ByteArray} {k0 : Bool → Option R} {k1 : ByteArray → Option R} (h : s.size ≤ 1048576) : ∀ (fuel i : Nat), i ≤ s.size → s.size + 1 ≤ fuel + i →
    F85_0_it n k0 k1 fuel s i = if ∀ j, i ≤ j → j < s.size → (isLt (strOf s j) ∨ (j ≠ 0 ∧ isDg (strOf s j))) then k1 s else k0 false
  | fuel, i, hi, hf => by
    obtain ⟨f, rfl⟩ : ∃ f, fuel = f + 1 := ⟨fuel - 1, by omega⟩
    simp only [F85_0_it, F85_0_step]
    by_cases g : i < s.size
    · rw [bp (by omega), bp (by omega), bp (by omega), show ((i : Nat) : Int).toNat = i by omega, ltS, wp (by omega)]; simp only [ats]
      have ih := nameS_it (R := R) (n := n) (s := s) (k0 := k0) (k1 := k1) h f (i + 1) (by omega) (by omega)
      have e1 := all_step (p := fun j => isLt (strOf s j) ∨ (j ≠ 0 ∧ isDg (strOf s j))) g
      have fin : (isLt (strOf s i) ∨ (i ≠ 0 ∧ isDg (strOf s i))) → F85_0_it n k0 k1 f s ((i : Int) + 1) = if ∀ j, i ≤ j → j < s.size → (isLt (strOf s j) ∨ (j ≠ 0 ∧ isDg (strOf s j))) then k1 s else k0 false := by
        intro hh
        refine Eq.trans ih ?_
        by_cases h6 : ∀ j, i + 1 ≤ j → j < s.size → (isLt (strOf s j) ∨ (j ≠ 0 ∧ isDg (strOf s j)))
        · rw [if_pos h6, if_pos (e1.2 ⟨hh, h6⟩)]
        · rw [if_neg h6, if_neg (fun h => h6 (e1.1 h).2)]
      by_cases h1 : isLt (strOf s i)
      · rw [B_t h1]; simp only [Bool.not_true, cf]; exact fin (.inl h1)
      · rw [B_f h1]; simp only [Bool.not_false, ct]
        by_cases h0 : i = 0
        · rw [eqp (by omega), if_neg (fun h => (e1.1 h).1.elim h1 (fun h => h.1 h0))]
        rw [eqn (by omega), bp (by omega), bp (by omega), dgS]; simp only [ats]
        by_cases h2 : isDg (strOf s i)
        · rw [B_t h2]; simp only [Bool.not_true, cf]; exact fin (.inr ⟨h0, h2⟩)
        · rw [B_f h2]; simp only [Bool.not_false, ct]
          rw [if_neg (fun h => (e1.1 h).1.elim h1 (fun h => h2 h.2))]
    · rw [bn (by omega), if_pos (fun j h1 h2 => by omega)]
theorem rangeS {n : Nat} {v a b : Int} : F58 n v a b = some (decide (a ≤ v ∧ v ≤ b), ()) := by
  unfold F58
  by_cases h : v ≥ a
  · rw [bp h, decide_eq_decide.2 (show v ≤ b ↔ (a ≤ v ∧ v ≤ b) by omega)]
  · rw [bn h, decide_eq_false (by omega)]
theorem lt_dg {x : Int} (h : isLt x) : ¬ isDg x := by unfold isLt at h; unfold isDg; omega
theorem nameS {n : Nat} {s : ByteArray} (hn : 3000000 ≤ n) (hs : s.size ≤ 1048576) : F85 n s = some (B (NM s), ()) := by
  unfold F85 F85_0
  have t := nameS_it (R := Bool × Unit) (n := n) (s := s) (k0 := fun z => some (z, ())) (k1 := fun z1487 => (andThen (F58 n ((z1487.size) : Int) (1 : Int) (12 : Int)) fun r1489 => (bif r1489.1 then (andThen (F107 n z1487) fun r1506 => some ((!r1506.1), ())) else some (false, ())))) hs n 0 (by omega) (by omega)
  rw [show ((0 : Nat) : Int) = 0 from rfl] at t
  rw [t]
  by_cases h5 : ∀ j, 0 ≤ j → j < s.size → (isLt (strOf s j) ∨ (j ≠ 0 ∧ isDg (strOf s j)))
  case neg =>
    rw [if_neg h5, B_f (fun h => h5 fun j _ hj => by
      rcases h.2.2.2.2 j hj with g | g
      · exact .inl g
      · by_cases e : j = 0
        · subst e; exact absurd g h.2.2.1
        · exact .inr ⟨e, g⟩)]
  rw [if_pos h5, rangeS]; simp only [ats]
  by_cases h1 : 1 ≤ s.size ∧ s.size ≤ 12
  case neg => rw [bn (by omega), B_f (fun h => h1 ⟨h.1, h.2.1⟩)]
  rw [bp (by omega)]
  unfold F107
  rw [kwS]; simp only [ats]
  rw [isOne hn (by have := kws_len; omega)]; simp only [ats]
  by_cases h4 : s ∈ kws
  · rw [B_t h4, B_f (p := NM s) (fun h => h.2.2.2.1 h4)]; rfl
  · rw [B_f h4, B_t (p := NM s) ⟨h1.1, h1.2, (h5 0 (by omega) (by omega)).elim lt_dg (fun h => absurd rfl h.1), h4, fun j hj => (h5 j (by omega) hj).imp id (fun h => h.2)⟩]; rfl
/-- names, none twice -/
def ON (l : List ByteArray) : Prop := ∀ i, i < l.length → (NM (l.getD i ⟨#[]⟩) ∧ l.getD i ⟨#[]⟩ ∉ l.take i)
open Classical in
theorem onceS_it {R : Type} {n : Nat} {l : List ByteArray} {k0 : Bool → Option R} {k1 : Option R} (hn : 3000000 ≤ n) (h : l.length ≤ 1048576) (hs : ∀ s ∈ l, s.size ≤ 1048576) : ∀ (fuel i : Nat), i ≤ l.length → l.length + 1 ≤ fuel + i →
    F84_0_it n k0 k1 fuel l i = if ∀ j, i ≤ j → j < l.length → (NM (l.getD j ⟨#[]⟩) ∧ l.getD j ⟨#[]⟩ ∉ l.take j) then k1 else k0 false
  | fuel, i, hi, hf => by
    obtain ⟨f, rfl⟩ : ∃ f, fuel = f + 1 := ⟨fuel - 1, by omega⟩
    simp only [F84_0_it, F84_0_step]
    by_cases g : i < l.length
    · rw [bp (by omega), bp (by omega), bp (by omega), show ((i : Nat) : Int).toNat = i by omega, nameS hn (hs _ (mem_get.2 ⟨i, g, rfl⟩)), wp (by omega)]; simp only [ats]
      have ih := onceS_it (R := R) (n := n) (l := l) (k0 := k0) (k1 := k1) hn h hs f (i + 1) (by omega) (by omega)
      have e1 := all_step (p := fun j => NM (l.getD j ⟨#[]⟩) ∧ l.getD j ⟨#[]⟩ ∉ l.take j) g
      by_cases h1 : NM (l.getD i ⟨#[]⟩)
      case neg => rw [B_f h1]; simp only [Bool.not_false, ct]; rw [if_neg (fun h => h1 (e1.1 h).1.1)]
      rw [B_t h1]; simp only [Bool.not_true, cf]
      rw [bp (by omega), bp (by omega), bp (by omega), bp (by omega), isOnev hn (by simp; omega), List.drop_zero]; simp only [ats]
      by_cases h2 : l.getD i ⟨#[]⟩ ∈ l.take i
      · rw [B_t h2]; simp only [ct]; rw [if_neg (fun h => (e1.1 h).1.2 h2)]
      · rw [B_f h2]; simp only [cf]
        refine Eq.trans ih ?_
        by_cases h6 : ∀ j, i + 1 ≤ j → j < l.length → (NM (l.getD j ⟨#[]⟩) ∧ l.getD j ⟨#[]⟩ ∉ l.take j)
        · rw [if_pos h6, if_pos (e1.2 ⟨⟨h1, h2⟩, h6⟩)]
        · rw [if_neg h6, if_neg (fun h => h6 (e1.1 h).2)]
    · rw [bn (by omega), if_pos (fun j h1 h2 => by omega)]
theorem onceS {n : Nat} {l : List ByteArray} (hn : 3000000 ≤ n) (h : l.length ≤ 1048576) (hs : ∀ s ∈ l, s.size ≤ 1048576) : F84 n l = some (B (ON l), ()) := by
  unfold F84 F84_0
  have t := onceS_it (R := Bool × Unit) (n := n) (l := l) (k0 := fun z => some (z, ())) (k1 := some (true, ())) hn h hs n 0 (by omega) (by omega)
  rw [show ((0 : Nat) : Int) = 0 from rfl] at t
  rw [t]
  by_cases h5 : ∀ j, 0 ≤ j → j < l.length → (NM (l.getD j ⟨#[]⟩) ∧ l.getD j ⟨#[]⟩ ∉ l.take j)
  · rw [if_pos h5, B_t (p := ON l) (fun j hj => h5 j (by omega) hj)]
  · rw [if_neg h5, B_f (p := ON l) (fun h => h5 fun j _ hj => h j hj)]

-- integers -----------------------------------------------------------------------------------------------------------------------------
def ng (s : ByteArray) : Prop := 1 ≤ s.size ∧ strOf s 0 = 45
open Classical in
noncomputable def bod (s : ByteArray) : ByteArray := if ng s then s.extract 1 s.size else s
def VI (s : ByteArray) : Prop := 1 ≤ (bod s).size ∧ (bod s).size ≤ 40 ∧ (∀ i, i < (bod s).size → isDg (strOf (bod s) i)) ∧ (strOf (bod s) 0 = 48 → (bod s).size = 1 ∧ ¬ ng s)
theorem bod_size (s : ByteArray) : (bod s).size ≤ s.size := by
  unfold bod
  by_cases h : ng s
  · rw [if_pos h, ByteArray.size_extract]; omega
  · rw [if_neg h]; omega
theorem VI_pos {s : ByteArray} (h : VI s) : 1 ≤ s.size := Nat.le_trans h.1 (bod_size s)
theorem strOf_bd (s : ByteArray) (i : Nat) : 0 ≤ strOf s i ∧ strOf s i < 256 := by
  unfold strOf
  split
  · rename_i h; have := (s[i]'h).toNat_lt; omega
  · omega
theorem lit45 : (({ data := #[45] } : ByteArray)) = str [45] := by decide
theorem lit48 : (({ data := #[48] } : ByteArray)) = str [48] := by decide
theorem okb1 {x : Int} (h : 0 ≤ x ∧ x < 256) : okb [x] := okb.cons h okb.nil
theorem head45 {s : ByteArray} (h : 1 ≤ s.size) : s.extract 0 1 = ({ data := #[45] } : ByteArray) ↔ strOf s 0 = 45 := by
  obtain ⟨l, hl, rfl⟩ := str_surj s
  rw [str_size] at h
  match l, h, hl with
  | x :: l, h, hl =>
    rw [str_ext (by simp), lit45, str_of hl (by simp)]
    show str [x] = str [45] ↔ x = 45
    constructor
    · intro e
      have := str_inj (okb1 (hl x (by simp))) (okb1 (by omega)) e
      simpa using this
    · rintro rfl; rfl
theorem one48 {s : ByteArray} : s = ({ data := #[48] } : ByteArray) ↔ (s.size = 1 ∧ strOf s 0 = 48) := by
  obtain ⟨l, hl, rfl⟩ := str_surj s
  rw [lit48, str_size]
  constructor
  · intro e
    have := str_inj hl (okb1 (by omega)) e
    subst this
    exact ⟨rfl, by rw [str_of hl (by simp)]; rfl⟩
  · rintro ⟨h1, h2⟩
    match l, h1, hl, h2 with
    | [x], h1, hl, h2 =>
      rw [str_of hl (by simp)] at h2
      have : x = 48 := h2
      subst this; rfl
theorem trim_ok {R : Type} {n : Nat} {k0 : List Int → Option R} : ∀ (fuel : Nat) (l : List Int), l.length < fuel → l.length ≤ 1000000 → ∃ l', F101_0_it n k0 fuel l = k0 l'
  | fuel, l, hf, hl => by
    obtain ⟨f, rfl⟩ : ∃ f, fuel = f + 1 := ⟨fuel - 1, by omega⟩
    simp only [F101_0_it, F101_0_step]
    by_cases g : 0 < l.length
    · rw [bp (by omega), wp (by omega), bp (by omega), bp (by omega)]
      by_cases g2 : l.getD ((l.length : Int) - 1).toNat 0 = 0
      · rw [eqp g2, bp (by omega), bp (by omega)]
        exact trim_ok f _ (by simp; omega) (by simp; omega)
      · rw [eqn g2]; exact ⟨_, rfl⟩
    · rw [bn (by omega)]; exact ⟨_, rfl⟩
theorem numI_it {R : Type} {n : Nat} {s : ByteArray} {x y : Bool} {k0 : Bool → Bool → Option R} {k1 : Bool → Bool → List Int → Option R} (h : s.size ≤ 1000) : ∀ (c fuel : Nat) (out : List Int), c ≤ s.size → c + 1 ≤ fuel → out.length + c ≤ 2000 →
    ((∀ j, j < c → isDg (strOf s j)) ∧ ∃ L, L.length ≤ 2000 ∧ F76_0_it n k0 k1 fuel s ((c : Int) - 1) x y out = k1 x y L) ∨ (¬ (∀ j, j < c → isDg (strOf s j)) ∧ F76_0_it n k0 k1 fuel s ((c : Int) - 1) x y out = k0 false false)
  | c, fuel, out, hc, hf, ho => by
    obtain ⟨f, rfl⟩ : ∃ f, fuel = f + 1 := ⟨fuel - 1, by omega⟩
    simp only [F76_0_it, F76_0_step]
    match c with
    | 0 => rw [bn (by omega)]; exact .inl ⟨fun j hj => by omega, out, by omega, rfl⟩
    | c + 1 =>
      rw [bp (by omega), bp (by omega), bp (by omega), show (((c + 1 : Nat) : Int) - 1).toNat = c by omega, show (((c + 1 : Nat) : Int) - 1) = (c : Int) by omega]
      by_cases h1 : strOf s c < 48
      · rw [bp h1]; exact .inr ⟨fun h => by have := h c (by omega); unfold isDg at this; omega, rfl⟩
      rw [bn h1, bp (by omega), bp (by omega)]
      by_cases h2 : strOf s c > 57
      · rw [bp h2]; exact .inr ⟨fun h => by have := h c (by omega); unfold isDg at this; omega, rfl⟩
      rw [bn h2, bp (by omega), bp (by omega), bp (by simp only [List.length_cons, List.length_nil]; omega), wp (x := (c : Int) - 1) (by omega)]
      rcases numI_it (n := n) (x := x) (y := y) (k0 := k0) (k1 := k1) h c f (out ++ [(IntKind.wrap .i64 (IntKind.wrap .u8 ((strOf s c) - (48 : Int))))]) (by omega) (by omega) (by simp; omega) with ⟨a, b⟩ | ⟨a, b⟩
      · refine .inl ⟨fun j hj => ?_, b⟩
        by_cases e : j = c
        · subst e; unfold isDg; omega
        · exact a j (by omega)
      · exact .inr ⟨fun h => a fun j hj => h j (by omega), b⟩
theorem cutP {n : Nat} {s : ByteArray} (hs : s.size ≤ 9223372036854775807) : F100 n s ({ data := #[45] } : ByteArray) = some ((bod s, (B (ng s), ())), ()) := by
  unfold F100 F110 F114
  have e1 : (({ data := #[45] } : ByteArray)).size = 1 := rfl
  rw [e1]
  by_cases h : 1 ≤ s.size
  · rw [bp (by omega), bp (by omega), bp (by omega), keq, show ((1 : Nat) : Int).toNat = 1 from rfl]; simp only [ats]
    by_cases g : strOf s 0 = 45
    · rw [decide_eq_true ((head45 h).2 g)]; simp only [Bool.not_true, cf]
      rw [bp (by omega), bp (by omega), bp (by omega), show ((s.size : Nat) : Int).toNat = s.size by omega]
      simp only [ats]
      unfold bod; rw [if_pos ⟨h, g⟩, B_t (p := ng s) ⟨h, g⟩]; rfl
    · rw [decide_eq_false (fun hh => g ((head45 h).1 hh))]; simp only [Bool.not_false, ct, ats]
      unfold bod; rw [if_neg (fun hh => g hh.2), B_f (fun hh => g hh.2)]
  · rw [bn (by omega)]; simp only [ats, Bool.not_false, ct]
    unfold bod; rw [if_neg (fun hh => h hh.1), B_f (fun hh => h hh.1)]
theorem intI {n : Nat} {s : ByteArray} (hn : 3000000 ≤ n) (hs : s.size ≤ 1048576) : F51 n s = some (B (VI s), ()) := by
  unfold F51 F76
  rw [cutP (by omega)]; simp only [ats]
  by_cases h1 : 1 ≤ (bod s).size
  case neg => rw [bp (by omega), B_f (fun h => h1 h.1)]; rfl
  rw [bn (by omega)]
  by_cases h2 : (bod s).size ≤ 40
  case neg => rw [bp (by omega), B_f (fun h => h2 h.2.1)]; rfl
  rw [bn (by omega), bp (by omega)]
  unfold F76_0
  have loop : (strOf (bod s) 0 = 48 → (bod s).size = 1 ∧ ¬ ng s) → (andThen (F76_0_it n (fun z1116 z1117 => some (((z1117, ([], ())), (z1116, ())), ())) (fun z1118 z1119 z1120 => (andThen (F101 n z1120) fun r1121 => some (((z1119, (r1121.1, ())), (true, ())), ()))) n (bod s) (IntKind.wrap .i64 ((((bod s).size) : Int) - (1 : Int))) false (B (ng s)) [] : Option (((Bool × (List Int × Unit)) × (Bool × Unit)) × Unit)) fun r => some (r.1.2.1, ())) = some (B (VI s), ()) := by
    intro h0
    rw [wp (by omega)]
    rcases numI_it (R := ((Bool × (List Int × Unit)) × (Bool × Unit)) × Unit) (n := n) (s := bod s) (x := false) (y := B (ng s)) (k0 := fun z1116 z1117 => some (((z1117, ([], ())), (z1116, ())), ())) (k1 := fun z1118 z1119 z1120 => (andThen (F101 n z1120) fun r1121 => some (((z1119, (r1121.1, ())), (true, ())), ()))) (by omega) (bod s).size n [] (by omega) (by omega) (by simp; omega) with ⟨a, L, l1, b⟩ | ⟨a, b⟩
    · rw [b]
      unfold F101 F101_0
      obtain ⟨l', e⟩ := trim_ok (R := List Int × Unit) (n := n) (k0 := fun z => some (z, ())) n L (by omega) (by omega)
      rw [e, B_t (p := VI s) ⟨h1, h2, a, h0⟩]; rfl
    · rw [b, B_f (p := VI s) (fun h => a h.2.2.1)]; rfl
  by_cases h3 : strOf (bod s) 0 = 48
  · rw [eqp h3]
    by_cases h4 : (bod s).size = 1
    case neg => rw [bp (by omega), B_f (p := VI s) (fun h => h4 (h.2.2.2 h3).1)]; rfl
    rw [bn (by omega)]
    by_cases h5 : ng s
    · rw [B_t h5, B_f (p := VI s) (fun h => (h.2.2.2 h3).2 h5)]; rfl
    have := loop (fun _ => ⟨h4, h5⟩)
    rw [B_f h5] at this ⊢
    exact this
  · rw [eqn h3]; exact loop (fun h => absurd h h3)
open Classical in
theorem numS_it {R : Type} {n : Nat} {s b : ByteArray} {k0 : Bool → Option R} {k1 : ByteArray → ByteArray → Option R} (h : b.size ≤ 1048576) : ∀ (fuel i : Nat), i ≤ b.size → b.size + 1 ≤ fuel + i →
    F59_1_it n k0 k1 fuel s b i = if ∀ j, i ≤ j → j < b.size → isDg (strOf b j) then k1 s b else k0 false
  | fuel, i, hi, hf => by
    obtain ⟨f, rfl⟩ : ∃ f, fuel = f + 1 := ⟨fuel - 1, by omega⟩
    simp only [F59_1_it, F59_1_step]
    by_cases g : i < b.size
    · rw [bp (by omega), bp (by omega), bp (by omega), show ((i : Nat) : Int).toNat = i by omega, wp (by omega)]
      have ih := numS_it (R := R) (n := n) (s := s) (b := b) (k0 := k0) (k1 := k1) h f (i + 1) (by omega) (by omega)
      have e1 := all_step (p := fun j => isDg (strOf b j)) g
      by_cases h1 : strOf b i < 48
      · rw [bp h1, if_neg (fun h => by have := (e1.1 h).1; unfold isDg at this; omega)]
      rw [bn h1, bp (by omega), bp (by omega)]
      by_cases h2 : strOf b i > 57
      · rw [bp h2, if_neg (fun h => by have := (e1.1 h).1; unfold isDg at this; omega)]
      rw [bn h2]
      refine Eq.trans ih ?_
      by_cases h6 : ∀ j, i + 1 ≤ j → j < b.size → isDg (strOf b j)
      · rw [if_pos h6, if_pos (e1.2 ⟨by unfold isDg; omega, h6⟩)]
      · rw [if_neg h6, if_neg (fun h => h6 (e1.1 h).2)]
    · rw [bn (by omega), if_pos (fun j h1 h2 => by omega)]
theorem intS {n : Nat} {s : ByteArray} (hn : 3000000 ≤ n) (hs : s.size ≤ 1048576) : F59 n s = some (B (VI s), ()) := by
  unfold F59 F59_0
  have hb := bod_size s
  have tail : F59_1 n s (bod s) (0 : Int) (fun z1434 => some (z1434, ())) (fun z1435 z1436 =>
      (andThen (F58 n ((z1436.size) : Int) (1 : Int) (40 : Int)) fun r1443 =>
      (bif r1443.1 then
      (bif (decide ((0 : Int) < ((z1436.size) : Int))) then
      (bif ((strOf z1436 (0 : Nat)) != (48 : Int)) then
      some (true, ())
      else some (((z1435.toList) == (({ data := #[48] } : ByteArray).toList)), ()))
      else none)
      else some (false, ())))) = some (B (VI s), ()) := by
    unfold F59_1
    have t := numS_it (R := Bool × Unit) (n := n) (s := s) (b := bod s) (k0 := fun z1434 => some (z1434, ())) (k1 := fun z1435 z1436 =>
      (andThen (F58 n ((z1436.size) : Int) (1 : Int) (40 : Int)) fun r1443 =>
      (bif r1443.1 then
      (bif (decide ((0 : Int) < ((z1436.size) : Int))) then
      (bif ((strOf z1436 (0 : Nat)) != (48 : Int)) then
      some (true, ())
      else some (((z1435.toList) == (({ data := #[48] } : ByteArray).toList)), ()))
      else none)
      else some (false, ())))) (by omega) n 0 (by omega) (by omega)
    rw [show ((0 : Nat) : Int) = 0 from rfl] at t
    rw [t]
    by_cases h5 : ∀ j, 0 ≤ j → j < (bod s).size → isDg (strOf (bod s) j)
    case neg => rw [if_neg h5, B_f (fun h => h5 fun j _ hj => h.2.2.1 j hj)]
    rw [if_pos h5, rangeS]; simp only [ats]
    by_cases h1 : 1 ≤ (bod s).size ∧ (bod s).size ≤ 40
    case neg => rw [bn (by omega), B_f (fun h => h1 ⟨h.1, h.2.1⟩)]
    rw [bp (by omega), bp (by omega)]
    by_cases h3 : strOf (bod s) 0 = 48
    · rw [nen h3, keq, dB, B_congr (show s = ({ data := #[48] } : ByteArray) ↔ VI s from ?_)]
      rw [one48]
      constructor
      · rintro ⟨a, b⟩
        have hng : ¬ ng s := fun h => by have := h.2; omega
        have e : bod s = s := by unfold bod; rw [if_neg hng]
        exact ⟨h1.1, h1.2, fun j hj => h5 j (by omega) hj, fun _ => ⟨by rw [e]; exact a, hng⟩⟩
      · intro h
        obtain ⟨a, b⟩ := h.2.2.2 h3
        have e : bod s = s := by unfold bod; rw [if_neg b]
        rw [e] at a h3; exact ⟨a, h3⟩
    · rw [nep h3, B_t (p := VI s) ⟨h1.1, h1.2, fun j hj => h5 j (by omega) hj, fun h => absurd h h3⟩]
  by_cases h : 1 ≤ s.size
  · rw [bp (by omega), bp (by omega)]
    by_cases g : strOf s 0 = 45
    · rw [eqp g, bp (by omega), bp (by omega), show ((s.size : Nat) : Int).toNat = s.size by omega]
      have e : bod s = s.extract 1 s.size := by unfold bod; rw [if_pos ⟨h, g⟩]
      rw [e] at tail; exact tail
    · rw [eqn g]
      have e : bod s = s := by unfold bod; rw [if_neg (fun hh => g hh.2)]
      rw [e] at tail; exact tail
  · rw [bn (by omega)]
    have e : bod s = s := by unfold bod; rw [if_neg (fun hh => h hh.1)]
    rw [e] at tail; exact tail
end Go.Proofs.Ytfknenaecihchaa.Am
