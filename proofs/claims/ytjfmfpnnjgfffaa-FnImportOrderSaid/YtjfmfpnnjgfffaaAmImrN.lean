/- Expressions: numbers and names. -/
import Derived.Test.YtjfmfpnnjgfffaaAmImrG
import Derived.Test.YtjfmfpnnjgfffaaAmPl
namespace Go.Proofs.Ytjfmfpnnjgfffaa.Am
open Go
set_option autoImplicit false
set_option linter.unusedVariables false
set_option linter.unusedSimpArgs false

noncomputable def B (p : Prop) : Bool := @decide p (Classical.propDecidable p)
theorem B_t {p : Prop} (h : p) : B p = true := @decide_eq_true p (Classical.propDecidable p) h
theorem B_f {p : Prop} (h : ¬ p) : B p = false := @decide_eq_false p (Classical.propDecidable p) h
theorem B_iff {p : Prop} : B p = true ↔ p := by
  by_cases h : p
  · exact ⟨fun _ => h, fun _ => B_t h⟩
  · exact ⟨fun e => (by rw [B_f h] at e; cases e), fun e => absurd e h⟩
theorem B_congr {p q : Prop} (h : p ↔ q) : B p = B q := by rw [propext h]
theorem dB {p : Prop} [Decidable p] : decide p = B p := by
  by_cases h : p
  · rw [decide_eq_true h, B_t h]
  · rw [decide_eq_false h, B_f h]
theorem keq (a b : ByteArray) : (a.toList == b.toList) = decide (a = b) := by
  by_cases h : a = b
  · subst h; simp
  · rw [decide_eq_false h, beq_eq_false_iff_ne]
    exact fun e => h (toList_inj e)
theorem all_step {p : Nat → Prop} {i len : Nat} (h : i < len) : (∀ j, i ≤ j → j < len → p j) ↔ (p i ∧ ∀ j, i + 1 ≤ j → j < len → p j) := by
  constructor
  · intro g; exact ⟨g i (Nat.le_refl _) h, fun j h1 h2 => g j (by omega) h2⟩
  · rintro ⟨g1, g2⟩ j h1 h2
    by_cases e : i = j
    · subst e; exact g1
    · exact g2 j (by omega) h2

-- is it one of them --------------------------------------------------------------------------------------------------------------------
theorem idx_it {R : Type} {n : Nat} {l : List ByteArray} {s : ByteArray} {k0 : Int → Option R} {k1 : Option R} (h : l.length ≤ 1048576) : ∀ (fuel i : Nat), i ≤ l.length → l.length + 1 ≤ fuel + i →
    (∃ j : Nat, j < l.length ∧ i ≤ j ∧ l.getD j ⟨#[]⟩ = s ∧ F81_0_it n k0 k1 fuel l s l.length i = k0 j) ∨ ((∀ j, i ≤ j → j < l.length → l.getD j ⟨#[]⟩ ≠ s) ∧ F81_0_it n k0 k1 fuel l s l.length i = k1)
  | fuel, i, hi, hf => by
    obtain ⟨f, rfl⟩ : ∃ f, fuel = f + 1 := ⟨fuel - 1, by omega⟩
    simp only [F81_0_it, F81_0_step]
    by_cases g : i < l.length
    · rw [bp (by omega), bp (by omega), bp (by omega), keq, show ((i : Nat) : Int).toNat = i by omega, wp (by omega)]
      by_cases g2 : s = l.getD i ⟨#[]⟩
      · rw [bp g2]; exact .inl ⟨i, g, Nat.le_refl _, g2.symm, rfl⟩
      · rw [bn g2]
        rcases idx_it (n := n) (s := s) (k0 := k0) (k1 := k1) h f (i + 1) (by omega) (by omega) with ⟨j, j1, j2, j3, j4⟩ | ⟨j1, j2⟩
        · exact .inl ⟨j, j1, by omega, j3, j4⟩
        · refine .inr ⟨fun j h1 h2 => ?_, j2⟩
          by_cases e : i = j
          · subst e; exact fun e => g2 e.symm
          · exact j1 j (by omega) h2
    · rw [bn (by omega)]; exact .inr ⟨fun j h1 h2 => by omega, rfl⟩
theorem mem_get {l : List ByteArray} {s : ByteArray} : s ∈ l ↔ ∃ j, j < l.length ∧ l.getD j ⟨#[]⟩ = s := by
  constructor
  · intro hm
    obtain ⟨j, hj, e⟩ := List.getElem_of_mem hm
    exact ⟨j, hj, by rw [getD_lt hj]; exact e⟩
  · rintro ⟨j, h2, h3⟩
    rw [getD_lt h2] at h3; rw [← h3]; exact List.getElem_mem _
theorem contI {n : Nat} {l : List ByteArray} {s : ByteArray} (hn : 3000000 ≤ n) (h : l.length ≤ 1048576) : F75 n l s = some (B (s ∈ l), ()) := by
  unfold F75 F81 F81_0
  rcases idx_it (R := Int × Unit) (n := n) (l := l) (s := s) (k0 := fun z => some (z, ())) (k1 := some ((-1 : Int), ())) h n 0 (by omega) (by omega) with ⟨j, j1, j2, j3, j4⟩ | ⟨j1, j2⟩
  · rw [show ((0 : Nat) : Int) = 0 from rfl] at j4
    rw [j4]; simp only [ats]
    rw [B_t (mem_get.2 ⟨j, j1, j3⟩), decide_eq_true (by omega)]
  · rw [show ((0 : Nat) : Int) = 0 from rfl] at j2
    rw [j2]; simp only [ats]
    rw [B_f (fun hm => by
      obtain ⟨j, h1, h2⟩ := mem_get.1 hm
      exact j1 j (by omega) h1 h2)]
    rfl
theorem one_it {R : Type} {n : Nat} {l : List ByteArray} {s : ByteArray} {k0 : Bool → Option R} {k1 : Option R} (h : l.length ≤ 1048576) : ∀ (fuel i : Nat), i ≤ l.length → l.length + 1 ≤ fuel + i →
    ((∃ j : Nat, j < l.length ∧ l.getD j ⟨#[]⟩ = s) ∧ F73_0_it n k0 k1 fuel l s i = k0 true) ∨ ((∀ j, i ≤ j → j < l.length → l.getD j ⟨#[]⟩ ≠ s) ∧ F73_0_it n k0 k1 fuel l s i = k1)
  | fuel, i, hi, hf => by
    obtain ⟨f, rfl⟩ : ∃ f, fuel = f + 1 := ⟨fuel - 1, by omega⟩
    simp only [F73_0_it, F73_0_step]
    by_cases g : i < l.length
    · rw [bp (by omega), bp (by omega), bp (by omega), keq, show ((i : Nat) : Int).toNat = i by omega, wp (by omega)]
      by_cases g2 : l.getD i ⟨#[]⟩ = s
      · rw [bp g2]; exact .inl ⟨⟨i, g, g2⟩, rfl⟩
      · rw [bn g2]
        rcases one_it (n := n) (s := s) (k0 := k0) (k1 := k1) h f (i + 1) (by omega) (by omega) with j | ⟨j1, j2⟩
        · exact .inl j
        · refine .inr ⟨fun j h1 h2 => ?_, j2⟩
          by_cases e : i = j
          · subst e; exact g2
          · exact j1 j (by omega) h2
    · rw [bn (by omega)]; exact .inr ⟨fun j h1 h2 => by omega, rfl⟩
theorem isOne {n : Nat} {l : List ByteArray} {s : ByteArray} (hn : 3000000 ≤ n) (h : l.length ≤ 1048576) : F73 n l s = some (B (s ∈ l), ()) := by
  unfold F73 F73_0
  rcases one_it (R := Bool × Unit) (n := n) (l := l) (s := s) (k0 := fun z => some (z, ())) (k1 := some (false, ())) h n 0 (by omega) (by omega) with ⟨⟨j, j1, j3⟩, j4⟩ | ⟨j1, j2⟩
  · rw [show ((0 : Nat) : Int) = 0 from rfl] at j4
    rw [j4, B_t (mem_get.2 ⟨j, j1, j3⟩)]
  · rw [show ((0 : Nat) : Int) = 0 from rfl] at j2
    rw [j2, B_f (fun hm => by
      obtain ⟨j, h1, h2⟩ := mem_get.1 hm
      exact j1 j (by omega) h1 h2)]

-- letters and digits -------------------------------------------------------------------------------------------------------------------
def isLt (x : Int) : Prop := x = 95 ∨ (97 ≤ x ∧ x ≤ 122) ∨ (65 ≤ x ∧ x ≤ 90)
def isDg (x : Int) : Prop := 48 ≤ x ∧ x ≤ 57
theorem ltI {n : Nat} {x : Int} : F68 n x = some (B (isLt x), ()) := by
  unfold F68
  by_cases h1 : x = 95
  · rw [eqp h1, B_t (.inl h1)]
  rw [eqn h1]
  by_cases h2 : x ≥ 97
  · rw [bp h2]
    by_cases h3 : x ≤ 122
    · rw [bp h3, B_t (.inr (.inl ⟨h2, h3⟩))]
    · rw [bn h3, bp (by omega), decide_eq_false (by omega), B_f (by unfold isLt; omega)]
  · rw [bn h2]
    by_cases h3 : x ≥ 65
    · rw [bp h3, dB, B_congr (show x ≤ 90 ↔ isLt x by unfold isLt; omega)]
    · rw [bn h3, B_f (by unfold isLt; omega)]
theorem ltS {n : Nat} {x : Int} : F62 n x = some (B (isLt x), ()) := by
  unfold F62
  by_cases h2 : x ≥ 97
  · rw [bp h2]
    by_cases h3 : x ≤ 122
    · rw [bp h3, B_t (.inr (.inl ⟨h2, h3⟩))]
    · rw [bn h3, bp (by omega), bn (by omega), B_f (by unfold isLt; omega), show (x == 95) = false from by rw [beq_eq_false_iff_ne]; omega]
  · rw [bn h2]
    by_cases h3 : x ≥ 65
    · rw [bp h3]
      by_cases h4 : x ≤ 90
      · rw [bp h4, B_t (.inr (.inr ⟨h3, h4⟩))]
      · rw [bn h4]
        by_cases h5 : x = 95
        · rw [B_t (.inl h5), beq_iff_eq.2 h5]
        · rw [B_f (by unfold isLt; omega), beq_eq_false_iff_ne.2 h5]
    · rw [bn h3, B_f (by unfold isLt; omega), show (x == 95) = false from by rw [beq_eq_false_iff_ne]; omega]
theorem dgI {n : Nat} {x : Int} : F66 n x = some (B (isDg x), ()) := by
  unfold F66
  by_cases h : x ≥ 48
  · rw [bp h, dB, B_congr (show x ≤ 57 ↔ isDg x by unfold isDg; omega)]
  · rw [bn h, B_f (by unfold isDg; omega)]
theorem dgS {n : Nat} {x : Int} : F63 n x = some (B (isDg x), ()) := by
  unfold F63
  by_cases h : x ≥ 48
  · rw [bp h, dB, B_congr (show x ≤ 57 ↔ isDg x by unfold isDg; omega)]
  · rw [bn h, B_f (by unfold isDg; omega)]

-- names --------------------------------------------------------------------------------------------------------------------------------
noncomputable def kws : List ByteArray := match F76 0 with | some r => r.1 | none => []
theorem kwI {n : Nat} : F76 n = some (kws, ()) := rfl
theorem kwS {n : Nat} : F74 n = some (kws, ()) := rfl
theorem kws_len : kws.length ≤ 100 := by unfold kws F76; decide
def NM (s : ByteArray) : Prop := 1 ≤ s.size ∧ s.size ≤ 12 ∧ ¬ isDg (strOf s 0) ∧ s ∉ kws ∧ ∀ i, i < s.size → isLt (strOf s i) ∨ isDg (strOf s i)
open Classical in
theorem nameI_it {R : Type} {n : Nat} {s : ByteArray} {k0 : Bool → Option R} {k1 : Option R} (h : s.size ≤ 1048576) : ∀ (fuel i : Nat), i ≤ s.size → s.size + 1 ≤ fuel + i →
    F49_0_it n k0 k1 fuel s s.size i = if ∀ j, i ≤ j → j < s.size → (isLt (strOf s j) ∨ isDg (strOf s j)) then k1 else k0 false
  | fuel, i, hi, hf => by
    obtain ⟨f, rfl⟩ : ∃ f, fuel = f + 1 := ⟨fuel - 1, by omega⟩
    simp only [F49_0_it, F49_0_step]
    by_cases g : i < s.size
    · rw [bp (by omega), bp (by omega), bp (by omega), show ((i : Nat) : Int).toNat = i by omega, ltI, wp (by omega)]; simp only [ats]
      have ih := nameI_it (R := R) (n := n) (s := s) (k0 := k0) (k1 := k1) h f (i + 1) (by omega) (by omega)
      have e1 := all_step (p := fun j => isLt (strOf s j) ∨ isDg (strOf s j)) g
      have fin : (isLt (strOf s i) ∨ isDg (strOf s i)) → F49_0_it n k0 k1 f s s.size ((i : Int) + 1) = if ∀ j, i ≤ j → j < s.size → (isLt (strOf s j) ∨ isDg (strOf s j)) then k1 else k0 false := by
        intro hh
        refine Eq.trans ih ?_
        by_cases h6 : ∀ j, i + 1 ≤ j → j < s.size → (isLt (strOf s j) ∨ isDg (strOf s j))
        · rw [if_pos h6, if_pos (e1.2 ⟨hh, h6⟩)]
        · rw [if_neg h6, if_neg (fun h => h6 (e1.1 h).2)]
      by_cases h1 : isLt (strOf s i)
      · rw [B_t h1]; simp only [Bool.not_true, cf]; exact fin (.inl h1)
      · rw [B_f h1]; simp only [Bool.not_false, ct]
        rw [bp (by omega), bp (by omega), dgI]; simp only [ats]
        by_cases h2 : isDg (strOf s i)
        · rw [B_t h2]; simp only [Bool.not_true, cf]; exact fin (.inr h2)
        · rw [B_f h2]; simp only [Bool.not_false, ct]
          rw [if_neg (fun h => (e1.1 h).1.elim h1 h2)]
    · rw [bn (by omega), if_pos (fun j h1 h2 => by omega)]
theorem nameI {n : Nat} {s : ByteArray} (hn : 3000000 ≤ n) : F49 n s = some (B (NM s), ()) := by
  unfold F49
  by_cases h1 : 1 ≤ s.size
  case neg => rw [bp (by omega), B_f (fun h => h1 h.1)]
  rw [bn (by omega)]
  by_cases h2 : s.size ≤ 12
  case neg => rw [bp (by omega), B_f (fun h => h2 h.2.1)]
  rw [bn (by omega), bp (by omega), dgI]; simp only [ats]
  by_cases h3 : isDg (strOf s 0)
  · rw [B_t h3, B_f (p := NM s) (fun h => h.2.2.1 h3)]; rfl
  rw [B_f h3]; simp only [cf]
  unfold F67
  rw [kwI]; simp only [ats]
  rw [contI hn (by have := kws_len; omega)]; simp only [ats]
  by_cases h4 : s ∈ kws
  · rw [B_t h4, B_f (p := NM s) (fun h => h.2.2.2.1 h4)]; rfl
  rw [B_f h4]; simp only [cf]
  unfold F49_0
  have t := nameI_it (R := Bool × Unit) (n := n) (s := s) (k0 := fun z => some (z, ())) (k1 := some (true, ())) (by omega) n 0 (by omega) (by omega)
  rw [show ((0 : Nat) : Int) = 0 from rfl] at t
  rw [t]
  by_cases h5 : ∀ j, 0 ≤ j → j < s.size → (isLt (strOf s j) ∨ isDg (strOf s j))
  · rw [if_pos h5, B_t (p := NM s) ⟨h1, h2, h3, h4, fun j hj => h5 j (by omega) hj⟩]
  · rw [if_neg h5, B_f (fun h => h5 fun j _ hj => h.2.2.2.2 j hj)]
open Classical in
theorem nameS_it {R : Type} {n : Nat} {s : ByteArray} {k0 : Bool → Option R} {k1 : ByteArray → Option R} (h : s.size ≤ 1048576) : ∀ (fuel i : Nat), i ≤ s.size → s.size + 1 ≤ fuel + i →
    F47_0_it n k0 k1 fuel s i = if ∀ j, i ≤ j → j < s.size → (isLt (strOf s j) ∨ (j ≠ 0 ∧ isDg (strOf s j))) then k1 s else k0 false
  | fuel, i, hi, hf => by
    obtain ⟨f, rfl⟩ : ∃ f, fuel = f + 1 := ⟨fuel - 1, by omega⟩
    simp only [F47_0_it, F47_0_step]
    by_cases g : i < s.size
    · rw [bp (by omega), bp (by omega), bp (by omega), show ((i : Nat) : Int).toNat = i by omega, ltS, wp (by omega)]; simp only [ats]
      have ih := nameS_it (R := R) (n := n) (s := s) (k0 := k0) (k1 := k1) h f (i + 1) (by omega) (by omega)
      have e1 := all_step (p := fun j => isLt (strOf s j) ∨ (j ≠ 0 ∧ isDg (strOf s j))) g
      have fin : (isLt (strOf s i) ∨ (i ≠ 0 ∧ isDg (strOf s i))) → F47_0_it n k0 k1 f s ((i : Int) + 1) = if ∀ j, i ≤ j → j < s.size → (isLt (strOf s j) ∨ (j ≠ 0 ∧ isDg (strOf s j))) then k1 s else k0 false := by
        intro hh
        refine Eq.trans ih ?_
        by_cases h6 : ∀ j, i + 1 ≤ j → j < s.size → (isLt (strOf s j) ∨ (j ≠ 0 ∧ isDg (strOf s j)))
        · rw [if_pos h6, if_pos (e1.2 ⟨hh, h6⟩)]
        · rw [if_neg h6, if_neg (fun h => h6 (e1.1 h).2)]
      by_cases h1 : isLt (strOf s i)
      · rw [B_t h1]; simp only [Bool.not_true, cf]; exact fin (.inl h1)
      · rw [B_f h1]; simp only [Bool.not_false, ct]
        by_cases h0 : i = 0
        · rw [eqp (by omega), if_neg (fun h => (e1.1 h).1.elim h1 (fun h => h.1 h0))]
        rw [eqn (by omega), bp (by omega), bp (by omega), dgS]; simp only [ats]
        by_cases h2 : isDg (strOf s i)
        · rw [B_t h2]; simp only [Bool.not_true, cf]; exact fin (.inr ⟨h0, h2⟩)
        · rw [B_f h2]; simp only [Bool.not_false, ct]
          rw [if_neg (fun h => (e1.1 h).1.elim h1 (fun h => h2 h.2))]
    · rw [bn (by omega), if_pos (fun j h1 h2 => by omega)]
theorem rangeS {n : Nat} {v a b : Int} : F25 n v a b = some (decide (a ≤ v ∧ v ≤ b), ()) := by
  unfold F25
  by_cases h : v ≥ a
  · rw [bp h, decide_eq_decide.2 (show v ≤ b ↔ (a ≤ v ∧ v ≤ b) by omega)]
  · rw [bn h, decide_eq_false (by omega)]
theorem lt_dg {x : Int} (h : isLt x) : ¬ isDg x := by unfold isLt at h; unfold isDg; omega
theorem nameS {n : Nat} {s : ByteArray} (hn : 3000000 ≤ n) (hs : s.size ≤ 1048576) : F47 n s = some (B (NM s), ()) := by
  unfold F47 F47_0
  have t := nameS_it (R := Bool × Unit) (n := n) (s := s) (k0 := fun z => some (z, ())) (k1 := fun z1487 => (andThen (F25 n ((z1487.size) : Int) (1 : Int) (12 : Int)) fun r1489 => (bif r1489.1 then (andThen (F64 n z1487) fun r1506 => some ((!r1506.1), ())) else some (false, ())))) hs n 0 (by omega) (by omega)
  rw [show ((0 : Nat) : Int) = 0 from rfl] at t
  rw [t]
  by_cases h5 : ∀ j, 0 ≤ j → j < s.size → (isLt (strOf s j) ∨ (j ≠ 0 ∧ isDg (strOf s j)))
  case neg =>
    rw [if_neg h5, B_f (fun h => h5 fun j _ hj => by
      rcases h.2.2.2.2 j hj with g | g
      · exact .inl g
      · by_cases e : j = 0
        · subst e; exact absurd g h.2.2.1
        · exact .inr ⟨e, g⟩)]
  rw [if_pos h5, rangeS]; simp only [ats]
  by_cases h1 : 1 ≤ s.size ∧ s.size ≤ 12
  case neg => rw [bn (by omega), B_f (fun h => h1 ⟨h.1, h.2.1⟩)]
  rw [bp (by omega)]
  unfold F64
  rw [kwS]; simp only [ats]
  rw [isOne hn (by have := kws_len; omega)]; simp only [ats]
  by_cases h4 : s ∈ kws
  · rw [B_t h4, B_f (p := NM s) (fun h => h.2.2.2.1 h4)]; rfl
  · rw [B_f h4, B_t (p := NM s) ⟨h1.1, h1.2, (h5 0 (by omega) (by omega)).elim lt_dg (fun h => absurd rfl h.1), h4, fun j hj => (h5 j (by omega) hj).imp id (fun h => h.2)⟩]; rfl
end Go.Proofs.Ytjfmfpnnjgfffaa.Am
