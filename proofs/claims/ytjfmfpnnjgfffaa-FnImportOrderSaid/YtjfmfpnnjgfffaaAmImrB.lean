/- Imports, plainly: what is valid. -/
import Derived.Test.YtjfmfpnnjgfffaaAmImrA
namespace Go.Proofs.Ytjfmfpnnjgfffaa.Am
open Go
set_option autoImplicit false
set_option linter.unusedVariables false
set_option linter.unusedSimpArgs false
set_option maxRecDepth 10000

def hiS (m : Nat) (k : Int) : Int := if k = 3 ∨ k = 5 then 1000000 else (m : Int) - 1
def nmS (k : Int) (s : ByteArray) : Prop := if k = 3 ∨ k = 4 then NM s else s.size = 0
def VS (m : Nat) (s : Stp) : Prop := (1 ≤ s.kind ∧ s.kind ≤ 5) ∧ (0 ≤ s.num ∧ s.num ≤ hiS m s.kind) ∧ nmS s.kind s.name
def Vrow (m : Nat) (r : List Stp) : Prop := r.length ≤ 8 ∧ ∀ j, j < r.length → VS m (r.getD j t0)
def VM (a : List (List Stp)) : Prop := (∀ i, i < a.length → Vrow a.length (a.getD i [])) ∧ 1 ≤ a.length ∧ a.length ≤ 6

theorem emp {s : ByteArray} : (s.toList == (({ data := #[] } : ByteArray).toList)) = decide (s.size = 0) := by
  rw [keq]
  apply decide_eq_decide.2
  constructor
  · intro h; rw [h]; rfl
  · intro h
    apply ByteArray.ext
    apply Array.toList_inj.1
    have : s.data.size = 0 := h
    rw [Array.size_eq_zero_iff.1 this]
theorem NM.pos {s : ByteArray} (h : NM s) : ¬ s.size = 0 := by have := h.1; omega
theorem wiI {n : Nat} {v a b : Int} : F50 n v a b = some (decide (a ≤ v ∧ v ≤ b), ()) := by
  unfold F50
  by_cases h : a ≤ v
  · rw [bp (by omega)]; congr 2; apply decide_eq_decide.2; omega
  · rw [bn (by omega)]; congr 2; symm; exact decide_eq_false (by omega)

theorem VS3 {m : Nat} {s : Stp} (h : s.kind = 3) : VS m s ↔ (0 ≤ s.num ∧ s.num ≤ 1000000) ∧ NM s.name := by
  unfold VS hiS nmS; rw [if_pos (.inl h), if_pos (.inl h), h]; constructor
  · exact fun g => g.2
  · exact fun g => ⟨by omega, g⟩
theorem VS5 {m : Nat} {s : Stp} (h : s.kind = 5) : VS m s ↔ (0 ≤ s.num ∧ s.num ≤ 1000000) ∧ s.name.size = 0 := by
  unfold VS hiS nmS; rw [if_pos (.inr h), if_neg (by omega), h]; constructor
  · exact fun g => g.2
  · exact fun g => ⟨by omega, g⟩
theorem VS4 {m : Nat} {s : Stp} (h : s.kind = 4) : VS m s ↔ (0 ≤ s.num ∧ s.num ≤ (m : Int) - 1) ∧ NM s.name := by
  unfold VS hiS nmS; rw [if_neg (by omega), if_pos (.inr h), h]; constructor
  · exact fun g => g.2
  · exact fun g => ⟨by omega, g⟩
theorem VSo {m : Nat} {s : Stp} (h3 : ¬ s.kind = 3) (h4 : ¬ s.kind = 4) (h5 : ¬ s.kind = 5) : VS m s ↔ (1 ≤ s.kind ∧ s.kind ≤ 5) ∧ (0 ≤ s.num ∧ s.num ≤ (m : Int) - 1) ∧ s.name.size = 0 := by
  unfold VS hiS nmS; rw [if_neg (by omega), if_neg (by omega)]

-- the book's test ----------------------------------------------------------------------------------------------------------------------------
theorem stS {R : Type} {n : Nat} (hn : 4000000 ≤ n) {a : List (List Stp)} {i j : Nat} {k0 : Bool → Option R} {k1 : List (List Stp) → Int → Int → Option R} (ha : Sz a) (hi : i < a.length) (hj : j < (a.getD i []).length) :
    (F24_1 n a i j k0 k1 = k0 false ∧ ¬ VS a.length ((a.getD i []).getD j t0)) ∨ (F24_1 n a i j k0 k1 = k1 a i j ∧ VS a.length ((a.getD i []).getD j t0)) := by
  have hz := (ha.2 i hi).2 j hj
  have ha1 := ha.1
  unfold F24_1 F24_0
  rw [bp (by omega), bp (by omega)]
  simp only [e0]
  rw [bp (by omega), bp (by omega)]
  generalize (a.getD i []).getD j t0 = s at hz ⊢
  rw [wp (x := (a.length : Int) - 1) (by omega)]
  by_cases c3 : s.kind = 3
  · have b3 : (s.kind == (3 : Int)) = true := by simp [c3]
    rw [VS3 c3]
    simp only [b3, ct, rangeS, ats, emp, nameS (n := n) (by omega) hz]
    rw [decide_eq_true (show 1 ≤ s.kind ∧ s.kind ≤ 5 by omega)]
    simp only [Bool.not_true, cf]
    by_cases h1 : 0 ≤ s.num ∧ s.num ≤ 1000000
    case neg => rw [decide_eq_false h1]; exact .inl ⟨rfl, fun h => h1 h.1⟩
    rw [decide_eq_true h1]
    simp only [Bool.not_true, cf]
    by_cases h2 : NM s.name
    · rw [decide_eq_false h2.pos, B_t h2]; exact .inr ⟨rfl, h1, h2⟩
    · rw [B_f h2]; refine .inl ⟨?_, fun h => h2 h.2⟩
      cases (decide (s.name.size = 0)) <;> rfl
  have b3 : (s.kind == (3 : Int)) = false := by simp [c3]
  by_cases c5 : s.kind = 5
  · have b5 : (s.kind == (5 : Int)) = true := by simp [c5]
    have b4 : (s.kind == (4 : Int)) = false := by simp [c5]
    rw [VS5 c5]
    simp only [b3, b4, b5, ct, cf, rangeS, ats, emp, nameS (n := n) (by omega) hz]
    rw [decide_eq_true (show 1 ≤ s.kind ∧ s.kind ≤ 5 by omega)]
    simp only [Bool.not_true, cf]
    by_cases h1 : 0 ≤ s.num ∧ s.num ≤ 1000000
    case neg => rw [decide_eq_false h1]; exact .inl ⟨rfl, fun h => h1 h.1⟩
    rw [decide_eq_true h1]
    simp only [Bool.not_true, cf]
    by_cases h2 : s.name.size = 0
    · rw [decide_eq_true h2]; exact .inr ⟨rfl, h1, h2⟩
    · rw [decide_eq_false h2]; exact .inl ⟨rfl, fun h => h2 h.2⟩
  have b5 : (s.kind == (5 : Int)) = false := by simp [c5]
  by_cases c4 : s.kind = 4
  · have b4 : (s.kind == (4 : Int)) = true := by simp [c4]
    rw [VS4 c4]
    simp only [b3, b4, b5, ct, cf, rangeS, ats, emp, nameS (n := n) (by omega) hz]
    rw [decide_eq_true (show 1 ≤ s.kind ∧ s.kind ≤ 5 by omega)]
    simp only [Bool.not_true, cf]
    by_cases h1 : 0 ≤ s.num ∧ s.num ≤ (a.length : Int) - 1
    case neg => rw [decide_eq_false h1]; exact .inl ⟨rfl, fun h => h1 h.1⟩
    rw [decide_eq_true h1]
    simp only [Bool.not_true, cf]
    by_cases h2 : NM s.name
    · rw [decide_eq_false h2.pos, B_t h2]; exact .inr ⟨rfl, h1, h2⟩
    · rw [B_f h2]; refine .inl ⟨?_, fun h => h2 h.2⟩
      cases (decide (s.name.size = 0)) <;> rfl
  have b4 : (s.kind == (4 : Int)) = false := by simp [c4]
  rw [VSo c3 c4 c5]
  simp only [b3, b4, b5, ct, cf, rangeS, ats, emp]
  by_cases h0 : 1 ≤ s.kind ∧ s.kind ≤ 5
  case neg => rw [decide_eq_false h0]; exact .inl ⟨rfl, fun h => h0 h.1⟩
  rw [decide_eq_true h0]
  simp only [Bool.not_true, cf]
  by_cases h1 : 0 ≤ s.num ∧ s.num ≤ (a.length : Int) - 1
  case neg => rw [decide_eq_false h1]; exact .inl ⟨rfl, fun h => h1 h.2.1⟩
  rw [decide_eq_true h1]
  simp only [Bool.not_true, cf]
  by_cases h2 : s.name.size = 0
  · rw [decide_eq_true h2]; exact .inr ⟨rfl, h0, h1, h2⟩
  · rw [decide_eq_false h2]; exact .inl ⟨rfl, fun h => h2 h.2.2⟩
theorem roS_it {R : Type} {n i : Nat} (hn : 4000000 ≤ n) {a : List (List Stp)} {k0 : Bool → Option R} {k1 : List (List Stp) → Int → Option R} (ha : Sz a) (hi : i < a.length) : ∀ (fuel j : Nat), j ≤ (a.getD i []).length → (a.getD i []).length + 1 ≤ fuel + j →
    (F24_2_it n k0 k1 fuel a i j = k0 false ∧ ¬ ∀ x, j ≤ x → x < (a.getD i []).length → VS a.length ((a.getD i []).getD x t0)) ∨ (F24_2_it n k0 k1 fuel a i j = k1 a i ∧ ∀ x, j ≤ x → x < (a.getD i []).length → VS a.length ((a.getD i []).getD x t0))
  | fuel, j, hj, hf => by
    obtain ⟨f, rfl⟩ : ∃ f, fuel = f + 1 := ⟨fuel - 1, by omega⟩
    simp only [F24_2_it, F24_2_step]
    have hl := (ha.2 i hi).1
    rw [bp (by omega), bp (by omega)]
    simp only [e0]
    by_cases h : j < (a.getD i []).length
    · rw [bp (by omega)]
      rcases stS (R := R) hn (k0 := fun z => k0 z) (k1 := fun z330 z331 z332 => F24_2_it n k0 k1 f z330 z331 (IntKind.wrap .i64 (z332 + (1 : Int)))) ha hi h with ⟨q, h1⟩ | ⟨q, h1⟩
      · rw [q]; exact .inl ⟨rfl, fun q => h1 (q j (Nat.le_refl _) h)⟩
      · rw [q, wp (by omega), e1]
        rcases roS_it (k0 := k0) (k1 := k1) hn ha hi f (j + 1) (by omega) (by omega) with ⟨p, b⟩ | ⟨p, b⟩
        · exact .inl ⟨p, fun h => b fun x j1 j2 => h x (by omega) j2⟩
        · refine .inr ⟨p, fun x j1 j2 => ?_⟩
          by_cases e : j = x
          · subst e; exact h1
          · exact b x (by omega) j2
    · rw [bn (by omega)]; exact .inr ⟨rfl, fun x j1 j2 => by omega⟩
theorem vmS_it {R : Type} {n : Nat} (hn : 4000000 ≤ n) {a : List (List Stp)} {k0 : Bool → Option R} {k1 : List (List Stp) → Option R} (ha : Sz a) : ∀ (fuel i : Nat), i ≤ a.length → a.length + 1 ≤ fuel + i →
    (F24_3_it n k0 k1 fuel a i = k0 false ∧ ¬ ∀ j, i ≤ j → j < a.length → Vrow a.length (a.getD j [])) ∨ (F24_3_it n k0 k1 fuel a i = k1 a ∧ ∀ j, i ≤ j → j < a.length → Vrow a.length (a.getD j []))
  | fuel, i, hi, hf => by
    obtain ⟨f, rfl⟩ : ∃ f, fuel = f + 1 := ⟨fuel - 1, by omega⟩
    simp only [F24_3_it, F24_3_step]
    have ha1 := ha.1
    by_cases h : i < a.length
    · rw [bp (by omega)]
      have hl := (ha.2 i h).1
      rcases roS_it (R := R) hn (k0 := fun z => k0 z) (k1 := fun z335 z336 => (bif (decide ((0 : Int) ≤ z336)) then
  (bif (decide (z336 < ((z335.length) : Int))) then
  (bif (decide ((((z335.getD (z336.toNat) []).length) : Int) > (8 : Int))) then
  (k0 false)
  else (F24_3_it n k0 k1 f z335 (IntKind.wrap .i64 (z336 + (1 : Int)))))
  else none)
  else none)) ha h n 0 (by omega) (by omega) with ⟨q, b⟩ | ⟨q, b⟩
      · rw [show ((0 : Nat) : Int) = 0 from rfl] at q
        unfold F24_2
        rw [q]; exact .inl ⟨rfl, fun q => b fun x _ x2 => (q i (Nat.le_refl _) h).2 x x2⟩
      · rw [show ((0 : Nat) : Int) = 0 from rfl] at q
        unfold F24_2
        rw [q]
        simp only [e0]
        rw [bp (by omega), bp (by omega)]
        by_cases h2 : (((a.getD i []).length : Nat) : Int) > 8
        · rw [bp h2]; exact .inl ⟨rfl, fun q => by have := (q i (Nat.le_refl _) h).1; omega⟩
        rw [bn h2, wp (by omega), e1]
        rcases vmS_it (k0 := k0) (k1 := k1) hn ha f (i + 1) (by omega) (by omega) with ⟨p, q⟩ | ⟨p, q⟩
        · exact .inl ⟨p, fun h => q fun x j1 j2 => h x (by omega) j2⟩
        · refine .inr ⟨p, fun x j1 j2 => ?_⟩
          by_cases e : i = x
          · subst e; exact ⟨by omega, fun x hx => b x (Nat.zero_le _) hx⟩
          · exact q x (by omega) j2
    · rw [bn (by omega)]; exact .inr ⟨rfl, fun j j1 j2 => by omega⟩
theorem vmS {n : Nat} (hn : 4000000 ≤ n) {a : List (List Stp)} (ha : Sz a) : F24 n a = some (B (VM a), ()) := by
  unfold F24 F24_3
  have ha1 := ha.1
  rcases vmS_it (R := Bool × Unit) hn (a := a) (k0 := fun z => some (z, ())) (k1 := fun z343 => (andThen (F25 n ((z343.length) : Int) (1 : Int) (6 : Int)) fun r345 => some (r345.1, ()))) ha n 0 (by omega) (by omega) with ⟨q, b⟩ | ⟨q, b⟩
  · rw [show ((0 : Nat) : Int) = 0 from rfl] at q
    rw [q, B_f fun h => b fun j _ j2 => h.1 j j2]
  · rw [show ((0 : Nat) : Int) = 0 from rfl] at q
    rw [q, rangeS]
    simp only [ats]
    by_cases h : (1 : Int) ≤ a.length ∧ (a.length : Int) ≤ 6
    · rw [decide_eq_true h, B_t ⟨fun j hj => b j (Nat.zero_le _) hj, by omega, by omega⟩]
    · rw [decide_eq_false h, B_f fun q => h ⟨by have := q.2.1; omega, by have := q.2.2; omega⟩]

-- the program's test -------------------------------------------------------------------------------------------------------------------------
theorem kiI {R : Type} {n : Nat} {x : List (List Stp)} {w i l j : Int} {z : List (List Stp)} {r : List Stp} {k q : Int} {s : ByteArray} {k0 : List (List Stp) → Int → List (List Stp) → Int → Int → List Stp → Int → Int → Int → Int → ByteArray → Option R} (hx : x.length ≤ 1048576) :
    F30_2 n x (-1) z w i r l j k q s k0 = k0 x (if k = 1 ∨ k = 2 ∨ k = 4 then (x.length : Int) - 1 else if k = 3 ∨ k = 5 then 1000000 else -1) z w i r l j k q s := by
  unfold F30_2 F30_0 F30_1
  have hw : IntKind.wrap .i64 ((x.length : Int) - 1) = (x.length : Int) - 1 := wp (by omega)
  simp only [hw]
  by_cases c1 : k = 1
  · subst c1; rfl
  by_cases c2 : k = 2
  · subst c2; rfl
  by_cases c4 : k = 4
  · subst c4; rfl
  by_cases c3 : k = 3
  · subst c3; rfl
  by_cases c5 : k = 5
  · subst c5; rfl
  rw [eqn c1, eqn c2]
  have b4 : (k == (4 : Int)) = false := by simp [c4]
  have b5 : (k == (5 : Int)) = false := by simp [c5]
  simp only [b4, cf]
  rw [eqn c3]
  simp only [b5, cf]
  rw [if_neg (by omega), if_neg (by omega)]
theorem stI {R : Type} {n : Nat} (hn : 4000000 ≤ n) {a c : List (List Stp)} {r : List Stp} {j : Nat} {w i l : Int} {k0 : Bool → Option R} {k1 : List (List Stp) → List (List Stp) → Int → Int → List Stp → Int → Int → Option R} (ha : a.length ≤ 1048576) (hj : j < r.length) :
    (F30_3 n a c w i r l j k0 k1 = k0 false ∧ ¬ VS a.length (r.getD j t0)) ∨ (F30_3 n a c w i r l j k0 k1 = k1 a c w i r l j ∧ VS a.length (r.getD j t0)) := by
  unfold F30_3
  rw [bp (by omega), bp (by omega)]
  simp only [e0]
  generalize r.getD j t0 = s
  simp only [kiI ha, wiI, ats, nameI (n := n) (by omega), emp]
  by_cases c3 : s.kind = 3
  · have b3 : (s.kind == (3 : Int)) = true := by simp [c3]
    rw [VS3 c3]
    simp only [b3, ct]
    rw [if_neg (by omega), if_pos (.inl c3)]
    by_cases h2 : NM s.name
    case neg => rw [B_f h2]; exact .inl ⟨rfl, fun h => h2 h.2⟩
    rw [B_t h2]
    simp only [Bool.not_true, cf]
    by_cases h1 : 0 ≤ s.num ∧ s.num ≤ 1000000
    · rw [decide_eq_true h1]; exact .inr ⟨rfl, h1, h2⟩
    · rw [decide_eq_false h1]; exact .inl ⟨rfl, fun h => h1 h.1⟩
  have b3 : (s.kind == (3 : Int)) = false := by simp [c3]
  by_cases c4 : s.kind = 4
  · have b4 : (s.kind == (4 : Int)) = true := by simp [c4]
    rw [VS4 c4]
    simp only [b3, b4, ct, cf, Bool.not_true]
    rw [if_pos (.inr (.inr c4))]
    by_cases h2 : NM s.name
    case neg => rw [B_f h2]; exact .inl ⟨rfl, fun h => h2 h.2⟩
    rw [B_t h2]
    simp only [Bool.not_true, cf]
    by_cases h1 : 0 ≤ s.num ∧ s.num ≤ (a.length : Int) - 1
    · rw [decide_eq_true h1]; exact .inr ⟨rfl, h1, h2⟩
    · rw [decide_eq_false h1]; exact .inl ⟨rfl, fun h => h1 h.1⟩
  have b4 : (s.kind == (4 : Int)) = false := by simp [c4]
  simp only [b3, b4, ct, cf, Bool.not_false]
  by_cases c5 : s.kind = 5
  · rw [VS5 c5, if_neg (by omega), if_pos (.inr c5)]
    by_cases h2 : s.name.size = 0
    case neg => rw [decide_eq_false h2]; exact .inl ⟨rfl, fun h => h2 h.2⟩
    rw [decide_eq_true h2]
    simp only [Bool.not_true, cf]
    by_cases h1 : 0 ≤ s.num ∧ s.num ≤ 1000000
    · rw [decide_eq_true h1]; exact .inr ⟨rfl, h1, h2⟩
    · rw [decide_eq_false h1]; exact .inl ⟨rfl, fun h => h1 h.1⟩
  rw [VSo c3 c4 c5]
  by_cases h2 : s.name.size = 0
  case neg => rw [decide_eq_false h2]; exact .inl ⟨rfl, fun h => h2 h.2.2⟩
  rw [decide_eq_true h2]
  simp only [Bool.not_true, cf]
  by_cases h0 : 1 ≤ s.kind ∧ s.kind ≤ 5
  · rw [if_pos (by omega)]
    by_cases h1 : 0 ≤ s.num ∧ s.num ≤ (a.length : Int) - 1
    · rw [decide_eq_true h1]; exact .inr ⟨rfl, h0, h1, h2⟩
    · rw [decide_eq_false h1]; exact .inl ⟨rfl, fun h => h1 h.2.1⟩
  · rw [if_neg (by omega), if_neg (by omega), decide_eq_false (by omega)]; exact .inl ⟨rfl, fun h => h0 h.1⟩
theorem roI_it {R : Type} {n : Nat} (hn : 4000000 ≤ n) {a c : List (List Stp)} {r : List Stp} {w i : Int} {k0 : Bool → Option R} {k1 : List (List Stp) → List (List Stp) → Int → Int → Option R} (ha : a.length ≤ 1048576) (hl : r.length ≤ 1048576) : ∀ (fuel j : Nat), j ≤ r.length → r.length + 1 ≤ fuel + j →
    (F30_4_it n k0 k1 fuel a c w i r r.length j = k0 false ∧ ¬ ∀ x, j ≤ x → x < r.length → VS a.length (r.getD x t0)) ∨ (F30_4_it n k0 k1 fuel a c w i r r.length j = k1 a c w i ∧ ∀ x, j ≤ x → x < r.length → VS a.length (r.getD x t0))
  | fuel, j, hj, hf => by
    obtain ⟨f, rfl⟩ : ∃ f, fuel = f + 1 := ⟨fuel - 1, by omega⟩
    simp only [F30_4_it, F30_4_step]
    by_cases h : j < r.length
    · rw [bp (by omega)]
      rcases stI (R := R) (n := n) hn (a := a) (c := c) (r := r) (w := w) (i := i) (l := r.length) (k0 := fun z => k0 z) (k1 := fun z713 z714 z715 z716 z717 z718 z719 => (F30_4_it n k0 k1 f z713 z714 z715 z716 z717 z718 (IntKind.wrap .i64 (z719 + (1 : Int))))) ha h with ⟨q, h1⟩ | ⟨q, h1⟩
      · rw [q]; exact .inl ⟨rfl, fun q => h1 (q j (Nat.le_refl _) h)⟩
      · rw [q, wp (by omega), e1]
        rcases roI_it (k0 := k0) (k1 := k1) hn (c := c) (w := w) (i := i) ha hl f (j + 1) (by omega) (by omega) with ⟨p, b⟩ | ⟨p, b⟩
        · exact .inl ⟨p, fun h => b fun x j1 j2 => h x (by omega) j2⟩
        · refine .inr ⟨p, fun x j1 j2 => ?_⟩
          by_cases e : j = x
          · subst e; exact h1
          · exact b x (by omega) j2
    · rw [bn (by omega)]; exact .inr ⟨rfl, fun x j1 j2 => by omega⟩
theorem vmI_it {R : Type} {n : Nat} (hn : 4000000 ≤ n) {a : List (List Stp)} {k0 : Bool → Option R} {k1 : List (List Stp) → Option R} (ha : Sz a) : ∀ (fuel i : Nat), i ≤ a.length → a.length + 1 ≤ fuel + i →
    (F30_5_it n k0 k1 fuel a a a.length i = k0 false ∧ ¬ ∀ j, i ≤ j → j < a.length → Vrow a.length (a.getD j [])) ∨ (F30_5_it n k0 k1 fuel a a a.length i = k1 a ∧ ∀ j, i ≤ j → j < a.length → Vrow a.length (a.getD j []))
  | fuel, i, hi, hf => by
    obtain ⟨f, rfl⟩ : ∃ f, fuel = f + 1 := ⟨fuel - 1, by omega⟩
    simp only [F30_5_it, F30_5_step]
    have ha1 := ha.1
    by_cases h : i < a.length
    · have hl := (ha.2 i h).1
      rw [bp (by omega), bp (by omega), bp (by omega)]
      simp only [e0]
      by_cases h2 : (((a.getD i []).length : Nat) : Int) > 8
      · rw [bp h2]; exact .inl ⟨rfl, fun q => by have := (q i (Nat.le_refl _) h).1; omega⟩
      rw [bn h2]
      unfold F30_4
      rcases roI_it (R := R) hn (a := a) (c := a) (w := a.length) (i := i) (r := a.getD i []) (k0 := fun z => k0 z) (k1 := fun z722 z723 z724 z725 => (F30_5_it n k0 k1 f z722 z723 z724 (IntKind.wrap .i64 (z725 + (1 : Int))))) ha1 hl n 0 (by omega) (by omega) with ⟨q, b⟩ | ⟨q, b⟩
      · rw [show ((0 : Nat) : Int) = 0 from rfl] at q
        rw [q]; exact .inl ⟨rfl, fun q => b fun x _ x2 => (q i (Nat.le_refl _) h).2 x x2⟩
      · rw [show ((0 : Nat) : Int) = 0 from rfl] at q
        rw [q, wp (by omega), e1]
        rcases vmI_it (k0 := k0) (k1 := k1) hn ha f (i + 1) (by omega) (by omega) with ⟨p, q⟩ | ⟨p, q⟩
        · exact .inl ⟨p, fun h => q fun x j1 j2 => h x (by omega) j2⟩
        · refine .inr ⟨p, fun x j1 j2 => ?_⟩
          by_cases e : i = x
          · subst e; exact ⟨by omega, fun x hx => b x (Nat.zero_le _) hx⟩
          · exact q x (by omega) j2
    · rw [bn (by omega)]; exact .inr ⟨rfl, fun j j1 j2 => by omega⟩
theorem vmI {n : Nat} (hn : 4000000 ≤ n) {a : List (List Stp)} (ha : Sz a) : F30 n a = some (B (VM a), ()) := by
  unfold F30 F30_5
  have ha1 := ha.1
  rcases vmI_it (R := Bool × Unit) hn (a := a) (k0 := fun z => some (z, ())) (k1 := fun z728 => (andThen (F50 n ((z728.length) : Int) (1 : Int) (6 : Int)) fun r730 => some (r730.1, ()))) ha n 0 (by omega) (by omega) with ⟨q, b⟩ | ⟨q, b⟩
  · rw [show ((0 : Nat) : Int) = 0 from rfl] at q
    rw [q, B_f fun h => b fun j _ j2 => h.1 j j2]
  · rw [show ((0 : Nat) : Int) = 0 from rfl] at q
    rw [q, wiI]
    simp only [ats]
    by_cases h : (1 : Int) ≤ a.length ∧ (a.length : Int) ≤ 6
    · rw [decide_eq_true h, B_t ⟨fun j hj => b j (Nat.zero_le _) hj, by omega, by omega⟩]
    · rw [decide_eq_false h, B_f fun q => h ⟨by have := q.2.1; omega, by have := q.2.2; omega⟩]
end Go.Proofs.Ytjfmfpnnjgfffaa.Am
