/- Finalizers, plainly: what is a graph, what are roots, what are finalizers; the two tests agree. -/
import Derived.Test.YtfelakjmajooaaaAmFinA
namespace Go.Proofs.Ytfelakjmajooaaa.Am
open Go
set_option autoImplicit false
set_option linter.unusedVariables false
set_option linter.unusedSimpArgs false
set_option maxRecDepth 10000

noncomputable def B (p : Prop) : Bool := @decide p (Classical.propDecidable p)
theorem B_t {p : Prop} (h : p) : B p = true := @decide_eq_true p (Classical.propDecidable p) h
theorem B_f {p : Prop} (h : ¬ p) : B p = false := @decide_eq_false p (Classical.propDecidable p) h
theorem B_d {p : Prop} [Decidable p] : decide p = B p := by
  by_cases h : p
  · rw [B_t h, decide_eq_true h]
  · rw [B_f h, decide_eq_false h]
def Rng (m : Nat) (x : Int) : Prop := 0 ≤ x ∧ x < m
def Vr (m : Nat) (r : List Int) : Prop := ∀ j, j < r.length → Rng m (r.getD j 0)
def Vw (m : Nat) (r : List Int) : Prop := r.length ≤ 5 ∧ Vr m r
def Vg (g : List (List Int)) : Prop := ∀ j, j < g.length → Vw g.length (g.getD j [])
def Vo (f : List Fnl) (m : Nat) (i : Nat) : Prop := Rng m (f.getD i f0).at_ ∧ (-1 ≤ (f.getD i f0).saves ∧ (f.getD i f0).saves < m) ∧ ∀ j, j < i → (f.getD j f0).at_ ≠ (f.getD i f0).at_
def Vf (m : Nat) (f : List Fnl) : Prop := ∀ i, i < f.length → Vo f m i

-- the program's tests ---------------------------------------------------------------------------------------------------------------------------
theorem inI_it {R : Type} {n : Nat} {m : Nat} {l : List Int} {k0 : Bool → Option R} {k1 : Option R} (hl : l.length ≤ 1048576) : ∀ (fuel i : Nat), i ≤ l.length → l.length + 1 ≤ fuel + i →
    (F54_0_it n k0 k1 fuel m l l.length i = k0 false ∧ ¬ ∀ j, i ≤ j → j < l.length → Rng m (l.getD j 0)) ∨ (F54_0_it n k0 k1 fuel m l l.length i = k1 ∧ ∀ j, i ≤ j → j < l.length → Rng m (l.getD j 0))
  | fuel, i, hi, hf => by
    obtain ⟨f, rfl⟩ : ∃ f, fuel = f + 1 := ⟨fuel - 1, by omega⟩
    simp only [F54_0_it, F54_0_step]
    by_cases g : i < l.length
    · rw [bp (by omega), bp (by omega), bp (by omega), e0]
      by_cases h1 : l.getD i 0 < 0
      · rw [bp h1]; exact .inl ⟨rfl, fun h => by have := (h i (Nat.le_refl _) g).1; omega⟩
      rw [bn h1]
      by_cases h2 : l.getD i 0 ≥ m
      · rw [bp h2]; exact .inl ⟨rfl, fun h => by have := (h i (Nat.le_refl _) g).2; omega⟩
      rw [bn h2, wp (by omega), e1]
      rcases inI_it (n := n) (m := m) (k0 := k0) (k1 := k1) hl f (i + 1) (by omega) (by omega) with ⟨a, b⟩ | ⟨a, b⟩
      · exact .inl ⟨a, fun h => b fun j j1 j2 => h j (by omega) j2⟩
      · refine .inr ⟨a, fun j j1 j2 => ?_⟩
        by_cases e : i = j
        · subst e; exact ⟨by omega, by omega⟩
        · exact b j (by omega) j2
    · rw [bn (by omega)]; exact .inr ⟨rfl, fun j j1 j2 => by omega⟩
theorem inI {n m : Nat} {l : List Int} (hn : 4000000 ≤ n) (hl : l.length ≤ 1048576) : F54 n l m = some (B (Vr m l), ()) := by
  unfold F54 F54_0
  rcases inI_it (R := Bool × Unit) (n := n) (m := m) (l := l) (k0 := fun z => some (z, ())) (k1 := some (true, ())) hl n 0 (by omega) (by omega) with ⟨a, b⟩ | ⟨a, b⟩
  · rw [show ((0 : Nat) : Int) = 0 from rfl] at a
    rw [a, B_f fun h => b fun j _ j2 => h j j2]
  · rw [show ((0 : Nat) : Int) = 0 from rfl] at a
    rw [a, show B (Vr m l) = true from B_t fun j hj => b j (Nat.zero_le _) hj]
theorem grI_it {R : Type} {n : Nat} {a g : List (List Int)} {k0 : Bool → Option R} {k1 : Option R} (hn : 4000000 ≤ n) (ha : g.length ≤ 1048576) (hr : ∀ j, j < g.length → (g.getD j []).length ≤ 1048576) : ∀ (fuel i : Nat), i ≤ g.length → g.length + 1 ≤ fuel + i →
    (F33_0_it n k0 k1 fuel a g g.length i = k0 false ∧ ¬ ∀ j, i ≤ j → j < g.length → Vw a.length (g.getD j [])) ∨ (F33_0_it n k0 k1 fuel a g g.length i = k1 ∧ ∀ j, i ≤ j → j < g.length → Vw a.length (g.getD j []))
  | fuel, i, hi, hf => by
    obtain ⟨f, rfl⟩ : ∃ f, fuel = f + 1 := ⟨fuel - 1, by omega⟩
    simp only [F33_0_it, F33_0_step]
    by_cases h : i < g.length
    · rw [bp (by omega), bp (by omega), bp (by omega), e0, inI hn (hr i h)]
      simp only [ats]
      by_cases h1 : (((g.getD i []).length : Nat) : Int) > 5
      · rw [bp h1]; exact .inl ⟨rfl, fun q => by have := (q i (Nat.le_refl _) h).1; omega⟩
      rw [bn h1]
      by_cases h2 : Vr a.length (g.getD i [])
      · rw [B_t h2, wp (by omega), e1]
        rcases grI_it (n := n) (a := a) (k0 := k0) (k1 := k1) hn ha hr f (i + 1) (by omega) (by omega) with ⟨a, b⟩ | ⟨a, b⟩
        · exact .inl ⟨a, fun h => b fun j j1 j2 => h j (by omega) j2⟩
        · refine .inr ⟨a, fun j j1 j2 => ?_⟩
          by_cases e : i = j
          · subst e; exact ⟨by omega, h2⟩
          · exact b j (by omega) j2
      · rw [B_f h2]; exact .inl ⟨rfl, fun q => h2 (q i (Nat.le_refl _) h).2⟩
    · rw [bn (by omega)]; exact .inr ⟨rfl, fun j j1 j2 => by omega⟩
theorem grI {n : Nat} {g : List (List Int)} {r : List Int} (hn : 4000000 ≤ n) (ha : g.length ≤ 1048576) (hr : ∀ j, j < g.length → (g.getD j []).length ≤ 1048576) (hl : r.length ≤ 1048576) :
    F33 n g r = some (B ((Vg g ∧ g.length ≤ 12) ∧ (Vr g.length r ∧ r.length ≤ 12)), ()) := by
  unfold F33 F33_0
  by_cases h1 : (g.length : Int) > 12
  · rw [bp h1, B_f fun h => by omega]
  rw [bn h1]
  by_cases h2 : (r.length : Int) > 12
  · rw [bp h2, B_f fun h => by omega]
  rw [bn h2, inI hn hl]
  simp only [ats]
  by_cases h3 : Vr g.length r
  · rw [B_t h3]
    rcases grI_it (R := Bool × Unit) (n := n) (a := g) (g := g) (k0 := fun z => some (z, ())) (k1 := some (true, ())) hn ha hr n 0 (by omega) (by omega) with ⟨a, b⟩ | ⟨a, b⟩
    · rw [show ((0 : Nat) : Int) = 0 from rfl] at a
      simp only [Bool.not_true, cf]
      rw [a, B_f fun h => b fun j _ j2 => h.1.1 j j2]
    · rw [show ((0 : Nat) : Int) = 0 from rfl] at a
      simp only [Bool.not_true, cf]
      rw [a, B_t ⟨⟨fun j hj => b j (Nat.zero_le _) hj, by omega⟩, h3, by omega⟩]
  · rw [B_f h3, B_f fun h => h3 h.2.1]; rfl
theorem fi_it {R : Type} {n : Nat} {a s : Int} {d : Bool} {l : List Fnl} {k0 : Int → Int → Int → Bool → Option R} {k1 : Int → Int → Bool → Option R} (hl : l.length ≤ 1048576) : ∀ (fuel i : Nat), i ≤ l.length → l.length + 1 ≤ fuel + i →
    (∃ j : Nat, F63_0_it n k0 k1 fuel l l.length i a s d = k0 j a s d ∧ j < l.length ∧ (l.getD j f0).at_ = a) ∨ (F63_0_it n k0 k1 fuel l l.length i a s d = k1 a s d ∧ ∀ j, i ≤ j → j < l.length → (l.getD j f0).at_ ≠ a)
  | fuel, i, hi, hf => by
    obtain ⟨f, rfl⟩ : ∃ f, fuel = f + 1 := ⟨fuel - 1, by omega⟩
    simp only [F63_0_it, F63_0_step]
    by_cases g : i < l.length
    · unfold F56
      rw [bp (by omega), bp (by omega), bp (by omega)]
      simp only [e0, ats]
      by_cases h1 : (l.getD i f0).at_ = a
      · rw [eqp h1]; exact .inl ⟨i, rfl, g, h1⟩
      · rw [eqn h1, wp (by omega), e1]
        rcases fi_it (n := n) (a := a) (s := s) (d := d) (k0 := k0) (k1 := k1) hl f (i + 1) (by omega) (by omega) with ⟨j, p, b⟩ | ⟨p, b⟩
        · exact .inl ⟨j, p, b⟩
        · refine .inr ⟨p, fun j j1 j2 => ?_⟩
          by_cases e : i = j
          · subst e; exact h1
          · exact b j (by omega) j2
    · rw [bn (by omega)]; exact .inr ⟨rfl, fun j j1 j2 => by omega⟩
theorem coF {n : Nat} {a s : Int} {d : Bool} {l : List Fnl} (hn : 4000000 ≤ n) (hl : l.length ≤ 1048576) : F55 n l a s d = some (B (∃ j, j < l.length ∧ (l.getD j f0).at_ = a), ((a, (s, (d, ()))), ())) := by
  unfold F55 F63 F63_0
  rcases fi_it (R := Int × ((Int × (Int × (Bool × Unit))) × Unit)) (n := n) (l := l) (a := a) (s := s) (d := d) (k0 := fun z575 z576 z577 z578 => some (z575, ((z576, (z577, (z578, ()))), ()))) (k1 := fun z579 z580 z581 => some ((-1 : Int), ((z579, (z580, (z581, ()))), ()))) hl n 0 (by omega) (by omega) with ⟨j, p, b⟩ | ⟨p, b⟩
  · rw [show ((0 : Nat) : Int) = 0 from rfl] at p
    rw [p, B_t ⟨j, b⟩]
    simp only [ats]
    rw [decide_eq_true (by omega)]
  · rw [show ((0 : Nat) : Int) = 0 from rfl] at p
    rw [p, B_f fun ⟨j, h1, h2⟩ => b j (Nat.zero_le _) h1 h2]
    rfl
theorem foI_it {R : Type} {n : Nat} {g : List (List Int)} {l : List Fnl} {k0 : Bool → Option R} {k1 : Option R} (hn : 4000000 ≤ n) (hl : l.length ≤ 1048576) : ∀ (fuel i : Nat), i ≤ l.length → l.length + 1 ≤ fuel + i →
    (F34_0_it n k0 k1 fuel g l l l.length i = k0 false ∧ ¬ ∀ j, i ≤ j → j < l.length → Vo l g.length j) ∨ (F34_0_it n k0 k1 fuel g l l l.length i = k1 ∧ ∀ j, i ≤ j → j < l.length → Vo l g.length j)
  | fuel, i, hi, hf => by
    obtain ⟨f, rfl⟩ : ∃ f, fuel = f + 1 := ⟨fuel - 1, by omega⟩
    simp only [F34_0_it, F34_0_step]
    by_cases h : i < l.length
    · simp only [e0]
      rw [bp (by omega), bp (by omega), bp (by omega)]
      by_cases h1 : (l.getD i f0).at_ < 0
      · rw [bp h1]; exact .inl ⟨rfl, fun q => by have := (q i (Nat.le_refl _) h).1.1; omega⟩
      rw [bn h1]
      by_cases h2 : (l.getD i f0).at_ ≥ (g.length : Int)
      · rw [bp h2]; exact .inl ⟨rfl, fun q => by have := (q i (Nat.le_refl _) h).1.2; omega⟩
      rw [bn h2]
      by_cases h3 : (l.getD i f0).saves < (-1)
      · rw [bp h3]; exact .inl ⟨rfl, fun q => by have := (q i (Nat.le_refl _) h).2.1.1; omega⟩
      rw [bn h3]
      by_cases h4 : (l.getD i f0).saves ≥ (g.length : Int)
      · rw [bp h4]; exact .inl ⟨rfl, fun q => by have := (q i (Nat.le_refl _) h).2.1.2; omega⟩
      rw [bn h4, bp (by omega), bp (by omega), List.drop_zero, coF hn (by simp; omega)]
      simp only [ats]
      have ht : ∀ j, j < i → (l.take i).getD j f0 = l.getD j f0 := fun j hj => by
        simp only [List.getD, List.getElem?_take_of_lt hj]
      by_cases h5 : ∃ j, j < (l.take i).length ∧ ((l.take i).getD j f0).at_ = (l.getD i f0).at_
      · obtain ⟨j, j1, j2⟩ := h5
        rw [B_t ⟨j, j1, j2⟩]
        have j3 : j < i := by simp at j1; omega
        exact .inl ⟨rfl, fun q => (q i (Nat.le_refl _) h).2.2 j j3 (by rw [← ht j j3]; exact j2)⟩
      · rw [B_f h5, wp (by omega), e1]
        rcases foI_it (n := n) (g := g) (k0 := k0) (k1 := k1) hn hl f (i + 1) (by omega) (by omega) with ⟨a, b⟩ | ⟨a, b⟩
        · exact .inl ⟨a, fun h => b fun j j1 j2 => h j (by omega) j2⟩
        · refine .inr ⟨a, fun j j1 j2 => ?_⟩
          by_cases e : i = j
          · subst e
            exact ⟨⟨by omega, by omega⟩, ⟨by omega, by omega⟩, fun k hk e => h5 ⟨k, by simp; omega, by rw [ht k hk]; exact e⟩⟩
          · exact b j (by omega) j2
    · rw [bn (by omega)]; exact .inr ⟨rfl, fun j j1 j2 => by omega⟩
theorem foI {n : Nat} {g : List (List Int)} {l : List Fnl} (hn : 4000000 ≤ n) (hl : l.length ≤ 1048576) : F34 n g l = some (B (Vf g.length l ∧ l.length ≤ 12), ()) := by
  unfold F34 F34_0
  by_cases h1 : (l.length : Int) > 12
  · rw [bp h1, B_f fun h => by omega]
  rw [bn h1]
  rcases foI_it (R := Bool × Unit) (n := n) (g := g) (l := l) (k0 := fun z => some (z, ())) (k1 := some (true, ())) hn hl n 0 (by omega) (by omega) with ⟨a, b⟩ | ⟨a, b⟩
  · rw [show ((0 : Nat) : Int) = 0 from rfl] at a
    rw [a, B_f fun h => b fun j _ j2 => h.1 j j2]
  · rw [show ((0 : Nat) : Int) = 0 from rfl] at a
    rw [a, B_t ⟨fun j hj => b j (Nat.zero_le _) hj, by omega⟩]

-- the book's tests --------------------------------------------------------------------------------------------------------------------------------
theorem rgS {n m : Nat} {a : Int} : F51 n a 0 ((m : Int) - 1) = some (B (Rng m a), ()) := by
  unfold F51
  by_cases h : a ≥ 0
  · rw [bp h]
    by_cases h2 : a ≤ (m : Int) - 1
    · rw [decide_eq_true h2, B_t ⟨h, by omega⟩]
    · rw [decide_eq_false h2, B_f fun q => by have := q.2; omega]
  · rw [bn h, B_f fun q => h q.1]
theorem rg1 {n m : Nat} {a : Int} : F51 n a (-1) ((m : Int) - 1) = some (B (-1 ≤ a ∧ a < m), ()) := by
  unfold F51
  by_cases h : a ≥ -1
  · rw [bp h]
    by_cases h2 : a ≤ (m : Int) - 1
    · rw [decide_eq_true h2, B_t ⟨h, by omega⟩]
    · rw [decide_eq_false h2, B_f fun q => by have := q.2; omega]
  · rw [bn h, B_f fun q => h q.1]
theorem rwS_it {R : Type} {n i : Nat} {g : List (List Int)} {k0 : Bool → Option R} {k1 : List (List Int) → Int → Option R} (hg : g.length ≤ 1048576) (hi : i < g.length) (hl : (g.getD i []).length ≤ 1048576) : ∀ (fuel j : Nat), j ≤ (g.getD i []).length → (g.getD i []).length + 1 ≤ fuel + j →
    (F28_0_it n k0 k1 fuel g i j = k0 false ∧ ¬ ∀ x, j ≤ x → x < (g.getD i []).length → Rng g.length ((g.getD i []).getD x 0)) ∨ (F28_0_it n k0 k1 fuel g i j = k1 g i ∧ ∀ x, j ≤ x → x < (g.getD i []).length → Rng g.length ((g.getD i []).getD x 0))
  | fuel, j, hj, hf => by
    obtain ⟨f, rfl⟩ : ∃ f, fuel = f + 1 := ⟨fuel - 1, by omega⟩
    simp only [F28_0_it, F28_0_step, e0]
    rw [bp (by omega), bp (by omega)]
    by_cases h : j < (g.getD i []).length
    · rw [bp (by omega), bp (by omega), bp (by omega), wp (x := (g.length : Int) - 1) (by omega), rgS]
      simp only [ats]
      by_cases h1 : Rng g.length ((g.getD i []).getD j 0)
      · rw [B_t h1, wp (by omega), e1]
        have key := rwS_it (n := n) (k0 := k0) (k1 := k1) hg hi hl f (j + 1) (by omega) (by omega)
        simp only [Bool.not_true, cf]
        first
        | rw [bp (by omega), bp (by omega)]
        | rw [bp (by omega)]
        | skip
        rcases key with ⟨a, b⟩ | ⟨a, b⟩
        · exact .inl ⟨a, fun h => b fun x j1 j2 => h x (by omega) j2⟩
        · refine .inr ⟨a, fun x j1 j2 => ?_⟩
          by_cases e : j = x
          · subst e; exact h1
          · exact b x (by omega) j2
      · rw [B_f h1]
        simp only [Bool.not_false, ct]
        first
        | rw [bp (by omega), bp (by omega)]
        | rw [bp (by omega)]
        | skip
        exact .inl ⟨rfl, fun q => h1 (q j (Nat.le_refl _) h)⟩
    · rw [bn (by omega)]; exact .inr ⟨rfl, fun x j1 j2 => by omega⟩
theorem grS_it {R : Type} {n : Nat} {g : List (List Int)} {k0 : Bool → Option R} {k1 : List (List Int) → Option R} (hn : 4000000 ≤ n) (hg : g.length ≤ 1048576) (hr : ∀ j, j < g.length → (g.getD j []).length ≤ 1048576) : ∀ (fuel i : Nat), i ≤ g.length → g.length + 1 ≤ fuel + i →
    (F28_1_it n k0 k1 fuel g i = k0 false ∧ ¬ ∀ j, i ≤ j → j < g.length → Vw g.length (g.getD j [])) ∨ (F28_1_it n k0 k1 fuel g i = k1 g ∧ ∀ j, i ≤ j → j < g.length → Vw g.length (g.getD j []))
  | fuel, i, hi, hf => by
    obtain ⟨f, rfl⟩ : ∃ f, fuel = f + 1 := ⟨fuel - 1, by omega⟩
    simp only [F28_1_it, F28_1_step, F28_0]
    by_cases h : i < g.length
    · rw [bp (by omega)]
      rcases rwS_it (R := R) (n := n) (k0 := fun z => k0 z) (k1 := fun z133 z134 => (bif (decide ((0 : Int) ≤ z134)) then
  (bif (decide (z134 < ((z133.length) : Int))) then
  (bif (decide ((((z133.getD (z134.toNat) []).length) : Int) > (5 : Int))) then
  (k0 false)
  else (F28_1_it n k0 k1 f z133 (IntKind.wrap .i64 (z134 + (1 : Int)))))
  else none)
  else none)) hg h (hr i h) n 0 (by omega) (by have := hr i h; omega) with ⟨a, b⟩ | ⟨a, b⟩
      · rw [show ((0 : Nat) : Int) = 0 from rfl] at a
        rw [a]; exact .inl ⟨rfl, fun q => b fun x _ x2 => (q i (Nat.le_refl _) h).2 x x2⟩
      · rw [show ((0 : Nat) : Int) = 0 from rfl] at a
        rw [a]
        simp only [e0]
        rw [bp (by omega), bp (by omega)]
        by_cases h2 : (((g.getD i []).length : Nat) : Int) > 5
        · rw [bp h2]; exact .inl ⟨rfl, fun q => by have := (q i (Nat.le_refl _) h).1; omega⟩
        rw [bn h2, wp (by omega), e1]
        rcases grS_it (n := n) (k0 := k0) (k1 := k1) hn hg hr f (i + 1) (by omega) (by omega) with ⟨p, q⟩ | ⟨p, q⟩
        · exact .inl ⟨p, fun h => q fun x j1 j2 => h x (by omega) j2⟩
        · refine .inr ⟨p, fun x j1 j2 => ?_⟩
          by_cases e : i = x
          · subst e; exact ⟨by omega, fun x hx => b x (Nat.zero_le _) hx⟩
          · exact q x (by omega) j2
    · rw [bn (by omega)]; exact .inr ⟨rfl, fun j j1 j2 => by omega⟩
theorem grS {n : Nat} {g : List (List Int)} (hn : 4000000 ≤ n) (hg : g.length ≤ 1048576) (hr : ∀ j, j < g.length → (g.getD j []).length ≤ 1048576) : F28 n g = some (B (Vg g ∧ g.length ≤ 12), ()) := by
  unfold F28 F28_1
  rcases grS_it (R := Bool × Unit) (n := n) (g := g) (k0 := fun z => some (z, ())) (k1 := fun z141 => some ((decide (((z141.length) : Int) ≤ (12 : Int))), ())) hn hg hr n 0 (by omega) (by omega) with ⟨a, b⟩ | ⟨a, b⟩
  · rw [show ((0 : Nat) : Int) = 0 from rfl] at a
    rw [a, B_f fun h => b fun j _ j2 => h.1 j j2]
  · rw [show ((0 : Nat) : Int) = 0 from rfl] at a
    rw [a]
    by_cases h : (g.length : Int) ≤ 12
    · rw [decide_eq_true h, B_t ⟨fun j hj => b j (Nat.zero_le _) hj, by omega⟩]
    · rw [decide_eq_false h, B_f fun q => by omega]
theorem roS_it {R : Type} {n m : Nat} {l : List Int} {k0 : Bool → Option R} {k1 : List Int → Option R} (hm : m ≤ 1048576) (hl : l.length ≤ 1048576) : ∀ (fuel i : Nat), i ≤ l.length → l.length + 1 ≤ fuel + i →
    (F29_0_it n k0 k1 fuel l m i = k0 false ∧ ¬ ∀ j, i ≤ j → j < l.length → Rng m (l.getD j 0)) ∨ (F29_0_it n k0 k1 fuel l m i = k1 l ∧ ∀ j, i ≤ j → j < l.length → Rng m (l.getD j 0))
  | fuel, i, hi, hf => by
    obtain ⟨f, rfl⟩ : ∃ f, fuel = f + 1 := ⟨fuel - 1, by omega⟩
    simp only [F29_0_it, F29_0_step]
    by_cases g : i < l.length
    · rw [bp (by omega), bp (by omega), bp (by omega), e0, wp (x := (m : Int) - 1) (by omega), rgS]
      simp only [ats]
      by_cases h1 : Rng m (l.getD i 0)
      · rw [B_t h1, wp (by omega), e1]
        rcases roS_it (n := n) (m := m) (k0 := k0) (k1 := k1) hm hl f (i + 1) (by omega) (by omega) with ⟨a, b⟩ | ⟨a, b⟩
        · exact .inl ⟨a, fun h => b fun j j1 j2 => h j (by omega) j2⟩
        · refine .inr ⟨a, fun j j1 j2 => ?_⟩
          by_cases e : i = j
          · subst e; exact h1
          · exact b j (by omega) j2
      · rw [B_f h1]; exact .inl ⟨rfl, fun q => h1 (q i (Nat.le_refl _) g)⟩
    · rw [bn (by omega)]; exact .inr ⟨rfl, fun j j1 j2 => by omega⟩
theorem roS {n m : Nat} {l : List Int} (hn : 4000000 ≤ n) (hm : m ≤ 1048576) (hl : l.length ≤ 1048576) : F29 n l m = some (B (Vr m l ∧ l.length ≤ 12), ()) := by
  unfold F29 F29_0
  rcases roS_it (R := Bool × Unit) (n := n) (m := m) (l := l) (k0 := fun z => some (z, ())) (k1 := fun z161 => some ((decide (((z161.length) : Int) ≤ (12 : Int))), ())) hm hl n 0 (by omega) (by omega) with ⟨a, b⟩ | ⟨a, b⟩
  · rw [show ((0 : Nat) : Int) = 0 from rfl] at a
    rw [a, B_f fun h => b fun j _ j2 => h.1 j j2]
  · rw [show ((0 : Nat) : Int) = 0 from rfl] at a
    rw [a]
    by_cases h : (l.length : Int) ≤ 12
    · rw [decide_eq_true h, B_t ⟨fun j hj => b j (Nat.zero_le _) hj, by omega⟩]
    · rw [decide_eq_false h, B_f fun q => by omega]
theorem fdS_it {R : Type} {n i : Nat} {m a s : Int} {d : Bool} {l : List Fnl} {k0 : Bool → Option R} {k1 : List Fnl → Int → Int → Option R} (hl : l.length ≤ 1048576) (hi : i < l.length) : ∀ (fuel j : Nat), j ≤ i → i + 1 ≤ fuel + j →
    (F30_0_it n k0 k1 fuel l m i j a s d = k0 false ∧ ¬ ∀ x, j ≤ x → x < i → (l.getD x f0).at_ ≠ a) ∨ (F30_0_it n k0 k1 fuel l m i j a s d = k1 l m i ∧ ∀ x, j ≤ x → x < i → (l.getD x f0).at_ ≠ a)
  | fuel, j, hj, hf => by
    obtain ⟨f, rfl⟩ : ∃ f, fuel = f + 1 := ⟨fuel - 1, by omega⟩
    simp only [F30_0_it, F30_0_step]
    by_cases g : j < i
    · rw [bp (by omega), bp (by omega), bp (by omega), e0]
      by_cases h1 : (l.getD j f0).at_ = a
      · rw [eqp h1]; exact .inl ⟨rfl, fun q => q j (Nat.le_refl _) g h1⟩
      · rw [eqn h1, wp (by omega), e1]
        rcases fdS_it (n := n) (m := m) (a := a) (s := s) (d := d) (k0 := k0) (k1 := k1) hl hi f (j + 1) (by omega) (by omega) with ⟨a, b⟩ | ⟨a, b⟩
        · exact .inl ⟨a, fun h => b fun j j1 j2 => h j (by omega) j2⟩
        · refine .inr ⟨a, fun x j1 j2 => ?_⟩
          by_cases e : j = x
          · subst e; exact h1
          · exact b x (by omega) j2
    · rw [bn (by omega)]; exact .inr ⟨rfl, fun x j1 j2 => by omega⟩
theorem foS_it {R : Type} {n m : Nat} {l : List Fnl} {k0 : Bool → Option R} {k1 : List Fnl → Option R} (hn : 4000000 ≤ n) (hm : m ≤ 1048576) (hl : l.length ≤ 1048576) : ∀ (fuel i : Nat), i ≤ l.length → l.length + 1 ≤ fuel + i →
    (F30_1_it n k0 k1 fuel l m i = k0 false ∧ ¬ ∀ j, i ≤ j → j < l.length → Vo l m j) ∨ (F30_1_it n k0 k1 fuel l m i = k1 l ∧ ∀ j, i ≤ j → j < l.length → Vo l m j)
  | fuel, i, hi, hf => by
    obtain ⟨f, rfl⟩ : ∃ f, fuel = f + 1 := ⟨fuel - 1, by omega⟩
    simp only [F30_1_it, F30_1_step, F30_0]
    by_cases h : i < l.length
    · simp only [e0]
      rw [bp (by omega), bp (by omega), bp (by omega), wp (x := (m : Int) - 1) (by omega), rgS, rg1]
      simp only [ats]
      by_cases h1 : Rng m (l.getD i f0).at_
      · rw [B_t h1]
        by_cases h2 : -1 ≤ (l.getD i f0).saves ∧ (l.getD i f0).saves < m
        · rw [B_t h2]
          simp only [Bool.not_true, cf]
          rcases fdS_it (R := R) (n := n) (m := m) (a := (l.getD i f0).at_) (s := (l.getD i f0).saves) (d := (l.getD i f0).done) (k0 := fun z => k0 z) (k1 := fun z197 z198 z199 => F30_1_it n k0 k1 f z197 z198 (IntKind.wrap .i64 (z199 + (1 : Int)))) hl h n 0 (Nat.zero_le _) (by omega) with ⟨a, b⟩ | ⟨a, b⟩
          · rw [show ((0 : Nat) : Int) = 0 from rfl] at a
            rw [a]; exact .inl ⟨rfl, fun q => b fun x _ x2 => (q i (Nat.le_refl _) h).2.2 x x2⟩
          · rw [show ((0 : Nat) : Int) = 0 from rfl] at a
            rw [a, wp (by omega), e1]
            rcases foS_it (n := n) (m := m) (k0 := k0) (k1 := k1) hn hm hl f (i + 1) (by omega) (by omega) with ⟨p, q⟩ | ⟨p, q⟩
            · exact .inl ⟨p, fun h => q fun j j1 j2 => h j (by omega) j2⟩
            · refine .inr ⟨p, fun j j1 j2 => ?_⟩
              by_cases e : i = j
              · subst e; exact ⟨h1, h2, fun k hk => b k (Nat.zero_le _) hk⟩
              · exact q j (by omega) j2
        · rw [B_f h2]; exact .inl ⟨rfl, fun q => h2 (q i (Nat.le_refl _) h).2.1⟩
      · rw [B_f h1]; exact .inl ⟨rfl, fun q => h1 (q i (Nat.le_refl _) h).1⟩
    · rw [bn (by omega)]; exact .inr ⟨rfl, fun j j1 j2 => by omega⟩
theorem foS {n m : Nat} {l : List Fnl} (hn : 4000000 ≤ n) (hm : m ≤ 1048576) (hl : l.length ≤ 1048576) : F30 n l m = some (B (Vf m l ∧ l.length ≤ 12), ()) := by
  unfold F30 F30_1
  rcases foS_it (R := Bool × Unit) (n := n) (m := m) (l := l) (k0 := fun z => some (z, ())) (k1 := fun z202 => some ((decide (((z202.length) : Int) ≤ (12 : Int))), ())) hn hm hl n 0 (by omega) (by omega) with ⟨a, b⟩ | ⟨a, b⟩
  · rw [show ((0 : Nat) : Int) = 0 from rfl] at a
    rw [a, B_f fun h => b fun j _ j2 => h.1 j j2]
  · rw [show ((0 : Nat) : Int) = 0 from rfl] at a
    rw [a]
    by_cases h : (l.length : Int) ≤ 12
    · rw [decide_eq_true h, B_t ⟨fun j hj => b j (Nat.zero_le _) hj, by omega⟩]
    · rw [decide_eq_false h, B_f fun q => by omega]
end Go.Proofs.Ytfelakjmajooaaa.Am
