/- Finalizers, plainly: sizes, copies, equalities, marks. -/
import Derived.Test.YtfelakjmajooaaaAmFinF
import Derived.Test.YtfelakjmajooaaaAmPl
namespace Go.Proofs.Ytfelakjmajooaaa.Am
open Go
set_option autoImplicit false
set_option linter.unusedVariables false
set_option linter.unusedSimpArgs false
set_option maxRecDepth 10000

abbrev f0 : Fnl := Fnl.mk (0 : Int) (0 : Int) false
theorem e0 {i : Nat} : ((i : Nat) : Int).toNat = i := by omega
theorem e1 {i : Nat} : ((i : Int) + 1) = ((i + 1 : Nat) : Int) := by omega
theorem bb (b : Bool) : (!(b == b)) = false := by cases b <;> rfl
theorem getD_set' {α : Type} {l : List α} {i j : Nat} {v d : α} (h : i < l.length) : (l.set i v).getD j d = if i = j then v else l.getD j d := by
  simp only [List.getD, List.getElem?_set]
  by_cases e : i = j
  · subst e; rw [if_pos rfl, if_pos rfl, if_pos h]; rfl
  · rw [if_neg e, if_neg e]
theorem list_ext {α : Type} {a b : List α} (d : α) (h : a.length = b.length) (g : ∀ j, j < a.length → a.getD j d = b.getD j d) : a = b := by
  apply List.ext_getElem h
  intro i h1 h2
  have := g i h1
  rwa [getD_lt h1, getD_lt h2] at this

-- sizes -------------------------------------------------------------------------------------------------------------------------------------
theorem szS {n : Nat} {a : List Int} {l : Int} (h0 : 0 ≤ l) (h1 : l ≤ 1048576) (ha : a.length ≤ 9223372036854775807) : ∃ r, F27 n a l = some (r, ()) ∧ r ≤ l ∧ (0 ≤ r → a.length ≤ 1048576) := by
  unfold F27
  rw [wp (by omega)]
  by_cases g : l - (a.length : Int) < 0
  · rw [bp g]; exact ⟨_, rfl, by omega, fun h => by omega⟩
  · rw [bn g]; exact ⟨_, rfl, by omega, fun h => by omega⟩
theorem szSS_it {R : Type} {n : Nat} {a : List (List Int)} {k0 k1 : Int → Option R} (ha : a.length ≤ 1048576) (hr : ∀ j, j < a.length → (a.getD j []).length ≤ 9223372036854775807) : ∀ (fuel i : Nat) (l : Int), 0 ≤ l → l ≤ 1048576 → i ≤ a.length → a.length + 1 ≤ fuel + i →
    F5_0_it n k0 k1 fuel a l i = k0 (-1) ∨ ∃ r, 0 ≤ r ∧ r ≤ l ∧ F5_0_it n k0 k1 fuel a l i = k1 r ∧ ∀ j, i ≤ j → j < a.length → (a.getD j []).length ≤ 1048576
  | fuel, i, l, h0, h1, hi, hf => by
    obtain ⟨f, rfl⟩ : ∃ f, fuel = f + 1 := ⟨fuel - 1, by omega⟩
    simp only [F5_0_it, F5_0_step]
    by_cases g : i < a.length
    · obtain ⟨r, r1, r2, r3⟩ := szS (n := n) h0 h1 (hr i g)
      rw [bp (by omega), bp (by omega), bp (by omega), e0, r1]
      simp only [ats]
      by_cases h : r < 0
      · rw [bp h]; exact .inl rfl
      · rw [bn h, wp (by omega), e1]
        rcases szSS_it (n := n) (k0 := k0) (k1 := k1) ha hr f (i + 1) r (by omega) (by omega) (by omega) (by omega) with q | ⟨q, q1, q2, q3, q4⟩
        · exact .inl q
        · refine .inr ⟨q, q1, by omega, q3, fun j j1 j2 => ?_⟩
          by_cases e : i = j
          · subst e; exact r3 (by omega)
          · exact q4 j (by omega) j2
    · rw [bn (by omega)]
      exact .inr ⟨l, h0, Int.le_refl _, rfl, fun j j1 j2 => by omega⟩
theorem szSS {n : Nat} {a : List (List Int)} (hn : 4000000 ≤ n) (ha : a.length ≤ 9223372036854775807) (hr : ∀ j, j < a.length → (a.getD j []).length ≤ 9223372036854775807) :
    ∃ r, F5 n a 1048576 = some (r, ()) ∧ r ≤ 1048576 ∧ (0 ≤ r → a.length ≤ 1048576 ∧ ∀ j, j < a.length → (a.getD j []).length ≤ 1048576) := by
  unfold F5 F5_0
  rw [wp (by omega)]
  by_cases g : (1048576 : Int) - (a.length : Int) < 0
  · rw [bp g]; exact ⟨_, rfl, by omega, fun h => by omega⟩
  · rw [bn g]
    rcases szSS_it (R := Int × Unit) (n := n) (a := a) (k0 := fun z => some (z, ())) (k1 := fun z => some (z, ())) (by omega) hr n 0 (1048576 - (a.length : Int)) (by omega) (by omega) (by omega) (by omega) with q | ⟨q, q1, q2, q3, q4⟩
    · exact ⟨-1, q, by omega, fun h => by omega⟩
    · exact ⟨q, q3, by omega, fun _ => ⟨by omega, fun j hj => q4 j (Nat.zero_le _) hj⟩⟩
theorem szF {n : Nat} {a : List Fnl} {l : Int} (h0 : 0 ≤ l) (h1 : l ≤ 1048576) (ha : a.length ≤ 9223372036854775807) : ∃ r, F6 n a l = some (r, ()) ∧ (0 ≤ r → a.length ≤ 1048576) := by
  unfold F6
  rw [wp (by omega)]
  by_cases g : l - (a.length : Int) < 0
  · rw [bp g]; exact ⟨_, rfl, fun h => by omega⟩
  · rw [bn g]; exact ⟨_, rfl, fun h => by omega⟩

-- copies ------------------------------------------------------------------------------------------------------------------------------------
theorem toS_it {R : Type} {n : Nat} {a : List Int} {k0 : List Int → Option R} (ha : a.length ≤ 1048576) : ∀ (fuel i : Nat) (b : List Int), b.length = a.length → i ≤ a.length → (∀ j, j < i → b.getD j 0 = a.getD j 0) → a.length + 1 ≤ fuel + i → F9_0_it n k0 fuel a i b = k0 a
  | fuel, i, b, hb, hi, hp, hf => by
    obtain ⟨f, rfl⟩ : ∃ f, fuel = f + 1 := ⟨fuel - 1, by omega⟩
    simp only [F9_0_it, F9_0_step]
    by_cases g : i < a.length
    · rw [bp (by omega), bp (by omega), bp (by omega), bp (by omega), bp (by omega), wp (by omega), e0, e1]
      exact toS_it ha f (i + 1) _ (by rw [List.length_set]; exact hb) (by omega) (fun j hj => by
        rw [getD_set' (by omega)]
        by_cases e : i = j
        · subst e; rw [if_pos rfl]
        · rw [if_neg e]; exact hp j (by omega)) (by omega)
    · rw [bn (by omega)]
      rw [list_ext 0 hb fun j hj => hp j (by omega)]
theorem toS {n : Nat} {a : List Int} (hn : 4000000 ≤ n) (ha : a.length ≤ 1048576) : F9 n a = some ((), (a, ())) := by
  unfold F9 F9_0
  rw [bp (by omega), bp (by omega), bp (by omega)]
  exact toS_it (R := Unit × (List Int × Unit)) (n := n) (k0 := fun z => some ((), (z, ()))) ha n 0 _ (by simp) (by omega) (fun j hj => by omega) (by omega)
theorem toV_it {R : Type} {n : Nat} {a : List Int} {k0 : List Int → Option R} (ha : a.length ≤ 1048576) : ∀ (fuel i : Nat) (b : List Int), b.length = a.length → i ≤ a.length → (∀ j, j < i → b.getD j 0 = a.getD j 0) → a.length + 1 ≤ fuel + i → F9v1_0_it n k0 fuel a i b = k0 a
  | fuel, i, b, hb, hi, hp, hf => by
    obtain ⟨f, rfl⟩ : ∃ f, fuel = f + 1 := ⟨fuel - 1, by omega⟩
    simp only [F9v1_0_it, F9v1_0_step]
    by_cases g : i < a.length
    · rw [bp (by omega), bp (by omega), bp (by omega), bp (by omega), bp (by omega), wp (by omega), e0, e1]
      exact toV_it ha f (i + 1) _ (by rw [List.length_set]; exact hb) (by omega) (fun j hj => by
        rw [getD_set' (by omega)]
        by_cases e : i = j
        · subst e; rw [if_pos rfl]
        · rw [if_neg e]; exact hp j (by omega)) (by omega)
    · rw [bn (by omega)]
      rw [list_ext 0 hb fun j hj => hp j (by omega)]
theorem toV {n : Nat} {a : List Int} (hn : 4000000 ≤ n) (ha : a.length ≤ 1048576) : F9v1 n a = some ((), (a, ())) := by
  unfold F9v1 F9v1_0
  rw [bp (by omega), bp (by omega), bp (by omega)]
  exact toV_it (R := Unit × (List Int × Unit)) (n := n) (k0 := fun z => some ((), (z, ()))) ha n 0 _ (by simp) (by omega) (fun j hj => by omega) (by omega)
theorem toSS_it {R : Type} {n : Nat} {a : List (List Int)} {k0 : List (List Int) → Option R} (hn : 4000000 ≤ n) (ha : a.length ≤ 1048576) (hr : ∀ j, j < a.length → (a.getD j []).length ≤ 1048576) : ∀ (fuel i : Nat) (b : List (List Int)), b.length = a.length → i ≤ a.length → (∀ j, j < i → b.getD j [] = a.getD j []) → a.length + 1 ≤ fuel + i → F8_0_it n k0 fuel a i b = k0 a
  | fuel, i, b, hb, hi, hp, hf => by
    obtain ⟨f, rfl⟩ : ∃ f, fuel = f + 1 := ⟨fuel - 1, by omega⟩
    simp only [F8_0_it, F8_0_step]
    by_cases g : i < a.length
    · rw [bp (by omega), bp (by omega), bp (by omega), e0, toS hn (hr i g)]
      simp only [ats]
      rw [bp (by omega), bp (by omega), wp (by omega), e1]
      exact toSS_it hn ha hr f (i + 1) _ (by rw [List.length_set]; exact hb) (by omega) (fun j hj => by
        rw [getD_set' (by omega)]
        by_cases e : i = j
        · subst e; rw [if_pos rfl]
        · rw [if_neg e]; exact hp j (by omega)) (by omega)
    · rw [bn (by omega)]
      rw [list_ext [] hb fun j hj => hp j (by omega)]
theorem toSS {n : Nat} {a : List (List Int)} (hn : 4000000 ≤ n) (ha : a.length ≤ 1048576) (hr : ∀ j, j < a.length → (a.getD j []).length ≤ 1048576) : F8 n a = some (a, ()) := by
  unfold F8 F8_0
  rw [bp (by omega), bp (by omega), bp (by omega)]
  exact toSS_it (R := List (List Int) × Unit) (n := n) (k0 := fun z => some (z, ())) hn ha hr n 0 _ (by simp) (by omega) (fun j hj => by omega) (by omega)
theorem toF_it {R : Type} {n : Nat} {a : List Fnl} {k0 : List Fnl → Option R} (ha : a.length ≤ 1048576) : ∀ (fuel i : Nat) (b : List Fnl), b.length = a.length → i ≤ a.length → (∀ j, j < i → b.getD j f0 = a.getD j f0) → a.length + 1 ≤ fuel + i → F10_0_it n k0 fuel a i b = k0 a
  | fuel, i, b, hb, hi, hp, hf => by
    obtain ⟨f, rfl⟩ : ∃ f, fuel = f + 1 := ⟨fuel - 1, by omega⟩
    simp only [F10_0_it, F10_0_step]
    by_cases g : i < a.length
    · unfold F32
      rw [bp (by omega), bp (by omega), bp (by omega)]
      simp only [ats]
      rw [bp (by omega), bp (by omega), wp (by omega), e1]
      simp only [e0]
      exact toF_it ha f (i + 1) _ (by rw [List.length_set]; exact hb) (by omega) (fun j hj => by
        rw [getD_set' (by omega)]
        by_cases e : i = j
        · subst e; rw [if_pos rfl]
        · rw [if_neg e]; exact hp j (by omega)) (by omega)
    · rw [bn (by omega)]
      rw [list_ext f0 hb fun j hj => hp j (by omega)]
theorem toF {n : Nat} {a : List Fnl} (hn : 4000000 ≤ n) (ha : a.length ≤ 1048576) : F10 n a = some ((), (a, ())) := by
  unfold F10 F10_0
  rw [bp (by omega), bp (by omega), bp (by omega)]
  exact toF_it (R := Unit × (List Fnl × Unit)) (n := n) (k0 := fun z => some ((), (z, ()))) ha n 0 _ (by simp) (by omega) (fun j hj => by omega) (by omega)
theorem clS {n : Nat} {a : List Int} (ha : a.length ≤ 1048576) : F35 n a = some ((), (a, ())) := by
  unfold F35
  by_cases g : a.length ≤ 0
  · have e : a = [] := List.eq_nil_of_length_eq_zero (by omega)
    subst e; rw [bp (by simp), bp (by simp)]; exact both_self _
  · rw [bn g, bp (by simp; omega)]; rfl
theorem clF {n : Nat} {a : List Fnl} (ha : a.length ≤ 1048576) : F36 n a = some ((), (a, ())) := by
  unfold F36
  by_cases g : a.length ≤ 0
  · have e : a = [] := List.eq_nil_of_length_eq_zero (by omega)
    subst e; rw [bp (by simp), bp (by simp)]; exact both_self _
  · rw [bn g, bp (by simp; omega)]; rfl

-- equalities ----------------------------------------------------------------------------------------------------------------------------------
theorem eqS_it {R : Type} {n : Nat} {a : List Int} {k0 : Bool → Option R} {k1 : Option R} (ha : a.length ≤ 1048576) : ∀ (fuel i : Nat), i ≤ a.length → a.length + 1 ≤ fuel + i → F14_0_it n k0 k1 fuel a a i = k1
  | fuel, i, hi, hf => by
    obtain ⟨f, rfl⟩ : ∃ f, fuel = f + 1 := ⟨fuel - 1, by omega⟩
    simp only [F14_0_it, F14_0_step]
    by_cases g : i < a.length
    · rw [bp (by omega), bp (by omega), bp (by omega), bp (by omega), bp (by omega), nen rfl, wp (by omega), e1]
      exact eqS_it ha f (i + 1) (by omega) (by omega)
    · rw [bn (by omega)]
theorem eqS {n : Nat} {a : List Int} (hn : 4000000 ≤ n) (ha : a.length ≤ 1048576) : F14 n a a = some (true, ()) := by
  unfold F14 F14_0
  rw [nen rfl]
  exact eqS_it (R := Bool × Unit) ha n 0 (by omega) (by omega)
theorem eqF_it {R : Type} {n : Nat} {a : List Fnl} {k0 : Bool → Option R} {k1 : Option R} (ha : a.length ≤ 1048576) : ∀ (fuel i : Nat), i ≤ a.length → a.length + 1 ≤ fuel + i → F15_0_it n k0 k1 fuel a a i = k1
  | fuel, i, hi, hf => by
    obtain ⟨f, rfl⟩ : ∃ f, fuel = f + 1 := ⟨fuel - 1, by omega⟩
    simp only [F15_0_it, F15_0_step]
    by_cases g : i < a.length
    · unfold F39
      rw [bp (by omega), bp (by omega), bp (by omega), bp (by omega), bp (by omega), nen rfl, nen rfl, bb, wp (by omega), e1]
      simp only [ats, cf, Bool.not_true]
      exact eqF_it ha f (i + 1) (by omega) (by omega)
    · rw [bn (by omega)]
theorem eqF {n : Nat} {a : List Fnl} (hn : 4000000 ≤ n) (ha : a.length ≤ 1048576) : F15 n a a = some (true, ()) := by
  unfold F15 F15_0
  rw [nen rfl]
  exact eqF_it (R := Bool × Unit) ha n 0 (by omega) (by omega)
theorem eqSS_it {R : Type} {n : Nat} {a : List (List Int)} {k0 : Bool → Option R} {k1 : Option R} (hn : 4000000 ≤ n) (ha : a.length ≤ 1048576) (hr : ∀ j, j < a.length → (a.getD j []).length ≤ 1048576) : ∀ (fuel i : Nat), i ≤ a.length → a.length + 1 ≤ fuel + i → F13_0_it n k0 k1 fuel a a i = k1
  | fuel, i, hi, hf => by
    obtain ⟨f, rfl⟩ : ∃ f, fuel = f + 1 := ⟨fuel - 1, by omega⟩
    simp only [F13_0_it, F13_0_step]
    by_cases g : i < a.length
    · rw [bp (by omega), bp (by omega), bp (by omega), bp (by omega), bp (by omega), e0, eqS hn (hr i g)]
      simp only [ats, cf, Bool.not_true]
      rw [wp (by omega), e1]
      exact eqSS_it hn ha hr f (i + 1) (by omega) (by omega)
    · rw [bn (by omega)]
theorem eqSS {n : Nat} {a : List (List Int)} (hn : 4000000 ≤ n) (ha : a.length ≤ 1048576) (hr : ∀ j, j < a.length → (a.getD j []).length ≤ 1048576) : F13 n a a = some (true, ()) := by
  unfold F13 F13_0
  rw [nen rfl]
  exact eqSS_it (R := Bool × Unit) hn ha hr n 0 (by omega) (by omega)
theorem eqW {n : Nat} {a b c : List Int} {d : List Fnl} (hn : 4000000 ≤ n) (ha : a.length ≤ 1048576) (hb : b.length ≤ 1048576) (hc : c.length ≤ 1048576) (hd : d.length ≤ 1048576) : F12 n a b c d a b c d = some (true, ()) := by
  unfold F12
  simp only [eqS hn ha, eqS hn hb, eqS hn hc, eqF hn hd, ats, cf, Bool.not_true]

-- marks -----------------------------------------------------------------------------------------------------------------------------------------
theorem mkJ_it {R : Type} {n : Nat} {a : List Int} {k0 : Int → Unit → Option R} (ha : a.length ≤ 1048576) : ∀ (fuel i : Nat) (x : Int), 0 ≤ x → x + a.length ≤ 4398046511104 + i → i ≤ a.length → a.length + 1 ≤ fuel + i → F17_0_it n k0 fuel a x i () = k0 (x + (a.length - i : Nat)) ()
  | fuel, i, x, h0, h1, hi, hf => by
    obtain ⟨f, rfl⟩ : ∃ f, fuel = f + 1 := ⟨fuel - 1, by omega⟩
    simp only [F17_0_it, F17_0_step]
    by_cases g : i < a.length
    · rw [bp (by omega), bp (by omega), bp (by omega), wp (by omega), wp (by omega), e1, mkJ_it ha f (i + 1) (x + 1) (by omega) (by omega) (by omega) (by omega)]
      congr 1; omega
    · rw [bn (by omega)]; congr 1; omega
theorem mkJ {n : Nat} {a : List Int} {x : Int} (hn : 4000000 ≤ n) (ha : a.length ≤ 1048576) (h0 : 0 ≤ x) (h1 : x ≤ 2199023255552) : F17 n a x () = some (x + a.length, ((), ())) := by
  unfold F17 F17_0
  exact mkJ_it (R := Int × (Unit × Unit)) (n := n) (k0 := fun z w => some (z, (w, ()))) ha n 0 x h0 (by omega) (by omega) (by omega)
theorem mkJJ_it {R : Type} {n : Nat} {a : List (List Int)} {k0 : Int → Unit → Option R} (hn : 4000000 ≤ n) (ha : a.length ≤ 1048576) (hr : ∀ j, j < a.length → (a.getD j []).length ≤ 1048576) : ∀ (fuel i : Nat) (x : Int), 0 ≤ x → x ≤ 1048576 * i + 1 → i ≤ a.length → a.length + 1 ≤ fuel + i → ∃ y : Int, 0 ≤ y ∧ y ≤ 1048576 * a.length + 1 ∧ F16_0_it n k0 fuel a x i () = k0 y ()
  | fuel, i, x, h0, h1, hi, hf => by
    obtain ⟨f, rfl⟩ : ∃ f, fuel = f + 1 := ⟨fuel - 1, by omega⟩
    simp only [F16_0_it, F16_0_step]
    by_cases g : i < a.length
    · have h2 := hr i g
      rw [bp (by omega), bp (by omega), bp (by omega), e0, mkJ hn (hr i g) h0 (by omega)]
      simp only [ats]
      rw [wp (by omega), e1]
      exact mkJJ_it hn ha hr f (i + 1) _ (by omega) (by omega) (by omega) (by omega)
    · rw [bn (by omega)]; exact ⟨x, h0, by omega, rfl⟩
theorem mkJJ {n : Nat} {a : List (List Int)} (hn : 4000000 ≤ n) (ha : a.length ≤ 1048576) (hr : ∀ j, j < a.length → (a.getD j []).length ≤ 1048576) : ∃ y : Int, 0 ≤ y ∧ y ≤ 1099511627777 ∧ F16 n a 1 () = some (y, ((), ())) := by
  unfold F16 F16_0
  obtain ⟨y, y1, y2, y3⟩ := mkJJ_it (R := Int × (Unit × Unit)) (n := n) (k0 := fun z w => some (z, (w, ()))) hn ha hr n 0 1 (by omega) (by omega) (by omega) (by omega)
  exact ⟨y, y1, by omega, y3⟩
theorem mkS_it {R : Type} {n : Nat} {k0 : Int → List Int → Option R} : ∀ (fuel i : Nat) (x x0 : Int) (l : List Int), 0 ≤ x0 → x0 ≤ 2199023255552 → x = x0 + i → l.length ≤ 1048576 → i ≤ l.length → l.length + 1 ≤ fuel + i → (∀ j, j < i → l.getD j 0 = x0 + j) →
    ∃ l' : List Int, l'.length = l.length ∧ (∀ j, j < l.length → l'.getD j 0 = x0 + j) ∧ F17v1_0_it n k0 fuel x i l = k0 (x0 + l.length) l'
  | fuel, i, x, x0, l, h0, h1, hx, hl, hi, hf, hp => by
    obtain ⟨f, rfl⟩ : ∃ f, fuel = f + 1 := ⟨fuel - 1, by omega⟩
    simp only [F17v1_0_it, F17v1_0_step]
    by_cases g : i < l.length
    · rw [bp (by omega), bp (by omega), bp (by omega), wp (by omega), wp (by omega), e0, e1]
      obtain ⟨l', l1, l2, l3⟩ := mkS_it (n := n) (k0 := k0) f (i + 1) (x + 1) x0 (l.set i x) h0 h1 (by omega) (by simpa using hl) (by simp; omega) (by simp; omega) (fun j hj => by
        rw [getD_set' g]
        by_cases e : i = j
        · subst e; rw [if_pos rfl]; exact hx
        · rw [if_neg e]; exact hp j (by omega))
      rw [List.length_set] at l1 l2 l3
      exact ⟨l', l1, l2, l3⟩
    · rw [bn (by omega)]
      have : i = l.length := by omega
      exact ⟨l, rfl, fun j hj => hp j (by omega), by rw [hx, this]⟩
theorem mkS {n : Nat} {x : Int} {l : List Int} (hn : 4000000 ≤ n) (h0 : 0 ≤ x) (h1 : x ≤ 2199023255552) (hl : l.length ≤ 1048576) :
    ∃ l' : List Int, l'.length = l.length ∧ (∀ j, j < l.length → l'.getD j 0 = x + j) ∧ F17v1 n x l = some (x + l.length, (l', ())) := by
  unfold F17v1 F17v1_0
  exact mkS_it (R := Int × (List Int × Unit)) (n := n) (k0 := fun z w => some (z, (w, ()))) n 0 x x l h0 h1 (by omega) hl (by omega) (by omega) (fun j hj => by omega)
def mf (x : Int) : Fnl := Fnl.mk x (x + 1) ((x + 2).tmod 3 == 0)
theorem mkF_it {R : Type} {n : Nat} {k0 : Int → List Fnl → Option R} : ∀ (fuel i : Nat) (x x0 : Int) (l : List Fnl), 0 ≤ x0 → x0 ≤ 2199023255552 → x = x0 + 3 * i → l.length ≤ 1048576 → i ≤ l.length → l.length + 1 ≤ fuel + i → (∀ j, j < i → l.getD j f0 = mf (x0 + 3 * j)) →
    ∃ l' : List Fnl, l'.length = l.length ∧ (∀ j, j < l.length → l'.getD j f0 = mf (x0 + 3 * j)) ∧ F18_0_it n k0 fuel x i l = k0 (x0 + 3 * l.length) l'
  | fuel, i, x, x0, l, h0, h1, hx, hl, hi, hf, hp => by
    obtain ⟨f, rfl⟩ : ∃ f, fuel = f + 1 := ⟨fuel - 1, by omega⟩
    simp only [F18_0_it, F18_0_step]
    by_cases g : i < l.length
    · have g1 : ∀ v, i < (l.set i v).length := fun v => by simpa using g
      have g2 : ∀ v w, i < ((l.set i v).set i w).length := fun v w => by simpa using g
      simp only [e0, List.set_set, List.length_set, getD_set' g, if_true]
      rw [bp (by omega), bp (by omega), bp (by omega), bp (by omega), bp (by omega), bp (by omega), wp (x := x + 1) (by omega), wp (x := x + 1 + 1) (by omega), wp (x := x + 1 + 1 + 1) (by omega), wp (x := (i : Int) + 1) (by omega), e1]
      obtain ⟨l', l1, l2, l3⟩ := mkF_it (n := n) (k0 := k0) f (i + 1) (x + 1 + 1 + 1) x0 (l.set i (Fnl.mk x (x + 1) ((x + 1 + 1).tmod 3 == 0))) h0 h1 (by omega) (by simpa using hl) (by simp; omega) (by simp; omega) (fun j hj => by
        rw [getD_set' g]
        by_cases e : i = j
        · subst e; rw [if_pos rfl, ← hx]; unfold mf; rw [show x + 1 + 1 = x + 2 by omega]
        · rw [if_neg e]; exact hp j (by omega))
      rw [List.length_set] at l1 l2 l3
      exact ⟨l', l1, l2, by rw [bp (by omega)]; exact l3⟩
    · rw [bn (by omega)]
      have : i = l.length := by omega
      exact ⟨l, rfl, fun j hj => hp j (by omega), by rw [hx, this]⟩
theorem mkF {n : Nat} {x : Int} {l : List Fnl} (hn : 4000000 ≤ n) (h0 : 0 ≤ x) (h1 : x ≤ 2199023255552) (hl : l.length ≤ 1048576) :
    ∃ l' : List Fnl, l'.length = l.length ∧ (∀ j, j < l.length → l'.getD j f0 = mf (x + 3 * j)) ∧ F18 n x l = some (x + 3 * l.length, (l', ())) := by
  unfold F18 F18_0
  exact mkF_it (R := Int × (List Fnl × Unit)) (n := n) (k0 := fun z w => some (z, (w, ()))) n 0 x x l h0 h1 (by omega) hl (by omega) (by omega) (fun j hj => by omega)
theorem hdS_it {R : Type} {n : Nat} {x0 : Int} {l : List Int} {k0 k1 : Int → Option R} (h0 : 0 ≤ x0) (h1 : x0 ≤ 2199023255552) (hl : l.length ≤ 1048576) (hp : ∀ j, j < l.length → l.getD j 0 = x0 + j) : ∀ (fuel i : Nat) (x : Int), x = x0 + i → i ≤ l.length → l.length + 1 ≤ fuel + i → F40_0_it n k0 k1 fuel l x i = k1 (x0 + l.length)
  | fuel, i, x, hx, hi, hf => by
    obtain ⟨f, rfl⟩ : ∃ f, fuel = f + 1 := ⟨fuel - 1, by omega⟩
    simp only [F40_0_it, F40_0_step]
    by_cases g : i < l.length
    · rw [bp (by omega), bp (by omega), bp (by omega), e0, nen (by rw [hp i g, hx]), wp (by omega), wp (by omega), e1]
      exact hdS_it h0 h1 hl hp f (i + 1) (x + 1) (by omega) (by omega) (by omega)
    · rw [bn (by omega)]
      have : i = l.length := by omega
      rw [hx, this]
theorem hdS {n : Nat} {x : Int} {l : List Int} (hn : 4000000 ≤ n) (h0 : 0 ≤ x) (h1 : x ≤ 2199023255552) (hl : l.length ≤ 1048576) (hp : ∀ j, j < l.length → l.getD j 0 = x + j) : F40 n l x = some (x + l.length, ()) := by
  unfold F40 F40_0
  exact hdS_it (R := Int × Unit) (n := n) (k1 := fun z => some (z, ())) h0 h1 hl hp n 0 x (by omega) (by omega) (by omega)
theorem hdF_it {R : Type} {n : Nat} {x0 : Int} {l : List Fnl} {k0 k1 : Int → Option R} (h0 : 0 ≤ x0) (h1 : x0 ≤ 2199023255552) (hl : l.length ≤ 1048576) (hp : ∀ j, j < l.length → l.getD j f0 = mf (x0 + 3 * j)) : ∀ (fuel i : Nat) (x : Int), x = x0 + 3 * i → i ≤ l.length → l.length + 1 ≤ fuel + i → F41_0_it n k0 k1 fuel l x i = k1 (x0 + 3 * l.length)
  | fuel, i, x, hx, hi, hf => by
    obtain ⟨f, rfl⟩ : ∃ f, fuel = f + 1 := ⟨fuel - 1, by omega⟩
    simp only [F41_0_it, F41_0_step]
    by_cases g : i < l.length
    · have hq : l.getD i (Fnl.mk 0 0 false) = mf x := by rw [hx]; exact hp i g
      simp only [e0, hq, mf]
      rw [bp (by omega), bp (by omega), bp (by omega), nen rfl, bp (by omega), bp (by omega), wp (by omega), nen rfl, bp (by omega), bp (by omega), wp (by omega), show x + 1 + 1 = x + 2 by omega, bb, wp (by omega), wp (by omega), e1]
      exact hdF_it h0 h1 hl hp f (i + 1) (x + 2 + 1) (by omega) (by omega) (by omega)
    · rw [bn (by omega)]
      have : i = l.length := by omega
      rw [hx, this]
theorem hdF {n : Nat} {x : Int} {l : List Fnl} (hn : 4000000 ≤ n) (h0 : 0 ≤ x) (h1 : x ≤ 2199023255552) (hl : l.length ≤ 1048576) (hp : ∀ j, j < l.length → l.getD j f0 = mf (x + 3 * j)) : F41 n l x = some (x + 3 * l.length, ()) := by
  unfold F41 F41_0
  exact hdF_it (R := Int × Unit) (n := n) (k1 := fun z => some (z, ())) h0 h1 hl hp n 0 x (by omega) (by omega) (by omega)
theorem mkW {n : Nat} {a b c : List Int} {d : List Fnl} (hn : 4000000 ≤ n) (ha : a.length ≤ 1048576) (hb : b.length ≤ 1048576) (hc : c.length ≤ 1048576) (hd : d.length ≤ 1048576) :
    ∃ r, F19 n 1 a b c d = some r ∧ 0 ≤ r.1 ∧ F20 n r.2.1 r.2.2.1 r.2.2.2.1 r.2.2.2.2.1 1 = some (r.1, ()) := by
  obtain ⟨a', a1, a2, a3⟩ := mkS (n := n) (x := 1) (l := a) hn (by omega) (by omega) ha
  obtain ⟨b', b1, b2, b3⟩ := mkS (n := n) (x := 1 + (a.length : Int)) (l := b) hn (by omega) (by omega) hb
  obtain ⟨c', c1, c2, c3⟩ := mkS (n := n) (x := 1 + (a.length : Int) + (b.length : Int)) (l := c) hn (by omega) (by omega) hc
  obtain ⟨d', d1, d2, d3⟩ := mkF (n := n) (x := 1 + (a.length : Int) + (b.length : Int) + (c.length : Int)) (l := d) hn (by omega) (by omega) hd
  refine ⟨(1 + (a.length : Int) + (b.length : Int) + (c.length : Int) + 3 * (d.length : Int), (a', (b', (c', (d', ()))))), ?_, ?_, ?_⟩
  · unfold F19
    simp only [a3, b3, c3, d3, ats]
  · show (0 : Int) ≤ 1 + (a.length : Int) + (b.length : Int) + (c.length : Int) + 3 * (d.length : Int); omega
  · show F20 n a' b' c' d' 1 = some (1 + (a.length : Int) + (b.length : Int) + (c.length : Int) + 3 * (d.length : Int), ())
    unfold F20
    rw [hdS hn (by omega) (by omega) (by omega) fun j hj => a2 j (by omega), a1]
    simp only [ats]
    rw [bn (by omega), hdS hn (by omega) (by omega) (by omega) fun j hj => b2 j (by omega), b1]
    simp only [ats]
    rw [bn (by omega), hdS hn (by omega) (by omega) (by omega) fun j hj => c2 j (by omega), c1]
    simp only [ats]
    rw [bn (by omega), hdF hn (by omega) (by omega) (by omega) fun j hj => d2 j (by omega), d1]
    simp only [ats]
    rw [bn (by omega)]
end Go.Proofs.Ytfelakjmajooaaa.Am
