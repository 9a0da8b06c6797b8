/- Sorting: the exact law. -/
import Derived.Test.YtjanepkjjmcchaaAmSortD
import Derived.Test.YtjanepkjjmcchaaAmOpen
namespace Go.Proofs.Ytjanepkjjmcchaa.Am
open Go
set_option autoImplicit false
set_option linter.unusedVariables false
set_option linter.unusedSimpArgs false
set_option maxRecDepth 10000

theorem f0' {i : Nat} : ((i : Nat) : Int).toNat = i := by omega
theorem f1' {i : Nat} : ((i : Int) + 1) = ((i + 1 : Nat) : Int) := by omega
theorem setX {α : Type} {l : List α} {i j : Nat} {v d : α} (h : i < l.length) : (l.set i v).getD j d = if i = j then v else l.getD j d := by
  simp only [List.getD, List.getElem?_set]
  by_cases e : i = j
  · subst e; rw [if_pos rfl, if_pos rfl, if_pos h]; rfl
  · rw [if_neg e, if_neg e]
theorem extX {α : Type} {a b : List α} (d : α) (h : a.length = b.length) (g : ∀ j, j < a.length → a.getD j d = b.getD j d) : a = b := by
  apply List.ext_getElem h
  intro i h1 h2
  have := g i h1
  rwa [getD_lt h1, getD_lt h2] at this
theorem szX {n : Nat} {a : List Itm} (ha : a.length ≤ 9223372036854775807) : ∃ r, F12 n a 1048576 = some (r, ()) ∧ (0 ≤ r → a.length ≤ 1048576) := by
  unfold F12
  rw [wp (by omega)]
  by_cases g : (1048576 : Int) - (a.length : Int) < 0
  · rw [bp g]; exact ⟨_, rfl, fun h => by omega⟩
  · rw [bn g]; exact ⟨_, rfl, fun h => by omega⟩
theorem toX_it {R : Type} {n : Nat} {a : List Itm} {k0 : List Itm → Option R} (ha : a.length ≤ 1048576) : ∀ (fuel i : Nat) (b : List Itm), b.length = a.length → i ≤ a.length → (∀ j, j < i → b.getD j (Itm.mk 0 0) = a.getD j (Itm.mk 0 0)) → a.length + 1 ≤ fuel + i → F13_0_it n k0 fuel a i b = k0 a
  | fuel, i, b, hb, hi, hp, hf => by
    obtain ⟨f, rfl⟩ : ∃ f, fuel = f + 1 := ⟨fuel - 1, by omega⟩
    simp only [F13_0_it, F13_0_step]
    by_cases g : i < a.length
    · unfold F32
      rw [bp (by omega), bp (by omega), bp (by omega)]
      simp only [ats]
      rw [bp (by omega), bp (by omega), wp (by omega), f1']
      simp only [f0']
      exact toX_it ha f (i + 1) _ (by rw [List.length_set]; exact hb) (by omega) (fun j hj => by
        rw [setX (by omega)]
        by_cases e : i = j
        · subst e; rw [if_pos rfl]
        · rw [if_neg e]; exact hp j (by omega)) (by omega)
    · rw [bn (by omega)]
      rw [extX (Itm.mk 0 0) hb fun j hj => hp j (by omega)]
theorem toX {n : Nat} {a : List Itm} (hn : 4000000 ≤ n) (ha : a.length ≤ 1048576) : F13 n a = some ((), (a, ())) := by
  unfold F13 F13_0
  rw [bp (by omega), bp (by omega), bp (by omega)]
  exact toX_it (R := Unit × (List Itm × Unit)) (n := n) (k0 := fun z => some ((), (z, ()))) ha n 0 _ (by simp) (by omega) (fun j hj => by omega) (by omega)
theorem eqX_it {R : Type} {n : Nat} {a : List Itm} {k0 : Bool → Option R} {k1 : Option R} (ha : a.length ≤ 1048576) : ∀ (fuel i : Nat), i ≤ a.length → a.length + 1 ≤ fuel + i → F14_0_it n k0 k1 fuel a a i = k1
  | fuel, i, hi, hf => by
    obtain ⟨f, rfl⟩ : ∃ f, fuel = f + 1 := ⟨fuel - 1, by omega⟩
    simp only [F14_0_it, F14_0_step]
    by_cases g : i < a.length
    · unfold F33
      rw [bp (by omega), bp (by omega), bp (by omega), bp (by omega), bp (by omega), nen rfl, nen rfl, wp (by omega), f1']
      simp only [ats, cf, Bool.not_true]
      exact eqX_it ha f (i + 1) (by omega) (by omega)
    · rw [bn (by omega)]
theorem eqX {n : Nat} {a : List Itm} (hn : 4000000 ≤ n) (ha : a.length ≤ 1048576) : F14 n a a = some (true, ()) := by
  unfold F14 F14_0
  rw [nen rfl]
  exact eqX_it (R := Bool × Unit) ha n 0 (by omega) (by omega)
def mx (x : Int) : Itm := Itm.mk x (x + 1)
theorem mkX_it {R : Type} {n : Nat} {k0 : Int → List Itm → Option R} : ∀ (fuel i : Nat) (x : Int) (l : List Itm), x = 1 + 2 * i → l.length ≤ 1048576 → i ≤ l.length → l.length + 1 ≤ fuel + i →
    ∃ l' : List Itm, F15_0_it n k0 fuel x i l = k0 (1 + 2 * l.length) l'
  | fuel, i, x, l, hx, hl, hi, hf => by
    obtain ⟨f, rfl⟩ : ∃ f, fuel = f + 1 := ⟨fuel - 1, by omega⟩
    simp only [F15_0_it, F15_0_step]
    by_cases g : i < l.length
    · simp only [f0', List.length_set]
      simp (disch := omega) only [bp, wp, f1']
      obtain ⟨l', h⟩ := mkX_it (n := n) (k0 := k0) f (i + 1) (x + 1 + 1) ((l.set i (Itm.mk x (l.getD i (Itm.mk 0 0)).tag)).set i (Itm.mk ((l.set i (Itm.mk x (l.getD i (Itm.mk 0 0)).tag)).getD i (Itm.mk 0 0)).key (x + 1))) (by omega) (by simpa using hl) (by simp; omega) (by simp; omega)
      rw [List.length_set, List.length_set] at h
      exact ⟨l', h⟩
    · rw [bn (by omega)]
      have : i = l.length := by omega
      exact ⟨l, by rw [hx, this]⟩
theorem mkX {n : Nat} {l : List Itm} (hn : 4000000 ≤ n) (hl : l.length ≤ 1048576) : ∃ l' : List Itm, F15 n 1 l = some (1 + 2 * (l.length : Int), (l', ())) := by
  unfold F15 F15_0
  exact mkX_it (R := Int × (List Itm × Unit)) (n := n) (k0 := fun z w => some (z, (w, ()))) n 0 1 l (by omega) hl (by omega) (by omega)
theorem mkZ_it {R : Type} {n : Nat} {k0 : Int → ((List Itm) × Unit) → Option R} : ∀ (fuel i : Nat) (x : Int) (l : List Itm), x = 1 + 2 * i → l.length ≤ 1048576 → i ≤ l.length → l.length + 1 ≤ fuel + i → (∀ j, j < i → l.getD j (Itm.mk 0 0) = mx (1 + 2 * j)) →
    ∃ l' : List Itm, l'.length = l.length ∧ (∀ j, j < l.length → l'.getD j (Itm.mk 0 0) = mx (1 + 2 * j)) ∧ F15v1_0_it n k0 fuel x i (l, ()) = k0 (1 + 2 * l.length) (l', ())
  | fuel, i, x, l, hx, hl, hi, hf, hp => by
    obtain ⟨f, rfl⟩ : ∃ f, fuel = f + 1 := ⟨fuel - 1, by omega⟩
    simp only [F15v1_0_it, F15v1_0_step]
    by_cases g : i < l.length
    · simp only [f0', List.length_set, List.set_set, setX g, if_true]
      simp (disch := omega) only [bp, wp, f1']
      obtain ⟨l', l1, l2, l3⟩ := mkZ_it (n := n) (k0 := k0) f (i + 1) (x + 1 + 1) (l.set i (Itm.mk x (x + 1))) (by omega) (by simpa using hl) (by simp; omega) (by simp; omega) (fun j hj => by
        rw [setX g]
        by_cases e : i = j
        · subst e; rw [if_pos rfl, hx]; rfl
        · rw [if_neg e]; exact hp j (by omega))
      rw [List.length_set] at l1 l2 l3
      exact ⟨l', l1, l2, l3⟩
    · rw [bn (by show ¬ ((i : Int) < (l.length : Int)); omega)]
      have : i = l.length := by omega
      exact ⟨l, rfl, fun j hj => hp j (by omega), by rw [hx, this]⟩
theorem mkZ {n : Nat} {l : List Itm} (hn : 4000000 ≤ n) (hl : l.length ≤ 1048576) :
    ∃ l' : List Itm, l'.length = l.length ∧ (∀ j, j < l.length → l'.getD j (Itm.mk 0 0) = mx (1 + 2 * j)) ∧ F15v1 n 1 (l, ()) = some (1 + 2 * (l.length : Int), ((l', ()), ())) := by
  unfold F15v1 F15v1_0
  exact mkZ_it (R := Int × (((List Itm) × Unit) × Unit)) (n := n) (k0 := fun z w => some (z, (w, ()))) n 0 1 l (by omega) hl (by omega) (by omega) (fun j hj => by omega)
theorem hdX_it {R : Type} {n : Nat} {l : List Itm} {k0 k1 : Int → ((List Itm) × Unit) → Option R} (hl : l.length ≤ 1048576) (hp : ∀ j, j < l.length → l.getD j (Itm.mk 0 0) = mx (1 + 2 * j)) : ∀ (fuel i : Nat) (x : Int), x = 1 + 2 * i → i ≤ l.length → l.length + 1 ≤ fuel + i → F16_0_it n k0 k1 fuel x i (l, ()) = k1 (1 + 2 * l.length) (l, ())
  | fuel, i, x, hx, hi, hf => by
    obtain ⟨f, rfl⟩ : ∃ f, fuel = f + 1 := ⟨fuel - 1, by omega⟩
    simp only [F16_0_it, F16_0_step]
    by_cases g : i < l.length
    · have hq : l.getD i (Itm.mk 0 0) = mx x := by rw [hx]; exact hp i g
      simp only [f0', hq, mx]
      rw [nen rfl, wp (x := x + 1) (by omega), nen rfl]
      simp (disch := omega) only [bp, wp, f1']
      exact hdX_it hl hp f (i + 1) (x + 1 + 1) (by omega) (by omega) (by omega)
    · rw [bn (by show ¬ ((i : Int) < (l.length : Int)); omega)]
      have : i = l.length := by omega
      rw [hx, this]
theorem hdX {n : Nat} {l : List Itm} (hn : 4000000 ≤ n) (hl : l.length ≤ 1048576) (hp : ∀ j, j < l.length → l.getD j (Itm.mk 0 0) = mx (1 + 2 * j)) : F16 n 1 (l, ()) = some (1 + 2 * (l.length : Int), ((l, ()), ())) := by
  unfold F16 F16_0
  exact hdX_it (R := Int × (((List Itm) × Unit) × Unit)) (n := n) (k1 := fun z w => some (z, (w, ()))) hl hp n 0 1 (by omega) (by omega) (by omega)
theorem both_sort {n : Nat} {l : List Itm} (hn : 4000000 ≤ n) : ∃ out, out.length ≤ 60 ∧ F8 n l = some (out, ()) ∧ F10 n l = some (out, ()) := by
  by_cases h : l.length ≤ 60
  · obtain ⟨o1, a1, a2⟩ := sortI (n := n) (l := l) (by omega) h
    obtain ⟨o2, b1, b2⟩ := sortS (n := n) (l := l) (by omega) h
    have e := a1.uniq b1
    subst e
    exact ⟨o1, by rw [a1.len]; exact h, a2, b2⟩
  · exact ⟨[], by simp, sortLong (by omega) (by omega), sortSLong (by omega)⟩
theorem law_list {n : Nat} (hn : 4000000 ≤ n) {a : List Itm} (ha : a.length ≤ 9223372036854775807) : F5 n a = some (true, ()) := by
  unfold F5
  obtain ⟨r, r1, r2⟩ := szX (n := n) ha
  rw [r1]
  simp only [ats]
  by_cases h : r < 0
  · rw [bp h]
  rw [bn h]
  have hl := r2 (by omega)
  obtain ⟨o, o1, o2, o3⟩ := both_sort (n := n) (l := a) hn
  obtain ⟨a', m1⟩ := mkX (n := n) (l := a) hn hl
  obtain ⟨o', p1, p2, p3⟩ := mkZ (n := n) (l := o) hn (by omega)
  have H := hdX (n := n) (l := o') hn (by omega) (fun j hj => p2 j (by omega))
  rw [p1] at H
  simp only [toX hn hl, o2, o3, eqX hn hl, eqX (a := o) hn (by omega), m1, p3, H, ats, Bool.not_true, cf]
  rw [bn (by omega), bn (by omega), nen rfl, bn (by omega), nen rfl]
theorem law_sort {n : Nat} (hn : 4000000 ≤ n) (y : Cd.den G.T (.imm 4)) (s : SmV G (Cd.enc (.imm 4) y)) : F5 n y = some (true, ()) := law_list hn (SmV.len (k := 4) s)
end Go.Proofs.Ytjanepkjjmcchaa.Am
