/- Imports, plainly: sizes, copies, equalities, marks. -/
import Derived.Test.YtjfmfpnnjgfffaaAmImpN
namespace Go.Proofs.Ytjfmfpnnjgfffaa.Am
open Go
set_option autoImplicit false
set_option linter.unusedVariables false
set_option linter.unusedSimpArgs false
set_option maxRecDepth 10000

abbrev t0 : Stp := Stp.mk (0 : Int) (0 : Int) ({ data := #[] } : ByteArray)
theorem e0 {i : Nat} : ((i : Nat) : Int).toNat = i := by omega
theorem e1 {i : Nat} : ((i : Int) + 1) = ((i + 1 : Nat) : Int) := by omega
theorem bb (s : ByteArray) : (!(s.toList == s.toList)) = false := by rw [keq, decide_eq_true rfl]; rfl
theorem getD_set' {α : Type} {l : List α} {i j : Nat} {v d : α} (h : i < l.length) : (l.set i v).getD j d = if i = j then v else l.getD j d := by
  simp only [List.getD, List.getElem?_set]
  by_cases e : i = j
  · subst e; rw [if_pos rfl, if_pos rfl, if_pos h]; rfl
  · rw [if_neg e, if_neg e]
theorem list_ext {α : Type} {a b : List α} (d : α) (h : a.length = b.length) (g : ∀ j, j < a.length → a.getD j d = b.getD j d) : a = b := by
  apply List.ext_getElem h
  intro i h1 h2
  have := g i h1
  rwa [getD_lt h1, getD_lt h2] at this

def Sz1 (r : List Stp) : Prop := r.length ≤ 1048576 ∧ ∀ j, j < r.length → (r.getD j t0).name.size ≤ 1048576
def Sz (a : List (List Stp)) : Prop := a.length ≤ 1048576 ∧ ∀ j, j < a.length → Sz1 (a.getD j [])
def Bg1 (r : List Stp) : Prop := r.length ≤ 9223372036854775807 ∧ ∀ j, j < r.length → (r.getD j t0).name.size ≤ 9223372036854775807
def Bg (a : List (List Stp)) : Prop := a.length ≤ 9223372036854775807 ∧ ∀ j, j < a.length → Bg1 (a.getD j [])

-- sizes -------------------------------------------------------------------------------------------------------------------------------------
theorem szN {n : Nat} {x y : Int} {s : ByteArray} {l : Int} (h0 : 0 ≤ l) (h1 : l ≤ 1048576) (ha : s.size ≤ 9223372036854775807) : ∃ r, F61 n x y s l = some (r, ()) ∧ r ≤ l ∧ (0 ≤ r → s.size ≤ 1048576) := by
  unfold F61
  rw [wp (by omega)]
  by_cases g : l - (s.size : Int) < 0
  · rw [bp g]; exact ⟨_, rfl, by omega, fun h => by omega⟩
  · rw [bn g]; exact ⟨_, rfl, by omega, fun h => by omega⟩
theorem szP_it {R : Type} {n : Nat} {a : List Stp} {k0 k1 : Int → Option R} (ha : a.length ≤ 1048576) (hr : ∀ j, j < a.length → (a.getD j t0).name.size ≤ 9223372036854775807) : ∀ (fuel i : Nat) (l : Int), 0 ≤ l → l ≤ 1048576 → i ≤ a.length → a.length + 1 ≤ fuel + i →
    F46_0_it n k0 k1 fuel a l i = k0 (-1) ∨ ∃ r, 0 ≤ r ∧ r ≤ l ∧ F46_0_it n k0 k1 fuel a l i = k1 r ∧ ∀ j, i ≤ j → j < a.length → (a.getD j t0).name.size ≤ 1048576
  | fuel, i, l, h0, h1, hi, hf => by
    obtain ⟨f, rfl⟩ : ∃ f, fuel = f + 1 := ⟨fuel - 1, by omega⟩
    simp only [F46_0_it, F46_0_step]
    by_cases g : i < a.length
    · obtain ⟨r, r1, r2, r3⟩ := szN (n := n) (x := (a.getD i t0).kind) (y := (a.getD i t0).num) h0 h1 (hr i g)
      rw [bp (by omega), bp (by omega), bp (by omega), e0, r1]
      simp only [ats]
      by_cases h : r < 0
      · rw [bp h]; exact .inl rfl
      · rw [bn h, wp (by omega), e1]
        rcases szP_it (n := n) (k0 := k0) (k1 := k1) ha hr f (i + 1) r (by omega) (by omega) (by omega) (by omega) with q | ⟨q, q1, q2, q3, q4⟩
        · exact .inl q
        · refine .inr ⟨q, q1, by omega, q3, fun j j1 j2 => ?_⟩
          by_cases e : i = j
          · subst e; exact r3 (by omega)
          · exact q4 j (by omega) j2
    · rw [bn (by omega)]
      exact .inr ⟨l, h0, Int.le_refl _, rfl, fun j j1 j2 => by omega⟩
theorem szP {n : Nat} (hn : 4000000 ≤ n) {a : List Stp} {l : Int} (h0 : 0 ≤ l) (h1 : l ≤ 1048576) (ha : Bg1 a) : ∃ r, F23 n a l = some (r, ()) ∧ r ≤ l ∧ (0 ≤ r → Sz1 a) := by
  unfold F23 F46 F46_0
  have ha1 := ha.1
  rw [wp (by omega)]
  by_cases g : l - (a.length : Int) < 0
  · rw [bp g]; simp only [ats]; rw [bp (by omega)]; exact ⟨_, rfl, by omega, fun h => by omega⟩
  · rw [bn g]
    rcases szP_it (R := Int × Unit) (n := n) (a := a) (k0 := fun z => some (z, ())) (k1 := fun z => some (z, ())) (by omega) ha.2 n 0 (l - (a.length : Int)) (by omega) (by omega) (by omega) (by omega) with q | ⟨q, q1, q2, q3, q4⟩
    · rw [show ((0 : Nat) : Int) = 0 from rfl] at q
      rw [q]; simp only [ats]; rw [bp (by omega)]; exact ⟨_, rfl, by omega, fun h => by omega⟩
    · rw [show ((0 : Nat) : Int) = 0 from rfl] at q3
      rw [q3]; simp only [ats]; rw [bn (by omega)]; exact ⟨_, rfl, by omega, fun _ => ⟨by omega, fun j hj => q4 j (Nat.zero_le _) hj⟩⟩
theorem szM_it {R : Type} {n : Nat} (hn : 4000000 ≤ n) {a : List (List Stp)} {k0 k1 : Int → Option R} (ha : a.length ≤ 1048576) (hr : ∀ j, j < a.length → Bg1 (a.getD j [])) : ∀ (fuel i : Nat) (l : Int), 0 ≤ l → l ≤ 1048576 → i ≤ a.length → a.length + 1 ≤ fuel + i →
    F7_0_it n k0 k1 fuel a l i = k0 (-1) ∨ ∃ r, 0 ≤ r ∧ r ≤ l ∧ F7_0_it n k0 k1 fuel a l i = k1 r ∧ ∀ j, i ≤ j → j < a.length → Sz1 (a.getD j [])
  | fuel, i, l, h0, h1, hi, hf => by
    obtain ⟨f, rfl⟩ : ∃ f, fuel = f + 1 := ⟨fuel - 1, by omega⟩
    simp only [F7_0_it, F7_0_step]
    by_cases g : i < a.length
    · obtain ⟨r, r1, r2, r3⟩ := szP (n := n) hn h0 h1 (hr i g)
      rw [bp (by omega), bp (by omega), bp (by omega), e0, r1]
      simp only [ats]
      by_cases h : r < 0
      · rw [bp h]; exact .inl rfl
      · rw [bn h, wp (by omega), e1]
        rcases szM_it (n := n) hn (k0 := k0) (k1 := k1) ha hr f (i + 1) r (by omega) (by omega) (by omega) (by omega) with q | ⟨q, q1, q2, q3, q4⟩
        · exact .inl q
        · refine .inr ⟨q, q1, by omega, q3, fun j j1 j2 => ?_⟩
          by_cases e : i = j
          · subst e; exact r3 (by omega)
          · exact q4 j (by omega) j2
    · rw [bn (by omega)]
      exact .inr ⟨l, h0, Int.le_refl _, rfl, fun j j1 j2 => by omega⟩
theorem szM {n : Nat} (hn : 4000000 ≤ n) {a : List (List Stp)} (ha : Bg a) : ∃ r, F7 n a 1048576 = some (r, ()) ∧ (0 ≤ r → Sz a) := by
  unfold F7 F7_0
  have ha1 := ha.1
  rw [wp (by omega)]
  by_cases g : (1048576 : Int) - (a.length : Int) < 0
  · rw [bp g]; exact ⟨_, rfl, fun h => by omega⟩
  · rw [bn g]
    rcases szM_it (R := Int × Unit) (n := n) hn (a := a) (k0 := fun z => some (z, ())) (k1 := fun z => some (z, ())) (by omega) ha.2 n 0 (1048576 - (a.length : Int)) (by omega) (by omega) (by omega) (by omega) with q | ⟨q, q1, q2, q3, q4⟩
    · exact ⟨-1, q, fun h => by omega⟩
    · exact ⟨q, q3, fun _ => ⟨by omega, fun j hj => q4 j (Nat.zero_le _) hj⟩⟩

-- copies ------------------------------------------------------------------------------------------------------------------------------------
theorem toP_it {R : Type} {n : Nat} {a : List Stp} {k0 : List Stp → Option R} (ha : a.length ≤ 1048576) : ∀ (fuel i : Nat) (b : List Stp), b.length = a.length → i ≤ a.length → (∀ j, j < i → b.getD j t0 = a.getD j t0) → a.length + 1 ≤ fuel + i → F48_0_it n k0 fuel a i b = k0 a
  | fuel, i, b, hb, hi, hp, hf => by
    obtain ⟨f, rfl⟩ : ∃ f, fuel = f + 1 := ⟨fuel - 1, by omega⟩
    simp only [F48_0_it, F48_0_step]
    by_cases g : i < a.length
    · unfold F65
      rw [bp (by omega), bp (by omega), bp (by omega)]
      simp only [ats]
      rw [bp (by omega), bp (by omega), wp (by omega), e1]
      simp only [e0]
      exact toP_it ha f (i + 1) _ (by rw [List.length_set]; exact hb) (by omega) (fun j hj => by
        rw [getD_set' (by omega)]
        by_cases e : i = j
        · subst e; rw [if_pos rfl]
        · rw [if_neg e]; exact hp j (by omega)) (by omega)
    · rw [bn (by omega)]
      rw [list_ext t0 hb fun j hj => hp j (by omega)]
theorem toP {n : Nat} {a : List Stp} (hn : 4000000 ≤ n) (ha : a.length ≤ 1048576) : F48 n a = some (a, ()) := by
  unfold F48 F48_0
  rw [bp (by omega), bp (by omega), bp (by omega)]
  exact toP_it (R := List Stp × Unit) (n := n) (k0 := fun z => some (z, ())) ha n 0 _ (by simp) (by omega) (fun j hj => by omega) (by omega)
theorem toM_it {R : Type} {n : Nat} {a : List (List Stp)} {k0 : List (List Stp) → Option R} (hn : 4000000 ≤ n) (ha : Sz a) : ∀ (fuel i : Nat) (b : List (List Stp)), b.length = a.length → i ≤ a.length → (∀ j, j < i → b.getD j [] = a.getD j []) → a.length + 1 ≤ fuel + i → F9_0_it n k0 fuel a i b = k0 a
  | fuel, i, b, hb, hi, hp, hf => by
    obtain ⟨f, rfl⟩ : ∃ f, fuel = f + 1 := ⟨fuel - 1, by omega⟩
    simp only [F9_0_it, F9_0_step]
    have ha1 := ha.1
    by_cases g : i < a.length
    · unfold F29
      rw [bp (by omega), bp (by omega), bp (by omega), e0, toP hn (ha.2 i g).1]
      simp only [ats]
      rw [bp (by omega), bp (by omega), wp (by omega), e1]
      exact toM_it hn ha f (i + 1) _ (by rw [List.length_set]; exact hb) (by omega) (fun j hj => by
        rw [getD_set' (by omega)]
        by_cases e : i = j
        · subst e; rw [if_pos rfl]
        · rw [if_neg e]; exact hp j (by omega)) (by omega)
    · rw [bn (by omega)]
      rw [list_ext [] hb fun j hj => hp j (by omega)]
theorem toM {n : Nat} {a : List (List Stp)} (hn : 4000000 ≤ n) (ha : Sz a) : F9 n a = some (a, ()) := by
  unfold F9 F9_0
  have ha1 := ha.1
  rw [bp (by omega), bp (by omega), bp (by omega)]
  exact toM_it (R := List (List Stp) × Unit) (n := n) (k0 := fun z => some (z, ())) hn ha n 0 _ (by simp) (by omega) (fun j hj => by omega) (by omega)
theorem clS {n : Nat} {a : List Int} (ha : a.length ≤ 1048576) : F51 n a = some ((), (a, ())) := by
  unfold F51
  by_cases g : a.length ≤ 0
  · have e : a = [] := List.eq_nil_of_length_eq_zero (by omega)
    subst e; rw [bp (by simp), bp (by simp)]; exact both_self _
  · rw [bn g, bp (by simp; omega)]; rfl

-- equalities ----------------------------------------------------------------------------------------------------------------------------------
theorem eqS_it {R : Type} {n : Nat} {a : List Int} {k0 : Bool → Option R} {k1 : Option R} (ha : a.length ≤ 1048576) : ∀ (fuel i : Nat), i ≤ a.length → a.length + 1 ≤ fuel + i → F11_0_it n k0 k1 fuel a a i = k1
  | fuel, i, hi, hf => by
    obtain ⟨f, rfl⟩ : ∃ f, fuel = f + 1 := ⟨fuel - 1, by omega⟩
    simp only [F11_0_it, F11_0_step]
    by_cases g : i < a.length
    · rw [bp (by omega), bp (by omega), bp (by omega), bp (by omega), bp (by omega), nen rfl, wp (by omega), e1]
      exact eqS_it ha f (i + 1) (by omega) (by omega)
    · rw [bn (by omega)]
theorem eqS {n : Nat} {a : List Int} (hn : 4000000 ≤ n) (ha : a.length ≤ 1048576) : F11 n a a = some (true, ()) := by
  unfold F11 F11_0
  rw [nen rfl]
  exact eqS_it (R := Bool × Unit) ha n 0 (by omega) (by omega)
theorem eqP_it {R : Type} {n : Nat} {a : List Stp} {k0 : Bool → Option R} {k1 : Option R} (ha : a.length ≤ 1048576) : ∀ (fuel i : Nat), i ≤ a.length → a.length + 1 ≤ fuel + i → F52_0_it n k0 k1 fuel a a i = k1
  | fuel, i, hi, hf => by
    obtain ⟨f, rfl⟩ : ∃ f, fuel = f + 1 := ⟨fuel - 1, by omega⟩
    simp only [F52_0_it, F52_0_step]
    by_cases g : i < a.length
    · unfold F69
      rw [bp (by omega), bp (by omega), bp (by omega), bp (by omega), bp (by omega), nen rfl, nen rfl, bb, wp (by omega), e1]
      simp only [ats, cf, Bool.not_true]
      exact eqP_it ha f (i + 1) (by omega) (by omega)
    · rw [bn (by omega)]
theorem eqP {n : Nat} {a : List Stp} (hn : 4000000 ≤ n) (ha : a.length ≤ 1048576) : F34 n a a = some (true, ()) := by
  unfold F34 F52 F52_0
  rw [nen rfl]
  have := eqP_it (R := Bool × Unit) (n := n) (k0 := fun z => some (z, ())) (k1 := some (true, ())) ha n 0 (by omega) (by omega)
  rw [show ((0 : Nat) : Int) = 0 from rfl] at this
  rw [this]; rfl
theorem eqM_it {R : Type} {n : Nat} {a : List (List Stp)} {k0 : Bool → Option R} {k1 : Option R} (hn : 4000000 ≤ n) (ha : Sz a) : ∀ (fuel i : Nat), i ≤ a.length → a.length + 1 ≤ fuel + i → F12_0_it n k0 k1 fuel a a i = k1
  | fuel, i, hi, hf => by
    obtain ⟨f, rfl⟩ : ∃ f, fuel = f + 1 := ⟨fuel - 1, by omega⟩
    simp only [F12_0_it, F12_0_step]
    have ha1 := ha.1
    by_cases g : i < a.length
    · rw [bp (by omega), bp (by omega), bp (by omega), bp (by omega), bp (by omega), e0, eqP hn (ha.2 i g).1]
      simp only [ats, cf, Bool.not_true]
      rw [wp (by omega), e1]
      exact eqM_it hn ha f (i + 1) (by omega) (by omega)
    · rw [bn (by omega)]
theorem eqM {n : Nat} {a : List (List Stp)} (hn : 4000000 ≤ n) (ha : Sz a) : F12 n a a = some (true, ()) := by
  unfold F12 F12_0
  have ha1 := ha.1
  rw [nen rfl]
  exact eqM_it (R := Bool × Unit) hn ha n 0 (by omega) (by omega)

-- marks -----------------------------------------------------------------------------------------------------------------------------------------
theorem mt_it {R : Type} {n : Nat} {k0 : ByteArray → Option R} : ∀ (m fuel : Nat) (x : Int) (acc : ByteArray), 0 ≤ x → x < 10 ^ m → m < fuel → m ≤ 15 → acc.size + m ≤ 1000 → ∃ s, s.size ≤ acc.size + m ∧ F53_0_it n k0 fuel x acc = k0 s
  | m, fuel, x, acc, h0, h1, hf, hm, ha => by
    obtain ⟨f, rfl⟩ : ∃ f, fuel = f + 1 := ⟨fuel - 1, by omega⟩
    simp only [F53_0_it, F53_0_step]
    by_cases g : x > 0
    · rw [bp g]
      match m with
      | 0 => simp at h1; omega
      | m + 1 =>
        generalize hv : bytesOfInts (List.map (fun y => y) (IntKind.wrap .u8 (IntKind.wrap .i64 (48 + x.tmod 10)) :: [])) = v
        have hs : v.size = 1 := by rw [← hv]; rfl
        rw [bp (by omega)]
        have hp : (10 : Int) ^ (m + 1) = 10 ^ m * 10 := Int.pow_succ 10 m
        have hb : (10 : Int) ^ (m + 1) ≤ 10 ^ 15 := by
          exact_mod_cast Nat.pow_le_pow_right (by omega : 0 < 10) hm
        have hq : IntKind.wrap .i64 (x.tdiv 10) = x / 10 := by rw [td h0]; exact wp (by omega)
        rw [hq]
        have hsz : (v ++ acc).size = 1 + acc.size := by rw [ByteArray.size_append, hs]
        obtain ⟨s, h3, h4⟩ := mt_it (n := n) (k0 := k0) m f (x / 10) (v ++ acc) (by omega) (by omega) (by omega) (by omega) (by omega)
        exact ⟨s, by omega, h4⟩
    · rw [bn g]; exact ⟨acc, by omega, rfl⟩
theorem mt_ok {n : Nat} (hn : 100 ≤ n) {x : Int} (h0 : 0 ≤ x) (h1 : x < 100000000000000) : ∃ s, F53 n x = some (s, ()) := by
  unfold F53 F53_0
  by_cases g : x ≤ 0
  · rw [bp g]; exact ⟨_, rfl⟩
  · rw [bn g]
    obtain ⟨s, h2, h3⟩ := mt_it (n := n) (k0 := fun z1584 => (bif (decide (((1 : Nat) + (z1584.size)) ≤ (68719476736 : Nat))) then some ((({ data := #[109] } : ByteArray) ++ z1584), ()) else none)) 14 n x ⟨#[]⟩ h0 (by simpa using h1) (by omega) (by omega) (by decide)
    have h4 : (({ data := #[] } : ByteArray)).size = 0 := rfl
    rw [h3, bp (by omega)]; exact ⟨_, rfl⟩
theorem mkP_it {R : Type} {n : Nat} {a : List Stp} {k0 : Int → Unit → Option R} (hn : 4000000 ≤ n) (ha : a.length ≤ 1048576) : ∀ (fuel i : Nat) (x : Int), 0 ≤ x → x + 3 * a.length ≤ 4398046511104 + 3 * i → i ≤ a.length → a.length + 1 ≤ fuel + i → F35_0_it n k0 fuel a x i () = k0 (x + 3 * (a.length - i : Nat)) ()
  | fuel, i, x, h0, h1, hi, hf => by
    obtain ⟨f, rfl⟩ : ∃ f, fuel = f + 1 := ⟨fuel - 1, by omega⟩
    simp only [F35_0_it, F35_0_step]
    by_cases g : i < a.length
    · obtain ⟨s, hs⟩ := mt_ok (n := n) (by omega) (x := x + 1 + 1) (by omega) (by omega)
      rw [bp (by omega), bp (by omega), bp (by omega), bp (by omega), bp (by omega), wp (x := x + 1) (by omega), wp (x := x + 1 + 1) (by omega), hs]
      simp only [ats]
      rw [wp (x := x + 1 + 1 + 1) (by omega), wp (x := (i : Int) + 1) (by omega), e1]
      simp (disch := omega) only [bp]
      rw [mkP_it hn ha f (i + 1) (x + 1 + 1 + 1) (by omega) (by omega) (by omega) (by omega)]
      congr 1; omega
    · rw [bn (by omega)]; congr 1; omega
theorem mkP {n : Nat} {a : List Stp} {x : Int} (hn : 4000000 ≤ n) (ha : a.length ≤ 1048576) (h0 : 0 ≤ x) (h1 : x ≤ 4398041268224) : F35 n a x () = some (x + 3 * a.length, ((), ())) := by
  unfold F35 F35_0
  exact mkP_it (R := Int × (Unit × Unit)) (n := n) (k0 := fun z w => some (z, (w, ()))) hn ha n 0 x h0 (by omega) (by omega) (by omega)
theorem mkM_it {R : Type} {n : Nat} {a : List (List Stp)} {k0 : Int → Unit → Option R} (hn : 4000000 ≤ n) (ha : Sz a) : ∀ (fuel i : Nat) (x : Int), 0 ≤ x → x ≤ 3145728 * i + 1 → i ≤ a.length → a.length + 1 ≤ fuel + i → ∃ y : Int, 0 ≤ y ∧ F13_0_it n k0 fuel a x i () = k0 y ()
  | fuel, i, x, h0, h1, hi, hf => by
    obtain ⟨f, rfl⟩ : ∃ f, fuel = f + 1 := ⟨fuel - 1, by omega⟩
    simp only [F13_0_it, F13_0_step]
    have ha1 := ha.1
    by_cases g : i < a.length
    · have h2 := (ha.2 i g).1
      rw [bp (by omega), bp (by omega), bp (by omega), e0, mkP hn h2 h0 (by omega)]
      simp only [ats]
      rw [wp (by omega), e1]
      exact mkM_it hn ha f (i + 1) _ (by omega) (by omega) (by omega) (by omega)
    · rw [bn (by omega)]; exact ⟨x, h0, rfl⟩
theorem mkM {n : Nat} {a : List (List Stp)} (hn : 4000000 ≤ n) (ha : Sz a) : ∃ y : Int, 0 ≤ y ∧ F13 n a 1 () = some (y, ((), ())) := by
  unfold F13 F13_0
  have ha1 := ha.1
  exact mkM_it (R := Int × (Unit × Unit)) (n := n) (k0 := fun z w => some (z, (w, ()))) hn ha n 0 1 (by omega) (by omega) (by omega) (by omega)
theorem mkS_it {R : Type} {n : Nat} {k0 : Int → List Int → Option R} : ∀ (fuel i : Nat) (x x0 : Int) (l : List Int), 0 ≤ x0 → x0 ≤ 2199023255552 → x = x0 + i → l.length ≤ 1048576 → i ≤ l.length → l.length + 1 ≤ fuel + i → (∀ j, j < i → l.getD j 0 = x0 + j) →
    ∃ l' : List Int, l'.length = l.length ∧ (∀ j, j < l.length → l'.getD j 0 = x0 + j) ∧ F14_0_it n k0 fuel x i l = k0 (x0 + l.length) l'
  | fuel, i, x, x0, l, h0, h1, hx, hl, hi, hf, hp => by
    obtain ⟨f, rfl⟩ : ∃ f, fuel = f + 1 := ⟨fuel - 1, by omega⟩
    simp only [F14_0_it, F14_0_step]
    by_cases g : i < l.length
    · rw [bp (by omega), bp (by omega), bp (by omega), wp (by omega), wp (by omega), e0, e1]
      obtain ⟨l', l1, l2, l3⟩ := mkS_it (n := n) (k0 := k0) f (i + 1) (x + 1) x0 (l.set i x) h0 h1 (by omega) (by simpa using hl) (by simp; omega) (by simp; omega) (fun j hj => by
        rw [getD_set' g]
        by_cases e : i = j
        · subst e; rw [if_pos rfl]; exact hx
        · rw [if_neg e]; exact hp j (by omega))
      rw [List.length_set] at l1 l2 l3
      exact ⟨l', l1, l2, l3⟩
    · rw [bn (by omega)]
      have : i = l.length := by omega
      exact ⟨l, rfl, fun j hj => hp j (by omega), by rw [hx, this]⟩
theorem mkS {n : Nat} {x : Int} {l : List Int} (hn : 4000000 ≤ n) (h0 : 0 ≤ x) (h1 : x ≤ 2199023255552) (hl : l.length ≤ 1048576) :
    ∃ l' : List Int, l'.length = l.length ∧ (∀ j, j < l.length → l'.getD j 0 = x + j) ∧ F14 n x l = some (x + l.length, (l', ())) := by
  unfold F14 F14_0
  exact mkS_it (R := Int × (List Int × Unit)) (n := n) (k0 := fun z w => some (z, (w, ()))) n 0 x x l h0 h1 (by omega) hl (by omega) (by omega) (fun j hj => by omega)
theorem hdS_it {R : Type} {n : Nat} {x0 : Int} {l : List Int} {k0 k1 : Int → List Int → Option R} (h0 : 0 ≤ x0) (h1 : x0 ≤ 2199023255552) (hl : l.length ≤ 1048576) (hp : ∀ j, j < l.length → l.getD j 0 = x0 + j) : ∀ (fuel i : Nat) (x : Int), x = x0 + i → i ≤ l.length → l.length + 1 ≤ fuel + i → F15_0_it n k0 k1 fuel x i l = k1 (x0 + l.length) l
  | fuel, i, x, hx, hi, hf => by
    obtain ⟨f, rfl⟩ : ∃ f, fuel = f + 1 := ⟨fuel - 1, by omega⟩
    simp only [F15_0_it, F15_0_step]
    by_cases g : i < l.length
    · rw [bp (by omega), bp (by omega), bp (by omega), e0, nen (by rw [hp i g, hx]), wp (by omega), wp (by omega), e1]
      exact hdS_it h0 h1 hl hp f (i + 1) (x + 1) (by omega) (by omega) (by omega)
    · rw [bn (by omega)]
      have : i = l.length := by omega
      rw [hx, this]
theorem hdS {n : Nat} {x : Int} {l : List Int} (hn : 4000000 ≤ n) (h0 : 0 ≤ x) (h1 : x ≤ 2199023255552) (hl : l.length ≤ 1048576) (hp : ∀ j, j < l.length → l.getD j 0 = x + j) : F15 n x l = some (x + l.length, (l, ())) := by
  unfold F15 F15_0
  exact hdS_it (R := Int × (List Int × Unit)) (n := n) (k1 := fun z w => some (z, (w, ()))) h0 h1 hl hp n 0 x (by omega) (by omega) (by omega)
end Go.Proofs.Ytjfmfpnnjgfffaa.Am
