/- Classes: the two merges. -/
import Derived.Test.YtehcejlbfngfdaaAmClassB
namespace Go.Proofs.Ytehcejlbfngfdaa.Am
open Go
set_option autoImplicit false
set_option linter.unusedVariables false
set_option linter.unusedSimpArgs false

theorem tailI (l : List Int) : (l.take (((l.length) : Int).toNat)).drop 1 = l.tail := by
  rw [show ((l.length : Int)).toNat = l.length by omega, List.take_length, List.drop_one]
theorem hdI {n : Nat} {a l : List Int} (hn : 30000000 ≤ n) (ha : a ≠ []) (hl : l ≠ []) (hb : a.length ≤ 20000000) : F90 n a l = some (B (l.getD 0 0 ∈ a.tail), ((l, ()), ())) := by
  unfold F90
  have h1 : 1 ≤ a.length := List.length_pos_iff.2 ha
  have h2 : 1 ≤ l.length := List.length_pos_iff.2 hl
  rw [bp (by omega), bp (by omega), bp (by omega), tailI, icontI hn (by simp; omega)]
  simp only [ats]
theorem mem_getD {A : LL} {m : List Int} : m ∈ A ↔ ∃ j, j < A.length ∧ A.getD j [] = m := by
  constructor
  · intro hm
    obtain ⟨j, hj, e⟩ := List.getElem_of_mem hm
    exact ⟨j, hj, by rw [getD_lt hj]; exact e⟩
  · rintro ⟨j, h2, h3⟩
    rw [getD_lt h2] at h3; rw [← h3]; exact List.getElem_mem _
theorem fr_it {R : Type} {n : Nat} {A : LL} {l : List Int} {k0 : Int → LL → List Int → Option R} {k1 : LL → List Int → Option R} (hn : 30000000 ≤ n) (h : A.length ≤ 20000000) (hA : ∀ m ∈ A, m ≠ [] ∧ m.length ≤ 20000000) (hl : l ≠ []) : ∀ (fuel i : Nat), i ≤ A.length → A.length + 1 ≤ fuel + i →
    (∃ j : Nat, j < A.length ∧ i ≤ j ∧ l.getD 0 0 ∈ (A.getD j []).tail ∧ F96v1_0_it n k0 k1 fuel A.length i A l = k0 j A l) ∨ ((∀ q, i ≤ q → q < A.length → l.getD 0 0 ∉ (A.getD q []).tail) ∧ F96v1_0_it n k0 k1 fuel A.length i A l = k1 A l)
  | fuel, i, hi, hfl => by
    obtain ⟨f, rfl⟩ : ∃ f, fuel = f + 1 := ⟨fuel - 1, by omega⟩
    simp only [F96v1_0_it, F96v1_0_step]
    by_cases g : i < A.length
    · obtain ⟨m1, m2⟩ := hA (A.getD i []) (mem_getD.2 ⟨i, g, rfl⟩)
      rw [bp (by omega), bp (by omega), bp (by omega), show ((i : Nat) : Int).toNat = i by omega, wp (by omega), hdI hn m1 hl m2]
      simp only [ats]
      by_cases g2 : l.getD 0 0 ∈ (A.getD i []).tail
      · rw [B_t g2]; exact .inl ⟨i, g, Nat.le_refl _, g2, rfl⟩
      · rw [B_f g2, cf]
        rcases fr_it (n := n) (A := A) (k0 := k0) (k1 := k1) hn h hA hl f (i + 1) (by omega) (by omega) with ⟨j, j1, j2, j3, j5⟩ | ⟨j1, j2⟩
        · exact .inl ⟨j, j1, by omega, j3, j5⟩
        · refine .inr ⟨fun q h1 h2 => ?_, j2⟩
          by_cases e : i = q
          · subst e; exact g2
          · exact j1 q (by omega) h2
    · rw [bn (by omega)]; exact .inr ⟨fun q h1 h2 => by omega, rfl⟩
theorem freeI {n : Nat} {A : LL} {l : List Int} (hn : 30000000 ≤ n) (h : A.length ≤ 20000000) (hA : ∀ m ∈ A, m ≠ [] ∧ m.length ≤ 20000000) (hl : l ≠ []) : F89 n A l = some (B (¬ hf A (l.getD 0 0)), (A, ((l, ()), ()))) := by
  unfold F89 F96v1 F96v1_0
  rcases fr_it (n := n) (A := A) (l := l) (k0 := fun z485 z486 z487 => some (z485, (z486, ((z487, ()), ())))) (k1 := fun z488 z489 => some ((-1 : Int), (z488, ((z489, ()), ())))) hn h hA hl n 0 (by omega) (by omega) with ⟨j, j1, j2, j3, j5⟩ | ⟨j1, j2⟩
  · rw [show ((0 : Int)) = ((0 : Nat) : Int) from rfl, j5]
    simp only [ats]
    rw [B_t (fun hh => hh _ (mem_getD.2 ⟨j, j1, rfl⟩) j3), decide_eq_true (by omega)]
  · rw [show ((0 : Int)) = ((0 : Nat) : Int) from rfl, j2]
    simp only [ats]
    rw [B_f (fun hh => hh fun m hm => by obtain ⟨q, h1, h2⟩ := mem_getD.1 hm; rw [← h2]; exact j1 q (by omega) h1)]
    rfl
theorem nxI_it {R : Type} {n : Nat} {A : LL} {x : Int} {out : List Int} {k0 : Int → LL → List Int → Option R} (hn : 30000000 ≤ n) (h : A.length ≤ 20000000) (hA : ∀ m ∈ A, m ≠ [] ∧ m.length ≤ 20000000) : ∀ (fuel i : Nat), i ≤ A.length → A.length + 1 ≤ fuel + i →
    F73_0_it n k0 fuel x A.length i A out = k0 ((nx A (A.drop i)).getD x) A out
  | fuel, i, hi, hfl => by
    obtain ⟨f, rfl⟩ : ∃ f, fuel = f + 1 := ⟨fuel - 1, by omega⟩
    simp only [F73_0_it, F73_0_step]
    by_cases g : i < A.length
    · obtain ⟨m1, m2⟩ := hA (A.getD i []) (mem_getD.2 ⟨i, g, rfl⟩)
      rw [bp (by omega), bp (by omega), bp (by omega), show ((i : Nat) : Int).toNat = i by omega, wp (by omega), freeI hn h hA m1]
      simp only [ats]
      rw [drop_cons (d := []) g]
      by_cases g2 : hf A ((A.getD i []).getD 0 0)
      · rw [B_f (fun hh => hh g2)]
        have h1 : 1 ≤ (A.getD i []).length := List.length_pos_iff.2 m1
        simp only [Bool.not_false, ct]
        rw [bp (by omega), nx_hit m1 g2]; rfl
      · rw [B_t g2]
        simp only [Bool.not_true, cf]
        rw [show ((i : Int) + 1) = ((i + 1 : Nat) : Int) by omega, nxI_it (n := n) hn h hA f (i + 1) (by omega) (by omega), nx_miss g2]
    · rw [bn (by omega), List.drop_of_length_le (by omega)]; rfl
theorem advI_it {R : Type} {n : Nat} {x : Int} {out : List Int} {k0 : LL → List Int → Option R} : ∀ (fuel i : Nat) (A : LL), A.length ≤ 20000000 → (∀ m ∈ A.drop i, m ≠ []) → i ≤ A.length → A.length + 1 ≤ fuel + i →
    F73_3_it n k0 fuel x A.length i A out = k0 (A.take i ++ adv x (A.drop i)) out
  | fuel, i, A, h, hA, hi, hfl => by
    obtain ⟨f, rfl⟩ : ∃ f, fuel = f + 1 := ⟨fuel - 1, by omega⟩
    simp only [F73_3_it, F73_3_step, F73_2]
    by_cases g : i < A.length
    · rw [drop_cons (d := []) g] at hA
      have m1 := hA (A.getD i []) (by simp)
      have h1 : 1 ≤ (A.getD i []).length := List.length_pos_iff.2 m1
      rw [bp (by omega), bp (by omega), bp (by omega), show ((i : Nat) : Int).toNat = i by omega, bp (by omega), drop_cons (d := []) g]
      by_cases g2 : (A.getD i []).getD 0 0 = x
      · rw [eqp g2, bp (by omega), bp (by omega), bp (by omega), bp (by omega), wp (by omega), tailI]
        rw [show ((i : Int) + 1) = ((i + 1 : Nat) : Int) by omega]
        have := advI_it (n := n) (x := x) (out := out) (k0 := k0) f (i + 1) (A.set i (A.getD i []).tail) (by simpa using h) (by rw [take_set_lt g (by omega)]; exact fun m hm => hA m (by simp [hm])) (by simp; omega) (by simp; omega)
        rw [List.length_set] at this
        rw [this, take_set_succ g, take_set_lt g (by omega)]
        simp only [adv, List.map_cons, List.append_assoc, List.singleton_append]
        rw [show ad1 x (A.getD i []) = (A.getD i []).tail by unfold ad1; rw [if_pos ⟨m1, g2⟩]]
      · rw [eqn g2, wp (by omega)]
        rw [show ((i : Int) + 1) = ((i + 1 : Nat) : Int) by omega]
        have := advI_it (n := n) (x := x) (out := out) (k0 := k0) f (i + 1) A h (fun m hm => hA m (by simp [hm])) (by omega) (by omega)
        rw [this]
        have e : A.take (i + 1) = A.take i ++ [A.getD i []] := by rw [List.take_add_one, getD_lt g]; simp [g]
        rw [e]
        simp only [adv, List.map_cons, List.append_assoc, List.singleton_append]
        rw [show ad1 x (A.getD i []) = A.getD i [] by unfold ad1; rw [if_neg (fun hh => g2 hh.2)]]
    · rw [bn (by omega), List.drop_of_length_le (by omega), List.take_of_length_le (by omega)]; simp [adv]

def en {R : Type} (o : Option (List Int)) (k0 : Bool → List Int → Option R) (k1 : Bool → Option R) : Option R := match o with | some r => k0 true r | none => k1 false

theorem mgI {R : Type} {n : Nat} {k0 : Bool → List Int → Option R} {k1 : Bool → Option R} (hn : 30000000 ≤ n) : ∀ (k fuel : Nat) (A : LL) (out : List Int), tot A < k → k ≤ fuel → A.length ≤ 1000 → tot A + out.length ≤ 20000000 → NN A →
    F73_4_it n k0 k1 fuel A out = en (mg k A out) k0 k1
  | 0, _, _, _, h, _, _, _, _ => by omega
  | k + 1, fuel, A, out, h1, h2, h3, h4, h5 => by
    obtain ⟨f, rfl⟩ : ∃ f, fuel = f + 1 := ⟨fuel - 1, by omega⟩
    simp only [F73_4_it, F73_4_step]
    rw [delI hn (by omega)]
    simp only [ats]
    have hl := len_fil A
    have hb : ∀ m ∈ fil A, m ≠ [] ∧ m.length ≤ 20000000 := fun m hm => ⟨fil_ne m hm, by have := tot_mem (fil_mem.1 hm).1; omega⟩
    simp only [mg]
    split
    · rename_i he
      rw [he, eqp (by simp)]; rfl
    · rename_i a r he
      rw [eqn (by rw [he]; simp; omega)]
      unfold F73_1 F73_0
      have e0 := nxI_it (n := n) (A := fil A) (x := -1) (out := out) (k0 := fun z610 z611 z612 => (if (z610 < 0) then (k1 false) else
          if ((z612.length) + ((z610 :: []).length)) ≤ (68719476736 : Nat) then
          (F73_3 n z610 ((z611.length) : Int) (0 : Int) z611 (z612 ++ (z610 :: [])) (fun z645 z646 => (F73_4_it n k0 k1 f z645 z646))) else none)) hn (by omega) hb n 0 (by omega) (by omega)
      simp only [← Bool.cond_decide] at e0
      refine e0.trans ?_
      rw [List.drop_zero, nx_fil]
      cases hx : nx A A with
      | none => simp only [Option.getD_none]; rw [bp (by omega)]; rfl
      | some x =>
        have hx0 := nx_nn h5 hx
        simp only [Option.getD_some]
        rw [bn (by omega), bp (by simp; omega)]
        unfold F73_3
        rw [show ((0 : Int)) = ((0 : Nat) : Int) from rfl, advI_it (n := n) n 0 (fil A) (by omega) (by rw [List.drop_zero]; exact fil_ne) (by omega) (by omega)]
        rw [List.drop_zero, List.take_zero, List.nil_append]
        have ht : tot (adv x (fil A)) < tot A := by
          have := tot_adv (x := x) (A := fil A) (nx_some (A := fil A) (r := fil A) (by rw [nx_fil]; exact hx))
          rw [tot_fil] at this; exact this
        rw [mgI hn k f (adv x (fil A)) (out ++ [x]) (by omega) (by omega) (by rw [len_adv]; omega) (by simp; omega) (NN_adv x (NN_fil h5))]
        rw [← mg_fil k (adv x (fil A)), fil_adv, mg_fil]

def enR (o : Option (List Int)) : List Int × (Bool × Unit) := (o.getD [], (o.isSome, ()))
theorem mergeI {n : Nat} {A : LL} (hn : 30000000 ≤ n) (h1 : A.length ≤ 1000) (h2 : tot A ≤ 20000000) (h3 : NN A) : F73 n A = some (enR (mg (tot A + 1) A []), ((), ())) := by
  unfold F73 F73_4
  rw [mgI hn (tot A + 1) n A [] (by omega) (by omega) h1 (by simp; omega) h3]
  unfold en enR
  cases mg (tot A + 1) A [] <;> rfl

-- the reference's ----------------------------------------------------------------------------------------------------------------------------
theorem hfS_it {R : Type} {n : Nat} {A : LL} {c : Int} {k0 : Bool → Option R} {k1 : Option R} (hn : 30000000 ≤ n) (h : A.length ≤ 20000000) (hA : ∀ m ∈ A, m.length ≤ 20000000) : ∀ (fuel i : Nat), i ≤ A.length → A.length + 1 ≤ fuel + i →
    ((∃ q, i ≤ q ∧ q < A.length ∧ c ∈ (A.getD q []).tail) ∧ F97_0_it n k0 k1 fuel A c i = k0 false) ∨ ((∀ q, i ≤ q → q < A.length → c ∉ (A.getD q []).tail) ∧ F97_0_it n k0 k1 fuel A c i = k1)
  | fuel, i, hi, hfl => by
    obtain ⟨f, rfl⟩ : ∃ f, fuel = f + 1 := ⟨fuel - 1, by omega⟩
    simp only [F97_0_it, F97_0_step]
    by_cases g : i < A.length
    · have m2 := hA (A.getD i []) (mem_getD.2 ⟨i, g, rfl⟩)
      rw [bp (by omega), bp (by omega), bp (by omega), show ((i : Nat) : Int).toNat = i by omega]
      by_cases g1 : 1 < (A.getD i []).length
      · rw [bp (by omega), bp (by omega), bp (by omega), bp (by omega), bp (by omega), tailI, inlS hn (by rw [List.length_tail]; omega), wp (by omega)]
        simp only [ats]
        by_cases g2 : c ∈ (A.getD i []).tail
        · rw [B_t g2]; exact .inl ⟨⟨i, Nat.le_refl _, g, g2⟩, rfl⟩
        · rw [B_f g2, cf]
          rcases hfS_it (n := n) (A := A) (c := c) (k0 := k0) (k1 := k1) hn h hA f (i + 1) (by omega) (by omega) with ⟨⟨q, q1, q2, q3⟩, j2⟩ | ⟨j1, j2⟩
          · exact .inl ⟨⟨q, by omega, q2, q3⟩, j2⟩
          · refine .inr ⟨fun q h1 h2 => ?_, j2⟩
            by_cases e : i = q
            · subst e; exact g2
            · exact j1 q (by omega) h2
      · rw [bn (by omega), wp (by omega)]
        have g2 : c ∉ (A.getD i []).tail := by
          match hh : A.getD i [], g1 with
          | [], _ => simp
          | [a], _ => simp
          | a :: b :: r, g1 => simp at g1
        rcases hfS_it (n := n) (A := A) (c := c) (k0 := k0) (k1 := k1) hn h hA f (i + 1) (by omega) (by omega) with ⟨⟨q, q1, q2, q3⟩, j2⟩ | ⟨j1, j2⟩
        · exact .inl ⟨⟨q, by omega, q2, q3⟩, j2⟩
        · refine .inr ⟨fun q h1 h2 => ?_, j2⟩
          by_cases e : i = q
          · subst e; exact g2
          · exact j1 q (by omega) h2
    · rw [bn (by omega)]; exact .inr ⟨fun q h1 h2 => by omega, rfl⟩
theorem hfS {n : Nat} {A : LL} {c : Int} (hn : 30000000 ≤ n) (h : A.length ≤ 20000000) (hA : ∀ m ∈ A, m.length ≤ 20000000) : F97 n A c = some (B (hf A c), ()) := by
  unfold F97 F97_0
  rcases hfS_it (n := n) (A := A) (c := c) (k0 := fun z => some (z, ())) (k1 := some (true, ())) hn h hA n 0 (by omega) (by omega) with ⟨⟨q, q1, q2, q3⟩, j2⟩ | ⟨j1, j2⟩
  · rw [show ((0 : Int)) = ((0 : Nat) : Int) from rfl, j2, B_f (fun hh => hh _ (mem_getD.2 ⟨q, q2, rfl⟩) q3)]
  · rw [show ((0 : Int)) = ((0 : Nat) : Int) from rfl, j2, B_t (p := hf A c) (fun m hm => by obtain ⟨q, h1, h2⟩ := mem_getD.1 hm; rw [← h2]; exact j1 q (by omega) h1)]
theorem nxS_it {R : Type} {n : Nat} {A : LL} {out : List Int} {k0 : LL → Int → Bool → List Int → Option R} (hn : 30000000 ≤ n) (h : A.length ≤ 20000000) (hA : ∀ m ∈ A, m.length ≤ 20000000) (hN : NN A) : ∀ (fuel i : Nat) (x : Int) (b : Bool), i ≤ A.length → A.length + 1 ≤ fuel + i →
    F91_1_it n k0 fuel A x b i out = k0 A (if x < 0 then (nx A (A.drop i)).getD x else x) (b || decide (fil (A.drop i) ≠ [])) out
  | fuel, i, x, b, hi, hf0 => by
    obtain ⟨f, rfl⟩ : ∃ f, fuel = f + 1 := ⟨fuel - 1, by omega⟩
    simp only [F91_1_it, F91_1_step, F91_0]
    by_cases g : i < A.length
    · have hm := mem_getD.2 ⟨i, g, rfl⟩
      rw [bp (by omega), bp (by omega), bp (by omega), show ((i : Nat) : Int).toNat = i by omega]
      rw [drop_cons (d := []) g]
      have IH := fun x b => nxS_it (n := n) (A := A) (out := out) (k0 := k0) hn h hA hN f (i + 1) x b (by omega) (by omega)
      rw [wp (by omega), show ((i : Int) + 1) = ((i + 1 : Nat) : Int) by omega]
      by_cases g1 : A.getD i [] = []
      · rw [bn (by rw [g1]; simp), IH, g1, fil_cons_nil, nx_skip]
      · have h1 : 1 ≤ (A.getD i []).length := List.length_pos_iff.2 g1
        rw [bp (by omega), fil_cons g1]
        have hd : decide (A.getD i [] :: fil (A.drop (i + 1)) ≠ []) = true := by simp
        rw [hd, Bool.or_true]
        by_cases g2 : x < 0
        · rw [bp g2, bp (by omega), bp (by omega), bp (by omega), hfS hn h hA, if_pos g2]
          simp only [ats]
          by_cases g3 : hf A ((A.getD i []).getD 0 0)
          · rw [B_t g3, ct, bp (by omega), bp (by omega), bp (by omega), IH, nx_hit g1 g3]
            have h0 : 0 ≤ (A.getD i []).getD 0 0 := by rw [getD_lt (by omega)]; exact hN _ hm _ (List.getElem_mem _)
            rw [if_neg (by omega)]; simp
          · rw [B_f g3, cf, IH, nx_miss g3, if_pos g2]; simp
        · rw [bn g2, IH, if_neg g2, if_neg g2]; simp
    · rw [bn (by omega), List.drop_of_length_le (by omega)]; simp [nx, fil]
theorem advS_it {R : Type} {n : Nat} {A : LL} {x : Int} {out : List Int} {k0 : List Int → LL → Option R} (h : A.length ≤ 20000000) : ∀ (fuel i : Nat) (acc : LL), i ≤ A.length → A.length + 1 ≤ fuel + i → acc.length ≤ i →
    F91_3_it n k0 fuel A x i out acc = k0 out (acc ++ adv x (A.drop i))
  | fuel, i, acc, hi, hf0, ha => by
    obtain ⟨f, rfl⟩ : ∃ f, fuel = f + 1 := ⟨fuel - 1, by omega⟩
    simp only [F91_3_it, F91_3_step, F91_2]
    by_cases g : i < A.length
    · rw [bp (by omega), bp (by omega), bp (by omega), show ((i : Nat) : Int).toNat = i by omega]
      rw [drop_cons (d := []) g]
      have IH := fun acc ha => advS_it (n := n) (A := A) (x := x) (out := out) (k0 := k0) h f (i + 1) acc (by omega) (by omega) ha
      rw [wp (by omega), show ((i : Int) + 1) = ((i + 1 : Nat) : Int) by omega]
      simp only [adv, List.map_cons]
      by_cases g1 : A.getD i [] = []
      · rw [bn (by rw [g1]; simp), bp (by omega), bp (by omega), bp (by simp; omega), IH _ (by simp; omega)]
        rw [show ad1 x (A.getD i []) = A.getD i [] by unfold ad1; rw [if_neg (fun hh => hh.1 g1)]]
        simp [adv]
      · have h1 : 1 ≤ (A.getD i []).length := List.length_pos_iff.2 g1
        rw [bp (by omega), bp (by omega), bp (by omega), bp (by omega)]
        by_cases g2 : (A.getD i []).getD 0 0 = x
        · rw [eqp g2, bp (by omega), bp (by omega), bp (by omega), bp (by omega), bp (by simp; omega), IH _ (by simp; omega), tailI]
          rw [show ad1 x (A.getD i []) = (A.getD i []).tail by unfold ad1; rw [if_pos ⟨g1, g2⟩]]
          simp [adv]
        · rw [eqn g2, bp (by omega), bp (by omega), bp (by simp; omega), IH _ (by simp; omega)]
          rw [show ad1 x (A.getD i []) = A.getD i [] by unfold ad1; rw [if_neg (fun hh => g2 hh.2)]]
          simp [adv]
    · rw [bn (by omega), List.drop_of_length_le (by omega)]; simp [adv]
theorem mgS {R : Type} {n : Nat} {k0 : Bool → List Int → Option R} {k1 : Bool → Option R} (hn : 30000000 ≤ n) : ∀ (k fuel : Nat) (A : LL) (out : List Int), tot A < k → k ≤ fuel → A.length ≤ 1000 → tot A + out.length ≤ 20000000 → NN A →
    F91_4_it n k0 k1 fuel A out = en (mg k A out) k0 k1
  | 0, _, _, _, h, _, _, _, _ => by omega
  | k + 1, fuel, A, out, h1, h2, h3, h4, h5 => by
    obtain ⟨f, rfl⟩ : ∃ f, fuel = f + 1 := ⟨fuel - 1, by omega⟩
    simp only [F91_4_it, F91_4_step, F91_1]
    have hb : ∀ m ∈ A, m.length ≤ 20000000 := fun m hm => by have := tot_mem hm; omega
    rw [show ((0 : Int)) = ((0 : Nat) : Int) from rfl, nxS_it (n := n) hn (by omega) hb h5 n 0 (-1) false (by omega) (by omega)]
    rw [List.drop_zero, if_pos (by omega)]
    simp only [mg]
    split
    · rename_i he
      rw [he]; rfl
    · rename_i a r he
      rw [he]
      have e1 : (false || decide (a :: r ≠ [])) = true := by simp
      rw [e1]
      simp only [Bool.not_true, cf]
      cases hx : nx A A with
      | none => simp only [Option.getD_none]; rw [bp (by omega)]; rfl
      | some x =>
        have hx0 := nx_nn h5 hx
        simp only [Option.getD_some]
        rw [bn (by omega), bp (by simp; omega)]
        unfold F91_3
        rw [advS_it (n := n) (by omega) n 0 [] (by omega) (by omega) (by simp)]
        rw [List.drop_zero, List.nil_append]
        have ht : tot (adv x A) < tot A := tot_adv (nx_some hx)
        rw [mgS hn k f (adv x A) (out ++ [x]) (by omega) (by omega) (by rw [len_adv]; omega) (by simp; omega) (NN_adv x h5)]
theorem mergeS {n : Nat} {A : LL} (hn : 30000000 ≤ n) (h1 : A.length ≤ 1000) (h2 : tot A ≤ 20000000) (h3 : NN A) : F91 n A = some (enR (mg (tot A + 1) A []), ()) := by
  unfold F91 F91_4
  rw [mgS hn (tot A + 1) n A [] (by omega) (by omega) h1 (by simp; omega) h3]
  unfold en enR
  cases mg (tot A + 1) A [] <;> rfl
end Go.Proofs.Ytehcejlbfngfdaa.Am
