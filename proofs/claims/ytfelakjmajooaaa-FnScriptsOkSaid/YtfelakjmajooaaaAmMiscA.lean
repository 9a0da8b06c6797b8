/- Scripts. -/
import Derived.Test.YtfelakjmajooaaaAmMiscF
import Derived.Test.YtfelakjmajooaaaAmPl
namespace Go.Proofs.Ytfelakjmajooaaa.Am
open Go
set_option autoImplicit false
set_option linter.unusedVariables false
set_option linter.unusedSimpArgs false

noncomputable def B (p : Prop) : Bool := @decide p (Classical.propDecidable p)
theorem B_t {p : Prop} (h : p) : B p = true := @decide_eq_true p (Classical.propDecidable p) h
theorem B_f {p : Prop} (h : ¬ p) : B p = false := @decide_eq_false p (Classical.propDecidable p) h
theorem B_iff {p : Prop} : B p = true ↔ p := by
  by_cases h : p
  · exact ⟨fun _ => h, fun _ => B_t h⟩
  · exact ⟨fun e => (by rw [B_f h] at e; cases e), fun e => absurd e h⟩
theorem B_congr {p q : Prop} (h : p ↔ q) : B p = B q := by rw [propext h]
theorem dB {p : Prop} [Decidable p] : decide p = B p := by
  by_cases h : p
  · rw [decide_eq_true h, B_t h]
  · rw [decide_eq_false h, B_f h]
theorem keq (a b : ByteArray) : (a.toList == b.toList) = decide (a = b) := by
  by_cases h : a = b
  · subst h; simp
  · rw [decide_eq_false h, beq_eq_false_iff_ne]
    exact fun e => h (toList_inj e)
theorem all_step {p : Nat → Prop} {i len : Nat} (h : i < len) : (∀ j, i ≤ j → j < len → p j) ↔ (p i ∧ ∀ j, i + 1 ≤ j → j < len → p j) := by
  constructor
  · intro g; exact ⟨g i (Nat.le_refl _) h, fun j h1 h2 => g j (by omega) h2⟩
  · rintro ⟨g1, g2⟩ j h1 h2
    by_cases e : i = j
    · subst e; exact g1
    · exact g2 j (by omega) h2

theorem drop_cons {α : Type} {l : List α} {i : Nat} {d : α} (h : i < l.length) : l.drop i = l.getD i d :: l.drop (i + 1) := by
  rw [getD_lt h]; exact List.drop_eq_getElem_cons h
theorem gmem {α : Type} {A : List α} {m d : α} : m ∈ A ↔ ∃ j, j < A.length ∧ A.getD j d = m := by
  constructor
  · intro hm
    obtain ⟨j, hj, e⟩ := List.getElem_of_mem hm
    exact ⟨j, hj, by rw [getD_lt hj]; exact e⟩
  · rintro ⟨j, h2, h3⟩
    rw [getD_lt h2] at h3; rw [← h3]; exact List.getElem_mem _
theorem cB {α : Type} {p : Prop} {a b : α} (h : p) : (bif B p then a else b) = a := by rw [B_t h]; rfl
theorem cBn {α : Type} {p : Prop} {a b : α} (h : ¬ p) : (bif B p then a else b) = b := by rw [B_f h]; rfl
theorem nB {α : Type} {p : Prop} {a b : α} (h : ¬ p) : (bif !(B p) then a else b) = a := by rw [B_f h]; rfl
theorem nBn {α : Type} {p : Prop} {a b : α} (h : p) : (bif !(B p) then a else b) = b := by rw [B_t h]; rfl
theorem withI {n : Nat} {v a b : Int} : F44 n v a b = some (decide (a ≤ v ∧ v ≤ b), ()) := by
  unfold F44
  by_cases h : v ≥ a
  · rw [bp h]
    by_cases h2 : v ≤ b
    · rw [decide_eq_true h2, decide_eq_true ⟨h, h2⟩]
    · rw [decide_eq_false h2, decide_eq_false (fun hh => h2 hh.2)]
  · rw [bn h, decide_eq_false (fun hh => h hh.1)]
theorem rangeS {n : Nat} {v a b : Int} : F51 n v a b = some (decide (a ≤ v ∧ v ≤ b), ()) := by
  unfold F51
  by_cases h : v ≥ a
  · rw [bp h]
    by_cases h2 : v ≤ b
    · rw [decide_eq_true h2, decide_eq_true ⟨h, h2⟩]
    · rw [decide_eq_false h2, decide_eq_false (fun hh => h2 hh.2)]
  · rw [bn h, decide_eq_false (fun hh => h hh.1)]

abbrev dA : Act := Act.mk (0 : Int) (0 : Int)
abbrev LA : Type := List (List Act)
/-- the greatest number of an act -/
def hi (k : Int) (m : Int) : Int := if k = 1 ∨ k = 7 then 1000000 else if k = 2 then 20 else if k = 3 then m - 1 else 7
def aok (m : Nat) (a : Act) : Prop := (1 ≤ a.kind ∧ a.kind ≤ 7) ∧ (0 ≤ a.num ∧ a.num ≤ hi a.kind m)
def sok (m : Nat) (s : List Act) : Prop := s.length ≤ 8 ∧ ∀ j, 0 ≤ j → j < s.length → aok m (s.getD j dA)
def SOK (L : LA) : Prop := (1 ≤ L.length ∧ L.length ≤ 4) ∧ ∀ j, 0 ≤ j → j < L.length → sok L.length (L.getD j [])

open Classical in
theorem actI {R : Type} {n : Nat} {L : LA} {N j : Int} {s : List Act} {l : Int} {i : Nat} {k0 : Bool → Option R} {k1 : LA → LA → Int → Int → List Act → Int → Int → Option R} (hL : L.length ≤ 1000) (h : i < s.length) :
    F22_3 n L L N j s l i k0 k1 = if aok L.length (s.getD i dA) then k1 L L N j s l i else k0 false := by
  unfold F22_3 F22_2
  rw [bp (by omega), bp (by omega), show ((i : Nat) : Int).toNat = i by omega]
  generalize ha : s.getD i dA = a
  obtain ⟨k, v⟩ := a
  dsimp only
  have fin : ∀ (m : Int) (ok : (0 ≤ v ∧ v ≤ m) ↔ aok L.length (Act.mk k v)), (andThen (F44 n v 0 m) fun r302 => (bif (!r302.1) then (k0 false) else (k1 L L N j s l i))) = if aok L.length (Act.mk k v) then k1 L L N j s l i else k0 false := by
    intro m ok
    rw [withI]; simp only [ats]
    by_cases g : 0 ≤ v ∧ v ≤ m
    · rw [nn g, if_pos (ok.1 g)]
    · rw [np g, if_neg (fun hh => g (ok.2 hh))]
  unfold F22_0 F22_1
  by_cases c1 : k = 1
  · subst c1; rw [eqp rfl]; dsimp only; rw [ct]; exact fin _ (by simp [aok, hi])
  rw [eqn c1]
  dsimp only
  by_cases c7 : k = 7
  · subst c7; exact fin _ (by simp [aok, hi])
  rw [beq_eq_false_iff_ne.2 c7, cf]
  by_cases c2 : k = 2
  · subst c2; rw [eqp rfl]; exact fin _ (by simp [aok, hi])
  rw [eqn c2]
  by_cases c3 : k = 3
  · subst c3; rw [eqp rfl, wp (by omega)]; exact fin _ (by simp [aok, hi])
  rw [eqn c3]
  by_cases c4 : k = 4
  · subst c4; rw [eqp rfl]; rw [ct]; exact fin _ (by simp [aok, hi])
  rw [eqn c4]
  by_cases c5 : k = 5
  · subst c5; rw [eqp rfl]; rw [ct]; exact fin _ (by simp [aok, hi])
  rw [eqn c5]
  by_cases c6 : k = 6
  · subst c6; exact fin _ (by simp [aok, hi])
  rw [beq_eq_false_iff_ne.2 c6, cf]
  exact fin _ (by simp only [aok]; constructor <;> intro h <;> omega)
open Classical in
theorem actS {R : Type} {n : Nat} {L : LA} {c i : Nat} {k0 : Bool → Option R} {k1 : LA → Int → Int → Option R} (hL : L.length ≤ 1000) (hc : c < L.length) (h : i < (L.getD c []).length) :
    F45_2 n L c i k0 k1 = if aok L.length ((L.getD c []).getD i dA) then k1 L c i else k0 false := by
  unfold F45_2 F45_1
  rw [bp (by omega), bp (by omega), show ((c : Nat) : Int).toNat = c by omega]
  dsimp only
  rw [bp (by omega), bp (by omega), show ((i : Nat) : Int).toNat = i by omega]
  generalize ha : (L.getD c []).getD i dA = a
  obtain ⟨k, v⟩ := a
  dsimp only
  have fin : ∀ (m : Int) (ok : ((1 ≤ k ∧ k ≤ 7) ∧ (0 ≤ v ∧ v ≤ m)) ↔ aok L.length (Act.mk k v)), (andThen (F51 n k 1 7) fun r380 => (bif (!r380.1) then (k0 false) else (andThen (F51 n v 0 m) fun r302 => (bif (!r302.1) then (k0 false) else (k1 L c i))))) = if aok L.length (Act.mk k v) then k1 L c i else k0 false := by
    intro m ok
    rw [rangeS]; simp only [ats]
    by_cases g0 : 1 ≤ k ∧ k ≤ 7
    · rw [nn g0, rangeS]; simp only [ats]
      by_cases g : 0 ≤ v ∧ v ≤ m
      · rw [nn g, if_pos (ok.1 ⟨g0, g⟩)]
      · rw [np g, if_neg (fun hh => g (ok.2 hh).2)]
    · rw [np g0, if_neg (fun hh => g0 (ok.2 hh).1)]
  unfold F45_0
  by_cases c3 : k = 3
  · subst c3; rw [eqp rfl, wp (by omega)]; exact fin _ (by simp [aok, hi])
  rw [eqn c3]
  by_cases c2 : k = 2
  · subst c2; rw [eqp rfl]; exact fin _ (by simp [aok, hi])
  rw [eqn c2]
  by_cases c4 : k = 4
  · subst c4; rw [eqp rfl]; dsimp only; rw [ct]; exact fin _ (by simp [aok, hi])
  rw [eqn c4]
  by_cases c6 : k = 6
  · subst c6; rw [eqp rfl]; dsimp only; rw [ct]; exact fin _ (by simp [aok, hi])
  rw [eqn c6]
  dsimp only
  by_cases c5 : k = 5
  · subst c5; exact fin _ (by simp [aok, hi])
  rw [beq_eq_false_iff_ne.2 c5, cf]
  refine fin _ ?_
  simp only [aok, hi]
  by_cases c1 : k = 1 ∨ k = 7
  · rw [if_pos c1]
  · constructor <;> intro h <;> omega
open Classical in
theorem sokI_it {R : Type} {n : Nat} {L : LA} {N j : Int} {s : List Act} {k0 : Bool → Option R} {k1 : LA → LA → Int → Int → Option R} (hL : L.length ≤ 1000) (hs : s.length ≤ 1000) : ∀ (fuel i : Nat), i ≤ s.length → s.length + 1 ≤ fuel + i →
    F22_4_it n k0 k1 fuel L L N j s s.length i = if ∀ q, i ≤ q → q < s.length → aok L.length (s.getD q dA) then k1 L L N j else k0 false
  | fuel, i, hi, hfl => by
    obtain ⟨f, rfl⟩ : ∃ f, fuel = f + 1 := ⟨fuel - 1, by omega⟩
    simp only [F22_4_it, F22_4_step]
    by_cases g : i < s.length
    · rw [bp (by omega), actI hL g, propext (all_step g)]
      by_cases g1 : aok L.length (s.getD i dA)
      · rw [if_pos g1, wp (by omega), show ((i : Int) + 1) = ((i + 1 : Nat) : Int) by omega, sokI_it (k0 := k0) (k1 := k1) hL hs f (i + 1) (by omega) (by omega)]
        by_cases ga : ∀ q, i + 1 ≤ q → q < s.length → aok L.length (s.getD q dA)
        · rw [if_pos ga, if_pos ⟨g1, ga⟩]
        · rw [if_neg ga, if_neg (fun hh => ga hh.2)]
      · rw [if_neg g1, if_neg (fun hh => g1 hh.1)]
    · rw [bn (by omega), if_pos (fun q h1 h2 => by omega)]
open Classical in
theorem SOKI_it {R : Type} {n : Nat} {L : LA} {k0 : Bool → Option R} {k1 : Option R} (hn : 100000 ≤ n) (hL : L.length ≤ 1000) : ∀ (fuel i : Nat), i ≤ L.length → L.length + 1 ≤ fuel + i →
    F22_5_it n k0 k1 fuel L L L.length i = if ∀ q, i ≤ q → q < L.length → sok L.length (L.getD q []) then k1 else k0 false
  | fuel, i, hi, hfl => by
    obtain ⟨f, rfl⟩ : ∃ f, fuel = f + 1 := ⟨fuel - 1, by omega⟩
    simp only [F22_5_it, F22_5_step]
    by_cases g : i < L.length
    · rw [bp (by omega), bp (by omega), bp (by omega), show ((i : Nat) : Int).toNat = i by omega, propext (all_step g)]
      by_cases g8 : (L.getD i []).length ≤ 8
      · rw [bn (by omega)]
        unfold F22_4
        have e := sokI_it (n := n) (L := L) (N := L.length) (j := i) (s := L.getD i []) (k0 := fun z313 => k0 z313) (k1 := fun z314 z315 z316 z317 => F22_5_it n k0 k1 f z314 z315 z316 (IntKind.wrap .i64 (z317 + (1 : Int)))) hL (by omega) n 0 (by omega) (by omega)
        rw [Int.natCast_zero] at e
        rw [e]
        by_cases g1 : ∀ q, 0 ≤ q → q < (L.getD i []).length → aok L.length ((L.getD i []).getD q dA)
        · rw [if_pos g1, wp (by omega), show ((i : Int) + 1) = ((i + 1 : Nat) : Int) by omega, SOKI_it (k0 := k0) (k1 := k1) hn hL f (i + 1) (by omega) (by omega)]
          by_cases ga : ∀ q, i + 1 ≤ q → q < L.length → sok L.length (L.getD q [])
          · rw [if_pos ga, if_pos ⟨⟨g8, g1⟩, ga⟩]
          · rw [if_neg ga, if_neg (fun hh => ga hh.2)]
        · rw [if_neg g1, if_neg (fun hh => g1 hh.1.2)]
      · rw [bp (by omega), if_neg (fun hh => g8 hh.1.1)]
    · rw [bn (by omega), if_pos (fun q h1 h2 => by omega)]
theorem SOKI {n : Nat} {L : LA} (hn : 100000 ≤ n) (hL : L.length ≤ 1000) : F22 n L = some (B (SOK L), ()) := by
  unfold F22 F22_5
  rw [withI]; simp only [ats]
  by_cases h : (1 : Int) ≤ L.length ∧ (L.length : Int) ≤ 4
  · rw [nn h]
    have e := SOKI_it (n := n) (L := L) (k0 := fun z319 => some (z319, ())) (k1 := some (true, ())) hn hL n 0 (by omega) (by omega)
    rw [Int.natCast_zero] at e
    rw [e]
    split
    · rename_i g; rw [B_t (p := SOK L) ⟨⟨by omega, by omega⟩, g⟩]
    · rename_i g; rw [B_f (p := SOK L) (fun hh => g hh.2)]
  · rw [np h, B_f (p := SOK L) (fun hh => h ⟨by have := hh.1.1; omega, by have := hh.1.2; omega⟩)]
open Classical in
theorem sokS_it {R : Type} {n : Nat} {L : LA} {c : Nat} {k0 : Bool → Option R} {k1 : LA → Int → Option R} (hL : L.length ≤ 1000) (hc : c < L.length) (hs : (L.getD c []).length ≤ 1000) : ∀ (fuel i : Nat), i ≤ (L.getD c []).length → (L.getD c []).length + 1 ≤ fuel + i →
    F45_3_it n k0 k1 fuel L c i = if ∀ q, i ≤ q → q < (L.getD c []).length → aok L.length ((L.getD c []).getD q dA) then k1 L c else k0 false
  | fuel, i, hi, hfl => by
    obtain ⟨f, rfl⟩ : ∃ f, fuel = f + 1 := ⟨fuel - 1, by omega⟩
    simp only [F45_3_it, F45_3_step]
    rw [bp (by omega), bp (by omega), show ((c : Nat) : Int).toNat = c by omega]
    by_cases g : i < (L.getD c []).length
    · rw [bp (by omega), actS hL hc g, propext (all_step g)]
      by_cases g1 : aok L.length ((L.getD c []).getD i dA)
      · rw [if_pos g1, wp (by omega), show ((i : Int) + 1) = ((i + 1 : Nat) : Int) by omega, sokS_it (k0 := k0) (k1 := k1) hL hc hs f (i + 1) (by omega) (by omega)]
        by_cases ga : ∀ q, i + 1 ≤ q → q < (L.getD c []).length → aok L.length ((L.getD c []).getD q dA)
        · rw [if_pos ga, if_pos ⟨g1, ga⟩]
        · rw [if_neg ga, if_neg (fun hh => ga hh.2)]
      · rw [if_neg g1, if_neg (fun hh => g1 hh.1)]
    · rw [bn (by omega), if_pos (fun q h1 h2 => by omega)]
open Classical in
theorem SOKS_it {R : Type} {n : Nat} {L : LA} {k0 : Bool → Option R} {k1 : LA → Option R} (hn : 100000 ≤ n) (hL : L.length ≤ 1000) (hs : ∀ s ∈ L, s.length ≤ 1000) : ∀ (fuel i : Nat), i ≤ L.length → L.length + 1 ≤ fuel + i →
    F45_4_it n k0 k1 fuel L i = if ∀ q, i ≤ q → q < L.length → sok L.length (L.getD q []) then k1 L else k0 false
  | fuel, i, hi, hfl => by
    obtain ⟨f, rfl⟩ : ∃ f, fuel = f + 1 := ⟨fuel - 1, by omega⟩
    simp only [F45_4_it, F45_4_step]
    by_cases g : i < L.length
    · have hsi := hs _ ((gmem (d := [])).2 ⟨i, g, rfl⟩)
      rw [bp (by omega), propext (all_step g)]
      unfold F45_3
      have e := sokS_it (n := n) (L := L) (c := i) (k0 := fun z389 => k0 z389) (k1 := fun z390 z391 =>
        (bif (decide ((0 : Int) ≤ z391)) then
        (bif (decide (z391 < ((z390.length) : Int))) then
        (bif (decide ((((z390.getD (z391.toNat) []).length) : Int) > (8 : Int))) then
        (k0 false)
        else (F45_4_it n k0 k1 f z390 (IntKind.wrap .i64 (z391 + (1 : Int)))))
        else none)
        else none)) hL g hsi n 0 (by omega) (by omega)
      rw [Int.natCast_zero] at e
      rw [e]
      by_cases g1 : ∀ q, 0 ≤ q → q < (L.getD i []).length → aok L.length ((L.getD i []).getD q dA)
      · rw [if_pos g1, bp (by omega), bp (by omega), show ((i : Nat) : Int).toNat = i by omega]
        by_cases g8 : (L.getD i []).length ≤ 8
        · rw [bn (by omega), wp (by omega), show ((i : Int) + 1) = ((i + 1 : Nat) : Int) by omega, SOKS_it (k0 := k0) (k1 := k1) hn hL hs f (i + 1) (by omega) (by omega)]
          by_cases ga : ∀ q, i + 1 ≤ q → q < L.length → sok L.length (L.getD q [])
          · rw [if_pos ga, if_pos ⟨⟨g8, g1⟩, ga⟩]
          · rw [if_neg ga, if_neg (fun hh => ga hh.2)]
        · rw [bp (by omega), if_neg (fun hh => g8 hh.1.1)]
      · rw [if_neg g1, if_neg (fun hh => g1 hh.1.2)]
    · rw [bn (by omega), if_pos (fun q h1 h2 => by omega)]
theorem SOKS {n : Nat} {L : LA} (hn : 100000 ≤ n) (hL : L.length ≤ 1000) (hs : ∀ s ∈ L, s.length ≤ 1000) : F23 n L = some (B (SOK L), ()) := by
  unfold F23 F45 F45_4
  have e := SOKS_it (n := n) (L := L) (k0 := fun z397 => some (z397, ())) (k1 := fun z398 => (andThen (F51 n ((z398.length) : Int) (1 : Int) (4 : Int)) fun r400 => some (r400.1, ()))) hn hL hs n 0 (by omega) (by omega)
  rw [Int.natCast_zero] at e
  rw [e]
  split
  · rename_i g
    rw [rangeS]; simp only [ats]
    by_cases h : (1 : Int) ≤ L.length ∧ (L.length : Int) ≤ 4
    · rw [decide_eq_true h, B_t (p := SOK L) ⟨⟨by omega, by omega⟩, g⟩]
    · rw [decide_eq_false h, B_f (p := SOK L) (fun hh => h ⟨by have := hh.1.1; omega, by have := hh.1.2; omega⟩)]
  · rename_i g; simp only [ats]; rw [B_f (p := SOK L) (fun hh => g hh.2)]
-- the loop at its beginning ----------------------------------------------------------------------------------------------------------------
theorem tasks1 {n : Nat} (hn : 100000 ≤ n) {t : Tsk} : F46 n [t] [t] = some (true, ()) := by
  obtain ⟨m, rfl⟩ : ∃ m, n = m + 2 := ⟨n - 2, by omega⟩
  unfold F46 F46_0
  simp only [F46_0_it, F46_0_step]
  simp [IntKind.wrap, IntKind.signed, IntKind.bits]
theorem nums1 {n : Nat} (hn : 100000 ≤ n) : F47 n [0] [0] = some (true, ()) := by
  obtain ⟨m, rfl⟩ : ∃ m, n = m + 2 := ⟨n - 2, by omega⟩
  unfold F47 F47_0
  simp only [F47_0_it, F47_0_step]
  simp [IntKind.wrap, IntKind.signed, IntKind.bits]
theorem said0 {n : Nat} (hn : 100000 ≤ n) : F48 n [] [] = some (true, ()) := by
  obtain ⟨m, rfl⟩ : ∃ m, n = m + 2 := ⟨n - 2, by omega⟩
  unfold F48 F48_0
  simp only [F48_0_it, F48_0_step]
  simp
theorem run0 {n : Nat} {L : LA} (hn : 100000 ≤ n) (hL : L.length ≤ 1000) (h : SOK L) : F25 n L 0 = F26 n := by
  obtain ⟨m, rfl⟩ : ∃ m, n = m + 2 := ⟨n - 2, by omega⟩
  unfold F25
  rw [SOKI hn hL, B_t h]; simp only [ats, Bool.not_true, cf]
  rw [withI]; simp only [ats]
  rw [nn (by omega)]
  rfl
end Go.Proofs.Ytfelakjmajooaaa.Am
