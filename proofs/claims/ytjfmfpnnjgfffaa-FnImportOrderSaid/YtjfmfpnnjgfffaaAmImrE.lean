/- Importers, plainly: what they compute. -/
import Derived.Test.YtjfmfpnnjgfffaaAmImrD
namespace Go.Proofs.Ytjfmfpnnjgfffaa.Am
open Go
set_option autoImplicit false
set_option linter.unusedVariables false
set_option linter.unusedSimpArgs false
set_option maxRecDepth 10000

-- decimals --------------------------------------------------------------------------------------------------------------------------------------
noncomputable def dg (x : Int) : ByteArray := bytesOfInts [48 + x]
noncomputable def decK : Nat → Int → ByteArray
  | 0, x => dg x
  | k + 1, x => if x < 10 then dg x else decK k (x / 10) ++ dg (x % 10)
noncomputable def dec (x : Int) : ByteArray := decK 6 x
theorem dg_size (x : Int) : (dg x).size = 1 := rfl
theorem dg_eq {x : Int} (h0 : 0 ≤ x) (h1 : x < 10) : (bytesOfInts (List.map (fun y => y) ((IntKind.wrap .u8 (IntKind.wrap .i64 ((48 : Int) + x))) :: []))) = dg x := by
  rw [wp (by omega), wu (by omega)]; rfl
theorem decK_size : ∀ (k : Nat) (x : Int), (decK k x).size ≤ k + 1
  | 0, x => by simp only [decK]; exact Nat.le_refl _
  | k + 1, x => by
    simp only [decK]
    split
    · rw [dg_size]; omega
    · rw [ByteArray.size_append, dg_size]
      have := decK_size k (x / 10)
      omega
theorem decK_low : ∀ {k : Nat} {x : Int}, x < 10 → decK k x = dg x
  | 0, x, _ => rfl
  | k + 1, x, h => by simp only [decK, if_pos h]
theorem dec_it {n : Nat} : ∀ (k f : Nat) (x : Int), 0 ≤ x → x < 10 ^ (k + 1) → k < f → k ≤ 6 → (Q71it n f).1 x = some (decK k x, ())
  | k, f, x, h0, h1, hf, hk => by
    obtain ⟨f, rfl⟩ : ∃ g, f = g + 1 := ⟨f - 1, by omega⟩
    show F71b n (Q71it n f) x = _
    have hp : (10 : Int) ^ (k + 1) ≤ 10 ^ 7 := by
      have h : k = 0 ∨ k = 1 ∨ k = 2 ∨ k = 3 ∨ k = 4 ∨ k = 5 ∨ k = 6 := by omega
      rcases h with rfl | rfl | rfl | rfl | rfl | rfl | rfl <;> decide
    have hx : x < 10000000 := Int.lt_of_lt_of_le h1 (by simpa using hp)
    unfold F71b
    rw [bn (by omega)]
    by_cases h : x < 10
    · rw [bp h, dg_eq h0 h, decK_low h]
    · rw [bn h, td h0, tm h0, wp (by omega)]
      obtain ⟨j, rfl⟩ : ∃ j, k = j + 1 := by
        cases k with
        | zero => exact absurd h1 (by simpa using h)
        | succ j => exact ⟨j, rfl⟩
      rw [dec_it j f (x / 10) (by omega) (by rw [Int.pow_succ] at h1; omega) (by omega) (by omega)]
      simp only [ats]
      rw [dec_it j f (x % 10) (by omega) (by
        have : (10 : Int) ≤ 10 ^ (j + 1) := by
          have h : j = 0 ∨ j = 1 ∨ j = 2 ∨ j = 3 ∨ j = 4 ∨ j = 5 := by omega
          rcases h with rfl | rfl | rfl | rfl | rfl | rfl <;> decide
        omega) (by omega) (by omega)]
      simp only [ats]
      rw [decK_low (k := j) (x := x % 10) (by omega)]
      have := decK_size j (x / 10)
      rw [bp (by rw [dg_size]; omega)]
      simp only [decK, if_neg h]
theorem decI {n : Nat} (hn : 100 ≤ n) {x : Int} (h0 : 0 ≤ x) (h1 : x ≤ 1000000) : F71 n x = some (dec x, ()) :=
  dec_it 6 n x h0 (by have h10 : (10 : Int) ^ (6 + 1) = 10000000 := rfl; omega) (by omega) (by omega)
theorem positive_it {R : Type} {n : Nat} {k0 : ByteArray → Option R} : ∀ (k f : Nat) (x : Int) (t : ByteArray), 0 ≤ x → x < 10 ^ (k + 1) → k < f → k ≤ 6 → t.size + k ≤ 100 → F82_1_it n k0 f x t = k0 (decK k x ++ t)
  | k, f, x, t, h0, h1, hf, hk, ht => by
    obtain ⟨f, rfl⟩ : ∃ g, f = g + 1 := ⟨f - 1, by omega⟩
    have hp : (10 : Int) ^ (k + 1) ≤ 10 ^ 7 := by
      have h : k = 0 ∨ k = 1 ∨ k = 2 ∨ k = 3 ∨ k = 4 ∨ k = 5 ∨ k = 6 := by omega
      rcases h with rfl | rfl | rfl | rfl | rfl | rfl | rfl <;> decide
    have hx : x < 10000000 := Int.lt_of_lt_of_le h1 (by simpa using hp)
    simp only [F82_1_it, F82_1_step]
    unfold F82_0
    rw [tm h0, bn (by omega)]
    simp only []
    rw [td h0, dg_eq (by omega) (by omega)]
    rw [bp (by rw [dg_size]; omega), wp (by omega)]
    by_cases h : x < 10
    · rw [eqp (by omega), decK_low h, show x % 10 = x by omega]
    · rw [eqn (by omega)]
      obtain ⟨j, rfl⟩ : ∃ j, k = j + 1 := by
        cases k with
        | zero => exact absurd h1 (by simpa using h)
        | succ j => exact ⟨j, rfl⟩
      rw [positive_it j f (x / 10) _ (by omega) (by rw [Int.pow_succ] at h1; omega) (by omega) (by omega) (by rw [ByteArray.size_append, dg_size]; omega)]
      simp only [decK, if_neg h, ByteArray.append_assoc]
theorem decS {n : Nat} (hn : 100 ≤ n) {x : Int} (h0 : 0 ≤ x) (h1 : x ≤ 1000000) : F79 n x = some (dec x, ()) := by
  unfold F79 F82 F82_1
  rw [bn (by omega), positive_it 6 n x _ h0 (by have h10 : (10 : Int) ^ (6 + 1) = 10000000 := rfl; omega) (by omega) (by omega) (by decide)]
  simp only [ats]
  rw [show decK 6 x ++ ({ data := #[] } : ByteArray) = dec x from ByteArray.append_empty]
end Go.Proofs.Ytjfmfpnnjgfffaa.Am
