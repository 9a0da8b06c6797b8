/- Integers: the laws. -/
import Derived.Test.YtgaghaeniadkkaaAmIntR
namespace Go.Proofs.Ytgaghaeniadkkaa.Am
open Go
set_option autoImplicit false
set_option linter.unusedVariables false
set_option linter.unusedSimpArgs false

theorem seq_self (a : List Int) : ((str a).toList == (str a).toList) = true := by simp
theorem toS0 : toS 0 = [48] := by decide

theorem law_add {n : Nat} {z : List Int} (hn : 20000 ≤ n) (hz : okb z) : F3 n z = some (true, ()) := by
  unfold F3
  by_cases hl : (z.length : Int) > 1048576
  · rw [bp hl]
  rw [bn hl]
  obtain ⟨a, b, ha, hb, la, lb, e⟩ := drawAdd (n := n) (by omega) hz
  have hn : 10000 ≤ n := by omega
  rw [e]; simp only [ats]
  rw [addP hn ha hb]; simp only [ats]
  rw [addR hn ha hb la lb]; simp only [ats]
  by_cases h : Vi a ∧ Vi b
  · rw [if_pos h]
    by_cases f : (val a + val b).natAbs < 10 ^ 40
    · have hV := Vi_toS f
      rw [res_yes f]
      simp only [seq_self, ct, cf, Bool.not_true, beq_self_eq_true]
      rw [addP hn hb ha, if_pos ⟨h.2, h.1⟩, show val b + val a = val a + val b by omega, res_yes f]
      simp only [ats]
      rw [subP hn (toS_okb _) hb, if_pos ⟨hV.1, h.2⟩, hV.2, show val a + val b - val b = val a by omega, res_yes (val_lim h.1), toS_val h.1]
      simp only [ats, seq_self, ct]
    · rw [res_no f]
      simp only [seq_self, ct, cf, Bool.not_false, Bool.not_true, beq_self_eq_true]
  · rw [if_neg h]
    simp only [badr, seq_self, ct, cf, Bool.not_false, Bool.not_true, beq_self_eq_true]

theorem law_sub {n : Nat} {z : List Int} (hn : 20000 ≤ n) (hz : okb z) : F5 n z = some (true, ()) := by
  unfold F5
  by_cases hl : (z.length : Int) > 1048576
  · rw [bp hl]
  rw [bn hl]
  obtain ⟨a, b, ha, hb, la, lb, e⟩ := drawSub (n := n) (by omega) hz
  have hn : 10000 ≤ n := by omega
  rw [e]; simp only [ats]
  rw [subP hn ha hb]; simp only [ats]
  rw [subR hn ha hb la lb]; simp only [ats]
  by_cases h : Vi a ∧ Vi b
  · rw [if_pos h]
    by_cases f : (val a - val b).natAbs < 10 ^ 40
    · have hV := Vi_toS f
      have f2 : (val b - val a).natAbs < 10 ^ 40 := by omega
      have hV2 := Vi_toS f2
      rw [res_yes f]
      simp only [seq_self, ct, cf, Bool.not_true, beq_self_eq_true]
      rw [addP hn (toS_okb _) hb, if_pos ⟨hV.1, h.2⟩, hV.2, show val a - val b + val b = val a by omega, res_yes (val_lim h.1), toS_val h.1]
      simp only [ats]
      rw [subP hn hb ha, if_pos ⟨h.2, h.1⟩, res_yes f2]
      simp only [ats]
      rw [addP hn (toS_okb _) (toS_okb _), if_pos ⟨hV.1, hV2.1⟩, hV.2, hV2.2, show val a - val b + (val b - val a) = 0 by omega, res_yes (by decide), lit0, toS0]
      simp only [ats, seq_self, ct]
    · rw [res_no f]
      simp only [seq_self, ct, cf, Bool.not_false, Bool.not_true, beq_self_eq_true]
  · rw [if_neg h]
    simp only [badr, seq_self, ct, cf, Bool.not_false, Bool.not_true, beq_self_eq_true]

theorem fdiv_mul {x y : Int} (h : y ≠ 0) : (x * y).fdiv y = x ∧ (x * y).fmod y = 0 := by
  by_cases hy : 0 < y
  · exact (Int.fdiv_fmod_unique (a := x * y) (q := x) (r := 0) hy).2 ⟨by rw [Int.mul_comm]; omega, by omega, hy⟩
  · exact (Int.fdiv_fmod_unique' (a := x * y) (q := x) (r := 0) (by omega)).2 ⟨by rw [Int.mul_comm]; omega, by omega, by omega⟩

theorem law_mul {n : Nat} {z : List Int} (hn : 20000 ≤ n) (hz : okb z) : F4 n z = some (true, ()) := by
  unfold F4
  by_cases hl : (z.length : Int) > 1048576
  · rw [bp hl]
  rw [bn hl]
  obtain ⟨a, b, ha, hb, la, lb, e⟩ := drawMul (n := n) (by omega) hz
  have hn : 10000 ≤ n := by omega
  rw [e]; simp only [ats]
  rw [mulP hn ha hb]; simp only [ats]
  rw [mulR hn ha hb la lb]; simp only [ats]
  by_cases h : Vi a ∧ Vi b
  · rw [if_pos h]
    by_cases f : (val a * val b).natAbs < 10 ^ 40
    · have hV := Vi_toS f
      rw [res_yes f]
      simp only [seq_self, ct, cf, Bool.not_true, beq_self_eq_true]
      rw [mulP hn hb ha, if_pos ⟨h.2, h.1⟩, Int.mul_comm (val b) (val a), res_yes f]
      simp only [ats, seq_self, ct, cf, Bool.not_true]
      rw [lit0, seq_eq hb ok48]
      by_cases h0 : val b = 0
      · rw [bp ((zero_iff h.2).2 h0), h0, Int.mul_zero, toS0, seq_self]
      · have hd := fdiv_mul (x := val a) h0
        rw [bn (mt (zero_iff h.2).1 h0), divP hn (toS_okb _) hb, if_pos ⟨⟨hV.1, h.2⟩, h0⟩, hV.2, hd.1]
        simp only [ats, good]
        rw [modP hn (toS_okb _) hb, if_pos ⟨⟨hV.1, h.2⟩, h0⟩, hV.2, hd.2]
        simp only [ats, good, toS_val h.1, toS0, seq_self, ct]
    · rw [res_no f]
      simp only [seq_self, ct, cf, Bool.not_false, Bool.not_true, beq_self_eq_true]
  · rw [if_neg h]
    simp only [badr, seq_self, ct, cf, Bool.not_false, Bool.not_true, beq_self_eq_true]

theorem V48 : Vi [48] ∧ val [48] = 0 := by decide
theorem law_mod {n : Nat} {z : List Int} (hn : 20000 ≤ n) (hz : okb z) : F7 n z = some (true, ()) := by
  unfold F7
  by_cases hl : (z.length : Int) > 1048576
  · rw [bp hl]
  rw [bn hl]
  obtain ⟨a, b, ha, hb, la, lb, e⟩ := drawMod (n := n) (by omega) hz
  have hn : 10000 ≤ n := by omega
  rw [e]; simp only [ats]
  rw [modP hn ha hb]; simp only [ats]
  rw [modR hn ha hb la lb]; simp only [ats]
  by_cases h : (Vi a ∧ Vi b) ∧ val b ≠ 0
  · rw [if_pos h]
    have f : ((val a).fmod (val b)).natAbs < 10 ^ 40 := Nat.lt_of_le_of_lt (fmod_abs h.2) (val_lim h.1.2)
    have hV := Vi_toS f
    have hr := fmod_rng (x := val a) h.2
    simp only [good, seq_self, ct, cf, Bool.not_true, beq_self_eq_true]
    rw [modP hn (toS_okb _) hb, if_pos ⟨⟨hV.1, h.1.2⟩, h.2⟩, hV.2, Int.fmod_fmod]
    simp only [good, ats]
    rw [lit0, cmpP hn (toS_okb _) ok48, if_pos ⟨hV.1, V48.1⟩, hV.2, V48.2]
    simp only [ats]
    rw [cmpP hn hb ok48, if_pos ⟨h.1.2, V48.1⟩, V48.2]
    simp only [ats]
    rw [cmpP hn (toS_okb _) hb, if_pos ⟨hV.1, h.1.2⟩, hV.2]
    simp only [ats, seq_self, ct]
    by_cases hp : 0 < val b
    · have hr := hr.1 hp
      have e1 : sg (val b) 0 = 1 := by unfold sg; rw [if_neg (by omega), if_neg (by omega)]
      have e2 : sg ((val a).fmod (val b)) 0 ≥ 0 := by unfold sg; rw [if_neg (by omega)]; split <;> omega
      have e3 : sg ((val a).fmod (val b)) (val b) = -1 := by unfold sg; rw [if_pos (by omega)]
      rw [e1, e3, bp (by omega), bp e2]; rfl
    · have hr := hr.2 (by have := h.2; omega)
      have e1 : sg (val b) 0 = -1 := by unfold sg; rw [if_pos (by have := h.2; omega)]
      have e2 : sg ((val a).fmod (val b)) 0 ≤ 0 := by unfold sg; split; omega; rw [if_pos (by omega)]; omega
      have e3 : sg ((val a).fmod (val b)) (val b) = 1 := by unfold sg; rw [if_neg (by omega), if_neg (by omega)]
      rw [e1, e3, bn (by omega), bp e2]; rfl
  · rw [if_neg h]
    simp only [badr, seq_self, ct, cf, Bool.not_false, Bool.not_true, beq_self_eq_true]

theorem law_div {n : Nat} {z : List Int} (hn : 20000 ≤ n) (hz : okb z) : F8 n z = some (true, ()) := by
  unfold F8
  by_cases hl : (z.length : Int) > 1048576
  · rw [bp hl]
  rw [bn hl]
  obtain ⟨a, b, ha, hb, la, lb, e⟩ := drawDiv (n := n) (by omega) hz
  have hn : 10000 ≤ n := by omega
  rw [e]; simp only [ats]
  rw [divP hn ha hb]; simp only [ats]
  rw [divR hn ha hb la lb]; simp only [ats]
  by_cases h : (Vi a ∧ Vi b) ∧ val b ≠ 0
  · rw [if_pos h]
    have f : ((val a).fdiv (val b)).natAbs < 10 ^ 40 := Nat.lt_of_le_of_lt (fdiv_abs _ _) (val_lim h.1.1)
    have f2 : ((val a).fmod (val b)).natAbs < 10 ^ 40 := Nat.lt_of_le_of_lt (fmod_abs h.2) (val_lim h.1.2)
    have hV := Vi_toS f
    have hV2 := Vi_toS f2
    simp only [good, seq_self, ct, cf, Bool.not_true, beq_self_eq_true]
    rw [modP hn ha hb, if_pos h]
    simp only [good, ats]
    rw [mulP hn (toS_okb _) hb, if_pos ⟨hV.1, h.1.2⟩, hV.2]
    simp only [ats, cf, Bool.not_true]
    by_cases g : ((val a).fdiv (val b) * val b).natAbs < 10 ^ 40
    · have hV3 := Vi_toS g
      rw [res_yes g]
      simp only [cf, Bool.not_true]
      rw [addP hn (toS_okb _) (toS_okb _), if_pos ⟨hV3.1, hV2.1⟩, hV3.2, hV2.2]
      have : (val a).fdiv (val b) * val b + (val a).fmod (val b) = val a := by
        have := Int.mul_fdiv_add_fmod (val a) (val b)
        rw [Int.mul_comm]; exact this
      rw [this, res_yes (val_lim h.1.1), toS_val h.1.1]
      simp only [ats, seq_self, ct]
    · rw [res_no g]
      simp only [ct, Bool.not_false]
  · rw [if_neg h]
    simp only [badr, seq_self, ct, cf, Bool.not_false, Bool.not_true, beq_self_eq_true]

theorem half_ok {n : Nat} {z : List Int} (hz : okb z) (hl : z.length ≤ 1048576) : ∃ y, okb y ∧ F29 n z = some (y, ()) := by
  unfold F29
  have e : IntKind.wrap .i64 ((z.length : Int).tdiv 2) = (z.length : Int) / 2 := by rw [td (by omega)]; exact wp (by omega)
  simp only [e]
  rw [bp (by omega), bp (by omega), bp (by omega)]
  exact ⟨_, (hz.take _).drop _, rfl⟩
theorem law_shift {n : Nat} {z : List Int} (hn : 20000 ≤ n) (hz : okb z) : F9 n z = some (true, ()) := by
  unfold F9
  by_cases hl : (z.length : Int) > 1048576
  · rw [bp hl]
  rw [bn hl]
  obtain ⟨a, b, ha, hb, la, lb, e⟩ := drawDiv (n := n) (by omega) hz
  obtain ⟨y, hy, e2⟩ := half_ok (n := n) hz (by omega)
  obtain ⟨c, d, hc, hd, lc, ld, e3⟩ := drawAdd (n := n) (by omega) hy
  have hn : 10000 ≤ n := by omega
  rw [e]; simp only [ats]
  rw [e2]; simp only [ats]
  rw [e3]; simp only [ats]
  rw [divP hn ha hb]; simp only [ats]
  rw [divR hn ha hb la lb]; simp only [ats]
  simp only [seq_self, beq_self_eq_true, Bool.not_true, cf]
  rw [mulP hn hb hc]; simp only [ats]
  by_cases h : (Vi a ∧ Vi b) ∧ val b ≠ 0
  · rw [if_pos h]
    by_cases hcv : Vi c
    · rw [if_pos ⟨h.1.2, hcv⟩]
      by_cases g : (val b * val c).natAbs < 10 ^ 40
      · have hV := Vi_toS g
        rw [res_yes g]
        simp only [ats, good]
        rw [addP hn ha (toS_okb _), if_pos ⟨h.1.1, hV.1⟩, hV.2]
        simp only [ats, seq_self, beq_self_eq_true, Bool.not_true, cf]
        by_cases g2 : (val a + val b * val c).natAbs < 10 ^ 40
        · have hV2 := Vi_toS g2
          rw [res_yes g2]
          simp only [cf, Bool.not_true]
          rw [modP hn ha hb, if_pos h]
          simp only [ats, good]
          rw [modP hn (toS_okb _) hb, if_pos ⟨⟨hV2.1, h.1.2⟩, h.2⟩, hV2.2, Int.add_mul_fmod_self_left]
          simp only [ats, good]
          have f : ((val a).fdiv (val b)).natAbs < 10 ^ 40 := Nat.lt_of_le_of_lt (fdiv_abs _ _) (val_lim h.1.1)
          have hV3 := Vi_toS f
          rw [addP hn (toS_okb _) hc, if_pos ⟨hV3.1, hcv⟩, hV3.2]
          simp only [ats]
          rw [divP hn (toS_okb _) hb, if_pos ⟨⟨hV2.1, h.1.2⟩, h.2⟩, hV2.2, Int.add_mul_fdiv_left _ _ h.2]
          simp only [ats, good, seq_self, ct]
          by_cases g3 : ((val a).fdiv (val b) + val c).natAbs < 10 ^ 40
          · rw [res_yes g3]
            simp only [seq_self, Bool.not_true, cf]
          · rw [res_no g3]
            simp only [ct, Bool.not_false]
        · rw [res_no g2]
          simp only [ct, Bool.not_false]
      · rw [res_no g]
        simp only [ats, good]
        obtain ⟨r, hr⟩ : ∃ r, F11 n (str a) (str []) = some r := ⟨_, addP hn ha okb.nil⟩
        rw [hr]
        simp only [ats, seq_self, beq_self_eq_true, ct, cf, Bool.not_false, Bool.not_true]
    · rw [if_neg (fun h => hcv h.2)]
      simp only [ats, good, badr]
      obtain ⟨r, hr⟩ : ∃ r, F11 n (str a) (str []) = some r := ⟨_, addP hn ha okb.nil⟩
      rw [hr]
      simp only [ats, seq_self, beq_self_eq_true, ct, cf, Bool.not_false, Bool.not_true]
  · rw [if_neg h]
    have : ∃ l : List Int, okb l ∧ (if Vi b ∧ Vi c then res (val b * val c) else badr).1.1 = str l := by
      split
      · unfold res; split
        · exact ⟨_, toS_okb _, rfl⟩
        · exact ⟨_, okb.nil, rfl⟩
      · exact ⟨_, okb.nil, rfl⟩
    obtain ⟨l, hl1, hl2⟩ := this
    rw [hl2]
    obtain ⟨r, hr⟩ : ∃ r, F11 n (str a) (str l) = some r := ⟨_, addP hn ha hl1⟩
    rw [hr]
    simp only [ats, badr, seq_self, beq_self_eq_true, ct, cf, Bool.not_false, Bool.not_true]
end Go.Proofs.Ytgaghaeniadkkaa.Am
