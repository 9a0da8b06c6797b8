/- Integers: operations of the program and of the reference, alike; roots. -/
import Derived.Test.YtgaghaeniadkkaaAmIntQ
import Derived.Test.YtgaghaeniadkkaaAmDrawI
namespace Go.Proofs.Ytgaghaeniadkkaa.Am
open Go
set_option autoImplicit false
set_option linter.unusedVariables false
set_option linter.unusedSimpArgs false

def badr : (ByteArray × (Bool × Unit)) × Unit := ((str [], (false, ())), ())
def good (z : Int) : (ByteArray × (Bool × Unit)) × Unit := ((str (toS z), (true, ())), ())
theorem sm_val {l : List Int} (h : Vi l) : sm (val l) := Nat.le_trans (vl h) (by omega)
theorem sm10 {x : Int} {k : Nat} (hk : k ≤ 2000) (h : x.natAbs < 10 ^ k) : sm x := Nat.le_trans (dig_len_le.2 h) hk
theorem sm_add {x y : Int} (hx : x.natAbs < 10 ^ 40) (hy : y.natAbs < 10 ^ 40) : sm (x + y) ∧ sm (x - y) := ⟨sm10 (k := 50) (by omega) (by omega), sm10 (k := 50) (by omega) (by omega)⟩
theorem textN {n : Nat} {z : Int} (hn : 10000 ≤ n) (hz : (dig z.natAbs).length ≤ 9000) : F35 n (decide (z < 0)) (dig z.natAbs) = some (res z) := by
  rw [text hn hz, sgn_abs']

theorem addP {n : Nat} {a b : List Int} (hn : 10000 ≤ n) (ha : okb a) (hb : okb b) : F11 n (str a) (str b) = some (if Vi a ∧ Vi b then res (val a + val b) else badr) := by
  unfold F11
  obtain ⟨r, s, t, h1, h2, h3⟩ := two hn ha hb
  rw [h1, h2]
  simp only [ats]
  by_cases h : Vi a ∧ Vi b
  · obtain ⟨rfl, rfl⟩ := h3 h
    rw [if_pos h, decide_eq_true h]
    simp only [Bool.not_true, cf, NN]
    rw [plusI hn (sm_val h.1) (sm_val h.2)]
    simp only [ats, NN]
    rw [textN hn (Nat.le_trans (sm_add (val_lim h.1) (val_lim h.2)).1 (by omega))]
    rfl
  · rw [if_neg h, decide_eq_false h]; rfl
theorem subP {n : Nat} {a b : List Int} (hn : 10000 ≤ n) (ha : okb a) (hb : okb b) : F13 n (str a) (str b) = some (if Vi a ∧ Vi b then res (val a - val b) else badr) := by
  unfold F13
  obtain ⟨r, s, t, h1, h2, h3⟩ := two hn ha hb
  rw [h1, h2]
  simp only [ats]
  by_cases h : Vi a ∧ Vi b
  · obtain ⟨rfl, rfl⟩ := h3 h
    rw [if_pos h, decide_eq_true h]
    simp only [Bool.not_true, cf, NN]
    rw [minusI hn (sm_val h.2)]
    simp only [ats, NN]
    rw [plusI hn (sm_val h.1) (by have := sm_val h.2; unfold sm at *; rwa [Int.natAbs_neg])]
    simp only [ats, NN]
    rw [show val a + -val b = val a - val b by omega, textN hn (Nat.le_trans (sm_add (val_lim h.1) (val_lim h.2)).2 (by omega))]
    rfl
  · rw [if_neg h, decide_eq_false h]; rfl
theorem mulP {n : Nat} {a b : List Int} (hn : 10000 ≤ n) (ha : okb a) (hb : okb b) : F15 n (str a) (str b) = some (if Vi a ∧ Vi b then res (val a * val b) else badr) := by
  unfold F15
  obtain ⟨r, s, t, h1, h2, h3⟩ := two hn ha hb
  rw [h1, h2]
  simp only [ats]
  by_cases h : Vi a ∧ Vi b
  · obtain ⟨rfl, rfl⟩ := h3 h
    rw [if_pos h, decide_eq_true h]
    simp only [Bool.not_true, cf, NN]
    rw [timesI hn (sm_val h.1) (sm_val h.2)]
    simp only [ats, NN]
    rw [textN hn (by rw [Int.natAbs_mul]; exact Nat.le_trans (dig_mul_len (vl h.1) (vl h.2)) (by omega))]
    rfl
  · rw [if_neg h, decide_eq_false h]; rfl
theorem fdiv_abs (x y : Int) : (x.fdiv y).natAbs ≤ x.natAbs := Int.natAbs_fdiv_le_natAbs x y
theorem fmod_rng {x y : Int} (h : y ≠ 0) : (0 < y → 0 ≤ x.fmod y ∧ x.fmod y < y) ∧ (y < 0 → y < x.fmod y ∧ x.fmod y ≤ 0) := by
  refine ⟨fun hy => ((Int.fdiv_fmod_unique (a := x) (q := x.fdiv y) (r := x.fmod y) hy).1 ⟨rfl, rfl⟩).2, fun hy => ((Int.fdiv_fmod_unique' (a := x) (q := x.fdiv y) (r := x.fmod y) hy).1 ⟨rfl, rfl⟩).2⟩
theorem fmod_abs {x y : Int} (h : y ≠ 0) : (x.fmod y).natAbs ≤ y.natAbs := by
  have := fmod_rng (x := x) h
  by_cases hy : 0 < y
  · have := this.1 hy; omega
  · have := this.2 (by omega); omega
theorem divP {n : Nat} {a b : List Int} (hn : 10000 ≤ n) (ha : okb a) (hb : okb b) : F17 n (str a) (str b) = some (if (Vi a ∧ Vi b) ∧ val b ≠ 0 then good ((val a).fdiv (val b)) else badr) := by
  unfold F17
  obtain ⟨r, s, t, h1, h2, h3⟩ := two hn ha hb
  rw [h1, h2]
  simp only [ats]
  by_cases h : Vi a ∧ Vi b
  · obtain ⟨rfl, rfl⟩ := h3 h
    rw [decide_eq_true h]
    simp only [Bool.not_true, cf, NN]
    by_cases h0 : val b = 0
    · rw [if_neg (fun hh => hh.2 h0), h0, show (0 : Int).natAbs = 0 from rfl, dig_zero]; rfl
    · have := dig_ne (x := (val b).natAbs) (by omega)
      rw [if_pos ⟨h, h0⟩, eqn (by omega), partsI hn (sm_val h.1) (sm_val h.2) h0]
      simp only [ats, NN]
      have hl : ((val a).fdiv (val b)).natAbs < 10 ^ 40 := Nat.lt_of_le_of_lt (fdiv_abs _ _) (val_lim h.1)
      rw [textN hn (Nat.le_trans (lim hl) (by omega)), res_yes hl]
      rfl
  · rw [if_neg (fun hh => h hh.1), decide_eq_false h]; rfl
theorem modP {n : Nat} {a b : List Int} (hn : 10000 ≤ n) (ha : okb a) (hb : okb b) : F18 n (str a) (str b) = some (if (Vi a ∧ Vi b) ∧ val b ≠ 0 then good ((val a).fmod (val b)) else badr) := by
  unfold F18
  obtain ⟨r, s, t, h1, h2, h3⟩ := two hn ha hb
  rw [h1, h2]
  simp only [ats]
  by_cases h : Vi a ∧ Vi b
  · obtain ⟨rfl, rfl⟩ := h3 h
    rw [decide_eq_true h]
    simp only [Bool.not_true, cf, NN]
    by_cases h0 : val b = 0
    · rw [if_neg (fun hh => hh.2 h0), h0, show (0 : Int).natAbs = 0 from rfl, dig_zero]; rfl
    · have := dig_ne (x := (val b).natAbs) (by omega)
      rw [if_pos ⟨h, h0⟩, eqn (by omega), partsI hn (sm_val h.1) (sm_val h.2) h0]
      simp only [ats, NN]
      have hl : ((val a).fmod (val b)).natAbs < 10 ^ 40 := Nat.lt_of_le_of_lt (fmod_abs h0) (val_lim h.2)
      rw [textN hn (Nat.le_trans (lim hl) (by omega)), res_yes hl]
      rfl
  · rw [if_neg (fun hh => h hh.1), decide_eq_false h]; rfl
theorem cmpP {n : Nat} {a b : List Int} (hn : 10000 ≤ n) (ha : okb a) (hb : okb b) : F24 n (str a) (str b) = some (if Vi a ∧ Vi b then sg (val a) (val b) else -2, ()) := by
  unfold F24
  obtain ⟨r, s, t, h1, h2, h3⟩ := two hn ha hb
  rw [h1, h2]
  simp only [ats]
  by_cases h : Vi a ∧ Vi b
  · obtain ⟨rfl, rfl⟩ := h3 h
    rw [if_pos h, decide_eq_true h]
    simp only [Bool.not_true, cf, NN]
    rw [minusI hn (sm_val h.2)]
    simp only [ats, NN]
    rw [plusI hn (sm_val h.1) (by have := sm_val h.2; unfold sm at *; rwa [Int.natAbs_neg])]
    simp only [ats, NN]
    unfold sg
    by_cases e : val a = val b
    · rw [if_neg (by omega), if_pos e, show val a + -val b = 0 by omega, show (0 : Int).natAbs = 0 from rfl, dig_zero]; rfl
    · have := dig_ne (x := (val a + -val b).natAbs) (by omega)
      rw [eqn (by omega)]
      by_cases g : val a < val b
      · rw [if_pos g, decide_eq_true (by omega)]; rfl
      · rw [if_neg g, if_neg e, decide_eq_false (by omega)]; rfl
  · rw [if_neg h, decide_eq_false h]; rfl

theorem addR {n : Nat} {a b : List Int} (hn : 10000 ≤ n) (ha : okb a) (hb : okb b) (la : a.length ≤ 9000) (lb : b.length ≤ 9000) : F12 n (str a) (str b) = some (if Vi a ∧ Vi b then res (val a + val b) else badr) := by
  unfold F12
  rw [validS hn ha la]
  simp only [ats]
  by_cases va : Vi a
  · rw [decide_eq_true va]
    simp only [Bool.not_true, cf]
    rw [validS hn hb lb]
    simp only [ats]
    by_cases vb : Vi b
    · rw [decide_eq_true vb, if_pos ⟨va, vb⟩]
      simp only [Bool.not_true, cf]
      rw [addSI hn ha hb va vb]; rfl
    · rw [decide_eq_false vb, if_neg (fun h => vb h.2)]; rfl
  · rw [decide_eq_false va, if_neg (fun h => va h.1)]; rfl
theorem subR {n : Nat} {a b : List Int} (hn : 10000 ≤ n) (ha : okb a) (hb : okb b) (la : a.length ≤ 9000) (lb : b.length ≤ 9000) : F20 n (str a) (str b) = some (if Vi a ∧ Vi b then res (val a - val b) else badr) := by
  unfold F20
  rw [validS hn ha la]
  simp only [ats]
  by_cases va : Vi a
  · rw [decide_eq_true va]
    simp only [Bool.not_true, cf]
    rw [validS hn hb lb]
    simp only [ats]
    by_cases vb : Vi b
    · rw [decide_eq_true vb, if_pos ⟨va, vb⟩]
      simp only [Bool.not_true, cf]
      rw [negS hn hb vb]
      simp only [ats]
      have hV := Vi_toS (z := -(val b)) (by have := val_lim vb; omega)
      rw [addSI hn ha (toS_okb _) va hV.1, hV.2, show val a + -val b = val a - val b by omega]; rfl
    · rw [decide_eq_false vb, if_neg (fun h => vb h.2)]; rfl
  · rw [decide_eq_false va, if_neg (fun h => va h.1)]; rfl
theorem mulR {n : Nat} {a b : List Int} (hn : 10000 ≤ n) (ha : okb a) (hb : okb b) (la : a.length ≤ 9000) (lb : b.length ≤ 9000) : F16 n (str a) (str b) = some (if Vi a ∧ Vi b then res (val a * val b) else badr) := by
  unfold F16
  rw [validS hn ha la]
  simp only [ats]
  by_cases va : Vi a
  · rw [decide_eq_true va]
    simp only [Bool.not_true, cf]
    rw [validS hn hb lb]
    simp only [ats]
    by_cases vb : Vi b
    · rw [decide_eq_true vb, if_pos ⟨va, vb⟩]
      simp only [Bool.not_true, cf]
      rw [mulSI hn ha hb va vb]; rfl
    · rw [decide_eq_false vb, if_neg (fun h => vb h.2)]; rfl
  · rw [decide_eq_false va, if_neg (fun h => va h.1)]; rfl
theorem zero_iff {b : List Int} (vb : Vi b) : b = [48] ↔ val b = 0 := by
  constructor
  · rintro rfl; decide
  · intro h; have := toS_val vb; rw [h] at this; exact this.symm
theorem lit0 : (({ data := #[48] } : ByteArray)) = str [48] := rfl
theorem ok48 : okb [48] := okb.nil.cons (by omega)
theorem divR {n : Nat} {a b : List Int} (hn : 10000 ≤ n) (ha : okb a) (hb : okb b) (la : a.length ≤ 9000) (lb : b.length ≤ 9000) : F28 n (str a) (str b) = some (if (Vi a ∧ Vi b) ∧ val b ≠ 0 then good ((val a).fdiv (val b)) else badr) := by
  unfold F28
  rw [validS hn ha la]
  simp only [ats]
  by_cases va : Vi a
  · rw [decide_eq_true va]
    simp only [Bool.not_true, cf]
    rw [validS hn hb lb]
    simp only [ats]
    by_cases vb : Vi b
    · rw [decide_eq_true vb]
      simp only [Bool.not_true, cf]
      rw [lit0, seq_eq hb ok48]
      by_cases h0 : val b = 0
      · rw [bp ((zero_iff vb).2 h0), if_neg (fun h => h.2 h0)]; rfl
      · rw [bn (mt (zero_iff vb).1 h0), if_pos ⟨⟨va, vb⟩, h0⟩, divSI hn ha hb va vb h0]; rfl
    · rw [decide_eq_false vb, if_neg (fun h => vb h.1.2)]; rfl
  · rw [decide_eq_false va, if_neg (fun h => va h.1.1)]; rfl
theorem modR {n : Nat} {a b : List Int} (hn : 10000 ≤ n) (ha : okb a) (hb : okb b) (la : a.length ≤ 9000) (lb : b.length ≤ 9000) : F26 n (str a) (str b) = some (if (Vi a ∧ Vi b) ∧ val b ≠ 0 then good ((val a).fmod (val b)) else badr) := by
  unfold F26
  rw [validS hn ha la]
  simp only [ats]
  by_cases va : Vi a
  · rw [decide_eq_true va]
    simp only [Bool.not_true, cf]
    rw [validS hn hb lb]
    simp only [ats]
    by_cases vb : Vi b
    · rw [decide_eq_true vb]
      simp only [Bool.not_true, cf]
      rw [lit0, seq_eq hb ok48]
      by_cases h0 : val b = 0
      · rw [bp ((zero_iff vb).2 h0), if_neg (fun h => h.2 h0)]; rfl
      · rw [bn (mt (zero_iff vb).1 h0), if_pos ⟨⟨va, vb⟩, h0⟩, divSI hn ha hb va vb h0]; rfl
    · rw [decide_eq_false vb, if_neg (fun h => vb h.1.2)]; rfl
  · rw [decide_eq_false va, if_neg (fun h => va h.1.1)]; rfl

-- draws ----------------------------------------------------------------------------------------------------------------------------------
theorem str_len {s : ByteArray} (h : s.size ≤ 5001) : ∃ l, okb l ∧ s = str l ∧ l.length ≤ 5001 := by
  obtain ⟨l, h1, rfl⟩ := str_surj s
  rw [str_size] at h
  exact ⟨l, h1, rfl, h⟩
theorem drawAdd {n : Nat} {z : List Int} (hn : 10000 ≤ n) (hz : okb z) : ∃ a b, okb a ∧ okb b ∧ a.length ≤ 9000 ∧ b.length ≤ 9000 ∧ F10 n z = some ((str a, (str b, ())), ()) := by
  unfold F10
  obtain ⟨c, h1, i1⟩ := newRnd_ok (n := n) hz
  rw [h1]; simp only [ats]
  obtain ⟨s, j, h2, h3, i2⟩ := integer_ok (n := n) i1 (by omega) (by omega)
  rw [h2]; simp only [ats]
  obtain ⟨a, ha, rfl, la⟩ := str_len h3
  obtain ⟨r, k, h4, h5, h6, i3⟩ := pick (n := n) (m := 6) i2 (by omega)
  rw [h4]; simp only [ats]
  by_cases g : r = 0
  · rw [eqp g]; exact ⟨a, a, ha, ha, by omega, by omega, rfl⟩
  · rw [eqn g]
    obtain ⟨t, q, h7, h8, i4⟩ := integer_ok (n := n) i3 (by omega) (by omega)
    rw [h7]; simp only [ats]
    obtain ⟨b, hb, rfl, lb⟩ := str_len h8
    exact ⟨a, b, ha, hb, by omega, by omega, rfl⟩
theorem drawMul {n : Nat} {z : List Int} (hn : 10000 ≤ n) (hz : okb z) : ∃ a b, okb a ∧ okb b ∧ a.length ≤ 9000 ∧ b.length ≤ 9000 ∧ F14 n z = some ((str a, (str b, ())), ()) := by
  unfold F14
  obtain ⟨c, h1, i1⟩ := newRnd_ok (n := n) hz
  rw [h1]; simp only [ats]
  obtain ⟨s, j, h2, h3, i2⟩ := integer_ok (n := n) i1 (by omega) (by omega)
  rw [h2]; simp only [ats]
  obtain ⟨a, ha, rfl, la⟩ := str_len h3
  obtain ⟨r, k, h4, h5, h6, i3⟩ := pick (n := n) (m := 6) i2 (by omega)
  rw [h4]; simp only [ats]
  by_cases g : r = 0
  · rw [eqp g]; exact ⟨a, a, ha, ha, by omega, by omega, rfl⟩
  · rw [eqn g]
    obtain ⟨t, q, h7, h8, i4⟩ := integer_ok (n := n) i3 (by omega) (by omega)
    rw [h7]; simp only [ats]
    obtain ⟨b, hb, rfl, lb⟩ := str_len h8
    exact ⟨a, b, ha, hb, by omega, by omega, rfl⟩
theorem drawSub {n : Nat} {z : List Int} (hn : 10000 ≤ n) (hz : okb z) : ∃ a b, okb a ∧ okb b ∧ a.length ≤ 9000 ∧ b.length ≤ 9000 ∧ F19 n z = some ((str a, (str b, ())), ()) := by
  unfold F19
  obtain ⟨c, h1, i1⟩ := newRnd_ok (n := n) hz
  rw [h1]; simp only [ats]
  obtain ⟨s, j, h2, h3, i2⟩ := integer_ok (n := n) i1 (by omega) (by omega)
  rw [h2]; simp only [ats]
  obtain ⟨a, ha, rfl, la⟩ := str_len h3
  obtain ⟨r, k, h4, h5, h6, i3⟩ := pick (n := n) (m := 6) i2 (by omega)
  rw [h4]; simp only [ats]
  by_cases g : r = 0
  · rw [eqp g]; exact ⟨a, a, ha, ha, by omega, by omega, rfl⟩
  · rw [eqn g]
    obtain ⟨t, q, h7, h8, i4⟩ := integer_ok (n := n) i3 (by omega) (by omega)
    rw [h7]; simp only [ats]
    obtain ⟨b, hb, rfl, lb⟩ := str_len h8
    exact ⟨a, b, ha, hb, by omega, by omega, rfl⟩
theorem drawMod {n : Nat} {z : List Int} (hn : 10000 ≤ n) (hz : okb z) : ∃ a b, okb a ∧ okb b ∧ a.length ≤ 9000 ∧ b.length ≤ 9000 ∧ F25 n z = some ((str a, (str b, ())), ()) := by
  unfold F25
  obtain ⟨c, h1, i1⟩ := newRnd_ok (n := n) hz
  rw [h1]; simp only [ats]
  obtain ⟨s, j, h2, h3, i2⟩ := integer_ok (n := n) i1 (by omega) (by omega)
  rw [h2]; simp only [ats]
  obtain ⟨a, ha, rfl, la⟩ := str_len h3
  obtain ⟨r, k, h4, h5, h6, i3⟩ := pick (n := n) (m := 6) i2 (by omega)
  rw [h4]; simp only [ats]
  by_cases g : r = 0
  · rw [eqp g]; exact ⟨a, a, ha, ha, by omega, by omega, rfl⟩
  · rw [eqn g]
    obtain ⟨t, q, h7, h8, i4⟩ := integer_ok (n := n) i3 (by omega) (by omega)
    rw [h7]; simp only [ats]
    obtain ⟨b, hb, rfl, lb⟩ := str_len h8
    exact ⟨a, b, ha, hb, by omega, by omega, rfl⟩
theorem drawDiv {n : Nat} {z : List Int} (hn : 10000 ≤ n) (hz : okb z) : ∃ a b, okb a ∧ okb b ∧ a.length ≤ 9000 ∧ b.length ≤ 9000 ∧ F27 n z = some ((str a, (str b, ())), ()) := by
  unfold F27
  obtain ⟨c, h1, i1⟩ := newRnd_ok (n := n) hz
  rw [h1]; simp only [ats]
  obtain ⟨s, j, h2, h3, i2⟩ := integer_ok (n := n) i1 (by omega) (by omega)
  rw [h2]; simp only [ats]
  obtain ⟨a, ha, rfl, la⟩ := str_len h3
  obtain ⟨r, k, h4, h5, h6, i3⟩ := pick (n := n) (m := 6) i2 (by omega)
  rw [h4]; simp only [ats]
  by_cases g : r = 0
  · rw [eqp g]; exact ⟨a, a, ha, ha, by omega, by omega, rfl⟩
  · rw [eqn g]
    obtain ⟨t, q, h7, h8, i4⟩ := integer_ok (n := n) i3 (by omega) (by omega)
    rw [h7]; simp only [ats]
    obtain ⟨b, hb, rfl, lb⟩ := str_len h8
    exact ⟨a, b, ha, hb, by omega, by omega, rfl⟩
theorem drawRoot {n : Nat} {z : List Int} (hn : 10000 ≤ n) (hz : okb z) : ∃ a, okb a ∧ a.length ≤ 9000 ∧ F21 n z = some (str a, ()) := by
  unfold F21
  obtain ⟨c, h1, i1⟩ := newRnd_ok (n := n) hz
  rw [h1]; simp only [ats]
  obtain ⟨s, j, h2, h3, i2⟩ := integer_ok (n := n) i1 (by omega) (by omega)
  rw [h2]; simp only [ats]
  obtain ⟨a, ha, rfl, la⟩ := str_len h3
  exact ⟨a, ha, by omega, rfl⟩
end Go.Proofs.Ytgaghaeniadkkaa.Am
