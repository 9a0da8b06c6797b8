/- The drawing of arguments: it ends. -/
import Derived.Test.YtgaghaeniadkkaaAmIntF
import Derived.Test.YtgaghaeniadkkaaAmPl
namespace Go.Proofs.Ytgaghaeniadkkaa.Am
open Go
set_option autoImplicit false
set_option linter.unusedVariables false
set_option linter.unusedSimpArgs false

structure Inv (c : List Int) (i : Int) (b : Int) : Prop where
  ok : okb c
  len : c.length ≤ 4000
  lo : 0 ≤ i
  hi : i ≤ b
theorem Inv.mono {c : List Int} {i b b' : Int} (h : Inv c i b) (hb : b ≤ b') : Inv c i b' := ⟨h.ok, h.len, h.lo, Int.le_trans h.hi hb⟩

theorem pick0 {R : Type} {n : Nat} {m : Int} {c : List Int} {i : Int} (h : Inv c i 1099511627776) : ∃ v, 0 ≤ v ∧ ∀ (k0 : Int → Int → List Int → Int → Option R), F32_0 n m 0 c i k0 = k0 m v c i := by
  obtain ⟨hc, hl, h0, h1⟩ := h
  by_cases hp : 0 < c.length
  · obtain ⟨q, hq, hq0, hq1⟩ : ∃ q : Int, i.tmod (c.length : Int) = q ∧ 0 ≤ q ∧ q < c.length := ⟨_, rfl, by rw [tm h0]; exact Int.emod_nonneg _ (by omega), by rw [tm h0]; exact Int.emod_lt_of_pos _ (by omega)⟩
    obtain ⟨d, hd, hd0, hd1⟩ : ∃ d : Int, i.tdiv (c.length : Int) = d ∧ 0 ≤ d ∧ d ≤ i := ⟨_, rfl, by rw [td h0]; exact Int.ediv_nonneg h0 (by omega), by rw [td h0]; exact Int.ediv_le_self _ h0⟩
    obtain ⟨p, hpq, hp0, hp1⟩ : ∃ p : Int, (i * 7 + 3).tmod (c.length : Int) = p ∧ 0 ≤ p ∧ p < c.length := ⟨_, rfl, by rw [tm (by omega)]; exact Int.emod_nonneg _ (by omega), by rw [tm (by omega)]; exact Int.emod_lt_of_pos _ (by omega)⟩
    have hb1 := hc.getD q.toNat
    have hb2 := hc.getD p.toNat
    generalize hg1 : c.getD q.toNat 0 = b1 at hb1
    generalize hg2 : c.getD p.toNat 0 = b2 at hb2
    have hw : 0 ≤ b1 * 131 + b2 * 1117 + i * 29 + d * 53 ∧ b1 * 131 + b2 * 1117 + i * 29 + d * 53 < 9223372036854775808 := by omega
    have w1 : IntKind.wrap .i64 (i * 7) = i * 7 := wp (by omega)
    have w2 : IntKind.wrap .i64 (i * 7 + 3) = i * 7 + 3 := wp (by omega)
    have w3 : IntKind.wrap .i64 b1 = b1 := wp (by omega)
    have w4 : IntKind.wrap .i64 b2 = b2 := wp (by omega)
    have w5 : IntKind.wrap .i64 (b1 * 131) = b1 * 131 := wp (by omega)
    have w6 : IntKind.wrap .i64 (b2 * 1117) = b2 * 1117 := wp (by omega)
    have w7 : IntKind.wrap .i64 (i * 29) = i * 29 := wp (by omega)
    have w8 : IntKind.wrap .i64 (d * 53) = d * 53 := wp (by omega)
    have w9 : IntKind.wrap .i64 d = d := wp (by omega)
    have w10 : IntKind.wrap .i64 (b1 * 131 + b2 * 1117) = b1 * 131 + b2 * 1117 := wp (by omega)
    have w11 : IntKind.wrap .i64 (b1 * 131 + b2 * 1117 + i * 29) = b1 * 131 + b2 * 1117 + i * 29 := wp (by omega)
    have w12 : IntKind.wrap .i64 (b1 * 131 + b2 * 1117 + i * 29 + d * 53) = b1 * 131 + b2 * 1117 + i * 29 + d * 53 := wp (by omega)
    have hx := bxor_ok hw.1 hw.2 (b := (b1 * 131 + b2 * 1117 + i * 29 + d * 53) / 64) (by omega) (by omega)
    have w13 : IntKind.wrap .i64 ((b1 * 131 + b2 * 1117 + i * 29 + d * 53).tdiv 64) = (b1 * 131 + b2 * 1117 + i * 29 + d * 53) / 64 := by rw [td hw.1]; exact wp (by omega)
    by_cases hm : m > 256
    · refine ⟨_, hx, fun k0 => ?_⟩
      unfold F32_0
      simp (disch := omega) only [bp, np, hq, w1, w2, hpq, hd, hg1, hg2, w3, w4, w5, w6, w7, w8, w9, w10, w11, w12, w13]
    · by_cases hi : i ≥ (c.length : Int)
      · refine ⟨_, hx, fun k0 => ?_⟩
        unfold F32_0
        simp (disch := omega) only [bp, bn, np, hq, w1, w2, hpq, hd, hg1, hg2, w3, w4, w5, w6, w7, w8, w9, w10, w11, w12, w13]
      · refine ⟨b1, hb1.1, fun k0 => ?_⟩
        unfold F32_0
        simp (disch := omega) only [bp, bn, np, hq, hg1, w3]
  · refine ⟨0, Int.le_refl _, fun k0 => ?_⟩
    unfold F32_0
    simp (disch := omega) only [bn]

theorem pick {n : Nat} {m : Int} {c : List Int} {i b : Int} (h : Inv c i b) (hb : b ≤ 1099511627776) : ∃ r i', F32 n m c i = some (r, ((c, (i', ())), ())) ∧ 0 ≤ r ∧ (r < m ∨ m < 2 ∧ r = 0) ∧ Inv c i' (b + 1) := by
  by_cases hm : m < 2
  · refine ⟨0, i, ?_, Int.le_refl _, .inr ⟨hm, rfl⟩, h.mono (by omega)⟩
    unfold F32
    rw [bp hm]
  · obtain ⟨v, hv, hk⟩ := pick0 (R := Int × ((List Int × (Int × Unit)) × Unit)) (n := n) (m := m) (h.mono hb)
    have h1 := h.lo
    have h2 := h.hi
    refine ⟨v.tmod m, i + 1, ?_, by rw [tm hv]; exact Int.emod_nonneg _ (by omega), .inl (by rw [tm hv]; exact Int.emod_lt_of_pos _ (by omega)), ⟨h.ok, h.len, by omega, by omega⟩⟩
    unfold F32
    rw [bn hm, hk, np (by omega), wp (by omega)]

theorem of_ok {n : Nat} {l : List ByteArray} {c : List Int} {i b : Int} (h : Inv c i b) (hb : b ≤ 1099511627776) (hl : 0 < l.length) : ∃ s i', F53 n l c i = some (s, ((c, (i', ())), ())) ∧ s ∈ l ∧ Inv c i' (b + 1) := by
  obtain ⟨r, i', h1, h2, h3, h4⟩ := pick (n := n) (m := (l.length : Int)) h hb
  have h5 : r.toNat < l.length := by omega
  refine ⟨l[r.toNat], i', ?_, List.getElem_mem h5, h4⟩
  unfold F53
  simp only [h1, ats]
  rw [bp h2, bp (by omega), getD_lt h5]
theorem one_ok {n : Nat} {l : List Int} {c : List Int} {i b : Int} (h : Inv c i b) (hb : b ≤ 1099511627776) (hl : 0 < l.length) : ∃ s i', F55 n l c i = some (s, ((c, (i', ())), ())) ∧ s ∈ l ∧ Inv c i' (b + 1) := by
  obtain ⟨r, i', h1, h2, h3, h4⟩ := pick (n := n) (m := (l.length : Int)) h hb
  have h5 : r.toNat < l.length := by omega
  refine ⟨l[r.toNat], i', ?_, List.getElem_mem h5, h4⟩
  unfold F55
  simp only [h1, ats]
  rw [bp h2, bp (by omega), getD_lt h5]

theorem one_size (x : Int) : (bytesOfInts (List.map (fun y => y) (x :: []))).size = 1 := rfl
theorem positive_it {R : Type} {n : Nat} {k0 : ByteArray → Option R} : ∀ (k fuel : Nat) (x : Int) (acc : ByteArray), x.natAbs < 9223372036854775808 → x.natAbs < 10 ^ (k + 1) → k ≤ 30 → k < fuel → acc.size + k ≤ 1000 →
    ∃ s, s.size ≤ acc.size + k + 1 ∧ F68_1_it n k0 fuel x acc = k0 s
  | k, fuel, x, acc, hx3, hx2, hk, hf, ha => by
    obtain ⟨f, rfl⟩ : ∃ f, fuel = f + 1 := ⟨fuel - 1, by omega⟩
    simp only [F68_1_it, F68_1_step]
    have hd : ∃ d, ∀ (k : Int → ByteArray → Int → Option R), F68_0 n x acc (x.tmod 10) k = k x acc d := by
      unfold F68_0
      by_cases h : x.tmod 10 < 0
      · simp only [bp h]; exact ⟨_, fun k => rfl⟩
      · simp only [bn h]; exact ⟨_, fun k => rfl⟩
    obtain ⟨d, hd⟩ := hd
    rw [hd]
    generalize hv : bytesOfInts (List.map (fun y => y) (IntKind.wrap .u8 (IntKind.wrap .i64 (48 + d)) :: [])) = v
    have hs : v.size = 1 := by rw [← hv]; rfl
    rw [bp (by omega)]
    have hsz : (v ++ acc).size = 1 + acc.size := by rw [ByteArray.size_append, hs]
    have hab : (x.tdiv 10).natAbs = x.natAbs / 10 := Int.natAbs_tdiv x 10
    have hq : IntKind.wrap .i64 (x.tdiv 10) = x.tdiv 10 := wp (by omega)
    rw [hq]
    by_cases h0 : x.tdiv 10 = 0
    · rw [eqp h0]
      exact ⟨_, by omega, rfl⟩
    · rw [eqn h0]
      match k with
      | 0 =>
        have : x.natAbs / 10 = 0 := by omega
        exact absurd (show x.tdiv 10 = 0 by omega) h0
      | k + 1 =>
        have hlt : x.natAbs / 10 < 10 ^ (k + 1) := by
          have e : 10 ^ (k + 1 + 1) = 10 ^ (k + 1) * 10 := by rw [Nat.pow_succ]
          rw [e] at hx2
          exact Nat.div_lt_of_lt_mul (by omega)
        obtain ⟨s, h1, h2⟩ := positive_it (k0 := k0) k f (x.tdiv 10) (v ++ acc) (by omega) (by omega) (by omega) (by omega) (by omega)
        exact ⟨s, by omega, h2⟩

theorem decimal_ok {n : Nat} {x : Int} (hn : 100 ≤ n) (h1 : -9000000000000000000 ≤ x) (h2 : x ≤ 9000000000000000000) : ∃ s, s.size ≤ 24 ∧ F54 n x = some (s, ()) := by
  unfold F54 F68 F68_1
  by_cases hx : x < 0
  · rw [bp hx]
    obtain ⟨s, h3, h4⟩ := positive_it (R := ByteArray × Unit) (n := n) (k0 := fun z => some (z, ())) 19 n x ⟨#[]⟩ (by omega) (by omega) (by omega) (by omega) (by decide)
    have h5 : (({ data := #[] } : ByteArray)).size = 0 := rfl
    simp only [h4, ats]
    rw [bp (by omega)]
    refine ⟨_, ?_, rfl⟩
    have : (({ data := #[45] } : ByteArray) ++ s).size = 1 + s.size := by rw [ByteArray.size_append]; rfl
    omega
  · rw [bn hx]
    obtain ⟨s, h3, h4⟩ := positive_it (R := ByteArray × Unit) (n := n) (k0 := fun z => some (z, ())) 19 n x ⟨#[]⟩ (by omega) (by omega) (by omega) (by omega) (by decide)
    simp only [h4, ats]
    have h5 : (({ data := #[] } : ByteArray)).size = 0 := rfl
    exact ⟨_, by omega, rfl⟩

theorem bool_of {x : Int} (n : Nat) (c : List Int) (i : Int) : ∃ t, ∀ {R : Type} (k0 : Bool → List Int → Int → Option R), F31_0 n x c i k0 = k0 t c i := by
  unfold F31_0
  cases h1 : x == 2
  · cases h2 : x == 3
    · exact ⟨_, fun k => rfl⟩
    · exact ⟨_, fun k => rfl⟩
  · exact ⟨_, fun k => rfl⟩

theorem digit_step {R : Type} {n : Nat} {acc : ByteArray} {m j : Int} {c : List Int} {i b : Int} (h : Inv c i b) (hb : b ≤ 1000000000000) (hn : 100 ≤ n) (ha : acc.size ≤ 10000) (k0 : ByteArray → Int → Int → List Int → Int → Option R) :
    ∃ s i', s.size ≤ acc.size + 24 ∧ Inv c i' (b + 3) ∧ F31_4 n acc m j c i k0 = k0 s m j c i' := by
  unfold F31_4
  obtain ⟨d, i1, e1, d0, d1, h1⟩ := pick (n := n) (m := 10) h (by omega)
  simp only [e1, ats]
  have hd : ∃ d', 0 ≤ d' ∧ d' ≤ 10 ∧ ∀ (k : ByteArray → Int → Int → Int → List Int → Int → Option R), F31_2 n acc m j d c i1 k = k acc m j d' c i1 := by
    unfold F31_2
    by_cases hj : j = 0
    · simp only [eqp hj]
      refine ⟨_, ?_, ?_, fun k => rfl⟩
      · split <;> omega
      · split <;> omega
    · simp only [eqn hj]
      exact ⟨d, by omega, by omega, fun k => rfl⟩
  obtain ⟨d', d2, d3, e2⟩ := hd
  rw [e2]
  unfold F31_3
  obtain ⟨t, i2, e3, t0, t1, h2⟩ := pick (n := n) (m := 9) h1 (by omega)
  simp only [e3, ats]
  have hlast : ∀ (d : Int) (i3 : Int), 0 ≤ d → d ≤ 10 → ∃ s, s.size ≤ acc.size + 24 ∧ (andThen (F54 n d) fun r181 => (bif (decide (((acc.size) + (r181.1.size)) ≤ (68719476736 : Nat))) then (k0 (acc ++ r181.1) m j c i3) else none)) = k0 s m j c i3 := by
    intro d i3 h5 h6
    obtain ⟨s, h7, h8⟩ := decimal_ok (n := n) (x := d) hn (by omega) (by omega)
    simp only [h8, ats]
    rw [bp (by omega)]
    exact ⟨_, by rw [ByteArray.size_append]; omega, rfl⟩
  by_cases ht : t = 0
  · rw [eqp ht]
    obtain ⟨u, i3, e4, u0, h3⟩ := one_ok (n := n) (l := [9, 9, 1]) h2 (by omega) (by decide)
    simp only [e4, ats]
    have hu : 0 ≤ u ∧ u ≤ 10 := by simp at u0; omega
    obtain ⟨s, h7, h8⟩ := hlast u i3 hu.1 hu.2
    exact ⟨s, i3, h7, h3.mono (by omega), h8⟩
  · rw [eqn ht]
    obtain ⟨s, h7, h8⟩ := hlast d' i2 d2 d3
    exact ⟨s, i2, h7, h2.mono (by omega), h8⟩

theorem drawn_it {R : Type} {n : Nat} {m : Int} {c : List Int} (hn : 100 ≤ n) (hm : m ≤ 100) (k0 : ByteArray → List Int → Int → Option R) : ∀ (d fuel : Nat) (acc : ByteArray) (j i b : Int), 0 ≤ j → m - j ≤ d → d ≤ 100 → d < fuel → Inv c i b → b + 3 * d ≤ 100000000 → acc.size + 24 * d ≤ 5000 →
    ∃ s i', s.size ≤ 5000 ∧ Inv c i' (b + 3 * d) ∧ F31_5_it n k0 fuel acc m j c i = k0 s c i'
  | d, fuel, acc, j, i, b, hj, hd, hd2, hf, hi, hb, ha => by
    obtain ⟨f, rfl⟩ : ∃ f, fuel = f + 1 := ⟨fuel - 1, by omega⟩
    simp only [F31_5_it, F31_5_step]
    by_cases hlt : j < m
    · rw [bp hlt]
      obtain ⟨s, i1, h1, h2, h3⟩ := digit_step (n := n) (acc := acc) (m := m) (j := j) hi (by omega) hn (by omega) (fun z183 z184 z185 z186 z187 => F31_5_it n k0 f z183 z184 (IntKind.wrap .i64 (z185 + (1 : Int))) z186 z187)
      rw [h3, wp (by omega)]
      match d with
      | 0 => omega
      | d + 1 =>
        obtain ⟨s2, i2, h4, h5, h6⟩ := drawn_it hn hm k0 d f s (j + 1) i1 (b + 3) (by omega) (by omega) (by omega) (by omega) h2 (by omega) (by omega)
        exact ⟨s2, i2, h4, h5.mono (by omega), h6⟩
    · rw [bn hlt]
      exact ⟨acc, i, by omega, hi.mono (by omega), rfl⟩

theorem integer_ok {n : Nat} {c : List Int} {i b : Int} (h : Inv c i b) (hb : b ≤ 10000000) (hn : 1000 ≤ n) : ∃ s i', F31 n c i = some (s, ((c, (i', ())), ())) ∧ s.size ≤ 5001 ∧ Inv c i' (b + 400) := by
  unfold F31 F31_1
  obtain ⟨r, i1, e1, r0, r1, h1⟩ := pick (n := n) (m := 14) h (by omega)
  simp only [e1, ats]
  have small : ∀ (l : List ByteArray), 0 < l.length → (∀ s ∈ l, s.size ≤ 10) → ∃ s i', F53 n l c i1 = some (s, ((c, (i', ())), ())) ∧ s.size ≤ 10 ∧ Inv c i' (b + 2) := fun l hl hs => by
    obtain ⟨s, i2, e2, h2, h3⟩ := of_ok (n := n) (l := l) h1 (by omega) hl
    exact ⟨s, i2, e2, hs s h2, h3.mono (by omega)⟩
  by_cases c0 : r = 0
  · rw [eqp c0]
    obtain ⟨s, i2, e2, h2, h3⟩ := small [⟨#[]⟩, ⟨#[45]⟩, ⟨#[45, 48]⟩, ⟨#[48, 49]⟩, ⟨#[49, 97]⟩, ⟨#[32, 49]⟩, ⟨#[43, 49]⟩, ⟨#[48, 48]⟩] (by decide) (by decide)
    rw [e2]
    exact ⟨s, i2, rfl, by omega, h3.mono (by omega)⟩
  rw [eqn c0]
  by_cases c1 : r = 1
  · rw [eqp c1]
    obtain ⟨s, i2, e2, h2, h3⟩ := small [⟨#[48]⟩, ⟨#[49]⟩, ⟨#[45, 49]⟩, ⟨#[57]⟩, ⟨#[49, 48]⟩, ⟨#[45, 49, 48]⟩, ⟨#[57, 57]⟩, ⟨#[49, 48, 48]⟩] (by decide) (by decide)
    rw [e2]
    exact ⟨s, i2, rfl, by omega, h3.mono (by omega)⟩
  rw [eqn c1]
  obtain ⟨t, ht⟩ := bool_of (x := r) n c i1
  rw [ht]
  cases t
  · rw [cf]
    obtain ⟨m, i2, e2, h2, h3⟩ := one_ok (n := n) (l := [2, 5, 12, 19, 20, 38, 39, 40, 40, 41]) h1 (by omega) (by decide)
    simp only [e2, ats]
    have hm : 0 ≤ m ∧ m ≤ 100 := by simp at h2; omega
    obtain ⟨s, i3, h4, h5, h6⟩ := drawn_it (R := ByteArray × ((List Int × (Int × Unit)) × Unit)) (n := n) (m := m) (c := c) (by omega) hm.2 (fun z189 z190 z191 =>
        (andThen (F32 n (2 : Int) z190 z191) fun r192 =>
        (bif (r192.1 == (0 : Int)) then
        (bif (decide (((1 : Nat) + (z189.size)) ≤ (68719476736 : Nat))) then
        some ((({ data := #[45] } : ByteArray) ++ z189), ((r192.2.1.1, (r192.2.1.2.1, ())), ()))
        else none)
        else some (z189, ((r192.2.1.1, (r192.2.1.2.1, ())), ()))))) 100 n ⟨#[]⟩ 0 i2 (b + 2) (by omega) (by omega) (by omega) (by omega) (h3.mono (by omega)) (by omega) (by decide)
    unfold F31_5
    rw [h6]
    obtain ⟨q, i4, e4, q0, q1, h7⟩ := pick (n := n) (m := 2) h5 (by omega)
    simp only [e4, ats]
    by_cases c2 : q = 0
    · rw [eqp c2, bp (by omega)]
      refine ⟨_, i4, rfl, ?_, h7.mono (by omega)⟩
      have : (({ data := #[45] } : ByteArray) ++ s).size = 1 + s.size := by rw [ByteArray.size_append]; rfl
      omega
    · rw [eqn c2]
      exact ⟨s, i4, rfl, by omega, h7.mono (by omega)⟩
  · rw [ct]
    obtain ⟨m, i2, e2, m0, m1, h3⟩ := pick (n := n) (m := 2000) h1 (by omega)
    simp only [e2, ats]
    rw [wp (by omega)]
    obtain ⟨s, h4, h5⟩ := decimal_ok (n := n) (x := m - 1000) (by omega) (by omega) (by omega)
    simp only [h5, ats]
    exact ⟨s, i2, rfl, by omega, h3.mono (by omega)⟩

theorem newRnd_ok {n : Nat} {z : List Int} (hz : okb z) : ∃ c, F30 n z = some ((), ((c, (0, ())), ())) ∧ Inv c 0 0 := by
  unfold F30
  by_cases h : (4000 : Int) < (z.length : Int)
  · simp only [if_pos h]
    rw [bp (by omega), bp (by omega)]
    exact ⟨_, rfl, ⟨(hz.take _).drop _, by simp; omega, by omega, by omega⟩⟩
  · simp only [if_neg h]
    rw [bp (by omega), bp (by omega)]
    exact ⟨_, rfl, ⟨(hz.take _).drop _, by simp; omega, by omega, by omega⟩⟩
end Go.Proofs.Ytgaghaeniadkkaa.Am
