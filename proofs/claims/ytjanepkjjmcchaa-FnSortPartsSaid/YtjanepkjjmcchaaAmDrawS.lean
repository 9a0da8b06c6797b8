/- The drawing of arguments: it ends. -/
import Derived.Test.YtjanepkjjmcchaaAmSortF
import Derived.Test.YtjanepkjjmcchaaAmPl
namespace Go.Proofs.Ytjanepkjjmcchaa.Am
open Go
set_option autoImplicit false
set_option linter.unusedVariables false
set_option linter.unusedSimpArgs false

structure Inv (c : List Int) (i : Int) (b : Int) : Prop where
  ok : okb c
  len : c.length ≤ 4000
  lo : 0 ≤ i
  hi : i ≤ b
theorem Inv.mono {c : List Int} {i b b' : Int} (h : Inv c i b) (hb : b ≤ b') : Inv c i b' := ⟨h.ok, h.len, h.lo, Int.le_trans h.hi hb⟩

theorem pick0 {R : Type} {n : Nat} {m : Int} {c : List Int} {i : Int} (h : Inv c i 1099511627776) : ∃ v, 0 ≤ v ∧ ∀ (k0 : Int → Int → List Int → Int → Option R), F36_0 n m 0 c i k0 = k0 m v c i := by
  obtain ⟨hc, hl, h0, h1⟩ := h
  by_cases hp : 0 < c.length
  · obtain ⟨q, hq, hq0, hq1⟩ : ∃ q : Int, i.tmod (c.length : Int) = q ∧ 0 ≤ q ∧ q < c.length := ⟨_, rfl, by rw [tm h0]; exact Int.emod_nonneg _ (by omega), by rw [tm h0]; exact Int.emod_lt_of_pos _ (by omega)⟩
    obtain ⟨d, hd, hd0, hd1⟩ : ∃ d : Int, i.tdiv (c.length : Int) = d ∧ 0 ≤ d ∧ d ≤ i := ⟨_, rfl, by rw [td h0]; exact Int.ediv_nonneg h0 (by omega), by rw [td h0]; exact Int.ediv_le_self _ h0⟩
    obtain ⟨p, hpq, hp0, hp1⟩ : ∃ p : Int, (i * 7 + 3).tmod (c.length : Int) = p ∧ 0 ≤ p ∧ p < c.length := ⟨_, rfl, by rw [tm (by omega)]; exact Int.emod_nonneg _ (by omega), by rw [tm (by omega)]; exact Int.emod_lt_of_pos _ (by omega)⟩
    have hb1 := hc.getD q.toNat
    have hb2 := hc.getD p.toNat
    generalize hg1 : c.getD q.toNat 0 = b1 at hb1
    generalize hg2 : c.getD p.toNat 0 = b2 at hb2
    have hw : 0 ≤ b1 * 131 + b2 * 1117 + i * 29 + d * 53 ∧ b1 * 131 + b2 * 1117 + i * 29 + d * 53 < 9223372036854775808 := by omega
    have w1 : IntKind.wrap .i64 (i * 7) = i * 7 := wp (by omega)
    have w2 : IntKind.wrap .i64 (i * 7 + 3) = i * 7 + 3 := wp (by omega)
    have w3 : IntKind.wrap .i64 b1 = b1 := wp (by omega)
    have w4 : IntKind.wrap .i64 b2 = b2 := wp (by omega)
    have w5 : IntKind.wrap .i64 (b1 * 131) = b1 * 131 := wp (by omega)
    have w6 : IntKind.wrap .i64 (b2 * 1117) = b2 * 1117 := wp (by omega)
    have w7 : IntKind.wrap .i64 (i * 29) = i * 29 := wp (by omega)
    have w8 : IntKind.wrap .i64 (d * 53) = d * 53 := wp (by omega)
    have w9 : IntKind.wrap .i64 d = d := wp (by omega)
    have w10 : IntKind.wrap .i64 (b1 * 131 + b2 * 1117) = b1 * 131 + b2 * 1117 := wp (by omega)
    have w11 : IntKind.wrap .i64 (b1 * 131 + b2 * 1117 + i * 29) = b1 * 131 + b2 * 1117 + i * 29 := wp (by omega)
    have w12 : IntKind.wrap .i64 (b1 * 131 + b2 * 1117 + i * 29 + d * 53) = b1 * 131 + b2 * 1117 + i * 29 + d * 53 := wp (by omega)
    have hx := bxor_ok hw.1 hw.2 (b := (b1 * 131 + b2 * 1117 + i * 29 + d * 53) / 64) (by omega) (by omega)
    have w13 : IntKind.wrap .i64 ((b1 * 131 + b2 * 1117 + i * 29 + d * 53).tdiv 64) = (b1 * 131 + b2 * 1117 + i * 29 + d * 53) / 64 := by rw [td hw.1]; exact wp (by omega)
    by_cases hm : m > 256
    · refine ⟨_, hx, fun k0 => ?_⟩
      unfold F36_0
      simp (disch := omega) only [bp, np, hq, w1, w2, hpq, hd, hg1, hg2, w3, w4, w5, w6, w7, w8, w9, w10, w11, w12, w13]
    · by_cases hi : i ≥ (c.length : Int)
      · refine ⟨_, hx, fun k0 => ?_⟩
        unfold F36_0
        simp (disch := omega) only [bp, bn, np, hq, w1, w2, hpq, hd, hg1, hg2, w3, w4, w5, w6, w7, w8, w9, w10, w11, w12, w13]
      · refine ⟨b1, hb1.1, fun k0 => ?_⟩
        unfold F36_0
        simp (disch := omega) only [bp, bn, np, hq, hg1, w3]
  · refine ⟨0, Int.le_refl _, fun k0 => ?_⟩
    unfold F36_0
    simp (disch := omega) only [bn]

theorem pick {n : Nat} {m : Int} {c : List Int} {i b : Int} (h : Inv c i b) (hb : b ≤ 1099511627776) : ∃ r i', F36 n m c i = some (r, ((c, (i', ())), ())) ∧ 0 ≤ r ∧ (r < m ∨ m < 2 ∧ r = 0) ∧ Inv c i' (b + 1) := by
  by_cases hm : m < 2
  · refine ⟨0, i, ?_, Int.le_refl _, .inr ⟨hm, rfl⟩, h.mono (by omega)⟩
    unfold F36
    rw [bp hm]
  · obtain ⟨v, hv, hk⟩ := pick0 (R := Int × ((List Int × (Int × Unit)) × Unit)) (n := n) (m := m) (h.mono hb)
    have h1 := h.lo
    have h2 := h.hi
    refine ⟨v.tmod m, i + 1, ?_, by rw [tm hv]; exact Int.emod_nonneg _ (by omega), .inl (by rw [tm hv]; exact Int.emod_lt_of_pos _ (by omega)), ⟨h.ok, h.len, by omega, by omega⟩⟩
    unfold F36
    rw [bn hm, hk, np (by omega), wp (by omega)]

theorem one_ok {n : Nat} {l : List Int} {c : List Int} {i b : Int} (h : Inv c i b) (hb : b ≤ 1099511627776) (hl : 0 < l.length) : ∃ s i', F35 n l c i = some (s, ((c, (i', ())), ())) ∧ s ∈ l ∧ Inv c i' (b + 1) := by
  obtain ⟨r, i', h1, h2, h3, h4⟩ := pick (n := n) (m := (l.length : Int)) h hb
  have h5 : r.toNat < l.length := by omega
  refine ⟨l[r.toNat], i', ?_, List.getElem_mem h5, h4⟩
  unfold F35
  simp only [h1, ats]
  rw [bp h2, bp (by omega), getD_lt h5]

theorem newRnd_ok {n : Nat} {z : List Int} (hz : okb z) : ∃ c, F18 n z = some ((), ((c, (0, ())), ())) ∧ Inv c 0 0 := by
  unfold F18
  by_cases h : (4000 : Int) < (z.length : Int)
  · simp only [if_pos h]
    rw [bp (by omega), bp (by omega)]
    exact ⟨_, rfl, ⟨(hz.take _).drop _, by simp; omega, by omega, by omega⟩⟩
  · simp only [if_neg h]
    rw [bp (by omega), bp (by omega)]
    exact ⟨_, rfl, ⟨(hz.take _).drop _, by simp; omega, by omega, by omega⟩⟩
end Go.Proofs.Ytjanepkjjmcchaa.Am
