/- The drawing of arguments: it ends. -/
import Derived.Test.YtdnbepnajhggpaaAmDictC
namespace Go.Proofs.Ytdnbepnajhggpaa.Am
open Go
set_option autoImplicit false
set_option linter.unusedVariables false
set_option linter.unusedSimpArgs false

structure Inv (c : List Int) (i : Int) (b : Int) : Prop where
  ok : okb c
  len : c.length ≤ 4000
  lo : 0 ≤ i
  hi : i ≤ b
theorem Inv.mono {c : List Int} {i b b' : Int} (h : Inv c i b) (hb : b ≤ b') : Inv c i b' := ⟨h.ok, h.len, h.lo, Int.le_trans h.hi hb⟩

theorem pick0 {R : Type} {n : Nat} {m : Int} {c : List Int} {i : Int} (h : Inv c i 1099511627776) : ∃ v, 0 ≤ v ∧ ∀ (k0 : Int → Int → List Int → Int → Option R), F65_0 n m 0 c i k0 = k0 m v c i := by
  obtain ⟨hc, hl, h0, h1⟩ := h
  by_cases hp : 0 < c.length
  · obtain ⟨q, hq, hq0, hq1⟩ : ∃ q : Int, i.tmod (c.length : Int) = q ∧ 0 ≤ q ∧ q < c.length := ⟨_, rfl, by rw [tm h0]; exact Int.emod_nonneg _ (by omega), by rw [tm h0]; exact Int.emod_lt_of_pos _ (by omega)⟩
    obtain ⟨d, hd, hd0, hd1⟩ : ∃ d : Int, i.tdiv (c.length : Int) = d ∧ 0 ≤ d ∧ d ≤ i := ⟨_, rfl, by rw [td h0]; exact Int.ediv_nonneg h0 (by omega), by rw [td h0]; exact Int.ediv_le_self _ h0⟩
    obtain ⟨p, hpq, hp0, hp1⟩ : ∃ p : Int, (i * 7 + 3).tmod (c.length : Int) = p ∧ 0 ≤ p ∧ p < c.length := ⟨_, rfl, by rw [tm (by omega)]; exact Int.emod_nonneg _ (by omega), by rw [tm (by omega)]; exact Int.emod_lt_of_pos _ (by omega)⟩
    have hb1 := hc.getD q.toNat
    have hb2 := hc.getD p.toNat
    generalize hg1 : c.getD q.toNat 0 = b1 at hb1
    generalize hg2 : c.getD p.toNat 0 = b2 at hb2
    have hw : 0 ≤ b1 * 131 + b2 * 1117 + i * 29 + d * 53 ∧ b1 * 131 + b2 * 1117 + i * 29 + d * 53 < 9223372036854775808 := by omega
    have w1 : IntKind.wrap .i64 (i * 7) = i * 7 := wp (by omega)
    have w2 : IntKind.wrap .i64 (i * 7 + 3) = i * 7 + 3 := wp (by omega)
    have w3 : IntKind.wrap .i64 b1 = b1 := wp (by omega)
    have w4 : IntKind.wrap .i64 b2 = b2 := wp (by omega)
    have w5 : IntKind.wrap .i64 (b1 * 131) = b1 * 131 := wp (by omega)
    have w6 : IntKind.wrap .i64 (b2 * 1117) = b2 * 1117 := wp (by omega)
    have w7 : IntKind.wrap .i64 (i * 29) = i * 29 := wp (by omega)
    have w8 : IntKind.wrap .i64 (d * 53) = d * 53 := wp (by omega)
    have w9 : IntKind.wrap .i64 d = d := wp (by omega)
    have w10 : IntKind.wrap .i64 (b1 * 131 + b2 * 1117) = b1 * 131 + b2 * 1117 := wp (by omega)
    have w11 : IntKind.wrap .i64 (b1 * 131 + b2 * 1117 + i * 29) = b1 * 131 + b2 * 1117 + i * 29 := wp (by omega)
    have w12 : IntKind.wrap .i64 (b1 * 131 + b2 * 1117 + i * 29 + d * 53) = b1 * 131 + b2 * 1117 + i * 29 + d * 53 := wp (by omega)
    have hx := bxor_ok hw.1 hw.2 (b := (b1 * 131 + b2 * 1117 + i * 29 + d * 53) / 64) (by omega) (by omega)
    have w13 : IntKind.wrap .i64 ((b1 * 131 + b2 * 1117 + i * 29 + d * 53).tdiv 64) = (b1 * 131 + b2 * 1117 + i * 29 + d * 53) / 64 := by rw [td hw.1]; exact wp (by omega)
    by_cases hm : m > 256
    · refine ⟨_, hx, fun k0 => ?_⟩
      unfold F65_0
      simp (disch := omega) only [bp, np, hq, w1, w2, hpq, hd, hg1, hg2, w3, w4, w5, w6, w7, w8, w9, w10, w11, w12, w13]
    · by_cases hi : i ≥ (c.length : Int)
      · refine ⟨_, hx, fun k0 => ?_⟩
        unfold F65_0
        simp (disch := omega) only [bp, bn, np, hq, w1, w2, hpq, hd, hg1, hg2, w3, w4, w5, w6, w7, w8, w9, w10, w11, w12, w13]
      · refine ⟨b1, hb1.1, fun k0 => ?_⟩
        unfold F65_0
        simp (disch := omega) only [bp, bn, np, hq, hg1, w3]
  · refine ⟨0, Int.le_refl _, fun k0 => ?_⟩
    unfold F65_0
    simp (disch := omega) only [bn]

theorem pick {n : Nat} {m : Int} {c : List Int} {i b : Int} (h : Inv c i b) (hb : b ≤ 1099511627776) : ∃ r i', F65 n m c i = some (r, ((c, (i', ())), ())) ∧ 0 ≤ r ∧ (r < m ∨ m < 2 ∧ r = 0) ∧ Inv c i' (b + 1) := by
  by_cases hm : m < 2
  · refine ⟨0, i, ?_, Int.le_refl _, .inr ⟨hm, rfl⟩, h.mono (by omega)⟩
    unfold F65
    rw [bp hm]
  · obtain ⟨v, hv, hk⟩ := pick0 (R := Int × ((List Int × (Int × Unit)) × Unit)) (n := n) (m := m) (h.mono hb)
    have h1 := h.lo
    have h2 := h.hi
    refine ⟨v.tmod m, i + 1, ?_, by rw [tm hv]; exact Int.emod_nonneg _ (by omega), .inl (by rw [tm hv]; exact Int.emod_lt_of_pos _ (by omega)), ⟨h.ok, h.len, by omega, by omega⟩⟩
    unfold F65
    rw [bn hm, hk, np (by omega), wp (by omega)]

theorem of_ok {n : Nat} {l : List ByteArray} {c : List Int} {i b : Int} (h : Inv c i b) (hb : b ≤ 1099511627776) (hl : 0 < l.length) : ∃ s i', F78 n l c i = some (s, ((c, (i', ())), ())) ∧ s ∈ l ∧ Inv c i' (b + 1) := by
  obtain ⟨r, i', h1, h2, h3, h4⟩ := pick (n := n) (m := (l.length : Int)) h hb
  have h5 : r.toNat < l.length := by omega
  refine ⟨l[r.toNat], i', ?_, List.getElem_mem h5, h4⟩
  unfold F78
  simp only [h1, ats]
  rw [bp h2, bp (by omega), getD_lt h5]
theorem one_ok {n : Nat} {l : List Int} {c : List Int} {i b : Int} (h : Inv c i b) (hb : b ≤ 1099511627776) (hl : 0 < l.length) : ∃ s i', F77 n l c i = some (s, ((c, (i', ())), ())) ∧ s ∈ l ∧ Inv c i' (b + 1) := by
  obtain ⟨r, i', h1, h2, h3, h4⟩ := pick (n := n) (m := (l.length : Int)) h hb
  have h5 : r.toNat < l.length := by omega
  refine ⟨l[r.toNat], i', ?_, List.getElem_mem h5, h4⟩
  unfold F77
  simp only [h1, ats]
  rw [bp h2, bp (by omega), getD_lt h5]

theorem one_size (x : Int) : (bytesOfInts (List.map (fun y => y) (x :: []))).size = 1 := rfl
theorem positive_it {R : Type} {n : Nat} {k0 : ByteArray → Option R} : ∀ (k fuel : Nat) (x : Int) (acc : ByteArray), x.natAbs < 9223372036854775808 → x.natAbs < 10 ^ (k + 1) → k ≤ 30 → k < fuel → acc.size + k ≤ 1000 →
    ∃ s, s.size ≤ acc.size + k + 1 ∧ F86_1_it n k0 fuel x acc = k0 s
  | k, fuel, x, acc, hx3, hx2, hk, hf, ha => by
    obtain ⟨f, rfl⟩ : ∃ f, fuel = f + 1 := ⟨fuel - 1, by omega⟩
    simp only [F86_1_it, F86_1_step]
    have hd : ∃ d, ∀ (k : Int → ByteArray → Int → Option R), F86_0 n x acc (x.tmod 10) k = k x acc d := by
      unfold F86_0
      by_cases h : x.tmod 10 < 0
      · simp only [bp h]; exact ⟨_, fun k => rfl⟩
      · simp only [bn h]; exact ⟨_, fun k => rfl⟩
    obtain ⟨d, hd⟩ := hd
    rw [hd]
    generalize hv : bytesOfInts (List.map (fun y => y) (IntKind.wrap .u8 (IntKind.wrap .i64 (48 + d)) :: [])) = v
    have hs : v.size = 1 := by rw [← hv]; rfl
    rw [bp (by omega)]
    have hsz : (v ++ acc).size = 1 + acc.size := by rw [ByteArray.size_append, hs]
    have hab : (x.tdiv 10).natAbs = x.natAbs / 10 := Int.natAbs_tdiv x 10
    have hq : IntKind.wrap .i64 (x.tdiv 10) = x.tdiv 10 := wp (by omega)
    rw [hq]
    by_cases h0 : x.tdiv 10 = 0
    · rw [eqp h0]
      exact ⟨_, by omega, rfl⟩
    · rw [eqn h0]
      match k with
      | 0 =>
        have : x.natAbs / 10 = 0 := by omega
        exact absurd (show x.tdiv 10 = 0 by omega) h0
      | k + 1 =>
        have hlt : x.natAbs / 10 < 10 ^ (k + 1) := by
          have e : 10 ^ (k + 1 + 1) = 10 ^ (k + 1) * 10 := by rw [Nat.pow_succ]
          rw [e] at hx2
          exact Nat.div_lt_of_lt_mul (by omega)
        obtain ⟨s, h1, h2⟩ := positive_it (k0 := k0) k f (x.tdiv 10) (v ++ acc) (by omega) (by omega) (by omega) (by omega) (by omega)
        exact ⟨s, by omega, h2⟩

theorem decimal_ok {n : Nat} {x : Int} (hn : 100 ≤ n) (h1 : -9000000000000000000 ≤ x) (h2 : x ≤ 9000000000000000000) : ∃ s, s.size ≤ 24 ∧ F79 n x = some (s, ()) := by
  unfold F79 F86 F86_1
  by_cases hx : x < 0
  · rw [bp hx]
    obtain ⟨s, h3, h4⟩ := positive_it (R := ByteArray × Unit) (n := n) (k0 := fun z => some (z, ())) 19 n x ⟨#[]⟩ (by omega) (by omega) (by omega) (by omega) (by decide)
    have h5 : (({ data := #[] } : ByteArray)).size = 0 := rfl
    simp only [h4, ats]
    rw [bp (by omega)]
    refine ⟨_, ?_, rfl⟩
    have : (({ data := #[45] } : ByteArray) ++ s).size = 1 + s.size := by rw [ByteArray.size_append]; rfl
    omega
  · rw [bn hx]
    obtain ⟨s, h3, h4⟩ := positive_it (R := ByteArray × Unit) (n := n) (k0 := fun z => some (z, ())) 19 n x ⟨#[]⟩ (by omega) (by omega) (by omega) (by omega) (by decide)
    simp only [h4, ats]
    have h5 : (({ data := #[] } : ByteArray)).size = 0 := rfl
    exact ⟨_, by omega, rfl⟩
theorem newRnd_ok {n : Nat} {z : List Int} (hz : okb z) : ∃ c, F48 n z = some ((), ((c, (0, ())), ())) ∧ Inv c 0 0 := by
  unfold F48
  by_cases h : (4000 : Int) < (z.length : Int)
  · simp only [if_pos h]
    rw [bp (by omega), bp (by omega)]
    exact ⟨_, rfl, ⟨(hz.take _).drop _, by simp; omega, by omega, by omega⟩⟩
  · simp only [if_neg h]
    rw [bp (by omega), bp (by omega)]
    exact ⟨_, rfl, ⟨(hz.take _).drop _, by simp; omega, by omega, by omega⟩⟩

theorem decimal_small {n : Nat} {x : Int} (hn : 100 ≤ n) (h1 : 0 ≤ x) (h2 : x < 100) : ∃ s, s.size ≤ 2 ∧ F79 n x = some (s, ()) := by
  unfold F79 F86 F86_1
  rw [bn (by omega)]
  obtain ⟨s, h3, h4⟩ := positive_it (R := ByteArray × Unit) (n := n) (k0 := fun z => some (z, ())) 1 n x ⟨#[]⟩ (by omega) (by omega) (by omega) (by omega) (by decide)
  simp only [h4, ats]
  have h5 : (({ data := #[] } : ByteArray)).size = 0 := rfl
  exact ⟨_, by omega, rfl⟩

-- dictionaries -------------------------------------------------------------------------------------------------------------------------
theorem drpR_valid {d : Dic} (h : Valid d) {key : ByteArray} (hk : key.size ≤ 20) : Valid (drpR d key).1 := by
  unfold drpR
  rw [if_pos ⟨h, hk⟩]
  by_cases g : 0 ≤ at' d key
  · rw [if_pos g]; exact drp_valid h (i := (at' d key).toNat) (by omega)
  · rw [if_neg g]; exact h
theorem setR_valid {d : Dic} (h : Valid d) {key : ByteArray} {v : Int} (hk : key.size ≤ 20) (hv : -1000000 ≤ v ∧ v ≤ 1000000) : Valid (setR d key v).1 := by
  unfold setR
  rw [if_pos ⟨h, hk, hv⟩]
  by_cases g : 0 ≤ at' d key ∨ lives d.es < 40
  · rw [if_pos g]; exact setk_valid h hk hv g
  · rw [if_neg g]; exact h
def dkeys : List ByteArray := (({ data := #[97] } : ByteArray) :: (({ data := #[98] } : ByteArray) :: (({ data := #[99] } : ByteArray) :: (({ data := #[97, 97] } : ByteArray) :: (({ data := #[97, 98] } : ByteArray) :: (({ data := #[107, 101, 121] } : ByteArray) :: (({ data := #[] } : ByteArray) :: (({ data := #[122] } : ByteArray) :: (({ data := #[113, 49] } : ByteArray) :: (({ data := #[113, 50] } : ByteArray) :: (({ data := #[113, 51] } : ByteArray) :: (({ data := #[113, 52] } : ByteArray) :: []))))))))))))
theorem dkeys_ok : ∀ s ∈ dkeys, s.size ≤ 3 := by
  intro s hs
  simp only [dkeys, List.mem_cons, List.not_mem_nil, or_false] at hs
  rcases hs with rfl | rfl | rfl | rfl | rfl | rfl | rfl | rfl | rfl | rfl | rfl | rfl <;> decide
theorem dict_it {R : Type} {n : Nat} {c : List Int} {k0 : List Int → Int → List Int → List Ety → Option R} (hn : 10000 ≤ n) : ∀ (m fuel : Nat) (i b : Int) (d : Dic), m < fuel → Valid d → Inv c i b → b + 5 * m ≤ 1000000 →
    ∃ d' i', Valid d' ∧ Inv c i' (b + 5 * m) ∧ F49_3_it n k0 fuel dkeys m c i d.ix d.es = k0 c i' d'.ix d'.es
  | m, fuel, i, b, d, hf, hd, hi, hb => by
    obtain ⟨f, rfl⟩ : ∃ f, fuel = f + 1 := ⟨fuel - 1, by omega⟩
    simp only [F49_3_it, F49_3_step, F49_2]
    match m with
    | 0 => rw [bn (by omega)]; exact ⟨d, i, hd, hi.mono (by omega), rfl⟩
    | m + 1 =>
      rw [bp (by omega)]
      obtain ⟨s, i1, e1, s1, h1⟩ := of_ok (n := n) (l := dkeys) hi (by omega) (by decide)
      have hs := dkeys_ok s s1
      rw [e1]; simp only [ats]
      obtain ⟨s', i2, s2, h2, e2⟩ : ∃ s' i2, s'.size ≤ 5 ∧ Inv c i2 (b + 3) ∧ ∀ k : List ByteArray → Int → ByteArray → List Int → Int → List Int → List Ety → Option R, F49_0 n dkeys ((m + 1 : Nat) : Int) s c i1 d.ix d.es k = k dkeys ((m + 1 : Nat) : Int) s' c i2 d.ix d.es := by
        unfold F49_0
        obtain ⟨r, i2, e2, r1, r2, h2⟩ := pick (n := n) (m := 3) h1 (by omega)
        rw [e2]; simp only [ats]
        by_cases g : r = 0
        · obtain ⟨q, i3, e3, q1, q2, h3⟩ := pick (n := n) (m := 30) h2 (by omega)
          obtain ⟨t, t1, t2⟩ := decimal_small (n := n) (x := q) (by omega) q1 (by omega)
          refine ⟨s ++ t, i3, by rw [ByteArray.size_append]; omega, h3.mono (by omega), fun k => ?_⟩
          rw [eqp g, e3]; simp only [ats]
          rw [t2]; simp only [ats]
          rw [bp (by omega)]
        · exact ⟨s, i2, by omega, h2.mono (by omega), fun k => by rw [eqn g]⟩
      rw [e2]
      unfold F49_1
      obtain ⟨r, i3, e3, r1, r2, h3⟩ := pick (n := n) (m := 4) h2 (by omega)
      rw [e3]; simp only [ats]
      have hb0 : 0 ≤ b := Int.le_trans hi.lo hi.hi
      rw [wp (x := ((m + 1 : Nat) : Int) - 1) (by omega), show ((m + 1 : Nat) : Int) - 1 = (m : Int) by omega]
      by_cases g : r = 0
      · rw [eqp g, dropS hn]; simp only [ats]
        obtain ⟨d', i', a1, a2, a3⟩ := dict_it (k0 := k0) (c := c) hn m f i3 (b + 4) (drpR d s').1 (by omega) (drpR_valid hd (by omega)) (h3.mono (by omega)) (by omega)
        exact ⟨d', i', a1, a2.mono (by omega), a3⟩
      · rw [eqn g]
        obtain ⟨q, i4, e4, q1, q2, h4⟩ := pick (n := n) (m := 100) h3 (by omega)
        rw [e4]; simp only [ats]
        rw [wp (by omega), setS hn]; simp only [ats]
        obtain ⟨d', i', a1, a2, a3⟩ := dict_it (k0 := k0) (c := c) hn m f i4 (b + 5) (setR d s' (q - 50)).1 (by omega) (setR_valid hd (by omega) (by omega)) (h4.mono (by omega)) (by omega)
        exact ⟨d', i', a1, a2.mono (by omega), a3⟩
theorem odd_ok {n : Nat} {c : List Int} {i b : Int} (h : Inv c i b) (hb : b ≤ 1099511627776) : ∃ s i', F80 n c i = some (s, ((c, (i', ())), ())) ∧ Inv c i' (b + 1) := by
  unfold F80
  obtain ⟨s, i', e, _, h'⟩ := one_ok (n := n) (l := ((-1 : Int) :: ((4611686018427387904 : Int) :: ((-4611686018427387904 : Int) :: ((1001 : Int) :: ((7 : Int) :: ((1000001 : Int) :: ((-9223372036854775808 : Int) :: ((9223372036854775807 : Int) :: []))))))))) h hb (by decide)
  rw [e]
  exact ⟨s, i', rfl, h'⟩
theorem dict_ok {n : Nat} {c : List Int} {i b : Int} (hn : 10000 ≤ n) (h : Inv c i b) (hb : b ≤ 100000) : ∃ (d : Dic) (i' : Int), F49 n c i = some ((d.ix, (d.es, ())), ((c, (i', ())), ())) ∧ Inv c i' (b + 300) := by
  unfold F49
  rw [dnewS hn]
  simp only [ats]
  obtain ⟨m, i1, e1, m1, h1⟩ := one_ok (n := n) (l := ((0 : Int) :: ((3 : Int) :: ((8 : Int) :: ((20 : Int) :: ((45 : Int) :: [])))))) h (by omega) (by decide)
  have hm : 0 ≤ m ∧ m ≤ 45 := by
    simp only [List.mem_cons, List.not_mem_nil, or_false] at m1; omega
  rw [e1]
  simp only [ats]
  unfold F49_3
  obtain ⟨d, i2, d1, h2, e2⟩ := dict_it (R := (List Int × (List Ety × Unit)) × ((List Int × (Int × Unit)) × Unit)) (n := n) (c := c) (k0 := fun z686 z687 z688 z689 => (F49_4 n z686 z687 z688 z689 (fun z707 z708 z709 z710 => (F49_5 n z707 z708 z709 z710 (fun z723 z724 z725 z726 => some ((z725, (z726, ())), ((z723, (z724, ())), ()))))))) hn m.toNat n i1 (b + 1) (emp 8) (by omega) (emp_valid (by decide)) h1 (by omega)
  rw [show ((m.toNat : Nat) : Int) = m by omega] at e2 h2
  have e2' := e2
  unfold dkeys at e2'
  rw [e2']
  have hl := d1.len
  have hp := d1.toBase.pos
  obtain ⟨es, i3, h3, e3⟩ : ∃ es i3, Inv c i3 (b + 250) ∧ ∀ k : List Int → Int → List Int → List Ety → Option ((List Int × (List Ety × Unit)) × ((List Int × (Int × Unit)) × Unit)), F49_4 n c i2 d.ix d.es k = k c i3 d.ix es := by
    unfold F49_4
    obtain ⟨r, i3, e3, r1, r2, h3⟩ := pick (n := n) (m := 12) h2 (by omega)
    rw [e3]; simp only [ats]
    by_cases g : r = 0
    · by_cases g2 : d.es.length = 0
      · exact ⟨d.es, i3, h3.mono (by omega), fun k => by rw [eqp g, bn (by omega)]⟩
      · obtain ⟨q, i4, e4, q1, q2, h4⟩ := pick (n := n) (m := (d.es.length : Int)) h3 (by omega)
        obtain ⟨o, i5, e5, h5⟩ := odd_ok (n := n) h4 (by omega)
        refine ⟨d.es.set q.toNat ⟨(d.es.getD q.toNat ze).key, o, (d.es.getD q.toNat ze).val, (d.es.getD q.toNat ze).live⟩, i5, h5.mono (by omega), fun k => ?_⟩
        rw [eqp g, bp (by omega), e4]; simp only [ats]
        rw [e5]; simp only [ats]
        rw [bp (by omega), bp (by omega)]; rfl
    · exact ⟨d.es, i3, h3.mono (by omega), fun k => by rw [eqn g]⟩
  rw [e3]
  unfold F49_5
  obtain ⟨r, i4, e4, r1, r2, h4⟩ := pick (n := n) (m := 12) h3 (by omega)
  rw [e4]; simp only [ats]
  by_cases g : r = 0
  · rw [eqp g]
    obtain ⟨q, i5, e5, q1, q2, h5⟩ := pick (n := n) (m := (d.ix.length : Int)) h4 (by omega)
    rw [e5]; simp only [ats]
    obtain ⟨o, i6, e6, _, h6⟩ := one_ok (n := n) (l := ((-1 : Int) :: ((-2 : Int) :: ((0 : Int) :: ((1 : Int) :: ((99 : Int) :: ((-3 : Int) :: []))))))) h5 (by omega) (by decide)
    rw [e6]; simp only [ats]
    rw [bp (by omega), bp (by omega)]
    exact ⟨⟨_, es⟩, i6, rfl, h6.mono (by omega)⟩
  · rw [eqn g]
    exact ⟨⟨_, es⟩, i4, rfl, h4.mono (by omega)⟩
theorem key_ok {n : Nat} {c : List Int} {i b : Int} (hn : 10000 ≤ n) (h : Inv c i b) (hb : b ≤ 100000) : ∃ s i', F50 n c i = some (s, ((c, (i', ())), ())) ∧ Inv c i' (b + 5) := by
  unfold F50
  obtain ⟨r, i1, e1, r1, r2, h1⟩ := pick (n := n) (m := 30) h (by omega)
  obtain ⟨s, s1, s2⟩ := decimal_small (n := n) (x := r) (by omega) r1 (by omega)
  rw [e1]; simp only [ats]
  rw [s2]; simp only [ats]
  rw [bp (by omega)]
  obtain ⟨q, i2, e2, q1, q2, h2⟩ := pick (n := n) (m := 30) h1 (by omega)
  obtain ⟨t, t1, t2⟩ := decimal_small (n := n) (x := q) (by omega) q1 (by omega)
  rw [e2]; simp only [ats]
  rw [t2]; simp only [ats]
  rw [bp (by omega)]
  obtain ⟨o, i3, e3, _, h3⟩ := of_ok (n := n) (l := (({ data := #[97] } : ByteArray) :: (({ data := #[98] } : ByteArray) :: (({ data := #[99] } : ByteArray) :: (({ data := #[97, 97] } : ByteArray) :: (({ data := #[97, 98] } : ByteArray) :: (({ data := #[107, 101, 121] } : ByteArray) :: (({ data := #[] } : ByteArray) :: (({ data := #[122] } : ByteArray) :: (({ data := #[113, 49] } : ByteArray) :: ((({ data := #[113, 50] } : ByteArray) ++ s) :: ((({ data := #[97] } : ByteArray) ++ t) :: (({ data := #[97, 97, 97, 97, 97, 97, 97, 97, 97, 97, 97, 97, 97, 97, 97, 97, 97, 97, 97, 97, 97] } : ByteArray) :: []))))))))))))) h2 (by omega) (by simp)
  rw [e3]; simp only [ats]
  exact ⟨o, i3, rfl, h3.mono (by omega)⟩
theorem often_ok {n : Nat} {v : Int} {c : List Int} {i b : Int} (h : Inv c i b) (hb : b ≤ 100000) : ∃ s i', F73 n v c i = some (s, ((c, (i', ())), ())) ∧ Inv c i' (b + 5) := by
  unfold F73
  obtain ⟨r, i1, e1, r1, r2, h1⟩ := pick (n := n) (m := 16) h (by omega)
  rw [e1]; simp only [ats]
  by_cases g : r = 0
  · rw [eqp g]
    obtain ⟨o, i5, e5, h5⟩ := odd_ok (n := n) h1 (by omega)
    rw [e5]; simp only [ats]
    exact ⟨_, _, rfl, h5.mono (by omega)⟩
  · rw [eqn g]
    exact ⟨_, _, rfl, h1.mono (by omega)⟩
end Go.Proofs.Ytdnbepnajhggpaa.Am
