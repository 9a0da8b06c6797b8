/- The drawing of arguments: it ends. -/
import Derived.Test.YtfknenaecihchaaAmHepX
namespace Go.Proofs.Ytfknenaecihchaa.Am
open Go
set_option autoImplicit false
set_option linter.unusedVariables false
set_option linter.unusedSimpArgs false
set_option maxRecDepth 10000

structure Inv (c : List Int) (i : Int) (b : Int) : Prop where
  ok : okb c
  len : c.length ≤ 4000
  lo : 0 ≤ i
  hi : i ≤ b
theorem Inv.mono {c : List Int} {i b b' : Int} (h : Inv c i b) (hb : b ≤ b') : Inv c i b' := ⟨h.ok, h.len, h.lo, Int.le_trans h.hi hb⟩

theorem pick0 {R : Type} {n : Nat} {m : Int} {c : List Int} {i : Int} (h : Inv c i 1099511627776) : ∃ v, 0 ≤ v ∧ ∀ (k0 : Int → Int → List Int → Int → Option R), F61_0 n m 0 c i k0 = k0 m v c i := by
  obtain ⟨hc, hl, h0, h1⟩ := h
  by_cases hp : 0 < c.length
  · obtain ⟨q, hq, hq0, hq1⟩ : ∃ q : Int, i.tmod (c.length : Int) = q ∧ 0 ≤ q ∧ q < c.length := ⟨_, rfl, by rw [tm h0]; exact Int.emod_nonneg _ (by omega), by rw [tm h0]; exact Int.emod_lt_of_pos _ (by omega)⟩
    obtain ⟨d, hd, hd0, hd1⟩ : ∃ d : Int, i.tdiv (c.length : Int) = d ∧ 0 ≤ d ∧ d ≤ i := ⟨_, rfl, by rw [td h0]; exact Int.ediv_nonneg h0 (by omega), by rw [td h0]; exact Int.ediv_le_self _ h0⟩
    obtain ⟨p, hpq, hp0, hp1⟩ : ∃ p : Int, (i * 7 + 3).tmod (c.length : Int) = p ∧ 0 ≤ p ∧ p < c.length := ⟨_, rfl, by rw [tm (by omega)]; exact Int.emod_nonneg _ (by omega), by rw [tm (by omega)]; exact Int.emod_lt_of_pos _ (by omega)⟩
    have hb1 := hc.getD q.toNat
    have hb2 := hc.getD p.toNat
    generalize hg1 : c.getD q.toNat 0 = b1 at hb1
    generalize hg2 : c.getD p.toNat 0 = b2 at hb2
    have hw : 0 ≤ b1 * 131 + b2 * 1117 + i * 29 + d * 53 ∧ b1 * 131 + b2 * 1117 + i * 29 + d * 53 < 9223372036854775808 := by omega
    have w1 : IntKind.wrap .i64 (i * 7) = i * 7 := wp (by omega)
    have w2 : IntKind.wrap .i64 (i * 7 + 3) = i * 7 + 3 := wp (by omega)
    have w3 : IntKind.wrap .i64 b1 = b1 := wp (by omega)
    have w4 : IntKind.wrap .i64 b2 = b2 := wp (by omega)
    have w5 : IntKind.wrap .i64 (b1 * 131) = b1 * 131 := wp (by omega)
    have w6 : IntKind.wrap .i64 (b2 * 1117) = b2 * 1117 := wp (by omega)
    have w7 : IntKind.wrap .i64 (i * 29) = i * 29 := wp (by omega)
    have w8 : IntKind.wrap .i64 (d * 53) = d * 53 := wp (by omega)
    have w9 : IntKind.wrap .i64 d = d := wp (by omega)
    have w10 : IntKind.wrap .i64 (b1 * 131 + b2 * 1117) = b1 * 131 + b2 * 1117 := wp (by omega)
    have w11 : IntKind.wrap .i64 (b1 * 131 + b2 * 1117 + i * 29) = b1 * 131 + b2 * 1117 + i * 29 := wp (by omega)
    have w12 : IntKind.wrap .i64 (b1 * 131 + b2 * 1117 + i * 29 + d * 53) = b1 * 131 + b2 * 1117 + i * 29 + d * 53 := wp (by omega)
    have hx := bxor_ok hw.1 hw.2 (b := (b1 * 131 + b2 * 1117 + i * 29 + d * 53) / 64) (by omega) (by omega)
    have w13 : IntKind.wrap .i64 ((b1 * 131 + b2 * 1117 + i * 29 + d * 53).tdiv 64) = (b1 * 131 + b2 * 1117 + i * 29 + d * 53) / 64 := by rw [td hw.1]; exact wp (by omega)
    by_cases hm : m > 256
    · refine ⟨_, hx, fun k0 => ?_⟩
      unfold F61_0
      simp (disch := omega) only [bp, np, hq, w1, w2, hpq, hd, hg1, hg2, w3, w4, w5, w6, w7, w8, w9, w10, w11, w12, w13]
    · by_cases hi : i ≥ (c.length : Int)
      · refine ⟨_, hx, fun k0 => ?_⟩
        unfold F61_0
        simp (disch := omega) only [bp, bn, np, hq, w1, w2, hpq, hd, hg1, hg2, w3, w4, w5, w6, w7, w8, w9, w10, w11, w12, w13]
      · refine ⟨b1, hb1.1, fun k0 => ?_⟩
        unfold F61_0
        simp (disch := omega) only [bp, bn, np, hq, hg1, w3]
  · refine ⟨0, Int.le_refl _, fun k0 => ?_⟩
    unfold F61_0
    simp (disch := omega) only [bn]

theorem pick {n : Nat} {m : Int} {c : List Int} {i b : Int} (h : Inv c i b) (hb : b ≤ 1099511627776) : ∃ r i', F61 n m c i = some (r, ((c, (i', ())), ())) ∧ 0 ≤ r ∧ (r < m ∨ m < 2 ∧ r = 0) ∧ Inv c i' (b + 1) := by
  by_cases hm : m < 2
  · refine ⟨0, i, ?_, Int.le_refl _, .inr ⟨hm, rfl⟩, h.mono (by omega)⟩
    unfold F61
    rw [bp hm]
  · obtain ⟨v, hv, hk⟩ := pick0 (R := Int × ((List Int × (Int × Unit)) × Unit)) (n := n) (m := m) (h.mono hb)
    have h1 := h.lo
    have h2 := h.hi
    refine ⟨v.tmod m, i + 1, ?_, by rw [tm hv]; exact Int.emod_nonneg _ (by omega), .inl (by rw [tm hv]; exact Int.emod_lt_of_pos _ (by omega)), ⟨h.ok, h.len, by omega, by omega⟩⟩
    unfold F61
    rw [bn hm, hk, np (by omega), wp (by omega)]

theorem of_ok {n : Nat} {l : List ByteArray} {c : List Int} {i b : Int} (h : Inv c i b) (hb : b ≤ 1099511627776) (hl : 0 < l.length) : ∃ s i', F65 n l c i = some (s, ((c, (i', ())), ())) ∧ s ∈ l ∧ Inv c i' (b + 1) := by
  obtain ⟨r, i', h1, h2, h3, h4⟩ := pick (n := n) (m := (l.length : Int)) h hb
  have h5 : r.toNat < l.length := by omega
  refine ⟨l[r.toNat], i', ?_, List.getElem_mem h5, h4⟩
  unfold F65
  simp only [h1, ats]
  rw [bp h2, bp (by omega), getD_lt h5]
theorem one_ok {n : Nat} {l : List Int} {c : List Int} {i b : Int} (h : Inv c i b) (hb : b ≤ 1099511627776) (hl : 0 < l.length) : ∃ s i', F62 n l c i = some (s, ((c, (i', ())), ())) ∧ s ∈ l ∧ Inv c i' (b + 1) := by
  obtain ⟨r, i', h1, h2, h3, h4⟩ := pick (n := n) (m := (l.length : Int)) h hb
  have h5 : r.toNat < l.length := by omega
  refine ⟨l[r.toNat], i', ?_, List.getElem_mem h5, h4⟩
  unfold F62
  simp only [h1, ats]
  rw [bp h2, bp (by omega), getD_lt h5]

theorem one_size (x : Int) : (bytesOfInts (List.map (fun y => y) (x :: []))).size = 1 := rfl
theorem positive_it {R : Type} {n : Nat} {k0 : ByteArray → Option R} : ∀ (k fuel : Nat) (x : Int) (acc : ByteArray), x.natAbs < 9223372036854775808 → x.natAbs < 10 ^ (k + 1) → k ≤ 30 → k < fuel → acc.size + k ≤ 1000 →
    ∃ s, s.size ≤ acc.size + k + 1 ∧ F109_1_it n k0 fuel x acc = k0 s
  | k, fuel, x, acc, hx3, hx2, hk, hf, ha => by
    obtain ⟨f, rfl⟩ : ∃ f, fuel = f + 1 := ⟨fuel - 1, by omega⟩
    simp only [F109_1_it, F109_1_step]
    have hd : ∃ d, ∀ (k : Int → ByteArray → Int → Option R), F109_0 n x acc (x.tmod 10) k = k x acc d := by
      unfold F109_0
      by_cases h : x.tmod 10 < 0
      · simp only [bp h]; exact ⟨_, fun k => rfl⟩
      · simp only [bn h]; exact ⟨_, fun k => rfl⟩
    obtain ⟨d, hd⟩ := hd
    rw [hd]
    generalize hv : bytesOfInts (List.map (fun y => y) (IntKind.wrap .u8 (IntKind.wrap .i64 (48 + d)) :: [])) = v
    have hs : v.size = 1 := by rw [← hv]; rfl
    rw [bp (by omega)]
    have hsz : (v ++ acc).size = 1 + acc.size := by rw [ByteArray.size_append, hs]
    have hab : (x.tdiv 10).natAbs = x.natAbs / 10 := Int.natAbs_tdiv x 10
    have hq : IntKind.wrap .i64 (x.tdiv 10) = x.tdiv 10 := wp (by omega)
    rw [hq]
    by_cases h0 : x.tdiv 10 = 0
    · rw [eqp h0]
      exact ⟨_, by omega, rfl⟩
    · rw [eqn h0]
      match k with
      | 0 =>
        have : x.natAbs / 10 = 0 := by omega
        exact absurd (show x.tdiv 10 = 0 by omega) h0
      | k + 1 =>
        have hlt : x.natAbs / 10 < 10 ^ (k + 1) := by
          have e : 10 ^ (k + 1 + 1) = 10 ^ (k + 1) * 10 := by rw [Nat.pow_succ]
          rw [e] at hx2
          exact Nat.div_lt_of_lt_mul (by omega)
        obtain ⟨s, h1, h2⟩ := positive_it (k0 := k0) k f (x.tdiv 10) (v ++ acc) (by omega) (by omega) (by omega) (by omega) (by omega)
        exact ⟨s, by omega, h2⟩

theorem decimal_ok {n : Nat} {x : Int} (hn : 100 ≤ n) (h1 : -9000000000000000000 ≤ x) (h2 : x ≤ 9000000000000000000) : ∃ s, s.size ≤ 24 ∧ F93 n x = some (s, ()) := by
  unfold F93 F109 F109_1
  by_cases hx : x < 0
  · rw [bp hx]
    obtain ⟨s, h3, h4⟩ := positive_it (R := ByteArray × Unit) (n := n) (k0 := fun z => some (z, ())) 19 n x ⟨#[]⟩ (by omega) (by omega) (by omega) (by omega) (by decide)
    have h5 : (({ data := #[] } : ByteArray)).size = 0 := rfl
    simp only [h4, ats]
    rw [bp (by omega)]
    refine ⟨_, ?_, rfl⟩
    have : (({ data := #[45] } : ByteArray) ++ s).size = 1 + s.size := by rw [ByteArray.size_append]; rfl
    omega
  · rw [bn hx]
    obtain ⟨s, h3, h4⟩ := positive_it (R := ByteArray × Unit) (n := n) (k0 := fun z => some (z, ())) 19 n x ⟨#[]⟩ (by omega) (by omega) (by omega) (by omega) (by decide)
    simp only [h4, ats]
    have h5 : (({ data := #[] } : ByteArray)).size = 0 := rfl
    exact ⟨_, by omega, rfl⟩
theorem newRnd_ok {n : Nat} {z : List Int} (hz : okb z) : ∃ c, F37 n z = some ((), ((c, (0, ())), ())) ∧ Inv c 0 0 := by
  unfold F37
  by_cases h : (4000 : Int) < (z.length : Int)
  · simp only [if_pos h]
    rw [bp (by omega), bp (by omega)]
    exact ⟨_, rfl, ⟨(hz.take _).drop _, by simp; omega, by omega, by omega⟩⟩
  · simp only [if_neg h]
    rw [bp (by omega), bp (by omega)]
    exact ⟨_, rfl, ⟨(hz.take _).drop _, by simp; omega, by omega, by omega⟩⟩
theorem odd_ok {n : Nat} {c : List Int} {i b : Int} (h : Inv c i b) (hb : b ≤ 1099511627776) : ∃ s i', F67 n c i = some (s, ((c, (i', ())), ())) ∧ Inv c i' (b + 1) := by
  unfold F67
  obtain ⟨s, i', e, _, h'⟩ := one_ok (n := n) (l := ((-1 : Int) :: ((4611686018427387904 : Int) :: ((-4611686018427387904 : Int) :: ((1001 : Int) :: ((7 : Int) :: ((1000001 : Int) :: ((-9223372036854775808 : Int) :: ((9223372036854775807 : Int) :: []))))))))) h hb (by decide)
  rw [e]
  exact ⟨s, i', rfl, h'⟩
theorem often_ok {n : Nat} {v : Int} {c : List Int} {i b : Int} (h : Inv c i b) (hb : b ≤ 100000) : ∃ s i', F68 n v c i = some (s, ((c, (i', ())), ())) ∧ Inv c i' (b + 5) := by
  unfold F68
  obtain ⟨r, i1, e1, r1, r2, h1⟩ := pick (n := n) (m := 16) h (by omega)
  rw [e1]; simp only [ats]
  by_cases g : r = 0
  · rw [eqp g]
    obtain ⟨o, i5, e5, h5⟩ := odd_ok (n := n) h1 (by omega)
    rw [e5]; simp only [ats]
    exact ⟨_, _, rfl, h5.mono (by omega)⟩
  · rw [eqn g]
    exact ⟨_, _, rfl, h1.mono (by omega)⟩


-- heaps -------------------------------------------------------------------------------------------------------------------------------------------
theorem nmx {s : ByteArray} (h1 : 1 ≤ s.size ∧ s.size ≤ 12) (h2 : ¬ (48 ≤ strOf s 0 ∧ strOf s 0 ≤ 57)) (h3 : s ∉ kws) (h4 : ∀ i, i < s.size → ((97 : Int) ≤ strOf s i ∧ strOf s i ≤ 122)) : NM s := ⟨h1.1, h1.2, h2, h3, fun i hi => .inl (.inr (.inl (h4 i hi)))⟩
theorem kws_eq : kws = (match F99 0 with | some r => r.1 | none => []) := rfl
theorem nm4 : ∀ s ∈ ([({ data := #[97] } : ByteArray), ({ data := #[98] } : ByteArray), ({ data := #[99] } : ByteArray), ({ data := #[116, 101, 120, 116] } : ByteArray)] : List ByteArray), NM s := by
  intro s hs
  simp only [List.mem_cons, List.not_mem_nil, or_false] at hs
  rcases hs with rfl | rfl | rfl | rfl
  all_goals
    refine nmx (by decide) (by decide) ?_ (by decide)
    rw [kws_eq]
    simp [F99]
theorem small_ok {n : Nat} {c : List Int} {i b : Int} (hn : 100 ≤ n) (h : Inv c i b) (hb : b ≤ 100000) : ∃ s i', F95 n c i = some (s, ((c, (i', ())), ())) ∧ s.size ≤ 24 ∧ Inv c i' (b + 2) := by
  unfold F95
  obtain ⟨r, i1, e1, r1, r2, h1⟩ := pick (n := n) (m := 100) h (by omega)
  rw [e1]; simp only [ats]
  obtain ⟨s, i2, e2, m2, h2⟩ := one_ok (n := n) (l := ((0 : Int) :: ((1 : Int) :: ((2 : Int) :: ((3 : Int) :: ((4 : Int) :: ((5 : Int) :: ((7 : Int) :: ((10 : Int) :: (r :: [])))))))))) h1 (by omega) (by simp)
  rw [e2]; simp only [ats]
  have hs : 0 ≤ s ∧ s ≤ 100 := by
    simp only [List.mem_cons, List.not_mem_nil, or_false] at m2
    omega
  obtain ⟨d, d1, d2⟩ := decimal_ok (n := n) (x := s) hn (by omega) (by omega)
  rw [d2]; simp only [ats]
  exact ⟨d, i2, rfl, d1, h2.mono (by omega)⟩
theorem txt_le : ∀ s ∈ ([({ data := #[] } : ByteArray), ({ data := #[97] } : ByteArray), ({ data := #[97, 98] } : ByteArray), ({ data := #[98, 39] } : ByteArray)] : List ByteArray), s.size ≤ 1000 := by decide
theorem txt_le2 : ∀ s ∈ ([({ data := #[] } : ByteArray), ({ data := #[48, 49] } : ByteArray)] : List ByteArray), s.size ≤ 1000 := by decide
theorem val0_ok {R : Type} {n : Nat} {m : Int} {c : List Int} {i b x1 x3 : Int} {x2 : ByteArray} (hn : 100 ≤ n) (h : Inv c i b) (hb : b ≤ 90000) :
    (∃ i' k t r, t.size ≤ 1000 ∧ Inv c i' (b + 20) ∧ ∀ (k0 : List Int → Int → Int → ByteArray → Int → Option R) (k1 : Int → List Int → Int → Int → ByteArray → Int → Option R), F63_0 n m c i x1 x2 x3 k0 k1 = k0 c i' k t r) ∨
    (∃ i', Inv c i' (b + 20) ∧ ∀ (k0 : List Int → Int → Int → ByteArray → Int → Option R) (k1 : Int → List Int → Int → Int → ByteArray → Int → Option R), F63_0 n m c i x1 x2 x3 k0 k1 = k1 m c i' x1 x2 x3) := by
  unfold F63_0
  obtain ⟨r, i1, e1, r1, r2, h1⟩ := pick (n := n) (m := 7) h (by omega)
  simp only [e1, ats]
  by_cases c0 : r = 0
  · exact .inl ⟨i1, 0, ⟨#[]⟩, 0, by decide, h1.mono (by omega), fun k0 k1 => by rw [eqp c0]⟩
  by_cases c1 : r = 1
  · obtain ⟨q, i2, e2, q1, q2, h2⟩ := pick (n := n) (m := 2) h1 (by omega)
    have : ∃ z, F91 n (q == (0 : Int)) = some (((1 : Int), (({ data := #[] } : ByteArray), (z, ()))), ()) := by
      unfold F91; cases (q == (0 : Int)) <;> exact ⟨_, rfl⟩
    obtain ⟨z, hz⟩ := this
    exact .inl ⟨i2, 1, ⟨#[]⟩, z, by decide, h2.mono (by omega), fun k0 k1 => by rw [eqn c0, eqp c1, e2]; simp only [ats, hz]⟩
  by_cases c2 : r = 2
  · obtain ⟨q, i2, e2, q1, q2, h2⟩ := pick (n := n) (m := 9) h1 (by omega)
    obtain ⟨d, d1, d2⟩ := decimal_ok (n := n) (x := q - 4) hn (by omega) (by omega)
    exact .inl ⟨i2, 2, d, 0, by omega, h2.mono (by omega), fun k0 k1 => by rw [eqn c0, eqn c1, eqp c2, e2]; simp only [ats]; rw [wp (by omega), d2]; rfl⟩
  by_cases c3 : r = 3
  · obtain ⟨s, i2, e2, m2, h2⟩ := of_ok (n := n) (l := (({ data := #[] } : ByteArray) :: (({ data := #[97] } : ByteArray) :: (({ data := #[97, 98] } : ByteArray) :: (({ data := #[98, 39] } : ByteArray) :: []))))) h1 (by omega) (by simp)
    exact .inl ⟨i2, 3, s, 0, txt_le s m2, h2.mono (by omega), fun k0 k1 => by rw [eqn c0, eqn c1, eqn c2, eqp c3, e2]; rfl⟩
  by_cases c4 : r = 4
  · obtain ⟨q, i2, e2, q1, q2, h2⟩ := pick (n := n) (m := 12) h1 (by omega)
    by_cases z : q = 0
    · obtain ⟨p, i3, e3, p1, p2, h3⟩ := pick (n := n) (m := 6) h2 (by omega)
      obtain ⟨u, i4, e4, h4⟩ := often_ok (n := n) (v := p) h3 (by omega)
      obtain ⟨s, i5, e5, m5, h5⟩ := of_ok (n := n) (l := (({ data := #[] } : ByteArray) :: (({ data := #[48, 49] } : ByteArray) :: []))) h4 (by omega) (by simp)
      obtain ⟨w, i6, e6, h6⟩ := odd_ok (n := n) h5 (by omega)
      exact .inl ⟨i6, u, s, w, txt_le2 s m5, h6.mono (by omega), fun k0 k1 => by
        rw [eqn c0, eqn c1, eqn c2, eqn c3, eqp c4, e2]; simp only [ats]; rw [eqp z, e3]; simp only [ats]; rw [e4]; simp only [ats]; rw [e5]; simp only [ats]; rw [e6]; rfl⟩
    · exact .inr ⟨i2, h2.mono (by omega), fun k0 k1 => by rw [eqn c0, eqn c1, eqn c2, eqn c3, eqp c4, e2]; simp only [ats]; rw [eqn z]⟩
  · exact .inr ⟨i1, h1.mono (by omega), fun k0 k1 => by rw [eqn c0, eqn c1, eqn c2, eqn c3, eqn c4]⟩
theorem val_ok {n : Nat} {m : Int} {c : List Int} {i b : Int} (hn : 100 ≤ n) (h : Inv c i b) (hb : b ≤ 90000) : ∃ k t r i', F63 n m c i = some ((k, (t, (r, ()))), ((c, (i', ())), ())) ∧ t.size ≤ 1000 ∧ Inv c i' (b + 30) := by
  unfold F63
  rcases val0_ok (R := (Int × (ByteArray × (Int × Unit))) × ((List Int × (Int × Unit)) × Unit)) (n := n) (m := m) (x1 := 0) (x2 := ⟨#[]⟩) (x3 := 0) hn h hb with ⟨i1, k, t, r, t1, h1, e⟩ | ⟨i1, h1, e⟩
  · rw [e]; exact ⟨k, t, r, i1, rfl, t1, h1.mono (by omega)⟩
  rw [e]
  by_cases z : m = 0
  · rw [eqp z]
    obtain ⟨s, i2, e2, s2, h2⟩ := small_ok (n := n) hn h1 (by omega)
    rw [e2]; simp only [ats, F92]
    exact ⟨_, _, _, _, rfl, by omega, h2.mono (by omega)⟩
  rw [eqn z]
  by_cases g : m > 19
  · rw [bp g]
    obtain ⟨q, i2, e2, q1, q2, h2⟩ := pick (n := n) (m := 3) h1 (by omega)
    rw [e2]; simp only [ats]
    by_cases q0 : q > 0
    · rw [bp q0]
      obtain ⟨p, i3, e3, p1, p2, h3⟩ := pick (n := n) (m := IntKind.wrap .i64 (m - 19)) h2 (by omega)
      rw [e3]; simp only [ats, F45]
      exact ⟨_, _, _, _, rfl, by decide, h3.mono (by omega)⟩
    · rw [bn q0]
      obtain ⟨p, i3, e3, p1, p2, h3⟩ := pick (n := n) (m := m) h2 (by omega)
      rw [e3]; simp only [ats, F45]
      exact ⟨_, _, _, _, rfl, by decide, h3.mono (by omega)⟩
  · rw [bn g]
    obtain ⟨p, i3, e3, p1, p2, h3⟩ := pick (n := n) (m := m) h1 (by omega)
    rw [e3]; simp only [ats, F45]
    exact ⟨_, _, _, _, rfl, by decide, h3.mono (by omega)⟩
end Go.Proofs.Ytfknenaecihchaa.Am
