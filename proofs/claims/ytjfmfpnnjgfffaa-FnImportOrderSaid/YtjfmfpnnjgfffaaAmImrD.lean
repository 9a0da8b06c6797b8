/- The drawing of arguments: it ends. -/
import Derived.Test.YtjfmfpnnjgfffaaAmImrC
namespace Go.Proofs.Ytjfmfpnnjgfffaa.Am
open Go
set_option autoImplicit false
set_option linter.unusedVariables false
set_option linter.unusedSimpArgs false

structure Inv (c : List Int) (i : Int) (b : Int) : Prop where
  ok : okb c
  len : c.length ≤ 4000
  lo : 0 ≤ i
  hi : i ≤ b
theorem Inv.mono {c : List Int} {i b b' : Int} (h : Inv c i b) (hb : b ≤ b') : Inv c i b' := ⟨h.ok, h.len, h.lo, Int.le_trans h.hi hb⟩

theorem pick0 {R : Type} {n : Nat} {m : Int} {c : List Int} {i : Int} (h : Inv c i 1099511627776) : ∃ v, 0 ≤ v ∧ ∀ (k0 : Int → Int → List Int → Int → Option R), F54_0 n m 0 c i k0 = k0 m v c i := by
  obtain ⟨hc, hl, h0, h1⟩ := h
  by_cases hp : 0 < c.length
  · obtain ⟨q, hq, hq0, hq1⟩ : ∃ q : Int, i.tmod (c.length : Int) = q ∧ 0 ≤ q ∧ q < c.length := ⟨_, rfl, by rw [tm h0]; exact Int.emod_nonneg _ (by omega), by rw [tm h0]; exact Int.emod_lt_of_pos _ (by omega)⟩
    obtain ⟨d, hd, hd0, hd1⟩ : ∃ d : Int, i.tdiv (c.length : Int) = d ∧ 0 ≤ d ∧ d ≤ i := ⟨_, rfl, by rw [td h0]; exact Int.ediv_nonneg h0 (by omega), by rw [td h0]; exact Int.ediv_le_self _ h0⟩
    obtain ⟨p, hpq, hp0, hp1⟩ : ∃ p : Int, (i * 7 + 3).tmod (c.length : Int) = p ∧ 0 ≤ p ∧ p < c.length := ⟨_, rfl, by rw [tm (by omega)]; exact Int.emod_nonneg _ (by omega), by rw [tm (by omega)]; exact Int.emod_lt_of_pos _ (by omega)⟩
    have hb1 := hc.getD q.toNat
    have hb2 := hc.getD p.toNat
    generalize hg1 : c.getD q.toNat 0 = b1 at hb1
    generalize hg2 : c.getD p.toNat 0 = b2 at hb2
    have hw : 0 ≤ b1 * 131 + b2 * 1117 + i * 29 + d * 53 ∧ b1 * 131 + b2 * 1117 + i * 29 + d * 53 < 9223372036854775808 := by omega
    have w1 : IntKind.wrap .i64 (i * 7) = i * 7 := wp (by omega)
    have w2 : IntKind.wrap .i64 (i * 7 + 3) = i * 7 + 3 := wp (by omega)
    have w3 : IntKind.wrap .i64 b1 = b1 := wp (by omega)
    have w4 : IntKind.wrap .i64 b2 = b2 := wp (by omega)
    have w5 : IntKind.wrap .i64 (b1 * 131) = b1 * 131 := wp (by omega)
    have w6 : IntKind.wrap .i64 (b2 * 1117) = b2 * 1117 := wp (by omega)
    have w7 : IntKind.wrap .i64 (i * 29) = i * 29 := wp (by omega)
    have w8 : IntKind.wrap .i64 (d * 53) = d * 53 := wp (by omega)
    have w9 : IntKind.wrap .i64 d = d := wp (by omega)
    have w10 : IntKind.wrap .i64 (b1 * 131 + b2 * 1117) = b1 * 131 + b2 * 1117 := wp (by omega)
    have w11 : IntKind.wrap .i64 (b1 * 131 + b2 * 1117 + i * 29) = b1 * 131 + b2 * 1117 + i * 29 := wp (by omega)
    have w12 : IntKind.wrap .i64 (b1 * 131 + b2 * 1117 + i * 29 + d * 53) = b1 * 131 + b2 * 1117 + i * 29 + d * 53 := wp (by omega)
    have hx := bxor_ok hw.1 hw.2 (b := (b1 * 131 + b2 * 1117 + i * 29 + d * 53) / 64) (by omega) (by omega)
    have w13 : IntKind.wrap .i64 ((b1 * 131 + b2 * 1117 + i * 29 + d * 53).tdiv 64) = (b1 * 131 + b2 * 1117 + i * 29 + d * 53) / 64 := by rw [td hw.1]; exact wp (by omega)
    by_cases hm : m > 256
    · refine ⟨_, hx, fun k0 => ?_⟩
      unfold F54_0
      simp (disch := omega) only [bp, np, hq, w1, w2, hpq, hd, hg1, hg2, w3, w4, w5, w6, w7, w8, w9, w10, w11, w12, w13]
    · by_cases hi : i ≥ (c.length : Int)
      · refine ⟨_, hx, fun k0 => ?_⟩
        unfold F54_0
        simp (disch := omega) only [bp, bn, np, hq, w1, w2, hpq, hd, hg1, hg2, w3, w4, w5, w6, w7, w8, w9, w10, w11, w12, w13]
      · refine ⟨b1, hb1.1, fun k0 => ?_⟩
        unfold F54_0
        simp (disch := omega) only [bp, bn, np, hq, hg1, w3]
  · refine ⟨0, Int.le_refl _, fun k0 => ?_⟩
    unfold F54_0
    simp (disch := omega) only [bn]

theorem pick {n : Nat} {m : Int} {c : List Int} {i b : Int} (h : Inv c i b) (hb : b ≤ 1099511627776) : ∃ r i', F54 n m c i = some (r, ((c, (i', ())), ())) ∧ 0 ≤ r ∧ (r < m ∨ m < 2 ∧ r = 0) ∧ Inv c i' (b + 1) := by
  by_cases hm : m < 2
  · refine ⟨0, i, ?_, Int.le_refl _, .inr ⟨hm, rfl⟩, h.mono (by omega)⟩
    unfold F54
    rw [bp hm]
  · obtain ⟨v, hv, hk⟩ := pick0 (R := Int × ((List Int × (Int × Unit)) × Unit)) (n := n) (m := m) (h.mono hb)
    have h1 := h.lo
    have h2 := h.hi
    refine ⟨v.tmod m, i + 1, ?_, by rw [tm hv]; exact Int.emod_nonneg _ (by omega), .inl (by rw [tm hv]; exact Int.emod_lt_of_pos _ (by omega)), ⟨h.ok, h.len, by omega, by omega⟩⟩
    unfold F54
    rw [bn hm, hk, np (by omega), wp (by omega)]

theorem of_ok {n : Nat} {l : List ByteArray} {c : List Int} {i b : Int} (h : Inv c i b) (hb : b ≤ 1099511627776) (hl : 0 < l.length) : ∃ s i', F57 n l c i = some (s, ((c, (i', ())), ())) ∧ s ∈ l ∧ Inv c i' (b + 1) := by
  obtain ⟨r, i', h1, h2, h3, h4⟩ := pick (n := n) (m := (l.length : Int)) h hb
  have h5 : r.toNat < l.length := by omega
  refine ⟨l[r.toNat], i', ?_, List.getElem_mem h5, h4⟩
  unfold F57
  simp only [h1, ats]
  rw [bp h2, bp (by omega), getD_lt h5]
theorem one_ok {n : Nat} {l : List Int} {c : List Int} {i b : Int} (h : Inv c i b) (hb : b ≤ 1099511627776) (hl : 0 < l.length) : ∃ s i', F55 n l c i = some (s, ((c, (i', ())), ())) ∧ s ∈ l ∧ Inv c i' (b + 1) := by
  obtain ⟨r, i', h1, h2, h3, h4⟩ := pick (n := n) (m := (l.length : Int)) h hb
  have h5 : r.toNat < l.length := by omega
  refine ⟨l[r.toNat], i', ?_, List.getElem_mem h5, h4⟩
  unfold F55
  simp only [h1, ats]
  rw [bp h2, bp (by omega), getD_lt h5]

theorem one_size (x : Int) : (bytesOfInts (List.map (fun y => y) (x :: []))).size = 1 := rfl
theorem newRnd_ok {n : Nat} {z : List Int} (hz : okb z) : ∃ c, F36 n z = some ((), ((c, (0, ())), ())) ∧ Inv c 0 0 := by
  unfold F36
  by_cases h : (4000 : Int) < (z.length : Int)
  · simp only [if_pos h]
    rw [bp (by omega), bp (by omega)]
    exact ⟨_, rfl, ⟨(hz.take _).drop _, by simp; omega, by omega, by omega⟩⟩
  · simp only [if_neg h]
    rw [bp (by omega), bp (by omega)]
    exact ⟨_, rfl, ⟨(hz.take _).drop _, by simp; omega, by omega, by omega⟩⟩
theorem odd_ok {n : Nat} {c : List Int} {i b : Int} (h : Inv c i b) (hb : b ≤ 1099511627776) : ∃ s i', F70 n c i = some (s, ((c, (i', ())), ())) ∧ Inv c i' (b + 1) := by
  unfold F70
  obtain ⟨s, i', e, _, h'⟩ := one_ok (n := n) (l := ((-1 : Int) :: ((4611686018427387904 : Int) :: ((-4611686018427387904 : Int) :: ((1001 : Int) :: ((7 : Int) :: ((1000001 : Int) :: ((-9223372036854775808 : Int) :: ((9223372036854775807 : Int) :: []))))))))) h hb (by decide)
  rw [e]
  exact ⟨s, i', rfl, h'⟩
theorem often_ok {n : Nat} {v : Int} {c : List Int} {i b : Int} (h : Inv c i b) (hb : b ≤ 100000) : ∃ s i', F56 n v c i = some (s, ((c, (i', ())), ())) ∧ Inv c i' (b + 5) := by
  unfold F56
  obtain ⟨r, i1, e1, r1, r2, h1⟩ := pick (n := n) (m := 16) h (by omega)
  rw [e1]; simp only [ats]
  by_cases g : r = 0
  · rw [eqp g]
    obtain ⟨o, i5, e5, h5⟩ := odd_ok (n := n) h1 (by omega)
    rw [e5]; simp only [ats]
    exact ⟨_, _, rfl, h5.mono (by omega)⟩
  · rw [eqn g]
    exact ⟨_, _, rfl, h1.mono (by omega)⟩


-- modules ------------------------------------------------------------------------------------------------------------------------------
theorem word_ok {n : Nat} {c : List Int} {i b : Int} (h : Inv c i b) (hb : b ≤ 1099511627776) : ∃ s i', F58 n c i = some (s, ((c, (i', ())), ())) ∧ s.size ≤ 1000 ∧ Inv c i' (b + 1) := by
  unfold F58
  refine (fun {l : List ByteArray} (hl : 0 < l.length) (hs : ∀ s ∈ l, s.size ≤ 1000) => ?_ : ∀ {l : List ByteArray}, 0 < l.length → (∀ s ∈ l, s.size ≤ 1000) → ∃ s i', (andThen (F57 n l c i) fun r1623 => some (r1623.1, ((r1623.2.1.1, (r1623.2.1.2.1, ())), ()))) = some (s, ((c, (i', ())), ())) ∧ s.size ≤ 1000 ∧ Inv c i' (b + 1)) (by decide) (by decide)
  obtain ⟨s, i', e, m, h'⟩ := of_ok (n := n) (l := l) h hb hl
  rw [e]
  exact ⟨s, i', rfl, hs s m, h'⟩
def SN (r : List Stp) : Prop := ∀ s ∈ r, s.name.size ≤ 1000
theorem nm_ok {n : Nat} {c : List Int} {i b : Int} (h : Inv c i b) (hb : b ≤ 100000) : ∃ s i', (∃ w i1, F58 n c i = some (w, ((c, (i1, ())), ())) ∧ F57 n (({ data := #[97] } : ByteArray) :: (({ data := #[97] } : ByteArray) :: (({ data := #[98] } : ByteArray) :: (w :: [])))) c i1 = some (s, ((c, (i', ())), ()))) ∧ s.size ≤ 1000 ∧ Inv c i' (b + 2) := by
  obtain ⟨w, i1, e1, s1, h1⟩ := word_ok (n := n) h (by omega)
  obtain ⟨s, i2, e2, m2, h2⟩ := of_ok (n := n) (l := (({ data := #[97] } : ByteArray) :: (({ data := #[97] } : ByteArray) :: (({ data := #[98] } : ByteArray) :: (w :: []))))) h1 (by omega) (by simp)
  refine ⟨s, i2, ⟨w, i1, e1, e2⟩, ?_, h2.mono (by omega)⟩
  have b1 : ({ data := #[97] } : ByteArray).size ≤ 1000 := by decide
  have b2 : ({ data := #[98] } : ByteArray).size ≤ 1000 := by decide
  simp only [List.mem_cons, List.not_mem_nil, or_false] at m2
  rcases m2 with rfl | rfl | rfl | rfl <;> assumption
theorem stn_ok {R : Type} {n : Nat} {x1 x2 x3 : Int} {c : List Int} {i b kd nu : Int} {L : List (List Stp)} {r : List Stp} (h : Inv c i b) (hb : b ≤ 100000) : ∃ s i', s.size ≤ 1000 ∧ Inv c i' (b + 2) ∧
    ∀ k0 : Int → Int → Int → List Int → Int → List (List Stp) → List Stp → Int → Int → ByteArray → Option R, F37_0 n x1 x2 x3 c i L r kd nu ({ data := #[] } : ByteArray) k0 = k0 x1 x2 x3 c i' L r kd nu s := by
  by_cases g3 : kd = 3
  · obtain ⟨s, i', ⟨w, i1, e1, e2⟩, hs, h'⟩ := nm_ok (n := n) h hb
    refine ⟨s, i', hs, h', fun k0 => ?_⟩
    unfold F37_0
    rw [eqp g3, e1]; simp only [ats]; rw [e2]; rfl
  by_cases g4 : kd = 4
  · obtain ⟨s, i', ⟨w, i1, e1, e2⟩, hs, h'⟩ := nm_ok (n := n) h hb
    refine ⟨s, i', hs, h', fun k0 => ?_⟩
    unfold F37_0
    rw [eqn g3, eqp g4, e1]; simp only [ats]; rw [e2]; rfl
  · refine ⟨_, i, (by decide : ({ data := #[] } : ByteArray).size ≤ 1000), h.mono (by omega), fun k0 => ?_⟩
    unfold F37_0
    rw [eqn g3, eqn g4]
theorem SN.app {r : List Stp} {s : Stp} (h : SN r) (hs : s.name.size ≤ 1000) : SN (r ++ [s]) := fun t ht => by
  rcases List.mem_append.1 ht with h1 | h1
  · exact h t h1
  · obtain rfl : t = s := by simpa using h1
    exact hs
theorem step_ok {R : Type} {n : Nat} {x1 x2 x3 : Int} {c : List Int} {i b : Int} {L : List (List Stp)} {r : List Stp} (h : Inv c i b) (hb : b ≤ 90000) (hr : r.length ≤ 1000) (hs : SN r) : ∃ r' i', r'.length = r.length + 1 ∧ SN r' ∧ Inv c i' (b + 10) ∧
    ∀ k0 : Int → Int → Int → List Int → Int → List (List Stp) → List Stp → Option R, F37_1 n x1 x2 x3 c i L r k0 = k0 x1 x2 x3 c i' L r' := by
  obtain ⟨kd, i1, e1, -, h1⟩ := one_ok (n := n) (l := ((1 : Int) :: ((1 : Int) :: ((2 : Int) :: ((3 : Int) :: ((3 : Int) :: ((4 : Int) :: ((4 : Int) :: ((5 : Int) :: []))))))))) h (by omega) (by decide)
  obtain ⟨v, i2, e2, -, -, h2⟩ := pick (n := n) (m := x1) h1 (by omega)
  obtain ⟨u, i3, e3, h3⟩ := often_ok (n := n) (v := v) h2 (by omega)
  obtain ⟨s, i4, hn, h4, e4⟩ := stn_ok (R := R) (n := n) (x1 := x1) (x2 := x2) (x3 := x3) (kd := kd) (nu := u) (L := L) (r := r) h3 (by omega)
  refine ⟨r ++ [Stp.mk kd u s], i4, by simp, hs.app hn, h4.mono (by omega), fun k0 => ?_⟩
  unfold F37_1
  rw [e1]; simp only [ats]; rw [e2]; simp only [ats]; rw [e3]; simp only [ats]; rw [e4]
  rw [bp (by simp only [List.length_cons, List.length_nil]; omega)]
theorem steps_it {R : Type} {n : Nat} {x1 x2 : Int} {c : List Int} {L : List (List Stp)} {k0 : Int → Int → List Int → Int → List (List Stp) → List Stp → Option R} : ∀ (m fuel : Nat) (i b : Int) (r : List Stp), m < fuel → m ≤ 100 → r.length + m ≤ 100 → SN r → Inv c i b → b + 10 * m ≤ 80000 →
    ∃ r' i', r'.length = r.length + m ∧ SN r' ∧ Inv c i' (b + 10 * m) ∧ F37_2_it n k0 fuel x1 x2 (m : Int) c i L r = k0 x1 x2 c i' L r'
  | 0, fuel, i, b, r, hf, _, _, hs, h, hb => by
    obtain ⟨f, rfl⟩ : ∃ f, fuel = f + 1 := ⟨fuel - 1, by omega⟩
    refine ⟨r, i, rfl, hs, h.mono (by omega), ?_⟩
    show F37_2_step n k0 (F37_2_it n k0 f) x1 x2 _ c i L r = _
    unfold F37_2_step
    rw [bn (by omega)]
  | m + 1, fuel, i, b, r, hf, hm, hl, hs, h, hb => by
    obtain ⟨f, rfl⟩ : ∃ f, fuel = f + 1 := ⟨fuel - 1, by omega⟩
    obtain ⟨r1, i1, l1, s1, h1, e1⟩ := step_ok (R := R) (n := n) (x1 := x1) (x2 := x2) (x3 := ((m + 1 : Nat) : Int)) (L := L) h (by omega) (r := r) (by omega) hs
    obtain ⟨r2, i2, l2, s2, h2, e2⟩ := steps_it (R := R) (n := n) (x1 := x1) (x2 := x2) (L := L) (k0 := k0) m f i1 (b + 10) r1 (by omega) (by omega) (by omega) s1 h1 (by omega)
    refine ⟨r2, i2, by omega, s2, h2.mono (by omega), ?_⟩
    show F37_2_step n k0 (F37_2_it n k0 f) x1 x2 _ c i L r = _
    unfold F37_2_step
    rw [bp (by omega), e1, wp (by omega), ← e2]
    congr 1
    omega
/-- what is drawn -/
def DM (a : List (List Stp)) : Prop := ∀ r ∈ a, r.length ≤ 5 ∧ SN r
theorem DM.app {a : List (List Stp)} {r : List Stp} (h : DM a) (hl : r.length ≤ 5) (hs : SN r) : DM (a ++ [r]) := fun t ht => by
  rcases List.mem_append.1 ht with h1 | h1
  · exact h t h1
  · obtain rfl : t = r := by simpa using h1
    exact ⟨hl, hs⟩
theorem mods_it {R : Type} {n : Nat} {c : List Int} {k0 : List Int → Int → List (List Stp) → Option R} (hn : 4000000 ≤ n) : ∀ (m fuel : Nat) (i b q N : Int) (a : List (List Stp)), m < fuel → 0 ≤ q → N = q + m → N ≤ 100 → a.length + m ≤ 100 → DM a → Inv c i b → b + 60 * m ≤ 70000 →
    ∃ a' i', a'.length = a.length + m ∧ DM a' ∧ Inv c i' (b + 60 * m) ∧ F37_3_it n k0 fuel N q c i a = k0 c i' a'
  | 0, fuel, i, b, q, N, a, hf, h0, hN, hN2, hl, hd, h, hb => by
    obtain ⟨f, rfl⟩ : ∃ f, fuel = f + 1 := ⟨fuel - 1, by omega⟩
    refine ⟨a, i, rfl, hd, h.mono (by omega), ?_⟩
    show F37_3_step n k0 (F37_3_it n k0 f) N q c i a = _
    unfold F37_3_step
    rw [bn (by omega)]
  | m + 1, fuel, i, b, q, N, a, hf, h0, hN, hN2, hl, hd, h, hb => by
    obtain ⟨f, rfl⟩ : ∃ f, fuel = f + 1 := ⟨fuel - 1, by omega⟩
    obtain ⟨p, i1, e1, p1, p2, h1⟩ := pick (n := n) (m := 6) h (by omega)
    obtain ⟨p', rfl⟩ : ∃ p' : Nat, p = (p' : Int) := ⟨p.toNat, by omega⟩
    have hp' : p' ≤ 5 := by omega
    show ∃ a' i', _ ∧ _ ∧ _ ∧ F37_3_step n k0 (F37_3_it n k0 f) N q c i a = _
    unfold F37_3_step
    rw [bp (by omega), e1]; simp only [ats]
    unfold F37_2
    obtain ⟨r, i2, l2, s2, h2, e2⟩ := steps_it (R := R) (n := n) (x1 := N) (x2 := q) (c := c) (L := a) (k0 := fun z1651 z1652 z1653 z1654 z1655 z1656 =>
  let v1657 := (z1656 :: [])
  (bif (decide (((z1655.length) + (v1657.length)) ≤ (68719476736 : Nat))) then
  (F37_3_it n k0 f z1651 (IntKind.wrap .i64 (z1652 + (1 : Int))) z1653 z1654 (z1655 ++ v1657))
  else none)) p' n i1 (b + 1) [] (by omega) (by omega) (by simp; omega) (fun s hs => by cases hs) h1 (by omega)
    rw [e2]
    simp only []
    rw [bp (by simp only [List.length_cons, List.length_nil]; omega), wp (by omega)]
    obtain ⟨a3, i3, l3, d3, h3, e3⟩ := mods_it (k0 := k0) hn m f i2 (b + 60) (q + 1) N (a ++ [r]) (by omega) (by omega) (by omega) hN2 (by simp; omega) (hd.app (by simp at l2; omega) s2) (h2.mono (by omega)) (by omega)
    exact ⟨a3, i3, by simp at l3; omega, d3, h3.mono (by omega), e3⟩
theorem mods_ok {n : Nat} {c : List Int} {i b : Int} (hn : 4000000 ≤ n) (h : Inv c i b) (hb : b ≤ 10000) : ∃ a i', F37 n c i = some (a, ((c, (i', ())), ())) ∧ a.length ≤ 5 ∧ 1 ≤ a.length ∧ DM a ∧ Inv c i' (b + 400) := by
  unfold F37
  obtain ⟨p, i1, e1, p1, p2, h1⟩ := pick (n := n) (m := 5) h (by omega)
  obtain ⟨p', rfl⟩ : ∃ p' : Nat, p = (p' : Int) := ⟨p.toNat, by omega⟩
  rw [e1]; simp only [ats]
  unfold F37_3
  rw [wp (by omega)]
  obtain ⟨a3, i3, l3, d3, h3, e3⟩ := mods_it (R := (List (List Stp) × ((List Int × (Int × Unit)) × Unit))) (n := n) (c := c) (k0 := (fun z1660 z1661 z1662 =>
  some (z1662, ((z1660, (z1661, ())), ())))) hn (p' + 1) n i1 (b + 1) 0 (1 + (p' : Int)) [] (by omega) (by omega) (by omega) (by omega) (by simp; omega) (fun s hs => by cases hs) h1 (by omega)
  exact ⟨a3, i3, e3, by simp at l3; omega, by simp at l3; omega, d3, h3.mono (by omega)⟩
theorem nums_it {R : Type} {n : Nat} {c : List Int} {x : Int} {k0 : List Int → Int → List Int → Option R} : ∀ (m fuel : Nat) (i b : Int) (r : List Int), m < fuel → m ≤ 100 → r.length + m ≤ 100 → Inv c i b → b + m ≤ 80000 →
    ∃ r' i', r'.length = r.length + m ∧ F38_0_it n k0 fuel x (m : Int) c i r = k0 c i' r'
  | 0, fuel, i, b, r, hf, _, _, h, hb => by
    obtain ⟨f, rfl⟩ : ∃ f, fuel = f + 1 := ⟨fuel - 1, by omega⟩
    refine ⟨r, i, rfl, ?_⟩
    show F38_0_step n k0 (F38_0_it n k0 f) x _ c i r = _
    unfold F38_0_step
    rw [bn (by omega)]
  | m + 1, fuel, i, b, r, hf, hm, hl, h, hb => by
    obtain ⟨f, rfl⟩ : ∃ f, fuel = f + 1 := ⟨fuel - 1, by omega⟩
    obtain ⟨v, i1, e1, -, -, h1⟩ := pick (n := n) (m := x) h (by omega)
    obtain ⟨r2, i2, l2, e2⟩ := nums_it (R := R) (n := n) (x := x) (k0 := k0) m f i1 (b + 1) (r ++ [v]) (by omega) (by omega) (by simp; omega) h1 (by omega)
    refine ⟨r2, i2, by simp at l2; omega, ?_⟩
    show F38_0_step n k0 (F38_0_it n k0 f) x _ c i r = _
    unfold F38_0_step
    rw [bp (by omega), e1]; simp only [ats]
    rw [bp (by simp only [List.length_cons, List.length_nil]; omega), wp (by omega), ← e2]
    congr 1
    omega
theorem draw_ok {n : Nat} {z : List Int} (hn : 4000000 ≤ n) (hz : okb z) : ∃ a l, F16 n z = some ((a, (l, ())), ()) ∧ a.length ≤ 5 ∧ DM a ∧ l.length ≤ 4 := by
  unfold F16
  obtain ⟨c, e1, h1⟩ := newRnd_ok (n := n) hz
  rw [e1]; simp only [ats]
  obtain ⟨a, i2, e2, l2, l2', d2, h2⟩ := mods_ok hn h1 (by omega)
  rw [e2]; simp only [ats]
  unfold F38
  rw [wp (by omega)]
  obtain ⟨p, i3, e3, p1, p2, h3⟩ := pick (n := n) (m := 4 + 1) h2 (by omega)
  obtain ⟨p', rfl⟩ : ∃ p' : Nat, p = (p' : Int) := ⟨p.toNat, by omega⟩
  rw [e3]; simp only [ats]
  unfold F38_0
  obtain ⟨r, i4, l4, e4⟩ := nums_it (R := (List Int × ((List Int × (Int × Unit)) × Unit))) (n := n) (c := c) (x := (a.length : Int)) (k0 := (fun z1682 z1683 z1684 =>
  some (z1684, ((z1682, (z1683, ())), ())))) p' n i3 (0 + 400 + 1) [] (by omega) (by omega) (by simp; omega) h3 (by omega)
  rw [e4]; simp only [ats]
  exact ⟨a, r, rfl, l2, d2, by simp at l4; omega⟩
theorem getD_in {α : Type} {l : List α} {d : α} {j : Nat} (h : j < l.length) : l.getD j d ∈ l := by
  rw [List.getD_eq_getElem?_getD, List.getElem?_eq_getElem h]; exact List.getElem_mem h
theorem DM.sz {a : List (List Stp)} (h : DM a) (hl : a.length ≤ 5) : Sz a := ⟨by omega, fun j hj => by
  obtain ⟨h1, h2⟩ := h _ (getD_in (d := []) hj)
  refine ⟨by omega, fun k hk => ?_⟩
  have := h2 _ (getD_in (d := t0) hk)
  omega⟩
end Go.Proofs.Ytjfmfpnnjgfffaa.Am
