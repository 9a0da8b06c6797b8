/- The drawing of a text: it ends; the law. -/
import Derived.Test.YtmbpcjacbnloaaaAmLexB
import Derived.Test.YtmbpcjacbnloaaaAmOpen
namespace Go.Proofs.Ytmbpcjacbnloaaa.Am
open Go
set_option autoImplicit false
set_option linter.unusedVariables false
set_option linter.unusedSimpArgs false
set_option maxRecDepth 100000

structure Inv (c : List Int) (i : Int) (b : Int) : Prop where
  ok : okb c
  len : c.length ≤ 4000
  lo : 0 ≤ i
  hi : i ≤ b
theorem Inv.mono {c : List Int} {i b b' : Int} (h : Inv c i b) (hb : b ≤ b') : Inv c i b' := ⟨h.ok, h.len, h.lo, Int.le_trans h.hi hb⟩

theorem pick0 {R : Type} {n : Nat} {m : Int} {c : List Int} {i : Int} (h : Inv c i 1099511627776) : ∃ v, 0 ≤ v ∧ ∀ (k0 : Int → Int → List Int → Int → Option R), F16_0 n m 0 c i k0 = k0 m v c i := by
  obtain ⟨hc, hl, h0, h1⟩ := h
  by_cases hp : 0 < c.length
  · obtain ⟨q, hq, hq0, hq1⟩ : ∃ q : Int, i.tmod (c.length : Int) = q ∧ 0 ≤ q ∧ q < c.length := ⟨_, rfl, by rw [tm h0]; exact Int.emod_nonneg _ (by omega), by rw [tm h0]; exact Int.emod_lt_of_pos _ (by omega)⟩
    obtain ⟨d, hd, hd0, hd1⟩ : ∃ d : Int, i.tdiv (c.length : Int) = d ∧ 0 ≤ d ∧ d ≤ i := ⟨_, rfl, by rw [td h0]; exact Int.ediv_nonneg h0 (by omega), by rw [td h0]; exact Int.ediv_le_self _ h0⟩
    obtain ⟨p, hpq, hp0, hp1⟩ : ∃ p : Int, (i * 7 + 3).tmod (c.length : Int) = p ∧ 0 ≤ p ∧ p < c.length := ⟨_, rfl, by rw [tm (by omega)]; exact Int.emod_nonneg _ (by omega), by rw [tm (by omega)]; exact Int.emod_lt_of_pos _ (by omega)⟩
    have hb1 := hc.getD q.toNat
    have hb2 := hc.getD p.toNat
    generalize hg1 : c.getD q.toNat 0 = b1 at hb1
    generalize hg2 : c.getD p.toNat 0 = b2 at hb2
    have hw : 0 ≤ b1 * 131 + b2 * 1117 + i * 29 + d * 53 ∧ b1 * 131 + b2 * 1117 + i * 29 + d * 53 < 9223372036854775808 := by omega
    have w1 : IntKind.wrap .i64 (i * 7) = i * 7 := wp (by omega)
    have w2 : IntKind.wrap .i64 (i * 7 + 3) = i * 7 + 3 := wp (by omega)
    have w3 : IntKind.wrap .i64 b1 = b1 := wp (by omega)
    have w4 : IntKind.wrap .i64 b2 = b2 := wp (by omega)
    have w5 : IntKind.wrap .i64 (b1 * 131) = b1 * 131 := wp (by omega)
    have w6 : IntKind.wrap .i64 (b2 * 1117) = b2 * 1117 := wp (by omega)
    have w7 : IntKind.wrap .i64 (i * 29) = i * 29 := wp (by omega)
    have w8 : IntKind.wrap .i64 (d * 53) = d * 53 := wp (by omega)
    have w9 : IntKind.wrap .i64 d = d := wp (by omega)
    have w10 : IntKind.wrap .i64 (b1 * 131 + b2 * 1117) = b1 * 131 + b2 * 1117 := wp (by omega)
    have w11 : IntKind.wrap .i64 (b1 * 131 + b2 * 1117 + i * 29) = b1 * 131 + b2 * 1117 + i * 29 := wp (by omega)
    have w12 : IntKind.wrap .i64 (b1 * 131 + b2 * 1117 + i * 29 + d * 53) = b1 * 131 + b2 * 1117 + i * 29 + d * 53 := wp (by omega)
    have hx := bxor_ok hw.1 hw.2 (b := (b1 * 131 + b2 * 1117 + i * 29 + d * 53) / 64) (by omega) (by omega)
    have w13 : IntKind.wrap .i64 ((b1 * 131 + b2 * 1117 + i * 29 + d * 53).tdiv 64) = (b1 * 131 + b2 * 1117 + i * 29 + d * 53) / 64 := by rw [td hw.1]; exact wp (by omega)
    by_cases hm : m > 256
    · refine ⟨_, hx, fun k0 => ?_⟩
      unfold F16_0
      simp (disch := omega) only [bp, np, hq, w1, w2, hpq, hd, hg1, hg2, w3, w4, w5, w6, w7, w8, w9, w10, w11, w12, w13]
    · by_cases hi : i ≥ (c.length : Int)
      · refine ⟨_, hx, fun k0 => ?_⟩
        unfold F16_0
        simp (disch := omega) only [bp, bn, np, hq, w1, w2, hpq, hd, hg1, hg2, w3, w4, w5, w6, w7, w8, w9, w10, w11, w12, w13]
      · refine ⟨b1, hb1.1, fun k0 => ?_⟩
        unfold F16_0
        simp (disch := omega) only [bp, bn, np, hq, hg1, w3]
  · refine ⟨0, Int.le_refl _, fun k0 => ?_⟩
    unfold F16_0
    simp (disch := omega) only [bn]

theorem pick {n : Nat} {m : Int} {c : List Int} {i b : Int} (h : Inv c i b) (hb : b ≤ 1099511627776) : ∃ r i', F16 n m c i = some (r, ((c, (i', ())), ())) ∧ 0 ≤ r ∧ (r < m ∨ m < 2 ∧ r = 0) ∧ Inv c i' (b + 1) := by
  by_cases hm : m < 2
  · refine ⟨0, i, ?_, Int.le_refl _, .inr ⟨hm, rfl⟩, h.mono (by omega)⟩
    unfold F16
    rw [bp hm]
  · obtain ⟨v, hv, hk⟩ := pick0 (R := Int × ((List Int × (Int × Unit)) × Unit)) (n := n) (m := m) (h.mono hb)
    have h1 := h.lo
    have h2 := h.hi
    refine ⟨v.tmod m, i + 1, ?_, by rw [tm hv]; exact Int.emod_nonneg _ (by omega), .inl (by rw [tm hv]; exact Int.emod_lt_of_pos _ (by omega)), ⟨h.ok, h.len, by omega, by omega⟩⟩
    unfold F16
    rw [bn hm, hk, np (by omega), wp (by omega)]

theorem of_ok {n : Nat} {l : List ByteArray} {c : List Int} {i b : Int} (h : Inv c i b) (hb : b ≤ 1099511627776) (hl : 0 < l.length) : ∃ s i', F17 n l c i = some (s, ((c, (i', ())), ())) ∧ s ∈ l ∧ Inv c i' (b + 1) := by
  obtain ⟨r, i', h1, h2, h3, h4⟩ := pick (n := n) (m := (l.length : Int)) h hb
  have h5 : r.toNat < l.length := by omega
  refine ⟨l[r.toNat], i', ?_, List.getElem_mem h5, h4⟩
  unfold F17
  simp only [h1, ats]
  rw [bp h2, bp (by omega), getD_lt h5]
theorem one_size (x : Int) : (bytesOfInts (List.map (fun y => y) (x :: []))).size = 1 := rfl
theorem newRnd_ok {n : Nat} {z : List Int} (hz : okb z) : ∃ c, F8 n z = some ((), ((c, (0, ())), ())) ∧ Inv c 0 0 := by
  unfold F8
  by_cases h : (4000 : Int) < (z.length : Int)
  · simp only [if_pos h]
    rw [bp (by omega), bp (by omega)]
    exact ⟨_, rfl, ⟨(hz.take _).drop _, by simp; omega, by omega, by omega⟩⟩
  · simp only [if_neg h]
    rw [bp (by omega), bp (by omega)]
    exact ⟨_, rfl, ⟨(hz.take _).drop _, by simp; omega, by omega, by omega⟩⟩

-- texts ----------------------------------------------------------------------------------------------------------------------------------
abbrev pcs : List ByteArray := (({ data := #[97] } : ByteArray) :: (({ data := #[98] } : ByteArray) :: (({ data := #[97, 98] } : ByteArray) :: (({ data := #[32] } : ByteArray) :: (({ data := #[97, 98, 97] } : ByteArray) :: (({ data := #[10] } : ByteArray) :: (({ data := #[39] } : ByteArray) :: ((bytesOfInts (List.map (fun y198 => y198) ((92 : Int) :: []))) :: (({ data := #[0] } : ByteArray) :: (({ data := #[255] } : ByteArray) :: (({ data := #[195, 169] } : ByteArray) :: (({ data := #[44] } : ByteArray) :: []))))))))))))
theorem pcs_ok : ∀ s ∈ pcs, s.size ≤ 3 := by
  decide +kernel
theorem text_it {R : Type} {n : Nat} {c : List Int} {k0 : ByteArray → List Int → Int → Option R} : ∀ (k fuel : Nat) (at_ b : Int) (acc : ByteArray), k < fuel → acc.size + 3 * k ≤ 10000 → Inv c at_ b → b + k ≤ 100000 →
    ∃ s at', F9_0_it n k0 fuel acc k c at_ = k0 s c at' ∧ s.size ≤ acc.size + 3 * k ∧ Inv c at' (b + k)
  | k, fuel, at_, b, acc, hfu, hal, h, hb => by
    obtain ⟨f, rfl⟩ : ∃ f, fuel = f + 1 := ⟨fuel - 1, by omega⟩
    simp only [F9_0_it, F9_0_step]
    cases k with
    | zero => rw [bn (by omega)]; exact ⟨acc, at_, rfl, by omega, h.mono (by omega)⟩
    | succ k =>
      rw [bp (by omega)]
      obtain ⟨s, a1, e1, m1, h1⟩ := of_ok (n := n) (l := pcs) h (by omega) (Nat.zero_lt_succ _)
      have hs := pcs_ok s m1
      rw [e1]; simp only [ats]
      rw [bp (by omega), wp (by omega), show (((k + 1 : Nat) : Int) - 1) = (k : Nat) by omega]
      obtain ⟨t, a2, e2, l2, h2⟩ := text_it (n := n) (c := c) (k0 := k0) k f a1 _ (acc ++ s) (by omega) (by rw [ByteArray.size_append]; omega) h1 (by omega)
      exact ⟨t, a2, e2, by rw [ByteArray.size_append] at l2; omega, h2.mono (by omega)⟩
theorem grow_it {R : Type} {n : Nat} {c : List Int} {at_ : Int} {k0 : ByteArray → List Int → Int → Option R} (m : Nat) : ∀ (fuel : Nat) (acc : ByteArray), 400 ≤ acc.size + m → m < fuel → acc.size ≤ 10000 → ∃ s, F9_1_it n k0 fuel acc c at_ = k0 s c at_ ∧ s.size ≤ 10000 := by
  have e : (({ data := #[97, 98] } : ByteArray)).size = 2 := rfl
  induction m with
  | zero =>
    intro fuel acc hm hfu hal
    obtain ⟨f, rfl⟩ : ∃ f, fuel = f + 1 := ⟨fuel - 1, by omega⟩
    unfold F9_1_it F9_1_step
    have g : ¬ ((acc.size : Int) < 399) := by omega
    rw [bn g]
    refine ⟨acc, ?_, hal⟩
    rfl
  | succ m ih =>
    intro fuel acc hm hfu hal
    obtain ⟨f, rfl⟩ : ∃ f, fuel = f + 1 := ⟨fuel - 1, by omega⟩
    unfold F9_1_it F9_1_step
    by_cases g : (acc.size : Int) < 399
    case neg => rw [bn g]; exact ⟨acc, rfl, hal⟩
    rw [bp g, bp (by omega)]
    exact ih f (acc ++ ({ data := #[97, 98] } : ByteArray)) (by rw [ByteArray.size_append, e]; omega) (by omega) (by rw [ByteArray.size_append, e]; omega)
theorem text_ok {n : Nat} {c : List Int} {at_ b : Int} (hn : 1000 ≤ n) (h : Inv c at_ b) (hb : b ≤ 50000) : ∃ s at', F9 n c at_ = some (s, ((c, (at', ())), ())) ∧ Inv c at' (b + 20) := by
  unfold F9
  obtain ⟨v, a1, e1, r1, r2, h1⟩ := pick (n := n) (m := 9) h (by omega)
  rw [e1]; simp only [ats]
  unfold F9_0
  obtain ⟨k, rfl⟩ : ∃ k : Nat, v = (k : Int) := ⟨v.toNat, by omega⟩
  obtain ⟨s, a2, e2, l2, h2⟩ := text_it (n := n) (c := c) (k0 := fun z210 z211 z212 => F9_2 n z210 z211 z212 (fun z227 z228 z229 => some (z227, ((z228, (z229, ())), ())))) k n a1 _ ({ data := #[] } : ByteArray) (by omega) (by show 0 + 3 * k ≤ 10000; omega) h1 (by omega)
  rw [e2]
  have l2' : s.size ≤ 0 + 3 * k := l2
  unfold F9_2
  obtain ⟨w, a3, e3, p1, p2, h3⟩ := pick (n := n) (m := 40) h2 (by omega)
  rw [e3]; simp only [ats]
  by_cases g : w = 0
  · rw [eqp g]
    unfold F9_1
    obtain ⟨t, e4, l4⟩ := grow_it (n := n) (c := c) (at_ := a3) (k0 := fun z224 z225 z226 => some (z224, ((z225, (z226, ())), ()))) 400 n s (by omega) (by omega) (by omega)
    rw [e4]
    exact ⟨_, _, rfl, h3.mono (by omega)⟩
  · rw [eqn g]
    exact ⟨_, _, rfl, h3.mono (by omega)⟩
theorem draw4 {n : Nat} {z : List Int} (hn : 1000 ≤ n) (hz : okb z) : ∃ s, F4 n z = some (s, ()) := by
  obtain ⟨c, e0, h0⟩ := newRnd_ok (n := n) hz
  unfold F4
  rw [e0]; simp only [ats]
  obtain ⟨s, a1, e1, h1⟩ := text_ok hn h0 (by omega)
  rw [e1]
  exact ⟨_, rfl⟩
theorem law3 {n : Nat} (hn : 20000 ≤ n) {z : List Int} (hz : okb z) : F3 n z = some (true, ()) := by
  obtain ⟨s, e⟩ := draw4 (n := n) (by omega) hz
  exact lawQ hn e
theorem okb_of {l : List Int} (h : SmV G (.imm 1 (l : List (G.T 1)))) : okb l := fun x hx => by
  obtain ⟨i, hi, e⟩ := List.getElem_of_mem hx
  have hh := h.elt (i := i) (x := x) (by rw [← e]; exact List.getElem?_eq_getElem hi) (j := 0) (d := .lit (.int .u8 x)) rfl
  have w : (Lit.int .u8 x).wf = true := by cases hh with | int _ _ w => exact w
  simp only [Lit.wf, Bool.and_eq_true, decide_eq_true_eq] at w
  have e1 : IntKind.min .u8 = 0 := by decide
  have e2 : IntKind.max .u8 = 255 := by decide
  omega
theorem law3V {n : Nat} (hn : 20000 ≤ n) (y : Cd.den G.T (.imm 1)) (s : SmV G (Cd.enc (.imm 1) y)) : F3 n y = some (true, ()) := law3 hn (okb_of s)
end Go.Proofs.Ytmbpcjacbnloaaa.Am
