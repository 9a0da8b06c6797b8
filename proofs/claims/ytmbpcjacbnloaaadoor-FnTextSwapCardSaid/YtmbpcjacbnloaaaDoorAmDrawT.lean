/- The drawing of texts: it ends; the laws. -/
import Derived.Test.YtmbpcjacbnloaaaDoorAmTextB
namespace Go.Proofs.YtmbpcjacbnloaaaDoor.Am
open Go
set_option autoImplicit false
set_option linter.unusedVariables false
set_option linter.unusedSimpArgs false
set_option maxRecDepth 100000

structure Inv (c : List Int) (i : Int) (b : Int) : Prop where
  ok : okb c
  len : c.length ≤ 4000
  lo : 0 ≤ i
  hi : i ≤ b
theorem Inv.mono {c : List Int} {i b b' : Int} (h : Inv c i b) (hb : b ≤ b') : Inv c i b' := ⟨h.ok, h.len, h.lo, Int.le_trans h.hi hb⟩

theorem pick0 {R : Type} {n : Nat} {m : Int} {c : List Int} {i : Int} (h : Inv c i 1099511627776) : ∃ v, 0 ≤ v ∧ ∀ (k0 : Int → Int → List Int → Int → Option R), F32_0 n m 0 c i k0 = k0 m v c i := by
  obtain ⟨hc, hl, h0, h1⟩ := h
  by_cases hp : 0 < c.length
  · obtain ⟨q, hq, hq0, hq1⟩ : ∃ q : Int, i.tmod (c.length : Int) = q ∧ 0 ≤ q ∧ q < c.length := ⟨_, rfl, by rw [tm h0]; exact Int.emod_nonneg _ (by omega), by rw [tm h0]; exact Int.emod_lt_of_pos _ (by omega)⟩
    obtain ⟨d, hd, hd0, hd1⟩ : ∃ d : Int, i.tdiv (c.length : Int) = d ∧ 0 ≤ d ∧ d ≤ i := ⟨_, rfl, by rw [td h0]; exact Int.ediv_nonneg h0 (by omega), by rw [td h0]; exact Int.ediv_le_self _ h0⟩
    obtain ⟨p, hpq, hp0, hp1⟩ : ∃ p : Int, (i * 7 + 3).tmod (c.length : Int) = p ∧ 0 ≤ p ∧ p < c.length := ⟨_, rfl, by rw [tm (by omega)]; exact Int.emod_nonneg _ (by omega), by rw [tm (by omega)]; exact Int.emod_lt_of_pos _ (by omega)⟩
    have hb1 := hc.getD q.toNat
    have hb2 := hc.getD p.toNat
    generalize hg1 : c.getD q.toNat 0 = b1 at hb1
    generalize hg2 : c.getD p.toNat 0 = b2 at hb2
    have hw : 0 ≤ b1 * 131 + b2 * 1117 + i * 29 + d * 53 ∧ b1 * 131 + b2 * 1117 + i * 29 + d * 53 < 9223372036854775808 := by omega
    have w1 : IntKind.wrap .i64 (i * 7) = i * 7 := wp (by omega)
    have w2 : IntKind.wrap .i64 (i * 7 + 3) = i * 7 + 3 := wp (by omega)
    have w3 : IntKind.wrap .i64 b1 = b1 := wp (by omega)
    have w4 : IntKind.wrap .i64 b2 = b2 := wp (by omega)
    have w5 : IntKind.wrap .i64 (b1 * 131) = b1 * 131 := wp (by omega)
    have w6 : IntKind.wrap .i64 (b2 * 1117) = b2 * 1117 := wp (by omega)
    have w7 : IntKind.wrap .i64 (i * 29) = i * 29 := wp (by omega)
    have w8 : IntKind.wrap .i64 (d * 53) = d * 53 := wp (by omega)
    have w9 : IntKind.wrap .i64 d = d := wp (by omega)
    have w10 : IntKind.wrap .i64 (b1 * 131 + b2 * 1117) = b1 * 131 + b2 * 1117 := wp (by omega)
    have w11 : IntKind.wrap .i64 (b1 * 131 + b2 * 1117 + i * 29) = b1 * 131 + b2 * 1117 + i * 29 := wp (by omega)
    have w12 : IntKind.wrap .i64 (b1 * 131 + b2 * 1117 + i * 29 + d * 53) = b1 * 131 + b2 * 1117 + i * 29 + d * 53 := wp (by omega)
    have hx := bxor_ok hw.1 hw.2 (b := (b1 * 131 + b2 * 1117 + i * 29 + d * 53) / 64) (by omega) (by omega)
    have w13 : IntKind.wrap .i64 ((b1 * 131 + b2 * 1117 + i * 29 + d * 53).tdiv 64) = (b1 * 131 + b2 * 1117 + i * 29 + d * 53) / 64 := by rw [td hw.1]; exact wp (by omega)
    by_cases hm : m > 256
    · refine ⟨_, hx, fun k0 => ?_⟩
      unfold F32_0
      simp (disch := omega) only [bp, np, hq, w1, w2, hpq, hd, hg1, hg2, w3, w4, w5, w6, w7, w8, w9, w10, w11, w12, w13]
    · by_cases hi : i ≥ (c.length : Int)
      · refine ⟨_, hx, fun k0 => ?_⟩
        unfold F32_0
        simp (disch := omega) only [bp, bn, np, hq, w1, w2, hpq, hd, hg1, hg2, w3, w4, w5, w6, w7, w8, w9, w10, w11, w12, w13]
      · refine ⟨b1, hb1.1, fun k0 => ?_⟩
        unfold F32_0
        simp (disch := omega) only [bp, bn, np, hq, hg1, w3]
  · refine ⟨0, Int.le_refl _, fun k0 => ?_⟩
    unfold F32_0
    simp (disch := omega) only [bn]

theorem pick {n : Nat} {m : Int} {c : List Int} {i b : Int} (h : Inv c i b) (hb : b ≤ 1099511627776) : ∃ r i', F32 n m c i = some (r, ((c, (i', ())), ())) ∧ 0 ≤ r ∧ (r < m ∨ m < 2 ∧ r = 0) ∧ Inv c i' (b + 1) := by
  by_cases hm : m < 2
  · refine ⟨0, i, ?_, Int.le_refl _, .inr ⟨hm, rfl⟩, h.mono (by omega)⟩
    unfold F32
    rw [bp hm]
  · obtain ⟨v, hv, hk⟩ := pick0 (R := Int × ((List Int × (Int × Unit)) × Unit)) (n := n) (m := m) (h.mono hb)
    have h1 := h.lo
    have h2 := h.hi
    refine ⟨v.tmod m, i + 1, ?_, by rw [tm hv]; exact Int.emod_nonneg _ (by omega), .inl (by rw [tm hv]; exact Int.emod_lt_of_pos _ (by omega)), ⟨h.ok, h.len, by omega, by omega⟩⟩
    unfold F32
    rw [bn hm, hk, np (by omega), wp (by omega)]

theorem of_ok {n : Nat} {l : List ByteArray} {c : List Int} {i b : Int} (h : Inv c i b) (hb : b ≤ 1099511627776) (hl : 0 < l.length) : ∃ s i', F24 n l c i = some (s, ((c, (i', ())), ())) ∧ s ∈ l ∧ Inv c i' (b + 1) := by
  obtain ⟨r, i', h1, h2, h3, h4⟩ := pick (n := n) (m := (l.length : Int)) h hb
  have h5 : r.toNat < l.length := by omega
  refine ⟨l[r.toNat], i', ?_, List.getElem_mem h5, h4⟩
  unfold F24
  simp only [h1, ats]
  rw [bp h2, bp (by omega), getD_lt h5]
theorem one_size (x : Int) : (bytesOfInts (List.map (fun y => y) (x :: []))).size = 1 := rfl
theorem newRnd_ok {n : Nat} {z : List Int} (hz : okb z) : ∃ c, F22 n z = some ((), ((c, (0, ())), ())) ∧ Inv c 0 0 := by
  unfold F22
  by_cases h : (4000 : Int) < (z.length : Int)
  · simp only [if_pos h]
    rw [bp (by omega), bp (by omega)]
    exact ⟨_, rfl, ⟨(hz.take _).drop _, by simp; omega, by omega, by omega⟩⟩
  · simp only [if_neg h]
    rw [bp (by omega), bp (by omega)]
    exact ⟨_, rfl, ⟨(hz.take _).drop _, by simp; omega, by omega, by omega⟩⟩

-- texts ----------------------------------------------------------------------------------------------------------------------------------
abbrev pcs : List ByteArray := (({ data := #[97] } : ByteArray) :: (({ data := #[98] } : ByteArray) :: (({ data := #[97, 98] } : ByteArray) :: (({ data := #[32] } : ByteArray) :: (({ data := #[97, 98, 97] } : ByteArray) :: (({ data := #[10] } : ByteArray) :: (({ data := #[39] } : ByteArray) :: ((bytesOfInts (List.map (fun y198 => y198) ((92 : Int) :: []))) :: (({ data := #[0] } : ByteArray) :: (({ data := #[255] } : ByteArray) :: (({ data := #[195, 169] } : ByteArray) :: (({ data := #[44] } : ByteArray) :: []))))))))))))
theorem pcs_ok : ∀ s ∈ pcs, s.size ≤ 3 := by
  decide +kernel
theorem text_it {R : Type} {n : Nat} {c : List Int} {k0 : ByteArray → List Int → Int → Option R} : ∀ (k fuel : Nat) (at_ b : Int) (acc : ByteArray), k < fuel → acc.size + 3 * k ≤ 10000 → Inv c at_ b → b + k ≤ 100000 →
    ∃ s at', F23_0_it n k0 fuel acc k c at_ = k0 s c at' ∧ s.size ≤ acc.size + 3 * k ∧ Inv c at' (b + k)
  | k, fuel, at_, b, acc, hfu, hal, h, hb => by
    obtain ⟨f, rfl⟩ : ∃ f, fuel = f + 1 := ⟨fuel - 1, by omega⟩
    simp only [F23_0_it, F23_0_step]
    cases k with
    | zero => rw [bn (by omega)]; exact ⟨acc, at_, rfl, by omega, h.mono (by omega)⟩
    | succ k =>
      rw [bp (by omega)]
      obtain ⟨s, a1, e1, m1, h1⟩ := of_ok (n := n) (l := pcs) h (by omega) (Nat.zero_lt_succ _)
      have hs := pcs_ok s m1
      rw [e1]; simp only [ats]
      rw [bp (by omega), wp (by omega), show (((k + 1 : Nat) : Int) - 1) = (k : Nat) by omega]
      obtain ⟨t, a2, e2, l2, h2⟩ := text_it (n := n) (c := c) (k0 := k0) k f a1 _ (acc ++ s) (by omega) (by rw [ByteArray.size_append]; omega) h1 (by omega)
      exact ⟨t, a2, e2, by rw [ByteArray.size_append] at l2; omega, h2.mono (by omega)⟩
theorem grow_it {R : Type} {n : Nat} {c : List Int} {at_ : Int} {k0 : ByteArray → List Int → Int → Option R} (m : Nat) : ∀ (fuel : Nat) (acc : ByteArray), 400 ≤ acc.size + m → m < fuel → acc.size ≤ 10000 → ∃ s, F23_1_it n k0 fuel acc c at_ = k0 s c at_ ∧ s.size ≤ 10000 := by
  have e : (({ data := #[97, 98] } : ByteArray)).size = 2 := rfl
  induction m with
  | zero =>
    intro fuel acc hm hfu hal
    obtain ⟨f, rfl⟩ : ∃ f, fuel = f + 1 := ⟨fuel - 1, by omega⟩
    unfold F23_1_it F23_1_step
    have g : ¬ ((acc.size : Int) < 399) := by omega
    rw [bn g]
    refine ⟨acc, ?_, hal⟩
    rfl
  | succ m ih =>
    intro fuel acc hm hfu hal
    obtain ⟨f, rfl⟩ : ∃ f, fuel = f + 1 := ⟨fuel - 1, by omega⟩
    unfold F23_1_it F23_1_step
    by_cases g : (acc.size : Int) < 399
    case neg => rw [bn g]; exact ⟨acc, rfl, hal⟩
    rw [bp g, bp (by omega)]
    exact ih f (acc ++ ({ data := #[97, 98] } : ByteArray)) (by rw [ByteArray.size_append, e]; omega) (by omega) (by rw [ByteArray.size_append, e]; omega)
theorem text_ok {n : Nat} {c : List Int} {at_ b : Int} (hn : 1000 ≤ n) (h : Inv c at_ b) (hb : b ≤ 50000) : ∃ s at', F23 n c at_ = some (s, ((c, (at', ())), ())) ∧ Inv c at' (b + 20) := by
  unfold F23
  obtain ⟨v, a1, e1, r1, r2, h1⟩ := pick (n := n) (m := 9) h (by omega)
  rw [e1]; simp only [ats]
  unfold F23_0
  obtain ⟨k, rfl⟩ : ∃ k : Nat, v = (k : Int) := ⟨v.toNat, by omega⟩
  obtain ⟨s, a2, e2, l2, h2⟩ := text_it (n := n) (c := c) (k0 := fun z210 z211 z212 => F23_2 n z210 z211 z212 (fun z227 z228 z229 => some (z227, ((z228, (z229, ())), ())))) k n a1 _ ({ data := #[] } : ByteArray) (by omega) (by show 0 + 3 * k ≤ 10000; omega) h1 (by omega)
  rw [e2]
  have l2' : s.size ≤ 0 + 3 * k := l2
  unfold F23_2
  obtain ⟨w, a3, e3, p1, p2, h3⟩ := pick (n := n) (m := 40) h2 (by omega)
  rw [e3]; simp only [ats]
  by_cases g : w = 0
  · rw [eqp g]
    unfold F23_1
    obtain ⟨t, e4, l4⟩ := grow_it (n := n) (c := c) (at_ := a3) (k0 := fun z224 z225 z226 => some (z224, ((z225, (z226, ())), ()))) 400 n s (by omega) (by omega) (by omega)
    rw [e4]
    exact ⟨_, _, rfl, h3.mono (by omega)⟩
  · rw [eqn g]
    exact ⟨_, _, rfl, h3.mono (by omega)⟩
theorem draw9 {n : Nat} {z : List Int} (hn : 1000 ≤ n) (hz : okb z) : ∃ s p, F9 n z = some ((s, (p, ())), ()) := by
  obtain ⟨c, e0, h0⟩ := newRnd_ok (n := n) hz
  unfold F9
  rw [e0]; simp only [ats]
  obtain ⟨s, a1, e1, h1⟩ := text_ok hn h0 (by omega)
  rw [e1]; simp only [ats]
  obtain ⟨t, a2, e2, h2⟩ := text_ok hn h1 (by omega)
  rw [e2]; simp only [ats]
  obtain ⟨p, a3, e3, _, h3⟩ := of_ok (n := n) (l := (({ data := #[97] } : ByteArray) :: (({ data := #[98] } : ByteArray) :: (({ data := #[97, 98] } : ByteArray) :: (({ data := #[98, 97] } : ByteArray) :: (({ data := #[] } : ByteArray) :: (({ data := #[32] } : ByteArray) :: (t :: [])))))))) h2 (by omega) (by simp)
  rw [e3]; simp only [ats]
  exact ⟨_, _, rfl⟩
theorem draw15 {n : Nat} {z : List Int} (hn : 1000 ≤ n) (hz : okb z) : ∃ s p t, F15 n z = some ((s, (p, (t, ()))), ()) := by
  obtain ⟨c, e0, h0⟩ := newRnd_ok (n := n) hz
  unfold F15
  rw [e0]; simp only [ats]
  obtain ⟨s, a1, e1, h1⟩ := text_ok hn h0 (by omega)
  rw [e1]; simp only [ats]
  obtain ⟨p, a3, e3, _, h3⟩ := of_ok (n := n) (l := (({ data := #[97] } : ByteArray) :: (({ data := #[97, 98] } : ByteArray) :: (({ data := #[98] } : ByteArray) :: (({ data := #[] } : ByteArray) :: []))))) h1 (by omega) (by simp)
  rw [e3]; simp only [ats]
  obtain ⟨t, a2, e2, h2⟩ := text_ok hn h3 (by omega)
  rw [e2]; simp only [ats]
  obtain ⟨u, a4, e4, _, h4⟩ := of_ok (n := n) (l := (({ data := #[] } : ByteArray) :: (({ data := #[98] } : ByteArray) :: (({ data := #[97, 97] } : ByteArray) :: (t :: []))))) h2 (by omega) (by simp)
  rw [e4]; simp only [ats]
  exact ⟨_, _, _, rfl⟩

-- the laws -------------------------------------------------------------------------------------------------------------------------------
theorem jpart {n : Nat} (hn : 20000 ≤ n) {s p t : ByteArray} (h : swapOk s p t) : F13 n (sp s p) t = some ((jB (sp s p) t, (true, ())), ()) := by
  obtain ⟨h1, h2, h3, h4, h5⟩ := h
  exact join13 hn (fun x hx => by have := sp_le hx; omega) h4 (by have := sp_len (s := s) (eb_size h1); omega) h5
theorem law4 {n : Nat} (hn : 20000 ≤ n) {z : List Int} (hz : okb z) : F4 n z = some (true, ()) := by
  unfold F4
  by_cases h0 : (z.length : Int) > 1048576
  · rw [bp h0]
  obtain ⟨s, p, e⟩ := draw9 (n := n) (by omega) hz
  rw [bn h0, e]; simp only [ats]
  rw [split10 hn, split11 hn]; simp only [ats]
  by_cases h : splitOk s p
  case neg =>
    rw [show splitR s p = [] from if_neg h, same12 hn (by simp)]; rfl
  have hsp : splitR s p = sp s p := if_pos h
  have hlen := sp_len (s := s) (eb_size h.1)
  have h2 := h.2
  have hsw : swapOk s p p := ⟨h.1, h2.1, h2.2, h2.2, by rw [jB_sp]; exact h2.1⟩
  rw [hsp, same12 hn (by omega)]; simp only [ats, Bool.not_true, cf]
  have hne : ¬ (((sp s p).length : Int) = 0) := fun e => sp_ne s p (List.eq_nil_of_length_eq_zero (by omega))
  rw [eqn hne, jpart hn hsw]; simp only [ats]
  unfold F4_0
  have e := finds_it (n := n) (k0 := fun z324 => some (z324, ())) (k1 := fun z325 z326 z327 => (bif z327 then some (((z326.toList) == (z325.toList)), ()) else some (false, ()))) (s := s) (w := jB (sp s p) p) (b := true) (p := p) (xs := sp s p) hn (fun x hx => ⟨by have := sp_le hx; omega, sp_no (eb_size h.1) hx⟩) h2.2 (by omega) (sp s p).length n 0 (by omega) (by omega)
  rw [Int.natCast_zero] at e
  rw [e, jB_sp, ct, beq_self_eq_true]
theorem law5 {n : Nat} (hn : 20000 ≤ n) {z : List Int} (hz : okb z) : F5 n z = some (true, ()) := by
  unfold F5
  by_cases h0 : (z.length : Int) > 1048576
  · rw [bp h0]
  obtain ⟨s, p, t, e⟩ := draw15 (n := n) (by omega) hz
  rw [bn h0, e]; simp only [ats]
  rw [swapS hn, swapI hn]; simp only [ats]
  by_cases h : swapOk s p t
  case neg =>
    rw [show swapR s p t = (eb, (false, ())) from if_neg h]
    simp
  rw [show swapR s p t = (jB (sp s p) t, (true, ())) from if_pos h, split10 hn, show splitR s p = sp s p from if_pos ⟨h.1, h.2.1, h.2.2.1⟩]; simp only [ats]
  rw [jpart hn h]
  simp [ats]
theorem law6 {n : Nat} (hn : 20000 ≤ n) {z : List Int} (hz : okb z) : F6 n z = some (true, ()) := by
  unfold F6
  by_cases h0 : (z.length : Int) > 1048576
  · rw [bp h0]
  obtain ⟨s, p, t, e⟩ := draw15 (n := n) (by omega) hz
  rw [bn h0, e]; simp only [ats]
  rw [swapS hn, swapI hn, swapI hn]; simp only [ats]
  by_cases h : swapOk s p t
  case neg =>
    rw [show swapR s p t = (eb, (false, ())) from if_neg h]
    simp
  have hsw : swapOk s p p := ⟨h.1, h.2.1, h.2.2.1, h.2.2.1, by rw [jB_sp]; exact h.2.1⟩
  rw [show swapR s p t = (jB (sp s p) t, (true, ())) from if_pos h, show swapR s p p = (jB (sp s p) p, (true, ())) from if_pos hsw, split10 hn, show splitR s p = sp s p from if_pos ⟨h.1, h.2.1, h.2.2.1⟩]; simp only [ats]
  rw [jpart hn h, jB_sp]
  simp [ats]
end Go.Proofs.YtmbpcjacbnloaaaDoor.Am
