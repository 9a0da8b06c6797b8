/- The drawing of arguments: it ends. -/
import Derived.Test.YtfelakjmajooaaaAmMiscA
import Derived.Test.YtfelakjmajooaaaAmOpen
import Derived.Test.YtfelakjmajooaaaAmMiscA
import Derived.Test.YtfelakjmajooaaaAmOpen
namespace Go.Proofs.Ytfelakjmajooaaa.Am
open Go
set_option autoImplicit false
set_option linter.unusedVariables false
set_option linter.unusedSimpArgs false

structure Inv (c : List Int) (i : Int) (b : Int) : Prop where
  ok : okb c
  len : c.length ≤ 4000
  lo : 0 ≤ i
  hi : i ≤ b
theorem Inv.mono {c : List Int} {i b b' : Int} (h : Inv c i b) (hb : b ≤ b') : Inv c i b' := ⟨h.ok, h.len, h.lo, Int.le_trans h.hi hb⟩

theorem pick0 {R : Type} {n : Nat} {m : Int} {c : List Int} {i : Int} (h : Inv c i 1099511627776) : ∃ v, 0 ≤ v ∧ ∀ (k0 : Int → Int → List Int → Int → Option R), F57_0 n m 0 c i k0 = k0 m v c i := by
  obtain ⟨hc, hl, h0, h1⟩ := h
  by_cases hp : 0 < c.length
  · obtain ⟨q, hq, hq0, hq1⟩ : ∃ q : Int, i.tmod (c.length : Int) = q ∧ 0 ≤ q ∧ q < c.length := ⟨_, rfl, by rw [tm h0]; exact Int.emod_nonneg _ (by omega), by rw [tm h0]; exact Int.emod_lt_of_pos _ (by omega)⟩
    obtain ⟨d, hd, hd0, hd1⟩ : ∃ d : Int, i.tdiv (c.length : Int) = d ∧ 0 ≤ d ∧ d ≤ i := ⟨_, rfl, by rw [td h0]; exact Int.ediv_nonneg h0 (by omega), by rw [td h0]; exact Int.ediv_le_self _ h0⟩
    obtain ⟨p, hpq, hp0, hp1⟩ : ∃ p : Int, (i * 7 + 3).tmod (c.length : Int) = p ∧ 0 ≤ p ∧ p < c.length := ⟨_, rfl, by rw [tm (by omega)]; exact Int.emod_nonneg _ (by omega), by rw [tm (by omega)]; exact Int.emod_lt_of_pos _ (by omega)⟩
    have hb1 := hc.getD q.toNat
    have hb2 := hc.getD p.toNat
    generalize hg1 : c.getD q.toNat 0 = b1 at hb1
    generalize hg2 : c.getD p.toNat 0 = b2 at hb2
    have hw : 0 ≤ b1 * 131 + b2 * 1117 + i * 29 + d * 53 ∧ b1 * 131 + b2 * 1117 + i * 29 + d * 53 < 9223372036854775808 := by omega
    have w1 : IntKind.wrap .i64 (i * 7) = i * 7 := wp (by omega)
    have w2 : IntKind.wrap .i64 (i * 7 + 3) = i * 7 + 3 := wp (by omega)
    have w3 : IntKind.wrap .i64 b1 = b1 := wp (by omega)
    have w4 : IntKind.wrap .i64 b2 = b2 := wp (by omega)
    have w5 : IntKind.wrap .i64 (b1 * 131) = b1 * 131 := wp (by omega)
    have w6 : IntKind.wrap .i64 (b2 * 1117) = b2 * 1117 := wp (by omega)
    have w7 : IntKind.wrap .i64 (i * 29) = i * 29 := wp (by omega)
    have w8 : IntKind.wrap .i64 (d * 53) = d * 53 := wp (by omega)
    have w9 : IntKind.wrap .i64 d = d := wp (by omega)
    have w10 : IntKind.wrap .i64 (b1 * 131 + b2 * 1117) = b1 * 131 + b2 * 1117 := wp (by omega)
    have w11 : IntKind.wrap .i64 (b1 * 131 + b2 * 1117 + i * 29) = b1 * 131 + b2 * 1117 + i * 29 := wp (by omega)
    have w12 : IntKind.wrap .i64 (b1 * 131 + b2 * 1117 + i * 29 + d * 53) = b1 * 131 + b2 * 1117 + i * 29 + d * 53 := wp (by omega)
    have hx := bxor_ok hw.1 hw.2 (b := (b1 * 131 + b2 * 1117 + i * 29 + d * 53) / 64) (by omega) (by omega)
    have w13 : IntKind.wrap .i64 ((b1 * 131 + b2 * 1117 + i * 29 + d * 53).tdiv 64) = (b1 * 131 + b2 * 1117 + i * 29 + d * 53) / 64 := by rw [td hw.1]; exact wp (by omega)
    by_cases hm : m > 256
    · refine ⟨_, hx, fun k0 => ?_⟩
      unfold F57_0
      simp (disch := omega) only [bp, np, hq, w1, w2, hpq, hd, hg1, hg2, w3, w4, w5, w6, w7, w8, w9, w10, w11, w12, w13]
    · by_cases hi : i ≥ (c.length : Int)
      · refine ⟨_, hx, fun k0 => ?_⟩
        unfold F57_0
        simp (disch := omega) only [bp, bn, np, hq, w1, w2, hpq, hd, hg1, hg2, w3, w4, w5, w6, w7, w8, w9, w10, w11, w12, w13]
      · refine ⟨b1, hb1.1, fun k0 => ?_⟩
        unfold F57_0
        simp (disch := omega) only [bp, bn, np, hq, hg1, w3]
  · refine ⟨0, Int.le_refl _, fun k0 => ?_⟩
    unfold F57_0
    simp (disch := omega) only [bn]

theorem pick {n : Nat} {m : Int} {c : List Int} {i b : Int} (h : Inv c i b) (hb : b ≤ 1099511627776) : ∃ r i', F57 n m c i = some (r, ((c, (i', ())), ())) ∧ 0 ≤ r ∧ (r < m ∨ m < 2 ∧ r = 0) ∧ Inv c i' (b + 1) := by
  by_cases hm : m < 2
  · refine ⟨0, i, ?_, Int.le_refl _, .inr ⟨hm, rfl⟩, h.mono (by omega)⟩
    unfold F57
    rw [bp hm]
  · obtain ⟨v, hv, hk⟩ := pick0 (R := Int × ((List Int × (Int × Unit)) × Unit)) (n := n) (m := m) (h.mono hb)
    have h1 := h.lo
    have h2 := h.hi
    refine ⟨v.tmod m, i + 1, ?_, by rw [tm hv]; exact Int.emod_nonneg _ (by omega), .inl (by rw [tm hv]; exact Int.emod_lt_of_pos _ (by omega)), ⟨h.ok, h.len, by omega, by omega⟩⟩
    unfold F57
    rw [bn hm, hk, np (by omega), wp (by omega)]

theorem one_ok {n : Nat} {l : List Int} {c : List Int} {i b : Int} (h : Inv c i b) (hb : b ≤ 1099511627776) (hl : 0 < l.length) : ∃ s i', F58 n l c i = some (s, ((c, (i', ())), ())) ∧ s ∈ l ∧ Inv c i' (b + 1) := by
  obtain ⟨r, i', h1, h2, h3, h4⟩ := pick (n := n) (m := (l.length : Int)) h hb
  have h5 : r.toNat < l.length := by omega
  refine ⟨l[r.toNat], i', ?_, List.getElem_mem h5, h4⟩
  unfold F58
  simp only [h1, ats]
  rw [bp h2, bp (by omega), getD_lt h5]

theorem one_size (x : Int) : (bytesOfInts (List.map (fun y => y) (x :: []))).size = 1 := rfl
theorem newRnd_ok {n : Nat} {z : List Int} (hz : okb z) : ∃ c, F42 n z = some ((), ((c, (0, ())), ())) ∧ Inv c 0 0 := by
  unfold F42
  by_cases h : (4000 : Int) < (z.length : Int)
  · simp only [if_pos h]
    rw [bp (by omega), bp (by omega)]
    exact ⟨_, rfl, ⟨(hz.take _).drop _, by simp; omega, by omega, by omega⟩⟩
  · simp only [if_neg h]
    rw [bp (by omega), bp (by omega)]
    exact ⟨_, rfl, ⟨(hz.take _).drop _, by simp; omega, by omega, by omega⟩⟩
theorem odd_ok {n : Nat} {c : List Int} {i b : Int} (h : Inv c i b) (hb : b ≤ 1099511627776) : ∃ s i', F64 n c i = some (s, ((c, (i', ())), ())) ∧ Inv c i' (b + 1) := by
  unfold F64
  obtain ⟨s, i', e, _, h'⟩ := one_ok (n := n) (l := ((-1 : Int) :: ((4611686018427387904 : Int) :: ((-4611686018427387904 : Int) :: ((1001 : Int) :: ((7 : Int) :: ((1000001 : Int) :: ((-9223372036854775808 : Int) :: ((9223372036854775807 : Int) :: []))))))))) h hb (by decide)
  rw [e]
  exact ⟨s, i', rfl, h'⟩
theorem often_ok {n : Nat} {v : Int} {c : List Int} {i b : Int} (h : Inv c i b) (hb : b ≤ 100000) : ∃ s i', F59 n v c i = some (s, ((c, (i', ())), ())) ∧ Inv c i' (b + 5) := by
  unfold F59
  obtain ⟨r, i1, e1, r1, r2, h1⟩ := pick (n := n) (m := 16) h (by omega)
  rw [e1]; simp only [ats]
  by_cases g : r = 0
  · rw [eqp g]
    obtain ⟨o, i5, e5, h5⟩ := odd_ok (n := n) h1 (by omega)
    rw [e5]; simp only [ats]
    exact ⟨_, _, rfl, h5.mono (by omega)⟩
  · rw [eqn g]
    exact ⟨_, _, rfl, h1.mono (by omega)⟩

theorem num_ok {R : Type} {n : Nat} {c : List Int} {N i k kd v at_ b : Int} {out : LA} {acc : List Act} (h : Inv c at_ b) (hb : b ≤ 100000) : ∃ v' at', Inv c at' (b + 1) ∧ ∀ K : Int → Int → Int → Int → Int → List Int → Int → LA → List Act → Option R, F43_1 n N i k kd v c at_ out acc K = K N i k kd v' c at' out acc := by
  by_cases c3 : kd = 3
  · obtain ⟨r, a1, e1, _, _, h1⟩ := pick (n := n) (m := N) h (by omega)
    refine ⟨r, a1, h1, fun K => ?_⟩
    unfold F43_1
    rw [eqp c3, e1]; rfl
  have flag : ∃ fl : Bool, ∀ K : Int → Int → Int → Int → Int → Int → Bool → List Int → Int → LA → List Act → Option R, F43_0 n N i k kd v kd c at_ out acc K = K N i k kd v kd fl c at_ out acc := by
    unfold F43_0
    by_cases c4 : kd = 4
    · exact ⟨true, fun K => by rw [eqp c4]⟩
    by_cases c5 : kd = 5
    · exact ⟨true, fun K => by rw [eqn c4, eqp c5]⟩
    · exact ⟨kd == 6, fun K => by rw [eqn c4, eqn c5]⟩
  obtain ⟨fl, hfl⟩ := flag
  cases fl with
  | true =>
    obtain ⟨r, a1, e1, _, _, h1⟩ := pick (n := n) (m := 2) h (by omega)
    refine ⟨r, a1, h1, fun K => ?_⟩
    unfold F43_1
    rw [eqn c3, hfl, ct, e1]; rfl
  | false =>
    by_cases c2 : kd = 2
    · obtain ⟨r, a1, e1, _, _, h1⟩ := pick (n := n) (m := 6) h (by omega)
      refine ⟨r, a1, h1, fun K => ?_⟩
      unfold F43_1
      rw [eqn c3, hfl, cf, eqp c2, e1]; rfl
    · refine ⟨v, at_, h.mono (by omega), fun K => ?_⟩
      unfold F43_1
      rw [eqn c3, hfl, cf, eqn c2]
theorem acts_it {R : Type} {n : Nat} {c : List Int} {N i : Int} {out : LA} {k0 : Int → Int → List Int → Int → LA → List Act → Option R} : ∀ (k fuel : Nat) (at_ b : Int) (acc : List Act), k < fuel → acc.length + k ≤ 100 → Inv c at_ b → b + 20 * k ≤ 50000 →
    ∃ l at', F43_3_it n k0 fuel N i k c at_ out acc = k0 N i c at' out l ∧ l.length ≤ acc.length + k ∧ Inv c at' (b + 20 * k)
  | k, fuel, at_, b, acc, hfu, hal, h, hb => by
    obtain ⟨f, rfl⟩ : ∃ f, fuel = f + 1 := ⟨fuel - 1, by omega⟩
    simp only [F43_3_it, F43_3_step]
    cases k with
    | zero => rw [bn (by omega)]; exact ⟨acc, at_, rfl, by omega, h.mono (by omega)⟩
    | succ k =>
      rw [bp (by omega)]
      unfold F43_2
      obtain ⟨v1, a1, e1, _, h1⟩ := one_ok (n := n) (l := ((1 : Int) :: ((1 : Int) :: ((2 : Int) :: ((3 : Int) :: ((3 : Int) :: ((4 : Int) :: ((4 : Int) :: ((5 : Int) :: ((6 : Int) :: ((7 : Int) :: []))))))))))) h (by omega) (by decide)
      rw [e1]; simp only [ats]
      obtain ⟨v2, a2, e2, _, _, h2⟩ := pick (n := n) (m := 9) h1 (by omega)
      rw [e2]; simp only [ats]
      obtain ⟨v3, a3, h3, e3⟩ := num_ok (R := R) (n := n) (N := N) (i := i) (k := ((k + 1 : Nat) : Int)) (kd := v1) (v := v2) (out := out) (acc := acc) h2 (by omega)
      rw [e3]
      obtain ⟨v4, a4, e4, h4⟩ := often_ok (n := n) (v := v1) h3 (by omega)
      rw [e4]; simp only [ats]
      obtain ⟨v5, a5, e5, h5⟩ := often_ok (n := n) (v := v3) h4 (by omega)
      rw [e5]; simp only [ats]
      rw [bp (by simp; omega), wp (by omega), show (((k + 1 : Nat) : Int) - 1) = (k : Nat) by omega]
      obtain ⟨l, a6, e6, l6, h6⟩ := acts_it (n := n) (c := c) (N := N) (i := i) (out := out) (k0 := k0) k f a5 _ (acc ++ [Act.mk v4 v5]) (by omega) (by simp; omega) h5 (by omega)
      exact ⟨l, a6, e6, by simp at l6; omega, h6.mono (by omega)⟩
theorem scr_it {R : Type} {n : Nat} {c : List Int} {N : Int} {k0 : List Int → Int → LA → Option R} (hn : 100000 ≤ n) : ∀ (m fuel : Nat) (i at_ b : Int) (acc : LA), 0 ≤ i → i + m ≤ 100 → N = i + m → m < fuel → acc.length + m ≤ 100 → (∀ s ∈ acc, s.length ≤ 100) → Inv c at_ b → b + 200 * m ≤ 20000 →
    ∃ L at', F43_4_it n k0 fuel N i c at_ acc = k0 c at' L ∧ L.length ≤ acc.length + m ∧ (∀ s ∈ L, s.length ≤ 100) ∧ Inv c at' (b + 200 * m)
  | m, fuel, i, at_, b, acc, hi0, hi1, hN, hfu, hal, hd, h, hb => by
    obtain ⟨f, rfl⟩ : ∃ f, fuel = f + 1 := ⟨fuel - 1, by omega⟩
    simp only [F43_4_it, F43_4_step]
    cases m with
    | zero => rw [bn (by omega)]; exact ⟨acc, at_, rfl, by omega, hd, h.mono (by omega)⟩
    | succ m =>
      rw [bp (by omega)]
      obtain ⟨v1, a1, e1, p1, p2, h1⟩ := pick (n := n) (m := 7) h (by omega)
      rw [e1]; simp only [ats]
      obtain ⟨k, rfl⟩ : ∃ k : Nat, v1 = (k : Int) := ⟨v1.toNat, by omega⟩
      unfold F43_3
      obtain ⟨s, a2, e2, l2, h2⟩ := acts_it (n := n) (c := c) (N := N) (i := i) (out := acc) (k0 := fun z176 z177 z178 z179 z180 z181 =>
        let v182 := (z181 :: [])
        (bif (decide (((z180.length) + (v182.length)) ≤ (68719476736 : Nat))) then
        (F43_4_it n k0 f z176 (IntKind.wrap .i64 (z177 + (1 : Int))) z178 z179 (z180 ++ v182))
        else none)) k n a1 _ [] (by omega) (by simp; omega) h1 (by omega)
      rw [e2]
      dsimp only
      rw [bp (by simp; omega), wp (by omega)]
      obtain ⟨L, a4, e4, l4, d4, h4⟩ := scr_it (n := n) (c := c) (N := N) (k0 := k0) hn m f (i + 1) a2 _ (acc ++ [s]) (by omega) (by omega) (by omega) (by omega) (by simp; omega) (fun x hx => by
        rcases List.mem_append.1 hx with hx | hx
        · exact hd x hx
        · simp only [List.mem_singleton] at hx; subst hx
          have h0 : ([] : List Act).length = 0 := rfl
          rw [h0] at l2; omega) h2 (by omega)
      exact ⟨L, a4, e4, by simp at l4; omega, d4, h4.mono (by omega)⟩
theorem draw21 {n : Nat} {z : List Int} (hn : 100000 ≤ n) (hz : okb z) : ∃ L, F21 n z = some (L, ()) ∧ L.length ≤ 1000 ∧ ∀ s ∈ L, s.length ≤ 1000 := by
  obtain ⟨c, e0, h0⟩ := newRnd_ok (n := n) hz
  unfold F21
  rw [e0]; simp only [ats]
  unfold F43
  obtain ⟨v1, a1, e1, p1, p2, h1⟩ := pick (n := n) (m := 4) h0 (by omega)
  rw [e1]; simp only [ats]
  unfold F43_4
  rw [wp (by omega)]
  obtain ⟨L, a2, e2, l2, d2, h2⟩ := scr_it (n := n) (c := c) (N := 1 + v1) (k0 := fun z185 z186 z187 => some (z187, ((z185, (z186, ())), ()))) hn (1 + v1).toNat n 0 a1 _ [] (by omega) (by omega) (by omega) (by omega) (by simp; omega) (fun x hx => by simp at hx) h1 (by omega)
  rw [e2]; simp only [ats]
  exact ⟨L, rfl, by simp at l2; omega, fun s hs => by have := d2 s hs; omega⟩
theorem beqB (b : Bool) : (b == b) = true := by cases b <;> rfl
theorem law_scr {n : Nat} (hn : 4000000 ≤ n) {z : List Int} (hz : okb z) : F4 n z = some (true, ()) := by
  unfold F4
  by_cases g : (z.length : Int) > 1048576
  · rw [bp g]
  rw [bn g]
  have hn' : 100000 ≤ n := by omega
  obtain ⟨L, e, l1, l2⟩ := draw21 hn' hz
  rw [e]; simp only [ats]
  rw [SOKI hn' l1]; simp only [ats]
  rw [SOKS hn' l1 l2]; simp only [ats, beqB, Bool.not_true, cf]
  by_cases h : SOK L
  case neg => rw [nB h]
  rw [nBn h, run0 hn' l1 h]
  unfold F26 F50
  simp only [ats]
  unfold F24
  rw [eqp rfl, tasks1 hn']; simp only [ats, ct]
  rw [nums1 hn']; simp only [ats, ct]
  rw [said0 hn']; rfl
theorem okb_of {l : List Int} (h : SmV G (.imm 1 (l : List (G.T 1)))) : okb l := fun x hx => by
  obtain ⟨i, hi, e⟩ := List.getElem_of_mem hx
  have hh := h.elt (i := i) (x := x) (by rw [← e]; exact List.getElem?_eq_getElem hi) (j := 0) (d := .lit (.int .u8 x)) rfl
  have w : (Lit.int .u8 x).wf = true := by cases hh with | int _ _ w => exact w
  simp only [Lit.wf, Bool.and_eq_true, decide_eq_true_eq] at w
  have e1 : IntKind.min .u8 = 0 := by decide
  have e2 : IntKind.max .u8 = 255 := by decide
  omega
theorem law_scrV {n : Nat} (hn : 4000000 ≤ n) (y : Cd.den G.T (.imm 1)) (s : SmV G (Cd.enc (.imm 1) y)) : F4 n y = some (true, ()) := law_scr hn (okb_of s)
end Go.Proofs.Ytfelakjmajooaaa.Am
