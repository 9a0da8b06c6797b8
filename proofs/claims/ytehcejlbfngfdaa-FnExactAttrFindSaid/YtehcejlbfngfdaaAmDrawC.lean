/- The drawing of arguments: it ends. -/
import Derived.Test.YtehcejlbfngfdaaAmClassG
import Derived.Test.YtehcejlbfngfdaaAmClassG
namespace Go.Proofs.Ytehcejlbfngfdaa.Am
open Go
set_option autoImplicit false
set_option linter.unusedVariables false
set_option linter.unusedSimpArgs false

structure Inv (c : List Int) (i : Int) (b : Int) : Prop where
  ok : okb c
  len : c.length ≤ 4000
  lo : 0 ≤ i
  hi : i ≤ b
theorem Inv.mono {c : List Int} {i b b' : Int} (h : Inv c i b) (hb : b ≤ b') : Inv c i b' := ⟨h.ok, h.len, h.lo, Int.le_trans h.hi hb⟩

theorem pick0 {R : Type} {n : Nat} {m : Int} {c : List Int} {i : Int} (h : Inv c i 1099511627776) : ∃ v, 0 ≤ v ∧ ∀ (k0 : Int → Int → List Int → Int → Option R), F43_0 n m 0 c i k0 = k0 m v c i := by
  obtain ⟨hc, hl, h0, h1⟩ := h
  by_cases hp : 0 < c.length
  · obtain ⟨q, hq, hq0, hq1⟩ : ∃ q : Int, i.tmod (c.length : Int) = q ∧ 0 ≤ q ∧ q < c.length := ⟨_, rfl, by rw [tm h0]; exact Int.emod_nonneg _ (by omega), by rw [tm h0]; exact Int.emod_lt_of_pos _ (by omega)⟩
    obtain ⟨d, hd, hd0, hd1⟩ : ∃ d : Int, i.tdiv (c.length : Int) = d ∧ 0 ≤ d ∧ d ≤ i := ⟨_, rfl, by rw [td h0]; exact Int.ediv_nonneg h0 (by omega), by rw [td h0]; exact Int.ediv_le_self _ h0⟩
    obtain ⟨p, hpq, hp0, hp1⟩ : ∃ p : Int, (i * 7 + 3).tmod (c.length : Int) = p ∧ 0 ≤ p ∧ p < c.length := ⟨_, rfl, by rw [tm (by omega)]; exact Int.emod_nonneg _ (by omega), by rw [tm (by omega)]; exact Int.emod_lt_of_pos _ (by omega)⟩
    have hb1 := hc.getD q.toNat
    have hb2 := hc.getD p.toNat
    generalize hg1 : c.getD q.toNat 0 = b1 at hb1
    generalize hg2 : c.getD p.toNat 0 = b2 at hb2
    have hw : 0 ≤ b1 * 131 + b2 * 1117 + i * 29 + d * 53 ∧ b1 * 131 + b2 * 1117 + i * 29 + d * 53 < 9223372036854775808 := by omega
    have w1 : IntKind.wrap .i64 (i * 7) = i * 7 := wp (by omega)
    have w2 : IntKind.wrap .i64 (i * 7 + 3) = i * 7 + 3 := wp (by omega)
    have w3 : IntKind.wrap .i64 b1 = b1 := wp (by omega)
    have w4 : IntKind.wrap .i64 b2 = b2 := wp (by omega)
    have w5 : IntKind.wrap .i64 (b1 * 131) = b1 * 131 := wp (by omega)
    have w6 : IntKind.wrap .i64 (b2 * 1117) = b2 * 1117 := wp (by omega)
    have w7 : IntKind.wrap .i64 (i * 29) = i * 29 := wp (by omega)
    have w8 : IntKind.wrap .i64 (d * 53) = d * 53 := wp (by omega)
    have w9 : IntKind.wrap .i64 d = d := wp (by omega)
    have w10 : IntKind.wrap .i64 (b1 * 131 + b2 * 1117) = b1 * 131 + b2 * 1117 := wp (by omega)
    have w11 : IntKind.wrap .i64 (b1 * 131 + b2 * 1117 + i * 29) = b1 * 131 + b2 * 1117 + i * 29 := wp (by omega)
    have w12 : IntKind.wrap .i64 (b1 * 131 + b2 * 1117 + i * 29 + d * 53) = b1 * 131 + b2 * 1117 + i * 29 + d * 53 := wp (by omega)
    have hx := bxor_ok hw.1 hw.2 (b := (b1 * 131 + b2 * 1117 + i * 29 + d * 53) / 64) (by omega) (by omega)
    have w13 : IntKind.wrap .i64 ((b1 * 131 + b2 * 1117 + i * 29 + d * 53).tdiv 64) = (b1 * 131 + b2 * 1117 + i * 29 + d * 53) / 64 := by rw [td hw.1]; exact wp (by omega)
    by_cases hm : m > 256
    · refine ⟨_, hx, fun k0 => ?_⟩
      unfold F43_0
      simp (disch := omega) only [bp, np, hq, w1, w2, hpq, hd, hg1, hg2, w3, w4, w5, w6, w7, w8, w9, w10, w11, w12, w13]
    · by_cases hi : i ≥ (c.length : Int)
      · refine ⟨_, hx, fun k0 => ?_⟩
        unfold F43_0
        simp (disch := omega) only [bp, bn, np, hq, w1, w2, hpq, hd, hg1, hg2, w3, w4, w5, w6, w7, w8, w9, w10, w11, w12, w13]
      · refine ⟨b1, hb1.1, fun k0 => ?_⟩
        unfold F43_0
        simp (disch := omega) only [bp, bn, np, hq, hg1, w3]
  · refine ⟨0, Int.le_refl _, fun k0 => ?_⟩
    unfold F43_0
    simp (disch := omega) only [bn]

theorem pick {n : Nat} {m : Int} {c : List Int} {i b : Int} (h : Inv c i b) (hb : b ≤ 1099511627776) : ∃ r i', F43 n m c i = some (r, ((c, (i', ())), ())) ∧ 0 ≤ r ∧ (r < m ∨ m < 2 ∧ r = 0) ∧ Inv c i' (b + 1) := by
  by_cases hm : m < 2
  · refine ⟨0, i, ?_, Int.le_refl _, .inr ⟨hm, rfl⟩, h.mono (by omega)⟩
    unfold F43
    rw [bp hm]
  · obtain ⟨v, hv, hk⟩ := pick0 (R := Int × ((List Int × (Int × Unit)) × Unit)) (n := n) (m := m) (h.mono hb)
    have h1 := h.lo
    have h2 := h.hi
    refine ⟨v.tmod m, i + 1, ?_, by rw [tm hv]; exact Int.emod_nonneg _ (by omega), .inl (by rw [tm hv]; exact Int.emod_lt_of_pos _ (by omega)), ⟨h.ok, h.len, by omega, by omega⟩⟩
    unfold F43
    rw [bn hm, hk, np (by omega), wp (by omega)]

theorem of_ok {n : Nat} {l : List ByteArray} {c : List Int} {i b : Int} (h : Inv c i b) (hb : b ≤ 1099511627776) (hl : 0 < l.length) : ∃ s i', F44 n l c i = some (s, ((c, (i', ())), ())) ∧ s ∈ l ∧ Inv c i' (b + 1) := by
  obtain ⟨r, i', h1, h2, h3, h4⟩ := pick (n := n) (m := (l.length : Int)) h hb
  have h5 : r.toNat < l.length := by omega
  refine ⟨l[r.toNat], i', ?_, List.getElem_mem h5, h4⟩
  unfold F44
  simp only [h1, ats]
  rw [bp h2, bp (by omega), getD_lt h5]
theorem one_ok {n : Nat} {l : List Int} {c : List Int} {i b : Int} (h : Inv c i b) (hb : b ≤ 1099511627776) (hl : 0 < l.length) : ∃ s i', F76 n l c i = some (s, ((c, (i', ())), ())) ∧ s ∈ l ∧ Inv c i' (b + 1) := by
  obtain ⟨r, i', h1, h2, h3, h4⟩ := pick (n := n) (m := (l.length : Int)) h hb
  have h5 : r.toNat < l.length := by omega
  refine ⟨l[r.toNat], i', ?_, List.getElem_mem h5, h4⟩
  unfold F76
  simp only [h1, ats]
  rw [bp h2, bp (by omega), getD_lt h5]

theorem one_size (x : Int) : (bytesOfInts (List.map (fun y => y) (x :: []))).size = 1 := rfl
theorem newRnd_ok {n : Nat} {z : List Int} (hz : okb z) : ∃ c, F31 n z = some ((), ((c, (0, ())), ())) ∧ Inv c 0 0 := by
  unfold F31
  by_cases h : (4000 : Int) < (z.length : Int)
  · simp only [if_pos h]
    rw [bp (by omega), bp (by omega)]
    exact ⟨_, rfl, ⟨(hz.take _).drop _, by simp; omega, by omega, by omega⟩⟩
  · simp only [if_neg h]
    rw [bp (by omega), bp (by omega)]
    exact ⟨_, rfl, ⟨(hz.take _).drop _, by simp; omega, by omega, by omega⟩⟩
theorem odd_ok {n : Nat} {c : List Int} {i b : Int} (h : Inv c i b) (hb : b ≤ 1099511627776) : ∃ s i', F71 n c i = some (s, ((c, (i', ())), ())) ∧ Inv c i' (b + 1) := by
  unfold F71
  obtain ⟨s, i', e, _, h'⟩ := one_ok (n := n) (l := ((-1 : Int) :: ((4611686018427387904 : Int) :: ((-4611686018427387904 : Int) :: ((1001 : Int) :: ((7 : Int) :: ((1000001 : Int) :: ((-9223372036854775808 : Int) :: ((9223372036854775807 : Int) :: []))))))))) h hb (by decide)
  rw [e]
  exact ⟨s, i', rfl, h'⟩
theorem often_ok {n : Nat} {v : Int} {c : List Int} {i b : Int} (h : Inv c i b) (hb : b ≤ 100000) : ∃ s i', F42 n v c i = some (s, ((c, (i', ())), ())) ∧ Inv c i' (b + 5) := by
  unfold F42
  obtain ⟨r, i1, e1, r1, r2, h1⟩ := pick (n := n) (m := 16) h (by omega)
  rw [e1]; simp only [ats]
  by_cases g : r = 0
  · rw [eqp g]
    obtain ⟨o, i5, e5, h5⟩ := odd_ok (n := n) h1 (by omega)
    rw [e5]; simp only [ats]
    exact ⟨_, _, rfl, h5.mono (by omega)⟩
  · rw [eqn g]
    exact ⟨_, _, rfl, h1.mono (by omega)⟩

-- classes ------------------------------------------------------------------------------------------------------------------------------
def AD (l : List Atr) : Prop := l.length ≤ 3 ∧ ∀ a ∈ l, a.name.size ≤ 1
abbrev nms : List ByteArray := (({ data := #[97] } : ByteArray) :: (({ data := #[98] } : ByteArray) :: (({ data := #[99] } : ByteArray) :: [])))
theorem nms_ok : ∀ s ∈ nms, s.size ≤ 1 := by decide
theorem kind_ok {R : Type} {n : Nat} {p : Bool} {i : Int} {c : List Int} {at_ b : Int} {acc : List Atr} (h : Inv c at_ b) (hb : b ≤ 100000) : ∃ kd at', Inv c at' (b + 1) ∧ ∀ k0 : Bool → Int → Int → List Int → Int → List Atr → List ByteArray → Option R, F52_0 n p i 1 c at_ acc nms k0 = k0 p i kd c at' acc nms := by
  cases p with
  | false => exact ⟨1, at_, h.mono (by omega), fun k0 => rfl⟩
  | true =>
    obtain ⟨kd, at', e, _, h'⟩ := one_ok (n := n) (l := ((1 : Int) :: ((2 : Int) :: ((3 : Int) :: [])))) h (by omega) (by decide)
    refine ⟨kd, at', h', fun k0 => ?_⟩
    unfold F52_0
    rw [ct, e]; rfl
theorem attrs_it {R : Type} {n : Nat} {p : Bool} {c : List Int} {k0 : List Int → Int → List Atr → Option R} : ∀ (m fuel i : Nat) (at_ b : Int) (acc : List Atr), i + m = 3 → m < fuel → acc.length ≤ i → (∀ a ∈ acc, a.name.size ≤ 1) → Inv c at_ b → b + 13 * m ≤ 100000 →
    ∃ l at', F52_2_it n k0 fuel p i c at_ acc nms = k0 c at' l ∧ AD l ∧ Inv c at' (b + 13 * m)
  | m, fuel, i, at_, b, acc, him, hfu, hal, has, h, hb => by
    obtain ⟨f, rfl⟩ : ∃ f, fuel = f + 1 := ⟨fuel - 1, by omega⟩
    simp only [F52_2_it, F52_2_step]
    cases m with
    | zero =>
      rw [bn (by simp; omega)]
      exact ⟨acc, at_, rfl, ⟨by omega, has⟩, h.mono (by omega)⟩
    | succ m =>
      rw [bp (by simp; omega)]
      unfold F52_1
      obtain ⟨r, a1, e1, r1, r2, h1⟩ := pick (n := n) (m := 2) h (by omega)
      rw [e1]; simp only [ats]
      by_cases g : r = 0
      · rw [eqp g]
        obtain ⟨kd, a2, h2, e2⟩ := kind_ok (R := R) (n := n) (p := p) (i := (i : Int)) (acc := acc) h1 (by omega)
        rw [e2, bp (by omega), bp (by simp; omega)]
        obtain ⟨v3, a3, e3, h3⟩ := often_ok (n := n) (v := kd) h2 (by omega)
        rw [e3]; simp only [ats]
        obtain ⟨v4, a4, e4, _, _, h4⟩ := pick (n := n) (m := 20) h3 (by omega)
        rw [e4]; simp only [ats]
        obtain ⟨v5, a5, e5, h5⟩ := often_ok (n := n) (v := v4) h4 (by omega)
        rw [e5]; simp only [ats]
        rw [bp (by simp; omega), wp (by omega), show ((i : Int) + 1) = ((i + 1 : Nat) : Int) by omega]
        obtain ⟨l, a6, e6, l6, h6⟩ := attrs_it (n := n) (p := p) (c := c) (k0 := k0) m f (i + 1) a5 _ (acc ++ [Atr.mk (nms.getD i ({ data := #[] } : ByteArray)) v3 v5]) (by omega) (by omega) (by simp; omega) (fun a ha => by
          rcases List.mem_append.1 ha with ha | ha
          · exact has a ha
          · simp only [List.mem_singleton] at ha; subst ha
            have hi : i < nms.length := by simp; omega
            rw [getD_lt hi]; exact nms_ok _ (List.getElem_mem hi)) h5 (by omega)
        exact ⟨l, a6, e6, l6, h6.mono (by omega)⟩
      · rw [eqn g, wp (by omega), show ((i : Int) + 1) = ((i + 1 : Nat) : Int) by omega]
        obtain ⟨l, a6, e6, l6, h6⟩ := attrs_it (n := n) (p := p) (c := c) (k0 := k0) m f (i + 1) a1 _ acc (by omega) (by omega) (by omega) has h1 (by omega)
        exact ⟨l, a6, e6, l6, h6.mono (by omega)⟩
theorem attrs_ok {n : Nat} {p : Bool} {c : List Int} {at_ b : Int} (hn : 1000 ≤ n) (h : Inv c at_ b) (hb : b ≤ 50000) : ∃ l at', F52 n p c at_ = some (l, ((c, (at', ())), ())) ∧ AD l ∧ Inv c at' (b + 39) := by
  unfold F52 F52_2
  obtain ⟨l, a, e, h1, h2⟩ := attrs_it (n := n) (p := p) (c := c) (k0 := fun z237 z238 z239 => some (z239, ((z237, (z238, ())), ()))) 3 n 0 at_ b [] (by omega) (by omega) (by simp) (by simp) h (by omega)
  rw [Int.natCast_zero] at e
  exact ⟨l, a, e, h1, h2⟩
theorem bases_it {R : Type} {n : Nat} {c : List Int} {N i : Int} {out : List Cls} {k0 : Int → Int → List Int → Int → List Cls → List Int → Option R} (hn : 30000000 ≤ n) : ∀ (k fuel : Nat) (at_ b : Int) (acc : List Int), k < fuel → acc.length + k ≤ 100 → Inv c at_ b → b + 6 * k ≤ 100000 →
    ∃ bs at', F32_1_it n k0 fuel N i k c at_ out acc = k0 N i c at' out bs ∧ bs.length ≤ acc.length + k ∧ Inv c at' (b + 6 * k)
  | k, fuel, at_, b, acc, hfu, hal, h, hb => by
    obtain ⟨f, rfl⟩ : ∃ f, fuel = f + 1 := ⟨fuel - 1, by omega⟩
    simp only [F32_1_it, F32_1_step]
    cases k with
    | zero => rw [bn (by omega)]; exact ⟨acc, at_, rfl, by omega, h.mono (by omega)⟩
    | succ k =>
      rw [bp (by omega)]
      unfold F32_0
      obtain ⟨v1, a1, e1, _, _, h1⟩ := pick (n := n) (m := if i > 1 then i else 1) h (by omega)
      rw [e1]; simp only [ats]
      obtain ⟨v2, a2, e2, h2⟩ := often_ok (n := n) (v := v1) h1 (by omega)
      rw [e2]; simp only [ats]
      rw [wp (by omega), show (((k + 1 : Nat) : Int) - 1) = (k : Nat) by omega]
      have same := bases_it (n := n) (c := c) (N := N) (i := i) (out := out) (k0 := k0) hn k f a2 _ acc (by omega) (by omega) h2 (by omega)
      have more := bases_it (n := n) (c := c) (N := N) (i := i) (out := out) (k0 := k0) hn k f a2 _ (acc ++ [v2]) (by omega) (by simp; omega) h2 (by omega)
      by_cases g : i > 0
      · rw [bp g, inlS hn (by omega)]
        simp only [ats]
        by_cases g2 : v2 ∈ acc
        · rw [nBn g2]
          obtain ⟨bs, a3, e3, l3, h3⟩ := same
          exact ⟨bs, a3, e3, by omega, h3.mono (by omega)⟩
        · rw [nB g2, bp (by simp; omega)]
          obtain ⟨bs, a3, e3, l3, h3⟩ := more
          exact ⟨bs, a3, e3, by simp at l3; omega, h3.mono (by omega)⟩
      · rw [bn g]
        obtain ⟨bs, a3, e3, l3, h3⟩ := same
        exact ⟨bs, a3, e3, by omega, h3.mono (by omega)⟩
def DL (L : List Cls) : Prop := ∀ c ∈ L, c.bases.length ≤ 3 ∧ AD c.attrs
theorem cls_it {R : Type} {n : Nat} {c : List Int} {N : Int} {k0 : List Int → Int → List Cls → Option R} (hn : 30000000 ≤ n) : ∀ (m fuel : Nat) (i at_ b : Int) (acc : List Cls), 0 ≤ i → i + m ≤ 100 → N = i + m → m < fuel → acc.length + m ≤ 100 → DL acc → Inv c at_ b → b + 70 * m ≤ 50000 →
    ∃ L at', F32_2_it n k0 fuel N i c at_ acc = k0 c at' L ∧ L.length ≤ acc.length + m ∧ DL L ∧ Inv c at' (b + 70 * m)
  | m, fuel, i, at_, b, acc, hi0, hi1, hN, hfu, hal, hd, h, hb => by
    obtain ⟨f, rfl⟩ : ∃ f, fuel = f + 1 := ⟨fuel - 1, by omega⟩
    simp only [F32_2_it, F32_2_step]
    cases m with
    | zero => rw [bn (by omega)]; exact ⟨acc, at_, rfl, by omega, hd, h.mono (by omega)⟩
    | succ m =>
      rw [bp (by omega)]
      obtain ⟨v1, a1, e1, p1, p2, h1⟩ := pick (n := n) (m := 4) h (by omega)
      rw [e1]; simp only [ats]
      obtain ⟨k, rfl⟩ : ∃ k : Nat, v1 = (k : Int) := ⟨v1.toNat, by omega⟩
      unfold F32_1
      obtain ⟨bs, a2, e2, l2, h2⟩ := bases_it (n := n) (c := c) (N := N) (i := i) (out := acc) (k0 := fun z180 z181 z182 z183 z184 z185 =>
        (andThen (F52 n true z182 z183) fun r240 =>
        let v241 := ((Cls.mk z185 r240.1) :: [])
        (bif (decide (((z184.length) + (v241.length)) ≤ (68719476736 : Nat))) then
        (F32_2_it n k0 f z180 (IntKind.wrap .i64 (z181 + (1 : Int))) r240.2.1.1 r240.2.1.2.1 (z184 ++ v241))
        else none))) hn k n a1 _ [] (by omega) (by simp; omega) h1 (by omega)
      rw [e2]
      obtain ⟨l, a3, e3, l3, h3⟩ := attrs_ok (n := n) (p := true) (by omega) h2 (by omega)
      rw [e3]; simp only [ats]
      rw [bp (by simp; omega), wp (by omega)]
      obtain ⟨L, a4, e4, l4, d4, h4⟩ := cls_it (n := n) (c := c) (N := N) (k0 := k0) hn m f (i + 1) a3 _ (acc ++ [Cls.mk bs l]) (by omega) (by omega) (by omega) (by omega) (by simp; omega) (fun x hx => by
        rcases List.mem_append.1 hx with hx | hx
        · exact hd x hx
        · simp only [List.mem_singleton] at hx; subst hx; exact ⟨by have h0 : ([] : List Int).length = 0 := rfl; rw [h0] at l2; show bs.length ≤ 3; omega, l3⟩) h3 (by omega)
      exact ⟨L, a4, e4, by simp at l4; omega, d4, h4.mono (by omega)⟩
theorem classes_ok {n : Nat} {c : List Int} {at_ b : Int} (hn : 30000000 ≤ n) (h : Inv c at_ b) (hb : b ≤ 10000) : ∃ L at', F32 n c at_ = some (L, ((c, (at', ())), ())) ∧ L.length ≤ 7 ∧ DL L ∧ Inv c at' (b + 500) := by
  unfold F32
  obtain ⟨v1, a1, e1, p1, p2, h1⟩ := pick (n := n) (m := 7) h (by omega)
  rw [e1]; simp only [ats]
  unfold F32_2
  obtain ⟨L, a2, e2, l2, d2, h2⟩ := cls_it (n := n) (c := c) (N := v1) (k0 := fun z244 z245 z246 => some (z246, ((z244, (z245, ())), ()))) hn v1.toNat n 0 a1 _ [] (by omega) (by omega) (by omega) (by omega) (by simp; omega) (fun x hx => by simp at hx) h1 (by omega)
  exact ⟨L, a2, e2, by simp at l2; omega, d2, h2.mono (by omega)⟩
theorem DL_sz {L : List Cls} (h : DL L) (hl : L.length ≤ 7) : SZ L where
  len := by omega
  bl := fun c hc => by have := (h c hc).1; omega
  al := fun c hc => by have := (h c hc).2.1; omega
  nl := fun c hc a ha => by have := (h c hc).2.2 a ha; omega
structure SA (l : List Atr) : Prop where
  len : l.length ≤ 100
  nl : ∀ a ∈ l, a.name.size ≤ 1
theorem AD_sa {l : List Atr} (h : AD l) : SA l := ⟨by have := h.1; omega, h.2⟩
theorem draw10 {n : Nat} {z : List Int} (hn : 30000000 ≤ n) (hz : okb z) : ∃ L, F10 n z = some (L, ()) ∧ SZ L := by
  obtain ⟨c, e0, h0⟩ := newRnd_ok (n := n) hz
  unfold F10
  rw [e0]; simp only [ats]
  obtain ⟨L, a1, e1, l1, d1, h1⟩ := classes_ok (n := n) hn h0 (by omega)
  rw [e1]; simp only [ats]
  exact ⟨L, rfl, DL_sz d1 l1⟩
theorem draw16 {n : Nat} {z : List Int} (hn : 30000000 ≤ n) (hz : okb z) : ∃ L c s, F16 n z = some ((L, (c, (s, ()))), ()) ∧ SZ L := by
  obtain ⟨c, e0, h0⟩ := newRnd_ok (n := n) hz
  unfold F16
  rw [e0]; simp only [ats]
  obtain ⟨L, a1, e1, l1, d1, h1⟩ := classes_ok (n := n) hn h0 (by omega)
  rw [e1]; simp only [ats]
  obtain ⟨v2, a2, e2, p1, p2, h2⟩ := pick (n := n) (m := if ((L.length : Int)) > 1 then ((L.length : Int)) else 1) h1 (by omega)
  rw [e2]; simp only [ats]
  obtain ⟨v3, a3, e3, h3⟩ := often_ok (n := n) (v := v2) h2 (by omega)
  rw [e3]; simp only [ats]
  obtain ⟨v4, a4, e4, h4, _⟩ := of_ok (n := n) (l := (({ data := #[97] } : ByteArray) :: (({ data := #[98] } : ByteArray) :: (({ data := #[99] } : ByteArray) :: (({ data := #[] } : ByteArray) :: (({ data := #[100] } : ByteArray) :: [])))))) h3 (by omega) (by decide)
  rw [e4]; simp only [ats]
  exact ⟨_, _, _, rfl, DL_sz d1 l1⟩
theorem draw23 {n : Nat} {z : List Int} (hn : 30000000 ≤ n) (hz : okb z) : ∃ L c own s, F23 n z = some ((L, (c, (own, (s, ())))), ()) ∧ SZ L ∧ SA own ∧ s.size ≤ 1 := by
  obtain ⟨c, e0, h0⟩ := newRnd_ok (n := n) hz
  unfold F23
  rw [e0]; simp only [ats]
  obtain ⟨L, a1, e1, l1, d1, h1⟩ := classes_ok (n := n) hn h0 (by omega)
  rw [e1]; simp only [ats]
  obtain ⟨v2, a2, e2, p1, p2, h2⟩ := pick (n := n) (m := if ((L.length : Int)) > 1 then ((L.length : Int)) else 1) h1 (by omega)
  rw [e2]; simp only [ats]
  obtain ⟨v3, a3, e3, h3⟩ := often_ok (n := n) (v := v2) h2 (by omega)
  rw [e3]; simp only [ats]
  obtain ⟨v4, a4, e4, _, _, h4⟩ := pick (n := n) (m := 12) h3 (by omega)
  rw [e4]; simp only [ats]
  obtain ⟨own, a5, e5, o5, h5⟩ := attrs_ok (n := n) (p := (v4 == 0)) (by omega) h4 (by omega)
  rw [e5]; simp only [ats]
  obtain ⟨s, a6, e6, s6, _⟩ := of_ok (n := n) (l := (({ data := #[97] } : ByteArray) :: (({ data := #[98] } : ByteArray) :: (({ data := #[99] } : ByteArray) :: (({ data := #[] } : ByteArray) :: []))))) h5 (by omega) (by decide)
  rw [e6]; simp only [ats]
  have hs : ∀ s ∈ (({ data := #[97] } : ByteArray) :: (({ data := #[98] } : ByteArray) :: (({ data := #[99] } : ByteArray) :: (({ data := #[] } : ByteArray) :: [])))), s.size ≤ 1 := by decide
  exact ⟨_, _, _, _, rfl, DL_sz d1 l1, AD_sa o5, hs s s6⟩
theorem draw27 {n : Nat} {z : List Int} (hn : 30000000 ≤ n) (hz : okb z) : ∃ L c own s v, F27 n z = some ((L, (c, (own, (s, (v, ()))))), ()) ∧ SZ L ∧ SA own ∧ s.size ≤ 1 := by
  obtain ⟨c, e0, h0⟩ := newRnd_ok (n := n) hz
  unfold F27
  rw [e0]; simp only [ats]
  obtain ⟨L, a1, e1, l1, d1, h1⟩ := classes_ok (n := n) hn h0 (by omega)
  rw [e1]; simp only [ats]
  obtain ⟨v2, a2, e2, p1, p2, h2⟩ := pick (n := n) (m := if ((L.length : Int)) > 1 then ((L.length : Int)) else 1) h1 (by omega)
  rw [e2]; simp only [ats]
  obtain ⟨v3, a3, e3, h3⟩ := often_ok (n := n) (v := v2) h2 (by omega)
  rw [e3]; simp only [ats]
  obtain ⟨v4, a4, e4, _, _, h4⟩ := pick (n := n) (m := 12) h3 (by omega)
  rw [e4]; simp only [ats]
  obtain ⟨own, a5, e5, o5, h5⟩ := attrs_ok (n := n) (p := (v4 == 0)) (by omega) h4 (by omega)
  rw [e5]; simp only [ats]
  obtain ⟨s, a6, e6, s6, h6⟩ := of_ok (n := n) (l := (({ data := #[97] } : ByteArray) :: (({ data := #[98] } : ByteArray) :: (({ data := #[99] } : ByteArray) :: (({ data := #[100] } : ByteArray) :: (({ data := #[] } : ByteArray) :: [])))))) h5 (by omega) (by decide)
  rw [e6]; simp only [ats]
  obtain ⟨v7, a7, e7, _, _, h7⟩ := pick (n := n) (m := 30) h6 (by omega)
  rw [e7]; simp only [ats]
  obtain ⟨v8, a8, e8, h8⟩ := often_ok (n := n) (v := v7) h7 (by omega)
  rw [e8]; simp only [ats]
  have hs : ∀ s ∈ (({ data := #[97] } : ByteArray) :: (({ data := #[98] } : ByteArray) :: (({ data := #[99] } : ByteArray) :: (({ data := #[100] } : ByteArray) :: (({ data := #[] } : ByteArray) :: []))))), s.size ≤ 1 := by decide
  exact ⟨_, _, _, _, _, rfl, DL_sz d1 l1, AD_sa o5, hs s s6⟩
end Go.Proofs.Ytehcejlbfngfdaa.Am
