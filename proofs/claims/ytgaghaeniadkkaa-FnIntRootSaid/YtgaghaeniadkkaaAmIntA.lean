/- Digits: sums, differences. -/
import Derived.Test.YtgaghaeniadkkaaAmIntD
namespace Go.Proofs.Ytgaghaeniadkkaa.Am
open Go
set_option autoImplicit false
set_option linter.unusedVariables false
set_option linter.unusedSimpArgs false

-- sums ------------------------------------------------------------------------------------------------------------------------------
theorem addI_step {R : Type} {n : Nat} {a b : List Int} {c : Int} {i : Nat} {out : List Int} (k0 : List Int → List Int → Int → Int → List Int → Option R) (ha : okd a) (hb : okd b) (hc : 0 ≤ c ∧ c ≤ 1) (ho : out.length ≤ 20000) :
    F56_2 n a b c i out k0 = k0 a b ((c + a.getD i 0 + b.getD i 0) / 10) i (out ++ [(c + a.getD i 0 + b.getD i 0) % 10]) := by
  have h1 := ha.getD i; have h2 := hb.getD i
  have e : (i : Int).toNat = i := by omega
  have s0 : ∀ (c : Int) (k : List Int → List Int → Int → Int → List Int → Option R), 0 ≤ c ∧ c ≤ 100 → F56_0 n a b c i out k = k a b (c + a.getD i 0) i out := by
    intro c k hc
    unfold F56_0
    by_cases h : (i : Int) < (a.length : Int)
    · simp (disch := omega) only [bp, e, wp]
    · rw [bn h, getD_ge (by omega)]; simp
  have s1 : ∀ (c : Int) (k : List Int → List Int → Int → Int → List Int → Option R), 0 ≤ c ∧ c ≤ 100 → F56_1 n a b c i out k = k a b (c + b.getD i 0) i out := by
    intro c k hc
    unfold F56_1
    by_cases h : (i : Int) < (b.length : Int)
    · simp (disch := omega) only [bp, e, wp]
    · rw [bn h, getD_ge (by omega)]; simp
  unfold F56_2
  rw [s0 _ _ (by omega), s1 _ _ (by omega)]
  simp (disch := omega) only [bp, td, tm, wp, List.length_cons, List.length_nil]
theorem addI_it {R : Type} {n : Nat} {a b : List Int} {k0 : List Int → Option R} (ha : okd a) (hb : okd b) {M : Nat} (hM : M = max a.length b.length) (hl : M ≤ 9000) : ∀ (fuel i : Nat) (c : Int) (out : List Int), out.length = i → okd out → 0 ≤ c ∧ c ≤ 1 → i ≤ M + 1 → (i = M + 1 → c = 0) → M + 2 ≤ fuel + i →
    ∃ L, okd L ∧ L.length ≤ M + 1 ∧ nv L = nv out + 10 ^ i * (c + nv (a.drop i) + nv (b.drop i)) ∧ F56_3_it n k0 fuel a b c i out = k0 L
  | fuel, i, c, out, hout, hok, hc, hi, hz, hf => by
    obtain ⟨f, rfl⟩ : ∃ f, fuel = f + 1 := ⟨fuel - 1, by omega⟩
    simp only [F56_3_it, F56_3_step]
    have h1 := ha.getD i; have h2 := hb.getD i
    have go : i ≤ M → ∃ L, okd L ∧ L.length ≤ M + 1 ∧ nv L = nv out + 10 ^ i * (c + nv (a.drop i) + nv (b.drop i)) ∧ F56_2 n a b c i out (fun z434 z435 z436 z437 z438 => F56_3_it n k0 f z434 z435 z436 (IntKind.wrap .i64 (z437 + (1 : Int))) z438) = k0 L := by
      intro hlt
      rw [addI_step _ ha hb hc (by omega)]
      generalize ht : c + a.getD i 0 + b.getD i 0 = t
      have e : IntKind.wrap .i64 ((i : Int) + 1) = ((i + 1 : Nat) : Int) := by rw [wp (by omega)]; omega
      rw [e]
      obtain ⟨L, l1, l2, l3, l4⟩ := addI_it (k0 := k0) ha hb hM hl f (i + 1) (t / 10) (out ++ [t % 10]) (by simp [hout]) (hok.app (okd.nil.cons (by omega))) (by omega) (by omega) (by
        intro he
        have : i = M := by omega
        rw [getD_ge (l := a) (by omega), getD_ge (l := b) (by omega)] at ht
        omega) (by omega)
      refine ⟨L, l1, l2, ?_, l4⟩
      rw [l3, nv_one, hout, nv_drop' a i, nv_drop' b i, pow_succ10]
      have : t % 10 + 10 * (t / 10) = t := by omega
      grind
    by_cases g1 : (i : Int) < (a.length : Int)
    · rw [bp g1]; exact go (by omega)
    rw [bn g1]
    by_cases g2 : (i : Int) < (b.length : Int)
    · rw [bp g2]; exact go (by omega)
    rw [bn g2]
    by_cases g3 : c > 0
    · rw [bp g3]; exact go (by omega)
    rw [bn g3]
    refine ⟨out, hok, by omega, ?_, rfl⟩
    rw [nv_drop_ge (by omega), nv_drop_ge (by omega)]
    have : c = 0 := by omega
    subst this; simp
theorem addI {n : Nat} {a b : List Int} (hn : 10000 ≤ n) (ha : okd a) (hb : okd b) (hla : a.length ≤ 4000) (hlb : b.length ≤ 4000) : ∃ L, okd L ∧ L.length ≤ 4001 ∧ nv L = nv a + nv b ∧ F56 n a b = some (L, ()) := by
  unfold F56 F56_3
  obtain ⟨L, l1, l2, l3, l4⟩ := addI_it (R := List Int × Unit) (n := n) (k0 := fun z => some (z, ())) ha hb (M := max a.length b.length) rfl (by omega) n 0 0 [] rfl okd.nil (by omega) (by omega) (by omega) (by omega)
  refine ⟨L, l1, by omega, ?_, l4⟩
  rw [l3]; simp [nv]

theorem addS_step {R : Type} {n : Nat} {a b : List Int} {c : Int} {i : Nat} {out : List Int} (k0 : List Int → List Int → Int → Int → List Int → Option R) (ha : okd a) (hb : okd b) (hc : 0 ≤ c ∧ c ≤ 1) (ho : out.length ≤ 20000) :
    F63_2 n a b c i out k0 = k0 a b ((c + a.getD i 0 + b.getD i 0) / 10) i (out ++ [(c + a.getD i 0 + b.getD i 0) % 10]) := by
  have h1 := ha.getD i; have h2 := hb.getD i
  have e : (i : Int).toNat = i := by omega
  have s0 : ∀ (c : Int) (k : List Int → List Int → Int → Int → List Int → Option R), 0 ≤ c ∧ c ≤ 100 → F63_0 n a b i c out k = k a b i (c + a.getD i 0) out := by
    intro c k hc
    unfold F63_0
    by_cases h : (i : Int) < (a.length : Int)
    · simp (disch := omega) only [bp, e, wp]
    · rw [bn h, getD_ge (by omega)]; simp
  have s1 : ∀ (c : Int) (k : List Int → List Int → Int → Int → List Int → Option R), 0 ≤ c ∧ c ≤ 100 → F63_1 n a b i c out k = k a b i (c + b.getD i 0) out := by
    intro c k hc
    unfold F63_1
    by_cases h : (i : Int) < (b.length : Int)
    · simp (disch := omega) only [bp, e, wp]
    · rw [bn h, getD_ge (by omega)]; simp
  unfold F63_2
  rw [s0 _ _ (by omega), s1 _ _ (by omega)]
  simp (disch := omega) only [bp, td, tm, wp, List.length_cons, List.length_nil]
theorem addS_it {R : Type} {n : Nat} {a b : List Int} {k0 : List Int → Option R} (ha : okd a) (hb : okd b) {M : Nat} (hM : M = max a.length b.length) (hl : M ≤ 9000) : ∀ (fuel i : Nat) (c : Int) (out : List Int), out.length = i → okd out → 0 ≤ c ∧ c ≤ 1 → i ≤ M + 1 → (i = M + 1 → c = 0) → M + 2 ≤ fuel + i →
    ∃ L, okd L ∧ L.length ≤ M + 1 ∧ nv L = nv out + 10 ^ i * (c + nv (a.drop i) + nv (b.drop i)) ∧ F63_3_it n k0 fuel a b c i out = k0 L
  | fuel, i, c, out, hout, hok, hc, hi, hz, hf => by
    obtain ⟨f, rfl⟩ : ∃ f, fuel = f + 1 := ⟨fuel - 1, by omega⟩
    simp only [F63_3_it, F63_3_step]
    have h1 := ha.getD i; have h2 := hb.getD i
    have go : i ≤ M → ∃ L, okd L ∧ L.length ≤ M + 1 ∧ nv L = nv out + 10 ^ i * (c + nv (a.drop i) + nv (b.drop i)) ∧ F63_2 n a b c i out (fun z434 z435 z436 z437 z438 => F63_3_it n k0 f z434 z435 z436 (IntKind.wrap .i64 (z437 + (1 : Int))) z438) = k0 L := by
      intro hlt
      rw [addS_step _ ha hb hc (by omega)]
      generalize ht : c + a.getD i 0 + b.getD i 0 = t
      have e : IntKind.wrap .i64 ((i : Int) + 1) = ((i + 1 : Nat) : Int) := by rw [wp (by omega)]; omega
      rw [e]
      obtain ⟨L, l1, l2, l3, l4⟩ := addS_it (k0 := k0) ha hb hM hl f (i + 1) (t / 10) (out ++ [t % 10]) (by simp [hout]) (hok.app (okd.nil.cons (by omega))) (by omega) (by omega) (by
        intro he
        have : i = M := by omega
        rw [getD_ge (l := a) (by omega), getD_ge (l := b) (by omega)] at ht
        omega) (by omega)
      refine ⟨L, l1, l2, ?_, l4⟩
      rw [l3, nv_one, hout, nv_drop' a i, nv_drop' b i, pow_succ10]
      have : t % 10 + 10 * (t / 10) = t := by omega
      grind
    by_cases g1 : (i : Int) < (a.length : Int)
    · rw [bp g1]; exact go (by omega)
    rw [bn g1]
    by_cases g2 : (i : Int) < (b.length : Int)
    · rw [bp g2]; exact go (by omega)
    rw [bn g2]
    by_cases g3 : c > 0
    · rw [bp g3]; exact go (by omega)
    rw [bn g3]
    refine ⟨out, hok, by omega, ?_, rfl⟩
    rw [nv_drop_ge (by omega), nv_drop_ge (by omega)]
    have : c = 0 := by omega
    subst this; simp
theorem D_of {L : List Int} {z : Nat} (h : nv L = z) : D L = dig z := by unfold D; rw [h]; simp
theorem addS {n x y : Nat} (hn : 10000 ≤ n) (hla : (dig x).length ≤ 4000) (hlb : (dig y).length ≤ 4000) : F63 n (dig x) (dig y) = some (dig (x + y), ()) := by
  unfold F63 F63_3
  obtain ⟨L, l1, l2, l3, l4⟩ := addS_it (R := List Int × Unit) (n := n) (k0 := fun z757 => (andThen (F50 n z757) fun r758 => some ((r758.2.1.take r758.1), ()))) (okd_dig x) (okd_dig y) (M := max (dig x).length (dig y).length) rfl (by omega) n 0 0 [] rfl okd.nil (by omega) (by omega) (by omega) (by omega)
  have hv : nv L = ((x + y : Nat) : Int) := by rw [l3]; simp [nv, nv_dig]
  rw [show ((0 : Nat) : Int) = 0 from rfl] at l4
  rw [l4, trimS hn l1 (by omega), ats]
  simp only [takeS l1]
  rw [D_of hv]

-- differences -------------------------------------------------------------------------------------------------------------------------
theorem set_mid (A B : List Int) (h v : Int) (i : Nat) (hi : A.length = i) : (A ++ h :: B).set i v = A ++ v :: B := by
  rw [List.set_append_right _ _ (by omega), hi, Nat.sub_self]; rfl
theorem getD_mid (A B : List Int) (h : Int) (i : Nat) (hi : A.length = i) : (A ++ h :: B).getD i 0 = h := by
  rw [getD_lt (by simp; omega), List.getElem_append_right (by omega)]; simp [hi]
theorem nv_mid (A B : List Int) (h : Int) (i : Nat) (hi : A.length = i) : nv (A ++ h :: B) = nv A + 10 ^ i * (h + 10 * nv B) := by rw [nv_app, hi]; rfl

theorem subI_it {R : Type} {n : Nat} {b : List Int} {la : Nat} {T : Int} {k0 : List Int → Option R} (hb : okd b) (hlb : b.length ≤ la) (hla : la ≤ 9000) (hT : 0 ≤ T) : ∀ (d fuel i : Nat) (A B : List Int) (h : Int), A.length = i → la = i + 1 + B.length → d = B.length → okd A → okd B → -1 ≤ h ∧ h ≤ 9 → d + 2 ≤ fuel →
    nv (A ++ h :: B) - 10 ^ i * nv (b.drop i) = T → ∃ L, okd L ∧ L.length = la ∧ nv L = T ∧ F58_2_it n k0 fuel b la i (A ++ h :: B) = k0 L
  | d, fuel, i, A, B, h, hA, hl, hd, oA, oB, hh, hf, hv => by
    obtain ⟨f, rfl⟩ : ∃ f, fuel = f + 1 := ⟨fuel - 1, by omega⟩
    simp only [F58_2_it, F58_2_step]
    have hlen : (A ++ h :: B).length = la := by simp; omega
    rw [bp (by omega)]
    have hbi := hb.getD i
    have e : (i : Int).toNat = i := by omega
    have s0 : ∀ (p q r : Int) (k : List Int → Int → Int → Int → List Int → Option R), F58_0 n b i p q (A ++ h :: B) k = k b i p q (A ++ (h - b.getD i 0) :: B) := by
      intro p q r k
      unfold F58_0
      by_cases g : (i : Int) < (b.length : Int)
      · simp (disch := omega) only [bp, e, getD_mid A B h i hA, set_mid A B h _ i hA, wp]
      · rw [bn g, getD_ge (l := b) (by omega)]; simp
    unfold F58_1
    rw [s0 _ _ 0]
    generalize hg : h - b.getD i 0 = v
    have hlen2 : (A ++ v :: B).length = la := by simp; omega
    have hval : nv (A ++ v :: B) - 10 ^ (i + 1) * nv (b.drop (i + 1)) = T := by
      rw [nv_mid _ _ _ _ hA] at hv ⊢
      rw [nv_drop' b i] at hv
      rw [pow_succ10]
      grind
    have ew : IntKind.wrap .i64 ((i : Int) + 1) = ((i + 1 : Nat) : Int) := by rw [wp (by omega)]; omega
    have hbA := nv_bd oA
    rw [hA] at hbA
    by_cases gv : v < 0
    · -- a loan
      have en : (((i + 1 : Nat) : Int)).toNat = i + 1 := by omega
      match B, hd, hl, oB with
      | [], hd, hl, oB =>
        exfalso
        rw [nv_drop_ge (l := b) (by simp at hl; omega), nv_mid _ _ _ _ hA] at hval
        simp only [nv] at hval
        have hp := pow_pos10 i
        have : (10 : Int) ^ i * (v + 10 * 0) ≤ 10 ^ i * (-1) := Int.mul_le_mul_of_nonneg_left (by omega) (by omega)
        omega
      | g :: B, hd, hl, oB =>
        have hl' : la = i + 1 + (B.length + 1) := hl
        have hA2 : (A ++ [v + 10]).length = i + 1 := by simp [hA]
        have hlen3 : (A ++ (v + 10) :: g :: B).length = la := by simp at hl ⊢; omega
        have er : A ++ (v + 10) :: g :: B = (A ++ [v + 10]) ++ g :: B := by simp
        have hg9 := oB.head
        have s2 : (A ++ (v + 10) :: g :: B).getD (i + 1) 0 = g := by rw [er]; exact getD_mid _ _ _ _ hA2
        have s3 : (A ++ (v + 10) :: g :: B).set (i + 1) (g - 1) = (A ++ [v + 10]) ++ (g - 1) :: B := by rw [er]; exact set_mid _ _ _ _ _ hA2
        have w1 : IntKind.wrap .i64 (v + 10) = v + 10 := wp (by omega)
        have w2 : IntKind.wrap .i64 (g - 1) = g - 1 := wp (by omega)
        simp only [e, getD_mid A (g :: B) v i hA, w1, set_mid A (g :: B) v (v + 10) i hA, ew, en, s2, w2, s3]
        simp (disch := omega) only [bp, hlen2, hlen3]
        match d, hd with
        | d + 1, hd =>
          obtain ⟨L, l1, l2, l3, l4⟩ := subI_it (k0 := k0) hb hlb hla hT d f (i + 1) (A ++ [v + 10]) B (g - 1) hA2 (by simp at hl; omega) (by simpa using hd) (oA.app (okd.nil.cons (by omega))) oB.tail (by omega) (by omega) (by
            rw [← hval, nv_mid _ _ _ _ hA2, nv_one, hA, nv_mid _ _ _ _ hA, pow_succ10]
            simp only [nv]
            grind)
          exact ⟨L, l1, l2, l3, l4⟩
    · simp only [e, getD_mid A B v i hA, ew]
      simp (disch := omega) only [bp, bn]
      have oA2 : okd (A ++ [v]) := oA.app (okd.nil.cons (by omega))
      have hA2 : (A ++ [v]).length = i + 1 := by simp [hA]
      have er : A ++ v :: B = (A ++ [v]) ++ B := by simp
      match B, hd, hl, oB with
      | [], hd, hl, oB =>
        obtain ⟨f, rfl⟩ : ∃ g, f = g + 1 := ⟨f - 1, by omega⟩
        simp only [F58_2_it, F58_2_step]
        have hl : la = i + 1 := by simpa using hl
        rw [bn (by omega)]
        refine ⟨_, oA2, by omega, ?_, rfl⟩
        rw [nv_drop_ge (l := b) (by omega)] at hval
        rw [← hval]; omega
      | g :: B, hd, hl, oB =>
        have hg9 := oB.head
        match d, hd with
        | d + 1, hd =>
          rw [er]
          obtain ⟨L, l1, l2, l3, l4⟩ := subI_it (k0 := k0) hb hlb hla hT d f (i + 1) (A ++ [v]) B g hA2 (by simp at hl; omega) (by simpa using hd) oA2 oB.tail (by omega) (by omega) (by rw [← hval, er])
          exact ⟨L, l1, l2, l3, l4⟩
theorem dig_mono {x y : Nat} (h : y ≤ x) : (dig y).length ≤ (dig x).length := by
  apply Classical.byContradiction
  intro hh
  have := nv_len_lt (x := x) (y := y) (by omega)
  omega
theorem subI {n x y : Nat} (hn : 10000 ≤ n) (hle : y ≤ x) (hla : (dig x).length ≤ 4000) : F58 n (dig x) (dig y) = some (dig (x - y), ()) := by
  unfold F58 F58_2
  have hlb := dig_mono hle
  rw [bp (by omega)]
  have fin : ∀ L, okd L → L.length ≤ 4000 → nv L = ((x - y : Nat) : Int) → (andThen (F44 n L) fun r557 => some (r557.1, ())) = some (dig (x - y), ()) := by
    intro L o1 o2 o3
    rw [trimI hn o1 (by omega), ats, D_of o3]
  by_cases h0 : x = 0
  · subst h0
    have : y = 0 := by omega
    subst this
    obtain ⟨f, rfl⟩ : ∃ f, n = f + 1 := ⟨n - 1, by omega⟩
    simp only [F58_2_it, F58_2_step, dig_zero]
    rw [bn (by decide)]
    exact fin [] okd.nil (by decide) (by simp [nv])
  · have e := dig_pos h0
    have hv : nv (dig x) - nv (dig y) = ((x - y : Nat) : Int) := by rw [nv_dig, nv_dig]; omega
    have oo := okd_dig x
    have hll : (dig x).length = (dig (x / 10)).length + 1 := by rw [e]; simp
    simp only [hll]
    rw [e] at oo hv ⊢
    obtain ⟨L, l1, l2, l3, l4⟩ := subI_it (R := List Int × Unit) (n := n) (k0 := fun z556 => (andThen (F44 n z556) fun r557 => some (r557.1, ()))) (okd_dig y) (la := (dig (x / 10)).length + 1) (T := ((x - y : Nat) : Int)) (by omega) (by omega) (by omega) (dig (x / 10)).length n 0 [] (dig (x / 10)) ((x % 10 : Nat) : Int) rfl (by omega) rfl okd.nil oo.tail (by have := oo.head; omega) (by omega) (by simpa using hv)
    rw [show ((0 : Nat) : Int) = 0 from rfl] at l4
    simp only [List.nil_append] at l4
    rw [l4]
    exact fin L l1 (by omega) l3

theorem subS_it {R : Type} {n : Nat} {a b : List Int} {T : Int} {k0 : List Int → Option R} (ha : okd a) (hb : okd b) (hlb : b.length ≤ a.length) (hla : a.length ≤ 9000) (hT : 0 ≤ T) : ∀ (fuel i : Nat) (c : Int) (out : List Int), out.length = i → okd out → 0 ≤ c ∧ c ≤ 1 → i ≤ a.length → a.length + 1 ≤ fuel + i →
    nv out + 10 ^ i * (nv (a.drop i) - c - nv (b.drop i)) = T → ∃ L, okd L ∧ L.length = a.length ∧ nv L = T ∧ F64_3_it n k0 fuel a b c i out = k0 L
  | fuel, i, c, out, hout, hok, hc, hi, hf, hv => by
    obtain ⟨f, rfl⟩ : ∃ f, fuel = f + 1 := ⟨fuel - 1, by omega⟩
    simp only [F64_3_it, F64_3_step]
    have h1 := ha.getD i; have h2 := hb.getD i
    have e : (i : Int).toNat = i := by omega
    have ew : IntKind.wrap .i64 ((i : Int) + 1) = ((i + 1 : Nat) : Int) := by rw [wp (by omega)]; omega
    by_cases g : (i : Int) < (a.length : Int)
    · rw [bp g]
      have s0 : ∀ (p : Int) (k : List Int → List Int → Int → Int → List Int → Option R), -10 ≤ p ∧ p ≤ 10 → F64_0 n a b i p out k = k a b i (p - b.getD i 0) out := by
        intro p k hp
        unfold F64_0
        by_cases g : (i : Int) < (b.length : Int)
        · simp (disch := omega) only [bp, e, wp]
        · rw [bn g, getD_ge (l := b) (by omega)]; simp
      unfold F64_2
      have w1 : IntKind.wrap .i64 (a.getD i 0 - c) = a.getD i 0 - c := wp (by omega)
      simp only [e, w1]
      rw [bp (by omega), bp g, s0 _ _ (by omega)]
      unfold F64_1
      generalize hg : a.getD i 0 - c - b.getD i 0 = v
      have step : ∀ (q u : Int), 0 ≤ q ∧ q ≤ 1 → 0 ≤ u ∧ u ≤ 9 → v = u - 10 * q → ∃ L, okd L ∧ L.length = a.length ∧ nv L = T ∧ F64_3_it n k0 f a b q ((i + 1 : Nat) : Int) (out ++ [u]) = k0 L := by
        intro q u hq hu hvu
        refine subS_it ha hb hlb hla hT f (i + 1) q (out ++ [u]) (by simp [hout]) (hok.app (okd.nil.cons hu)) hq (by omega) (by omega) ?_
        rw [← hv, nv_one, hout, nv_drop' a i, nv_drop' b i, pow_succ10]
        grind
      by_cases gv : v < 0
      · simp (disch := omega) only [bp, wp, List.length_cons, List.length_nil, ew]
        have := step 1 (v + 10) (by omega) (by omega) (by omega)
        exact this
      · simp (disch := omega) only [bp, bn, List.length_cons, List.length_nil]
        have := step 0 v (by omega) (by omega) (by omega)
        rw [ew]; exact this
    · rw [bn g]
      rw [nv_drop_ge (l := a) (by omega), nv_drop_ge (l := b) (by omega)] at hv
      have hb2 := nv_bd hok
      rw [hout] at hb2
      have hp := pow_pos10 i
      have : c = 0 := by
        apply Classical.byContradiction
        intro hne
        have : c = 1 := by omega
        subst this
        omega
      subst this
      exact ⟨out, hok, by omega, by rw [← hv]; omega, rfl⟩
theorem subS {n x y : Nat} (hn : 10000 ≤ n) (hle : y ≤ x) (hla : (dig x).length ≤ 4000) : F64 n (dig x) (dig y) = some (dig (x - y), ()) := by
  unfold F64 F64_3
  have hlb := dig_mono hle
  obtain ⟨L, l1, l2, l3, l4⟩ := subS_it (R := List Int × Unit) (n := n) (k0 := fun z887 => (andThen (F50 n z887) fun r888 => some ((r888.2.1.take r888.1), ()))) (okd_dig x) (okd_dig y) hlb (by omega) (T := ((x - y : Nat) : Int)) (by omega) n 0 0 [] rfl okd.nil (by omega) (by omega) (by omega) (by simp [nv, nv_dig]; omega)
  rw [show ((0 : Nat) : Int) = 0 from rfl] at l4
  rw [l4, trimS hn l1 (by omega), ats]
  simp only [takeS l1]
  rw [D_of l3]
end Go.Proofs.Ytgaghaeniadkkaa.Am
