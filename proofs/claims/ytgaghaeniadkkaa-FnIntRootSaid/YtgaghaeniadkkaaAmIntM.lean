/- Digits: products, quotients. -/
import Derived.Test.YtgaghaeniadkkaaAmIntA
namespace Go.Proofs.Ytgaghaeniadkkaa.Am
open Go
set_option autoImplicit false
set_option linter.unusedVariables false
set_option linter.unusedSimpArgs false

theorem mul_lt10 {p q : Int} {i j : Nat} (hp : 0 ≤ p ∧ p < 10 ^ i) (hq : 0 ≤ q ∧ q < 10 ^ j) : p * q < 10 ^ (i + j) := by
  rw [Int.pow_add]
  have h1 : p * q ≤ p * 10 ^ j := Int.mul_le_mul_of_nonneg_left (by omega) hp.1
  have h2 : p * 10 ^ j < 10 ^ i * 10 ^ j := Int.mul_lt_mul_of_pos_right hp.2 (pow_pos10 j)
  omega
theorem nv_take_succ {l : List Int} {i : Nat} (h : i < l.length) : nv (l.take (i + 1)) = nv (l.take i) + 10 ^ i * l.getD i 0 := by
  rw [List.take_succ_eq_append_getElem h, nv_one, List.length_take, Nat.min_eq_left (by omega), getD_lt h]
theorem mul9 {x y : Int} (hx : 0 ≤ x ∧ x ≤ 9) (hy : 0 ≤ y ∧ y ≤ 9) : 0 ≤ x * y ∧ x * y ≤ 81 := by
  have h1 : x * y ≤ 9 * y := Int.mul_le_mul_of_nonneg_right hx.2 hy.1
  exact ⟨Int.mul_nonneg hx.1 hy.1, by omega⟩

theorem mulI_in {R : Type} {n : Nat} {a b : List Int} {i la lb N : Nat} {x idx S : Int} {k0 : List Int → List Int → Int → Int → List Int → Option R} (hb : okd b) (hlb : b.length = lb) (hl : lb ≤ 4000) (hi : i ≤ 4000) (hN : i + lb + 1 < N + 0 ∨ i + lb + 1 = N) (hN2 : N ≤ 9000) (hx : 0 ≤ x ∧ x ≤ 9) (hS : S < 10 ^ (i + lb + 1)) :
    ∀ (fuel j : Nat) (c : Int) (out : List Int), okd out → out.length = N → 0 ≤ c ∧ c ≤ 9 → j ≤ lb + 1 → nv out + 10 ^ (i + j) * (c + x * nv (b.drop j)) = S → lb + 2 ≤ fuel + j →
    ∃ L, okd L ∧ L.length = N ∧ nv L = S ∧ F46_2_it n k0 fuel b i x c j a la idx out = k0 b a la idx L
  | fuel, j, c, out, ho, hlen, hc, hj, hv, hf => by
    obtain ⟨f, rfl⟩ : ∃ f, fuel = f + 1 := ⟨fuel - 1, by omega⟩
    simp only [F46_2_it, F46_2_step]
    have hbj := hb.getD j
    have hoj := ho.getD (i + j)
    have hm := mul9 hx hbj
    have hlast : j = lb + 1 → c = 0 := by
      intro e
      have h0 := (nv_bd ho).1
      rw [nv_drop_ge (l := b) (by omega), e] at hv
      apply Classical.byContradiction
      intro hne
      have : (10 : Int) ^ (i + (lb + 1)) * 1 ≤ 10 ^ (i + (lb + 1)) * (c + x * 0) := Int.mul_le_mul_of_nonneg_left (by omega) (by have := pow_pos10 (i + (lb + 1)); omega)
      rw [show i + lb + 1 = i + (lb + 1) by omega] at hS
      omega
    have go : j ≤ lb → ∃ L, okd L ∧ L.length = N ∧ nv L = S ∧ F46_1 n b i x c j a la idx out (fun z1003 z1004 z1005 z1006 z1007 z1008 z1009 z1010 z1011 => F46_2_it n k0 f z1003 z1004 z1005 z1006 (IntKind.wrap .i64 (z1007 + (1 : Int))) z1008 z1009 z1010 z1011) = k0 b a la idx L := by
      intro hlt
      have e1 : IntKind.wrap .i64 ((i : Int) + (j : Int)) = ((i + j : Nat) : Int) := by rw [wp (by omega)]; omega
      have e2 : (((i + j : Nat) : Int)).toNat = i + j := by omega
      have e3 : (j : Int).toNat = j := by omega
      have ew : IntKind.wrap .i64 ((j : Int) + 1) = ((j + 1 : Nat) : Int) := by rw [wp (by omega)]; omega
      have s0 : ∀ (t : Int) (k : List Int → Int → Int → Int → Int → List Int → Int → Int → List Int → Option R), 0 ≤ t ∧ t ≤ 18 → F46_0 n b i x t j a la idx out k = k b i x (t + x * b.getD j 0) j a la idx out := by
        intro t k ht
        unfold F46_0
        by_cases g : (j : Int) < (b.length : Int)
        · simp (disch := omega) only [bp, e3, wp]
        · rw [bn g, getD_ge (l := b) (by omega)]; simp
      unfold F46_1
      have w1 : IntKind.wrap .i64 (c + out.getD (i + j) 0) = c + out.getD (i + j) 0 := wp (by omega)
      simp only [e1, e2, w1]
      rw [bp (by omega), bp (by omega), s0 _ _ (by omega)]
      generalize ht : c + out.getD (i + j) 0 + x * b.getD j 0 = t
      have hq : IntKind.wrap .i64 (t.tdiv 10) = t / 10 := by rw [td (by omega)]; exact wp (by omega)
      have hr : t.tmod 10 = t % 10 := tm (by omega)
      simp only [e1, e2, hq, hr, ew]
      rw [bp (by omega), bp (by omega)]
      refine mulI_in hb hlb hl hi hN hN2 hx hS f (j + 1) (t / 10) (out.set (i + j) (t % 10)) (ho.set (by omega)) (by simp [hlen]) (by omega) (by omega) ?_ (by omega)
      rw [← hv, nv_set (by omega), nv_drop' b j, ← Nat.add_assoc, pow_succ10]
      have : t % 10 + 10 * (t / 10) = t := by omega
      grind
    by_cases g1 : (j : Int) < (b.length : Int)
    · rw [bp g1]; exact go (by omega)
    rw [bn g1]
    by_cases g2 : c > 0
    · rw [bp g2]; exact go (by omega)
    rw [bn g2]
    refine ⟨out, ho, hlen, ?_, rfl⟩
    rw [nv_drop_ge (l := b) (by omega)] at hv
    have : c = 0 := by omega
    subst this
    rw [← hv]; simp
theorem mulI_out {R : Type} {n : Nat} {a b : List Int} {k0 : List Int → Option R} (hn : 10000 ≤ n) (ha : okd a) (hb : okd b) (hla : a.length ≤ 4000) (hlb : b.length ≤ 4000) : ∀ (fuel i : Nat) (out : List Int), i ≤ a.length → okd out → out.length = a.length + b.length + 1 → nv out = nv (a.take i) * nv b → a.length + 1 ≤ fuel + i →
    ∃ L, okd L ∧ L.length = a.length + b.length + 1 ∧ nv L = nv a * nv b ∧ F46_3_it n k0 fuel b a a.length i out = k0 L
  | fuel, i, out, hi, ho, hlen, hv, hf => by
    obtain ⟨f, rfl⟩ : ∃ f, fuel = f + 1 := ⟨fuel - 1, by omega⟩
    simp only [F46_3_it, F46_3_step]
    by_cases g : (i : Int) < (a.length : Int)
    · have e : (i : Int).toNat = i := by omega
      have ew : IntKind.wrap .i64 ((i : Int) + 1) = ((i + 1 : Nat) : Int) := by rw [wp (by omega)]; omega
      rw [bp g, bp (by omega), bp g, e]
      have hx := ha.getD i
      have hts := nv_take_succ (l := a) (i := i) (by omega)
      have hS : nv (a.take (i + 1)) * nv b < 10 ^ (i + b.length + 1) := by
        have h1 := nv_bd (ha.take (i + 1))
        rw [List.length_take, Nat.min_eq_left (by omega)] at h1
        have := mul_lt10 h1 (nv_bd hb)
        rw [show i + 1 + b.length = i + b.length + 1 by omega] at this
        exact this
      obtain ⟨L, l1, l2, l3, l4⟩ := mulI_in (R := R) (n := n) (a := a) (b := b) (i := i) (la := a.length) (lb := b.length) (N := a.length + b.length + 1) (x := a.getD i 0) (idx := i) (S := nv (a.take (i + 1)) * nv b)
        (k0 := fun z1024 z1025 z1026 z1027 z1028 => F46_3_it n k0 f z1024 z1025 z1026 (IntKind.wrap .i64 (z1027 + (1 : Int))) z1028) hb rfl hlb (by omega) (by omega) (by omega) hx hS n 0 0 out ho hlen (by omega) (by omega) (by
          rw [hv, hts]; simp only [List.drop_zero, Nat.add_zero]; grind) (by omega)
      unfold F46_2
      rw [show ((0 : Nat) : Int) = 0 from rfl] at l4
      rw [l4, ew]
      exact mulI_out hn ha hb hla hlb f (i + 1) L (by omega) l1 l2 l3 (by omega)
    · rw [bn g]
      refine ⟨out, ho, hlen, ?_, rfl⟩
      rw [hv, List.take_of_length_le (by omega)]
theorem mulI {n x y : Nat} (hn : 10000 ≤ n) (hla : (dig x).length ≤ 4000) (hlb : (dig y).length ≤ 4000) : F46 n (dig x) (dig y) = some (dig (x * y), ()) := by
  unfold F46 F46_3
  have w : IntKind.wrap .i64 ((IntKind.wrap .i64 (((dig x).length : Int) + ((dig y).length : Int))) + 1) = (((dig x).length + (dig y).length + 1 : Nat) : Int) := by rw [wp (x := ((dig x).length : Int) + _) (by omega), wp (by omega)]; omega
  simp only [w]
  rw [bp (by omega), bp (by omega), bp (by omega)]
  obtain ⟨L, l1, l2, l3, l4⟩ := mulI_out (R := List Int × Unit) (n := n) (k0 := fun z1030 => (andThen (F44 n z1030) fun r1031 => some (r1031.1, ()))) hn (okd_dig x) (okd_dig y) hla hlb n 0 (List.replicate ((dig x).length + (dig y).length + 1) 0) (by omega) (okd.rep _) (by simp) (by rw [nv_rep]; simp [nv]) (by omega)
  rw [show ((0 : Nat) : Int) = 0 from rfl] at l4
  rw [show ((((dig x).length + (dig y).length + 1 : Nat) : Int)).toNat = (dig x).length + (dig y).length + 1 by omega, l4, trimI hn l1 (by omega), ats, D_of (z := x * y) (by rw [l3, nv_dig, nv_dig]; norm_cast)]

-- the reference's products ----------------------------------------------------------------------------------------------------------
def bdd (B : Int) (l : List Int) : Prop := ∀ y ∈ l, 0 ≤ y ∧ y ≤ B
theorem bdd.getD {B : Int} {l : List Int} (h : bdd B l) (hB : 0 ≤ B) (i : Nat) : 0 ≤ l.getD i 0 ∧ l.getD i 0 ≤ B := by
  by_cases hi : i < l.length
  · rw [getD_lt hi]; exact h _ (List.getElem_mem hi)
  · rw [getD_ge (by omega)]; omega
theorem bdd.set {B B' : Int} {l : List Int} (h : bdd B l) (hB : B ≤ B') {i : Nat} {v : Int} (hv : 0 ≤ v ∧ v ≤ B') : bdd B' (l.set i v) := fun x hx => by
  rcases List.mem_or_eq_of_mem_set hx with hx | rfl
  · have := h x hx; omega
  · exact hv
theorem bdd.mono {B B' : Int} {l : List Int} (h : bdd B l) (hB : B ≤ B') : bdd B' l := fun x hx => by have := h x hx; omega
theorem bdd.rep (n : Nat) : bdd 0 (List.replicate n 0) := fun x hx => by
  have := (List.mem_replicate.1 hx).2; omega
theorem mulS_in {R : Type} {n : Nat} {a b : List Int} {i N : Nat} {S : Int} {k0 : List Int → List Int → Int → List Int → Option R} (ha : okd a) (hb : okd b) (hl : b.length ≤ 4000) (hi : i < a.length) (hi2 : i ≤ 4000) (hN : i + b.length < N) (hN2 : N ≤ 9000) :
    ∀ (d fuel k : Nat) (B : Int) (out : List Int), d = b.length - k → k ≤ b.length → 0 ≤ B → B + 81 * d ≤ 4000000000 → bdd B out → out.length = N → nv out + 10 ^ (i + k) * (a.getD i 0 * nv (b.drop k)) = S → d + 1 ≤ fuel →
    ∃ L, bdd (B + 81 * d) L ∧ L.length = N ∧ nv L = S ∧ F49_0_it n k0 fuel a b i k out = k0 a b i L
  | d, fuel, k, B, out, hd, hk, hB, hB2, ho, hlen, hv, hf => by
    obtain ⟨f, rfl⟩ : ∃ f, fuel = f + 1 := ⟨fuel - 1, by omega⟩
    simp only [F49_0_it, F49_0_step]
    by_cases g : (k : Int) < (b.length : Int)
    · have hm := mul9 (ha.getD i) (hb.getD k)
      have hok := ho.getD hB (i + k)
      have e1 : IntKind.wrap .i64 ((i : Int) + (k : Int)) = ((i + k : Nat) : Int) := by rw [wp (by omega)]; omega
      have e2 : (((i + k : Nat) : Int)).toNat = i + k := by omega
      have e3 : (k : Int).toNat = k := by omega
      have e4 : (i : Int).toNat = i := by omega
      have ew : IntKind.wrap .i64 ((k : Int) + 1) = ((k + 1 : Nat) : Int) := by rw [wp (by omega)]; omega
      have w1 : IntKind.wrap .i64 (a.getD i 0 * b.getD k 0) = a.getD i 0 * b.getD k 0 := wp (by omega)
      obtain ⟨d, rfl⟩ : ∃ e, d = e + 1 := ⟨d - 1, by omega⟩
      · have w2 : IntKind.wrap .i64 (out.getD (i + k) 0 + a.getD i 0 * b.getD k 0) = out.getD (i + k) 0 + a.getD i 0 * b.getD k 0 := wp (by omega)
        simp only [e1, e2, e3, e4, ew, w1, w2]
        simp (disch := omega) only [bp]
        obtain ⟨L, l1, l2, l3, l4⟩ := mulS_in (S := S) (k0 := k0) ha hb hl hi hi2 hN hN2 d f (k + 1) (B + 81) (out.set (i + k) (out.getD (i + k) 0 + a.getD i 0 * b.getD k 0)) (by omega) (by omega) (by omega) (by omega) (ho.set (by omega) (by omega)) (by simp [hlen]) (by
          rw [← hv, nv_set (by omega), nv_drop' b k, ← Nat.add_assoc, pow_succ10]
          grind) (by omega)
        exact ⟨L, l1.mono (by omega), l2, l3, l4⟩
    · rw [bn g]
      refine ⟨out, ho.mono (by omega), hlen, ?_, rfl⟩
      rw [nv_drop_ge (l := b) (by omega)] at hv
      rw [← hv]; simp
theorem mulS_out {R : Type} {n : Nat} {a b : List Int} {k0 : List Int → Option R} (hn : 10000 ≤ n) (ha : okd a) (hb : okd b) (hla : a.length ≤ 4000) (hlb : b.length ≤ 4000) : ∀ (d fuel i : Nat) (B : Int) (out : List Int), d = a.length - i → i ≤ a.length → 0 ≤ B → B + 324000 * d ≤ 4000000000 → bdd B out → out.length = a.length + b.length + 1 → nv out = nv (a.take i) * nv b → d + 1 ≤ fuel →
    ∃ L, bdd 4000000000 L ∧ L.length = a.length + b.length + 1 ∧ nv L = nv a * nv b ∧ F49_1_it n k0 fuel a b i out = k0 L
  | d, fuel, i, B, out, hd, hi, hB, hB2, ho, hlen, hv, hf => by
    obtain ⟨f, rfl⟩ : ∃ f, fuel = f + 1 := ⟨fuel - 1, by omega⟩
    simp only [F49_1_it, F49_1_step]
    by_cases g : (i : Int) < (a.length : Int)
    · have ew : IntKind.wrap .i64 ((i : Int) + 1) = ((i + 1 : Nat) : Int) := by rw [wp (by omega)]; omega
      rw [bp g]
      have hts := nv_take_succ (l := a) (i := i) (by omega)
      obtain ⟨d, rfl⟩ : ∃ e, d = e + 1 := ⟨d - 1, by omega⟩
      · obtain ⟨L, l1, l2, l3, l4⟩ := mulS_in (R := R) (n := n) (a := a) (b := b) (i := i) (N := a.length + b.length + 1) (S := nv (a.take (i + 1)) * nv b)
          (k0 := fun z1080 z1081 z1082 z1083 => F49_1_it n k0 f z1080 z1081 (IntKind.wrap .i64 (z1082 + (1 : Int))) z1083) ha hb hlb (by omega) (by omega) (by omega) (by omega) b.length n 0 B out (by omega) (by omega) hB (by omega) ho hlen (by
            rw [hv, hts]; simp only [List.drop_zero, Nat.add_zero]; grind) (by omega)
        unfold F49_0
        rw [show ((0 : Nat) : Int) = 0 from rfl] at l4
        rw [l4, ew]
        exact mulS_out hn ha hb hla hlb d f (i + 1) (B + 324000) L (by omega) (by omega) (by omega) (by omega) (l1.mono (by omega)) l2 l3 (by omega)
    · rw [bn g]
      refine ⟨out, ho.mono (by omega), hlen, ?_, rfl⟩
      rw [hv, List.take_of_length_le (by omega)]
theorem carry_it {R : Type} {n N : Nat} {V : Int} {k0 : List Int → Option R} (hN : N ≤ 9000) (hV : V < 10 ^ N) : ∀ (fuel i : Nat) (c : Int) (A B : List Int), A.length = i → i + B.length = N → okd A → bdd 4000000000 B → 0 ≤ c ∧ c ≤ 4000000000 → nv (A ++ B) + 10 ^ i * c = V → B.length + 1 ≤ fuel →
    ∃ L, okd L ∧ L.length = N ∧ nv L = V ∧ F49_2_it n k0 fuel c i (A ++ B) = k0 L
  | fuel, i, c, A, B, hA, hl, oA, oB, hc, hv, hf => by
    obtain ⟨f, rfl⟩ : ∃ f, fuel = f + 1 := ⟨fuel - 1, by omega⟩
    simp only [F49_2_it, F49_2_step]
    have hlen : (A ++ B).length = N := by simp; omega
    match B, hl, oB, hlen, hv, hf with
    | [], hl, oB, hlen, hv, hf =>
      have hl : i = N := by simpa using hl
      rw [bn (by omega)]
      have h1 := nv_bd oA
      simp only [List.append_nil] at hv ⊢
      rw [hl] at hv
      have : c = 0 := by
        apply Classical.byContradiction
        intro hne
        have : (10 : Int) ^ N * 1 ≤ 10 ^ N * c := Int.mul_le_mul_of_nonneg_left (by omega) (by have := pow_pos10 N; omega)
        omega
      subst this
      exact ⟨A, oA, by omega, by rw [← hv]; omega, rfl⟩
    | h :: B, hl, oB, hlen, hv, hf =>
      have hh := oB h (by simp)
      have hl' : i + (B.length + 1) = N := hl
      have e : (i : Int).toNat = i := by omega
      have ew : IntKind.wrap .i64 ((i : Int) + 1) = ((i + 1 : Nat) : Int) := by rw [wp (by omega)]; omega
      have w1 : IntKind.wrap .i64 (h + c) = h + c := wp (by omega)
      have hq : IntKind.wrap .i64 ((h + c).tdiv 10) = (h + c) / 10 := by rw [td (by omega)]; exact wp (by omega)
      have hr : (h + c).tmod 10 = (h + c) % 10 := tm (by omega)
      simp only [e, getD_mid A B h i hA, w1, hq, hr, ew, set_mid A B h _ i hA]
      simp (disch := omega) only [bp]
      have er : A ++ ((h + c) % 10) :: B = (A ++ [(h + c) % 10]) ++ B := by simp
      rw [er]
      refine carry_it hN hV f (i + 1) ((h + c) / 10) (A ++ [(h + c) % 10]) B (by simp [hA]) (by omega) (oA.app (okd.nil.cons (by omega))) (fun y hy => oB y (List.mem_cons_of_mem _ hy)) (by omega) ?_ (by simp at hf; omega)
      rw [← hv, ← er, nv_mid _ _ _ _ hA, nv_mid _ _ _ _ hA, pow_succ10]
      have : (h + c) % 10 + 10 * ((h + c) / 10) = h + c := by omega
      grind
theorem mulS {n x y : Nat} (hn : 10000 ≤ n) (hla : (dig x).length ≤ 4000) (hlb : (dig y).length ≤ 4000) : ∃ L, okd L ∧ L.length ≤ 8001 ∧ D L = dig (x * y) ∧ F49 n (dig x) (dig y) = some ((dig (x * y)).length, (L, ())) := by
  unfold F49 F49_1
  have w : IntKind.wrap .i64 ((IntKind.wrap .i64 (((dig x).length : Int) + ((dig y).length : Int))) + 1) = (((dig x).length + (dig y).length + 1 : Nat) : Int) := by rw [wp (x := ((dig x).length : Int) + _) (by omega), wp (by omega)]; omega
  simp only [w]
  rw [bp (by omega), bp (by omega), bp (by omega)]
  obtain ⟨L, l1, l2, l3, l4⟩ := mulS_out (R := Nat × (List Int × Unit)) (n := n) (k0 := fun z1085 => (F49_2 n (0 : Int) (0 : Int) z1085 (fun z1099 => (andThen (F50 n z1099) fun r1100 => some (r1100.1, (r1100.2.1, ())))))) hn (okd_dig x) (okd_dig y) hla hlb (dig x).length n 0 0 (List.replicate ((dig x).length + (dig y).length + 1) 0) (by omega) (by omega) (by omega) (by omega) (bdd.rep _) (by simp) (by rw [nv_rep]; simp [nv]) (by omega)
  rw [show ((0 : Nat) : Int) = 0 from rfl] at l4
  rw [show ((((dig x).length + (dig y).length + 1 : Nat) : Int)).toNat = (dig x).length + (dig y).length + 1 by omega, l4]
  unfold F49_2
  have hV : nv (dig x) * nv (dig y) < 10 ^ ((dig x).length + (dig y).length + 1) := by
    have := mul_lt10 (nv_bd (okd_dig x)) (nv_bd (okd_dig y))
    rw [pow_succ10]; have := pow_pos10 ((dig x).length + (dig y).length); omega
  obtain ⟨M, m1, m2, m3, m4⟩ := carry_it (R := Nat × (List Int × Unit)) (n := n) (N := (dig x).length + (dig y).length + 1) (k0 := fun z1099 => (andThen (F50 n z1099) fun r1100 => some (r1100.1, (r1100.2.1, ())))) (by omega) hV n 0 0 [] L rfl (by simp [l2]) okd.nil l1 (by omega) (by simp [l3]) (by omega)
  rw [show ((0 : Nat) : Int) = 0 from rfl] at m4
  simp only [List.nil_append] at m4
  rw [m4, trimS hn m1 (by omega)]
  have hD : D M = dig (x * y) := D_of (by rw [m3, nv_dig, nv_dig]; norm_cast)
  refine ⟨M, m1, by omega, hD, ?_⟩
  rw [ats, hD]
theorem mulS_take {L : List Int} {z : Nat} (ho : okd L) (h : D L = dig z) : L.take (dig z).length = dig z := by rw [← h]; exact takeS ho

-- quotients ------------------------------------------------------------------------------------------------------------------------------
theorem sg_ge {r y : Nat} : (sg r y ≥ 0) ↔ y ≤ r := by
  unfold sg
  by_cases h1 : (r : Int) < y
  · rw [if_pos h1]; constructor <;> intro h <;> omega
  · rw [if_neg h1]; by_cases h2 : (r : Int) = y
    · rw [if_pos h2]; constructor <;> intro h <;> omega
    · rw [if_neg h2]; constructor <;> intro h <;> omega
theorem len_mono {x y : Nat} (h : x ≤ y) : (dig x).length ≤ (dig y).length := dig_mono h
theorem divI_in {R : Type} {n : Nat} {a : List Int} {y i : Nat} {k0 : List Int → List Int → List Int → Int → List Int → Option R} (hn : 10000 ≤ n) (hy : 0 < y) : ∀ (q fuel r : Nat) (out : List Int), r / y = q → (dig r).length ≤ 4000 → i < out.length → 0 ≤ out.getD i 0 ∧ out.getD i 0 + q ≤ 1000 → q < fuel →
    F65_0_it n k0 fuel a (dig y) (dig r) i out = k0 a (dig y) (dig (r % y)) i (out.set i (out.getD i 0 + q))
  | q, fuel, r, out, hq, hr, hi, ho, hf => by
    obtain ⟨f, rfl⟩ : ∃ f, fuel = f + 1 := ⟨fuel - 1, by omega⟩
    simp only [F65_0_it, F65_0_step]
    rw [cmpI hn (by omega), ats]
    by_cases g : y ≤ r
    · rw [bp (sg_ge.2 g), subI hn g hr, ats]
      have e : (i : Int).toNat = i := by omega
      have hq1 : 0 < q := by rw [← hq]; exact Nat.div_pos g hy
      have w : IntKind.wrap .i64 (out.getD i 0 + 1) = out.getD i 0 + 1 := wp (by omega)
      simp only [e, w]
      simp (disch := omega) only [bp]
      match q, hq, hq1 with
      | q + 1, hq, _ =>
        have hq2 : (r - y) / y = q := by have := Nat.div_eq_sub_div hy g; omega
        rw [divI_in hn hy q f (r - y) (out.set i (out.getD i 0 + 1)) hq2 (Nat.le_trans (len_mono (by omega)) hr) (by simp; exact hi) (by rw [getD_set hi, if_pos rfl]; omega) (by omega)]
        rw [getD_set hi, if_pos rfl, List.set_set, ← Nat.mod_eq_sub_mod g]
        congr 2; omega
    · rw [bn (fun h => g (sg_ge.1 h))]
      have : q = 0 := by rw [← hq]; exact Nat.div_eq_of_lt (by omega)
      subst this
      rw [Nat.mod_eq_of_lt (by omega)]
      have : out.set i (out.getD i 0 + ((0 : Nat) : Int)) = out := by
        rw [getD_lt hi]; simp
      rw [this]

theorem nv_take_zero {l : List Int} {i : Nat} (h : ∀ j, j < i → l.getD j 0 = 0) : nv (l.take i) = 0 := by
  induction i with
  | zero => rfl
  | succ i ih =>
    by_cases hi : i < l.length
    · rw [nv_take_succ hi, ih fun j hj => h j (by omega), h i (by omega)]; simp
    · have e1 : l.take (i + 1) = l.take i := by rw [List.take_of_length_le (by omega), List.take_of_length_le (by omega)]
      rw [e1]; exact ih fun j hj => h j (by omega)
theorem dig_cons_D (d : Int) (hd : 0 ≤ d ∧ d ≤ 9) (r : Nat) : D (d :: dig r) = dig (d.toNat + 10 * r) ∧ okd (d :: dig r) := by
  refine ⟨D_of ?_, (okd_dig r).cons hd⟩
  simp only [nv, nv_dig]; omega
theorem drop_set_lt {l : List Int} {i j : Nat} {v : Int} (h : i < j) : (l.set i v).drop j = l.drop j := by rw [List.drop_set]; simp [h]
theorem divI_out {R : Type} {n : Nat} {a : List Int} {y : Nat} {k0 : List Int → List Int → Option R} (hn : 10000 ≤ n) (hy : 0 < y) (ha : okd a) (hla : a.length ≤ 3000) (hly : (dig y).length ≤ 3000) : ∀ (fuel m r : Nat) (out : List Int), m ≤ a.length → r < y → okd out → out.length = a.length → (∀ j, j < m → out.getD j 0 = 0) → nv (a.drop m) = nv (out.drop m) * y + r → m < fuel →
    ∃ (L : List Int) (r' : Nat), okd L ∧ L.length = a.length ∧ r' < y ∧ nv a = nv L * y + r' ∧ F65_1_it n k0 fuel a (dig y) (dig r) ((m : Int) - 1) out = k0 (dig r') L
  | fuel, m, r, out, hm, hr, ho, hlen, hz, hv, hf => by
    obtain ⟨f, rfl⟩ : ∃ f, fuel = f + 1 := ⟨fuel - 1, by omega⟩
    simp only [F65_1_it, F65_1_step]
    cases m with
    | zero =>
      rw [bn (by omega)]
      exact ⟨out, r, ho, hlen, hr, by simpa using hv, rfl⟩
    | succ m =>
      have e : (((m + 1 : Nat) : Int) - 1).toNat = m := by omega
      have e2 : ((m + 1 : Nat) : Int) - 1 = (m : Int) := by omega
      have e3 : (m : Int).toNat = m := by omega
      have hd := ha.getD m
      have hlr : (dig r).length ≤ 3000 := Nat.le_trans (len_mono (by omega)) hly
      obtain ⟨hD, hO⟩ := dig_cons_D (a.getD m 0) hd r
      simp only [e2, e3]
      simp (disch := omega) only [bp, List.length_cons, List.length_nil]
      rw [show a.getD m 0 :: [] ++ dig r = a.getD m 0 :: dig r from rfl, trimI hn hO (by simp; omega), ats, hD]
      generalize hr2 : (a.getD m 0).toNat + 10 * r = r2
      obtain ⟨Q, hQ⟩ : ∃ Q, r2 / y = Q := ⟨_, rfl⟩
      obtain ⟨W, hW⟩ : ∃ W, r2 % y = W := ⟨_, rfl⟩
      have hWy : W < y := by rw [← hW]; exact Nat.mod_lt _ hy
      have hq9 : Q < 10 := by rw [← hQ, Nat.div_lt_iff_lt_mul hy]; omega
      have hlr2 : (dig r2).length ≤ 4000 := by
        have h1 := dig_le_len hO
        have h2 : (nv (a.getD m 0 :: dig r)).toNat = r2 := by simp only [nv, nv_dig]; omega
        rw [h2] at h1; simp at h1; omega
      unfold F65_0
      have hz0 := hz m (by omega)
      rw [divI_in hn hy Q n r2 out hQ hlr2 (by omega) (by omega) (by omega)]
      have ew : IntKind.wrap .i64 ((m : Int) - 1) = (m : Int) - 1 := wp (by omega)
      rw [hz0, ew, hW]
      refine divI_out hn hy ha hla hly f m W _ (by omega) hWy (ho.set (by omega)) (by simp [hlen]) (fun j hj => by rw [getD_set (by omega), if_neg (by omega)]; exact hz j (by omega)) ?_ (by omega)
      rw [nv_drop (l := a) (by omega), hv, nv_drop (l := out.set m _) (by simp; omega), getD_set (by omega), if_pos rfl, drop_set_lt (by omega)]
      have h3 := Nat.div_add_mod r2 y
      rw [hQ, hW] at h3
      have h4 : (r2 : Int) = (y : Int) * (Q : Int) + (W : Int) := by exact_mod_cast h3.symm
      have h5 : (r2 : Int) = a.getD m 0 + 10 * r := by omega
      grind
theorem divmod {x y : Nat} {z r : Int} (hy : 0 < y) (hz : 0 ≤ z) (h : (x : Int) = z * y + r) (hr : 0 ≤ r ∧ r < y) : z = ((x / y : Nat) : Int) ∧ r = ((x % y : Nat) : Int) := by
  obtain ⟨q, rfl⟩ := Int.eq_ofNat_of_zero_le hz
  obtain ⟨s, rfl⟩ := Int.eq_ofNat_of_zero_le hr.1
  have h1 : x = q * y + s := by exact_mod_cast h
  subst h1
  have hs : s < y := by omega
  refine ⟨?_, ?_⟩
  · rw [Nat.mul_comm, Nat.mul_add_div hy, Nat.div_eq_of_lt hs, Nat.add_zero]
  · rw [Nat.mul_comm, Nat.mul_add_mod, Nat.mod_eq_of_lt hs]
theorem divI {n x y : Nat} (hn : 10000 ≤ n) (hy : 0 < y) (hlx : (dig x).length ≤ 3000) (hly : (dig y).length ≤ 3000) : F65 n (dig x) (dig y) = some ((dig (x / y), (dig (x % y), ())), ()) := by
  unfold F65 F65_1
  have e : (((dig x).length : Nat) : Int).toNat = (dig x).length := by omega
  have ew : IntKind.wrap .i64 (((dig x).length : Int) - 1) = ((dig x).length : Int) - 1 := wp (by omega)
  simp only [e, ew]
  rw [bp (by omega), bp (by omega), bp (by omega)]
  obtain ⟨L, r, l1, l2, l3, l4, l5⟩ := divI_out (R := (List Int × (List Int × Unit)) × Unit) (n := n) (k0 := fun z1196 z1197 => (andThen (F44 n z1197) fun r1198 => some ((r1198.1, (z1196, ())), ()))) hn hy (okd_dig x) hlx hly n (dig x).length 0 (List.replicate (dig x).length 0) (by omega) hy (okd.rep _) (by simp) (fun j hj => by rw [getD_lt (by simpa using hj)]; simp) (by rw [nv_drop_ge (by omega), nv_drop_ge (by simp)]; simp) (by omega)
  rw [dig_zero] at l5
  rw [l5, trimI hn l1 (by omega), ats]
  rw [nv_dig] at l4
  obtain ⟨h1, h2⟩ := divmod hy (nv_bd l1).1 l4 (by omega)
  rw [D_of h1, show r = x % y by omega]

theorem divS_in {R : Type} {n : Nat} {a : List Int} {y i : Nat} {k0 : List Int → List Int → List Int → Int → List Int → Option R} (hn : 10000 ≤ n) (hy : 0 < y) : ∀ (q fuel r : Nat) (out : List Int), r / y = q → (dig r).length ≤ 4000 → i < out.length → 0 ≤ out.getD i 0 ∧ out.getD i 0 + q ≤ 1000 → q < fuel →
    F67_0_it n k0 fuel a (dig y) (dig r) i out = k0 a (dig y) (dig (r % y)) i (out.set i (out.getD i 0 + q))
  | q, fuel, r, out, hq, hr, hi, ho, hf => by
    obtain ⟨f, rfl⟩ : ∃ f, fuel = f + 1 := ⟨fuel - 1, by omega⟩
    simp only [F67_0_it, F67_0_step]
    rw [cmpS hn (by omega), ats]
    by_cases g : y ≤ r
    · rw [bp (sg_ge.2 g), subS hn g hr, ats]
      have e : (i : Int).toNat = i := by omega
      have hq1 : 0 < q := by rw [← hq]; exact Nat.div_pos g hy
      have w : IntKind.wrap .i64 (out.getD i 0 + 1) = out.getD i 0 + 1 := wp (by omega)
      simp only [e, w]
      simp (disch := omega) only [bp]
      match q, hq, hq1 with
      | q + 1, hq, _ =>
        have hq2 : (r - y) / y = q := by have := Nat.div_eq_sub_div hy g; omega
        rw [divS_in hn hy q f (r - y) (out.set i (out.getD i 0 + 1)) hq2 (Nat.le_trans (len_mono (by omega)) hr) (by simp; exact hi) (by rw [getD_set hi, if_pos rfl]; omega) (by omega)]
        rw [getD_set hi, if_pos rfl, List.set_set, ← Nat.mod_eq_sub_mod g]
        congr 2; omega
    · rw [bn (fun h => g (sg_ge.1 h))]
      have : q = 0 := by rw [← hq]; exact Nat.div_eq_of_lt (by omega)
      subst this
      rw [Nat.mod_eq_of_lt (by omega)]
      have : out.set i (out.getD i 0 + ((0 : Nat) : Int)) = out := by
        rw [getD_lt hi]; simp
      rw [this]
theorem divS_out {R : Type} {n : Nat} {a : List Int} {y : Nat} {k0 : List Int → List Int → Option R} (hn : 10000 ≤ n) (hy : 0 < y) (ha : okd a) (hla : a.length ≤ 3000) (hly : (dig y).length ≤ 3000) : ∀ (fuel m r : Nat) (out : List Int), m ≤ a.length → r < y → okd out → out.length = a.length → (∀ j, j < m → out.getD j 0 = 0) → nv (a.drop m) = nv (out.drop m) * y + r → m < fuel →
    ∃ (L : List Int) (r' : Nat), okd L ∧ L.length = a.length ∧ r' < y ∧ nv a = nv L * y + r' ∧ F67_1_it n k0 fuel a (dig y) (dig r) ((m : Int) - 1) out = k0 (dig r') L
  | fuel, m, r, out, hm, hr, ho, hlen, hz, hv, hf => by
    obtain ⟨f, rfl⟩ : ∃ f, fuel = f + 1 := ⟨fuel - 1, by omega⟩
    simp only [F67_1_it, F67_1_step]
    cases m with
    | zero =>
      rw [bn (by omega)]
      exact ⟨out, r, ho, hlen, hr, by simpa using hv, rfl⟩
    | succ m =>
      have e : (((m + 1 : Nat) : Int) - 1).toNat = m := by omega
      have e2 : ((m + 1 : Nat) : Int) - 1 = (m : Int) := by omega
      have e3 : (m : Int).toNat = m := by omega
      have hd := ha.getD m
      have hlr : (dig r).length ≤ 3000 := Nat.le_trans (len_mono (by omega)) hly
      obtain ⟨hD, hO⟩ := dig_cons_D (a.getD m 0) hd r
      simp only [e2, e3]
      simp (disch := omega) only [bp, List.length_cons, List.length_nil]
      rw [show a.getD m 0 :: [] ++ dig r = a.getD m 0 :: dig r from rfl, trimS hn hO (by simp; omega), ats]
      simp only [takeS hO]
      rw [hD]
      generalize hr2 : (a.getD m 0).toNat + 10 * r = r2
      obtain ⟨Q, hQ⟩ : ∃ Q, r2 / y = Q := ⟨_, rfl⟩
      obtain ⟨W, hW⟩ : ∃ W, r2 % y = W := ⟨_, rfl⟩
      have hWy : W < y := by rw [← hW]; exact Nat.mod_lt _ hy
      have hq9 : Q < 10 := by rw [← hQ, Nat.div_lt_iff_lt_mul hy]; omega
      have hlr2 : (dig r2).length ≤ 4000 := by
        have h1 := dig_le_len hO
        have h2 : (nv (a.getD m 0 :: dig r)).toNat = r2 := by simp only [nv, nv_dig]; omega
        rw [h2] at h1; simp at h1; omega
      unfold F67_0
      have hz0 := hz m (by omega)
      rw [divS_in hn hy Q n r2 out hQ hlr2 (by omega) (by omega) (by omega)]
      have ew : IntKind.wrap .i64 ((m : Int) - 1) = (m : Int) - 1 := wp (by omega)
      rw [hz0, ew, hW]
      refine divS_out hn hy ha hla hly f m W _ (by omega) hWy (ho.set (by omega)) (by simp [hlen]) (fun j hj => by rw [getD_set (by omega), if_neg (by omega)]; exact hz j (by omega)) ?_ (by omega)
      rw [nv_drop (l := a) (by omega), hv, nv_drop (l := out.set m _) (by simp; omega), getD_set (by omega), if_pos rfl, drop_set_lt (by omega)]
      have h3 := Nat.div_add_mod r2 y
      rw [hQ, hW] at h3
      have h4 : (r2 : Int) = (y : Int) * (Q : Int) + (W : Int) := by exact_mod_cast h3.symm
      have h5 : (r2 : Int) = a.getD m 0 + 10 * r := by omega
      grind
theorem divS {n x y : Nat} (hn : 10000 ≤ n) (hy : 0 < y) (hlx : (dig x).length ≤ 3000) (hly : (dig y).length ≤ 3000) : F67 n (dig x) (dig y) = some ((dig (x / y), (dig (x % y), ())), ()) := by
  unfold F67 F67_1
  have e : (((dig x).length : Nat) : Int).toNat = (dig x).length := by omega
  have ew : IntKind.wrap .i64 (((dig x).length : Int) - 1) = ((dig x).length : Int) - 1 := wp (by omega)
  simp only [e, ew]
  rw [bp (by omega), bp (by omega), bp (by omega)]
  obtain ⟨L, r, l1, l2, l3, l4, l5⟩ := divS_out (R := (List Int × (List Int × Unit)) × Unit) (n := n) (k0 := fun z1518 z1519 => (andThen (F50 n z1519) fun r1520 => some (((r1520.2.1.take r1520.1), (z1518, ())), ()))) hn hy (okd_dig x) hlx hly n (dig x).length 0 (List.replicate (dig x).length 0) (by omega) hy (okd.rep _) (by simp) (fun j hj => by rw [getD_lt (by simpa using hj)]; simp) (by rw [nv_drop_ge (by omega), nv_drop_ge (by simp)]; simp) (by omega)
  rw [dig_zero] at l5
  rw [l5, trimS hn l1 (by omega), ats]
  simp only [takeS l1]
  rw [nv_dig] at l4
  obtain ⟨h1, h2⟩ := divmod hy (nv_bd l1).1 l4 (by omega)
  rw [D_of h1, show r = x % y by omega]
end Go.Proofs.Ytgaghaeniadkkaa.Am
