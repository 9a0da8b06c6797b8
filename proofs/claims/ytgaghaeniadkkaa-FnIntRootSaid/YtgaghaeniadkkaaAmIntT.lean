/- Integers: roots. -/
import Derived.Test.YtgaghaeniadkkaaAmIntL
namespace Go.Proofs.Ytgaghaeniadkkaa.Am
open Go
set_option autoImplicit false
set_option linter.unusedVariables false
set_option linter.unusedSimpArgs false

theorem nv_root {i d b : Nat} {B : List Int} (hb : nv B = b) : nv (List.replicate i 0 ++ (d : Int) :: B) = ((10 ^ i * (d + 10 * b) : Nat) : Int) := by
  rw [nv_mid _ _ _ i (by simp), nv_rep, hb]
  simp [Int.natCast_mul, Int.natCast_add, Int.natCast_pow]
theorem D_root {i d b : Nat} {B : List Int} (hb : nv B = b) : D (List.replicate i 0 ++ (d : Int) :: B) = dig (10 ^ i * (d + 10 * b)) := D_of (nv_root hb)
theorem set_root {i : Nat} {h v : Int} {B : List Int} : (List.replicate i 0 ++ h :: B).set i v = List.replicate i 0 ++ v :: B := set_mid _ _ _ _ _ (by simp)
theorem getD_root {i : Nat} {h : Int} {B : List Int} : (List.replicate i 0 ++ h :: B).getD i 0 = h := getD_mid _ _ _ _ (by simp)
theorem okd_root {i d : Nat} {B : List Int} (hd : d ≤ 9) (hB : okd B) : okd (List.replicate i 0 ++ (d : Int) :: B) := (okd.rep i).app (hB.cons (by omega))
theorem sg_gt {r y : Nat} : (sg r y > 0) ↔ y < r := by
  unfold sg
  split
  · omega
  · split <;> omega
theorem sg_le {r y : Nat} : (sg r y ≤ 0) ↔ r ≤ y := by
  unfold sg
  split
  · omega
  · split <;> omega
theorem root_len {i d b N : Nat} {B : List Int} (hd : d ≤ 9) (hB : okd B) (hb : nv B = b) (hl : i + B.length + 1 = N) : (dig (10 ^ i * (d + 10 * b))).length ≤ N := by
  rw [← D_root hb]
  refine Nat.le_trans (D_len (okd_root hd hB)) ?_
  simp; omega

theorem rootI_in {R : Type} {n i b N X : Nat} {bl : Bool} {B : List Int} {k0 : Int → Bool → List Int → List Int → Option R} (hn : 10000 ≤ n) (hB : okd B) (hb : nv B = b) (hN : i + B.length + 1 = N) (hl : N ≤ 100) (hlo : (10 ^ i * (10 * b)) * (10 ^ i * (10 * b)) ≤ X) : ∀ (d fuel h : Nat), d ≤ 9 → h ≤ 9 → d + 1 ≤ fuel → X < (10 ^ i * (d + 1 + 10 * b)) * (10 ^ i * (d + 1 + 10 * b)) →
    ∃ e : Nat, e ≤ 9 ∧ (10 ^ i * (e + 10 * b)) * (10 ^ i * (e + 10 * b)) ≤ X ∧ X < (10 ^ i * (e + 1 + 10 * b)) * (10 ^ i * (e + 1 + 10 * b)) ∧
      F22_0_it n k0 fuel i (d : Int) bl (dig X) (List.replicate i 0 ++ (h : Int) :: B) = k0 i bl (dig X) (List.replicate i 0 ++ (e : Int) :: B)
  | d, fuel, h, hd, hh, hf, hX => by
    obtain ⟨f, rfl⟩ : ∃ f, fuel = f + 1 := ⟨fuel - 1, by omega⟩
    simp only [F22_0_it, F22_0_step]
    have e : (i : Int).toNat = i := by omega
    have hlen : (List.replicate i (0 : Int) ++ (h : Int) :: B).length = N := by simp; omega
    have hlen2 : (List.replicate i (0 : Int) ++ (d : Int) :: B).length = N := by simp; omega
    rw [bp (by omega), bp (by omega), bp (by omega)]
    simp only [e, set_root]
    rw [bp (by omega), trimI (by omega) (okd_root hd hB) (by omega), D_root hb]
    have hq := root_len hd hB hb hN
    simp only [ats]
    rw [mulI hn (by omega) (by omega)]
    simp only [ats]
    rw [cmpI hn (Nat.le_trans (dig_mul_len hq hq) (by omega))]
    simp only [ats]
    by_cases g : (10 ^ i * (d + 10 * b)) * (10 ^ i * (d + 10 * b)) ≤ X
    · rw [bp (sg_le.2 g)]
      exact ⟨d, hd, g, hX, rfl⟩
    · rw [bn (mt sg_le.1 g)]
      cases d with
      | zero => exact absurd (by simpa using hlo) g
      | succ d =>
        rw [wp (by omega), show ((d + 1 : Nat) : Int) - 1 = (d : Int) by omega]
        exact rootI_in hn hB hb hN hl hlo d f (d + 1) (by omega) hd (by omega) (by omega)

theorem rootI_out {R : Type} {n N X : Nat} {bl : Bool} {k0 : List Int → Option R} (hn : 10000 ≤ n) (hl : N ≤ 100) : ∀ (m fuel b : Nat) (B : List Int), okd B → nv B = b → m + B.length = N → m < fuel → (10 ^ m * b) * (10 ^ m * b) ≤ X → X < (10 ^ m * (b + 1)) * (10 ^ m * (b + 1)) →
    ∃ (L : List Int) (r : Nat), okd L ∧ L.length = N ∧ nv L = r ∧ r * r ≤ X ∧ X < (r + 1) * (r + 1) ∧ F22_2_it n k0 fuel ((m : Int) - 1) bl (dig X) (List.replicate m 0 ++ B) = k0 L
  | m, fuel, b, B, hB, hb, hm, hf, h1, h2 => by
    obtain ⟨f, rfl⟩ : ∃ f, fuel = f + 1 := ⟨fuel - 1, by omega⟩
    simp only [F22_2_it, F22_2_step]
    cases m with
    | zero =>
      rw [bn (by omega)]
      exact ⟨B, b, hB, by omega, hb, by simpa using h1, by simpa using h2, by simp⟩
    | succ i =>
      rw [show ((i + 1 : Nat) : Int) - 1 = (i : Int) by omega, bp (by omega)]
      have hp : 10 ^ (i + 1) * b = 10 ^ i * (10 * b) := by rw [Nat.pow_succ, Nat.mul_assoc]
      have hp2 : 10 ^ (i + 1) * (b + 1) = 10 ^ i * (9 + 1 + 10 * b) := by rw [Nat.pow_succ, Nat.mul_assoc]; congr 1; omega
      rw [hp] at h1; rw [hp2] at h2
      unfold F22_1 F22_0
      have hr : List.replicate (i + 1) (0 : Int) ++ B = List.replicate i 0 ++ ((0 : Nat) : Int) :: B := by
        rw [List.replicate_succ', List.append_assoc]; rfl
      rw [hr]
      obtain ⟨e, e1, e2, e3, e4⟩ := rootI_in (R := R) (n := n) (bl := bl) (k0 := fun z1309 z1310 z1311 z1312 => (F22_2_it n k0 f (IntKind.wrap .i64 (z1309 - (1 : Int))) z1310 z1311 z1312)) hn hB hb (N := N) (by omega) hl h1 9 n 0 (by omega) (by omega) (by omega) h2
      rw [show ((9 : Nat) : Int) = 9 from rfl] at e4
      rw [e4]
      rw [wp (by omega)]
      exact rootI_out hn hl i f (e + 10 * b) ((e : Int) :: B) (hB.cons (by omega)) (by show (e : Int) + 10 * nv B = _; rw [hb]; omega) (by simp; omega) (by omega) e2 (by rw [show e + 10 * b + 1 = e + 1 + 10 * b by omega]; exact e3)

theorem rootS_in {R : Type} {n i b N X : Nat} {B : List Int} {k0 : List Int → Int → List Int → Option R} (hn : 10000 ≤ n) (hB : okd B) (hb : nv B = b) (hN : i + B.length + 1 = N) (hl : N ≤ 100) (hhi : X < (10 ^ i * (9 + 1 + 10 * b)) * (10 ^ i * (9 + 1 + 10 * b))) : ∀ (c fuel h : Nat), h + c = 9 → c + 1 ≤ fuel → (10 ^ i * (h + 10 * b)) * (10 ^ i * (h + 10 * b)) ≤ X →
    ∃ e : Nat, e ≤ 9 ∧ (10 ^ i * (e + 10 * b)) * (10 ^ i * (e + 10 * b)) ≤ X ∧ X < (10 ^ i * (e + 1 + 10 * b)) * (10 ^ i * (e + 1 + 10 * b)) ∧
      F23_0_it n k0 fuel (dig X) i (List.replicate i 0 ++ (h : Int) :: B) = k0 (dig X) i (List.replicate i 0 ++ (e : Int) :: B)
  | c, fuel, h, hc, hf, hX => by
    obtain ⟨f, rfl⟩ : ∃ f, fuel = f + 1 := ⟨fuel - 1, by omega⟩
    simp only [F23_0_it, F23_0_step]
    have e : (i : Int).toNat = i := by omega
    have hlen : (List.replicate i (0 : Int) ++ (h : Int) :: B).length = N := by simp; omega
    rw [bp (by omega), bp (by omega)]
    simp only [e, getD_root, set_root]
    by_cases g9 : h = 9
    · subst g9
      rw [bn (by omega)]
      exact ⟨9, by omega, hX, hhi, rfl⟩
    · rw [bp (by omega)]
      have hlen2 : (List.replicate i (0 : Int) ++ ((h + 1 : Nat) : Int) :: B).length = N := by simp; omega
      rw [wp (by omega), show ((h : Nat) : Int) + 1 = ((h + 1 : Nat) : Int) by omega]
      have ho := okd_root (i := i) (d := h + 1) (by omega) hB
      rw [bp (by omega), bp (by omega), bp (by omega), bp (by omega), trimS (by omega) ho (by omega)]
      simp only [ats]
      rw [trimS (by omega) ho (by omega)]
      simp only [ats, takeS ho]
      rw [D_root hb]
      have hq := root_len (i := i) (d := h + 1) (by omega) hB hb hN
      obtain ⟨M, m1, m2, m3, m4⟩ := mulS (n := n) (x := 10 ^ i * (h + 1 + 10 * b)) (y := 10 ^ i * (h + 1 + 10 * b)) hn (by omega) (by omega)
      rw [m4]
      simp only [ats, mulS_take m1 m3]
      rw [cmpS hn (Nat.le_trans (dig_mul_len hq hq) (by omega))]
      simp only [ats, getD_root, set_root]
      by_cases g : X < (10 ^ i * (h + 1 + 10 * b)) * (10 ^ i * (h + 1 + 10 * b))
      · rw [bp (sg_gt.2 g), bp (by omega), bp (by omega), bp (by omega), bp (by omega), wp (by omega), show ((h + 1 : Nat) : Int) - 1 = (h : Int) by omega]
        exact ⟨h, by omega, hX, g, rfl⟩
      · rw [bn (mt sg_gt.1 g)]
        exact rootS_in hn hB hb hN hl hhi (c - 1) f (h + 1) (by omega) (by omega) (by omega)

theorem rootS_out {R : Type} {n N X : Nat} {k0 : List Int → Option R} (hn : 10000 ≤ n) (hl : N ≤ 100) : ∀ (m fuel b : Nat) (B : List Int), okd B → nv B = b → m + B.length = N → m < fuel → (10 ^ m * b) * (10 ^ m * b) ≤ X → X < (10 ^ m * (b + 1)) * (10 ^ m * (b + 1)) →
    ∃ (L : List Int) (r : Nat), okd L ∧ L.length = N ∧ nv L = r ∧ r * r ≤ X ∧ X < (r + 1) * (r + 1) ∧ F23_2_it n k0 fuel (dig X) ((m : Int) - 1) (List.replicate m 0 ++ B) = k0 L
  | m, fuel, b, B, hB, hb, hm, hf, h1, h2 => by
    obtain ⟨f, rfl⟩ : ∃ f, fuel = f + 1 := ⟨fuel - 1, by omega⟩
    simp only [F23_2_it, F23_2_step]
    cases m with
    | zero =>
      rw [bn (by omega)]
      exact ⟨B, b, hB, by omega, hb, by simpa using h1, by simpa using h2, by simp⟩
    | succ i =>
      rw [show ((i + 1 : Nat) : Int) - 1 = (i : Int) by omega, bp (by omega)]
      have hp : 10 ^ (i + 1) * b = 10 ^ i * (0 + 10 * b) := by rw [Nat.pow_succ, Nat.mul_assoc, Nat.zero_add]
      have hp2 : 10 ^ (i + 1) * (b + 1) = 10 ^ i * (9 + 1 + 10 * b) := by rw [Nat.pow_succ, Nat.mul_assoc]; congr 1; omega
      rw [hp] at h1; rw [hp2] at h2
      unfold F23_1 F23_0
      have hr : List.replicate (i + 1) (0 : Int) ++ B = List.replicate i 0 ++ ((0 : Nat) : Int) :: B := by
        rw [List.replicate_succ', List.append_assoc]; rfl
      rw [hr]
      obtain ⟨e, e1, e2, e3, e4⟩ := rootS_in (R := R) (n := n) (k0 := fun z1361 z1362 z1363 => (F23_2_it n k0 f z1361 (IntKind.wrap .i64 (z1362 - (1 : Int))) z1363)) hn hB hb (N := N) (by omega) hl h2 9 n 0 (by omega) (by omega) h1
      rw [e4]
      rw [wp (by omega)]
      exact rootS_out hn hl i f (e + 10 * b) ((e : Int) :: B) (hB.cons (by omega)) (by show (e : Int) + 10 * nv B = _; rw [hb]; omega) (by simp; omega) (by omega) e2 (by rw [show e + 10 * b + 1 = e + 1 + 10 * b by omega]; exact e3)

theorem root_uq {X r s : Nat} (r1 : r * r ≤ X) (r2 : X < (r + 1) * (r + 1)) (s1 : s * s ≤ X) (s2 : X < (s + 1) * (s + 1)) : r = s := by
  have h1 : r < s + 1 := Nat.mul_self_lt_mul_self_iff.1 (by omega)
  have h2 : s < r + 1 := Nat.mul_self_lt_mul_self_iff.1 (by omega)
  omega
theorem root_ex (X : Nat) : ∃ r, r * r ≤ X ∧ X < (r + 1) * (r + 1) := by
  induction X with
  | zero => exact ⟨0, by omega, by omega⟩
  | succ X ih =>
    obtain ⟨r, h1, h2⟩ := ih
    by_cases g : X + 1 < (r + 1) * (r + 1)
    · exact ⟨r, by omega, g⟩
    · refine ⟨r + 1, by omega, ?_⟩
      have : (r + 1) * (r + 1) < (r + 1 + 1) * (r + 1 + 1) := Nat.mul_self_lt_mul_self (by omega)
      omega
theorem half_len (X : Nat) : X < (10 ^ ((dig X).length / 2 + 1) * (0 + 1)) * (10 ^ ((dig X).length / 2 + 1) * (0 + 1)) := by
  have h := (dig_len_le (x := X) (k := (dig X).length)).1 (Nat.le_refl _)
  rw [Nat.zero_add, Nat.mul_one, ← Nat.pow_add]
  exact Nat.lt_of_lt_of_le h (Nat.pow_le_pow_right (by omega) (by omega))
theorem root_small {X r : Nat} (h : X < 10 ^ 40) (r1 : r * r ≤ X) : r < 10 ^ 20 := by
  apply Nat.mul_self_lt_mul_self_iff.1
  have : (10 : Nat) ^ 20 * 10 ^ 20 = 10 ^ 40 := by decide
  omega

theorem rootP {n r : Nat} {l : List Int} (hn : 10000 ≤ n) (ho : okb l) (h : Vi l) (h0 : 0 ≤ val l) (r1 : r * r ≤ (val l).natAbs) (r2 : (val l).natAbs < (r + 1) * (r + 1)) : F22 n (str l) = some (good r) := by
  unfold F22
  obtain ⟨q, p1, p2⟩ := parse hn ho
  obtain rfl := p2 h
  rw [p1, decide_eq_true h]
  simp only [ats, Bool.not_true, cf, NN]
  have hl := vl h
  have hv := val_lim h
  rw [bn (by omega)]
  generalize (val l).natAbs = X at *
  have w : IntKind.wrap .i64 ((IntKind.wrap .i64 (((dig X).length : Int).tdiv 2)) + 1) = (((dig X).length / 2 + 1 : Nat) : Int) := by
    rw [td (by omega), wp (x := ((dig X).length : Int) / 2) (by omega), wp (by omega)]; omega
  simp only [w]
  rw [bp (by omega), bp (by omega), bp (by omega)]
  have e : (((dig X).length / 2 + 1 : Nat) : Int).toNat = (dig X).length / 2 + 1 := by omega
  simp only [e, List.length_replicate]
  rw [wp (by omega)]
  unfold F22_2
  obtain ⟨L, s, l1, l2, l3, l4, l5, l6⟩ := rootI_out (R := (ByteArray × (Bool × Unit)) × Unit) (n := n) (X := X) (bl := decide (val l < 0)) (k0 := fun z1314 => (andThen (F44 n z1314) fun r1315 => (andThen (F35 n false r1315.1) fun r1316 => some ((r1316.1.1, (r1316.1.2.1, ())), ())))) hn (N := (dig X).length / 2 + 1) (by omega) ((dig X).length / 2 + 1) n 0 [] okd.nil rfl (by simp) (by omega) (by simp) (half_len X)
  rw [List.append_nil] at l6
  rw [l6]
  obtain rfl := root_uq r1 r2 l4 l5
  have hr := root_small hv r1
  rw [trimI (by omega) l1 (by omega), D_of l3]
  simp only [ats]
  rw [text hn (by have := dig_len_le.2 hr; omega)]
  have hs : sgn false r = (r : Int) := rfl
  rw [hs, res_yes (by simpa using Nat.lt_trans hr (by decide))]
  rfl
theorem rootP' {n : Nat} {l : List Int} (hn : 10000 ≤ n) (ho : okb l) (h : ¬ (Vi l ∧ 0 ≤ val l)) : F22 n (str l) = some badr := by
  unfold F22
  obtain ⟨q, p1, p2⟩ := parse hn ho
  rw [p1]
  by_cases hV : Vi l
  · obtain rfl := p2 hV
    rw [decide_eq_true hV]
    simp only [ats, Bool.not_true, cf, NN]
    rw [bp (by have : ¬ 0 ≤ val l := fun g => h ⟨hV, g⟩; omega)]; rfl
  · rw [decide_eq_false hV]; rfl
theorem Vi_len {l : List Int} (h : Vi l) : 0 < l.length := by
  rcases form (l := l) with ⟨_, h2⟩ | ⟨_, h2⟩
  · rw [h2]; simp
  · rw [h2]; exact h.1
theorem ng_iff {l : List Int} (h : Vi l) : l.getD 0 0 = 45 ↔ val l < 0 := by
  have h1 := val_neg h
  have h2 := Vi_len h
  cases l with
  | nil => simp at h2
  | cons x t =>
    have : isng (x :: t) = decide (x = 45) := by
      by_cases g : x = 45 <;> simp [isng, g]
    rw [this] at h1
    simp at h1
    simpa using h1
theorem rootR {n r : Nat} {l : List Int} (hn : 10000 ≤ n) (ho : okb l) (hl : l.length ≤ 9000) (h : Vi l) (h0 : 0 ≤ val l) (r1 : r * r ≤ (val l).natAbs) (r2 : (val l).natAbs < (r + 1) * (r + 1)) : F23 n (str l) = some (good r) := by
  unfold F23
  have hp := Vi_len h
  rw [validS hn ho hl, decide_eq_true h]
  simp only [ats, Bool.not_true, cf, str_size]
  rw [bp (by omega), str_of ho hp, eqn (by rw [ng_iff h]; omega), digitsS hn ho h]
  simp only [ats]
  have hl := vl h
  have hv := val_lim h
  generalize (val l).natAbs = X at *
  have w : IntKind.wrap .i64 ((IntKind.wrap .i64 (((dig X).length : Int).tdiv 2)) + 1) = (((dig X).length / 2 + 1 : Nat) : Int) := by
    rw [td (by omega), wp (x := ((dig X).length : Int) / 2) (by omega), wp (by omega)]; omega
  simp only [w]
  rw [bp (by omega), bp (by omega), bp (by omega)]
  have e : (((dig X).length / 2 + 1 : Nat) : Int).toNat = (dig X).length / 2 + 1 := by omega
  simp only [e, List.length_replicate]
  rw [wp (by omega)]
  unfold F23_2
  obtain ⟨L, s, l1, l2, l3, l4, l5, l6⟩ := rootS_out (R := (ByteArray × (Bool × Unit)) × Unit) (n := n) (X := X) (k0 := fun z1365 => (andThen (F51 n z1365 false) fun r1366 => some ((r1366.1, (true, ())), ()))) hn (N := (dig X).length / 2 + 1) (by omega) ((dig X).length / 2 + 1) n 0 [] okd.nil rfl (by simp) (by omega) (by simp) (half_len X)
  rw [List.append_nil] at l6
  rw [l6]
  obtain rfl := root_uq r1 r2 l4 l5
  rw [integerS hn l1 (by omega), l3]
  rfl
theorem rootR' {n : Nat} {l : List Int} (hn : 10000 ≤ n) (ho : okb l) (hl : l.length ≤ 9000) (h : ¬ (Vi l ∧ 0 ≤ val l)) : F23 n (str l) = some badr := by
  unfold F23
  rw [validS hn ho hl]
  by_cases hV : Vi l
  · rw [decide_eq_true hV]
    have hp := Vi_len hV
    simp only [ats, Bool.not_true, cf, str_size]
    rw [bp (by omega), str_of ho hp, eqp (by rw [ng_iff hV]; have : ¬ 0 ≤ val l := fun g => h ⟨hV, g⟩; omega)]; rfl
  · rw [decide_eq_false hV]; rfl

theorem V49 : Vi [49] ∧ val [49] = 1 := by decide
theorem ok49 : okb [49] := okb.nil.cons (by omega)
theorem law_root {n : Nat} {z : List Int} (hn : 20000 ≤ n) (hz : okb z) : F6 n z = some (true, ()) := by
  unfold F6
  by_cases hl : (z.length : Int) > 1048576
  · rw [bp hl]
  rw [bn hl]
  obtain ⟨a, ha, la, e⟩ := drawRoot (n := n) (by omega) hz
  have hn : 10000 ≤ n := by omega
  rw [e]; simp only [ats]
  by_cases h : Vi a ∧ 0 ≤ val a
  · obtain ⟨r, r1, r2⟩ := root_ex (val a).natAbs
    have hv := val_lim h.1
    have hr := root_small hv r1
    have f1 : (r : Int).natAbs < 10 ^ 40 := by simpa using Nat.lt_trans hr (by decide)
    have f2 : ((r : Int) + 1).natAbs < 10 ^ 40 := by
      have : (10 : Nat) ^ 20 < 10 ^ 40 := by decide
      omega
    have f3 : ((r : Int) * r).natAbs < 10 ^ 40 := by rw [Int.natAbs_mul]; simpa using Nat.lt_of_le_of_lt r1 hv
    rw [rootP hn ha h.1 h.2 r1 r2]; simp only [ats]
    rw [rootR hn ha la h.1 h.2 r1 r2]; simp only [ats, good]
    simp only [seq_self, ct, cf, Bool.not_true, beq_self_eq_true]
    rw [mulP hn (toS_okb _) (toS_okb _), if_pos ⟨(Vi_toS f1).1, (Vi_toS f1).1⟩, (Vi_toS f1).2, res_yes f3]
    simp only [ats]
    rw [show (({ data := #[49] } : ByteArray)) = str [49] from rfl, addP hn (toS_okb _) ok49, if_pos ⟨(Vi_toS f1).1, V49.1⟩, (Vi_toS f1).2, V49.2, res_yes f2]
    simp only [ats]
    rw [mulP hn (toS_okb _) (toS_okb _), if_pos ⟨(Vi_toS f2).1, (Vi_toS f2).1⟩, (Vi_toS f2).2]
    simp only [ats, ct]
    rw [cmpP hn (toS_okb _) ha, if_pos ⟨(Vi_toS f3).1, h.1⟩, (Vi_toS f3).2]
    simp only [ats]
    have hx : ((val a).natAbs : Int) = val a := by omega
    have g1 : (r : Int) * r ≤ val a := by rw [← hx]; exact_mod_cast r1
    have g2 : val a < ((r : Int) + 1) * (r + 1) := by rw [← hx]; exact_mod_cast r2
    rw [bp (by unfold sg; split <;> first | omega | (split <;> omega))]
    by_cases f4 : (((r : Int) + 1) * (r + 1)).natAbs < 10 ^ 40
    · rw [res_yes f4]
      simp only [Bool.not_true, cf]
      rw [cmpP hn (toS_okb _) ha, if_pos ⟨(Vi_toS f4).1, h.1⟩, (Vi_toS f4).2]
      simp only [ats]
      rw [decide_eq_true (by unfold sg; split <;> first | omega | (split <;> omega))]
    · rw [res_no f4]
      simp only [Bool.not_false, ct]
  · rw [rootP' hn ha h, rootR' hn ha la h]
    simp only [ats, badr, seq_self, ct, cf, Bool.not_false, Bool.not_true, beq_self_eq_true]
end Go.Proofs.Ytgaghaeniadkkaa.Am
