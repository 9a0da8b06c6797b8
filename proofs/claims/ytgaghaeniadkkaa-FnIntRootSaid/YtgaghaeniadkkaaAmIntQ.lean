/- Integers: the reference's functions. -/
import Derived.Test.YtgaghaeniadkkaaAmIntP
namespace Go.Proofs.Ytgaghaeniadkkaa.Am
open Go
set_option autoImplicit false
set_option linter.unusedVariables false
set_option linter.unusedSimpArgs false

theorem valid_it {R : Type} {n : Nat} {s : ByteArray} {b : List Int} {k0 : Bool → Option R} {k1 : ByteArray → ByteArray → Option R} (ho : okb b) (hl : b.length ≤ 9000) : ∀ (fuel i : Nat), i ≤ b.length → b.length + 1 ≤ fuel + i →
    F36_1_it n k0 k1 fuel s (str b) i = if ∀ x ∈ b.drop i, isdg x then k1 s (str b) else k0 false
  | fuel, i, hi, hf => by
    obtain ⟨f, rfl⟩ : ∃ f, fuel = f + 1 := ⟨fuel - 1, by omega⟩
    simp only [F36_1_it, F36_1_step, str_size]
    by_cases g : (i : Int) < (b.length : Int)
    · have e : (i : Int).toNat = i := by omega
      have hb := ho.getD i
      have ew : IntKind.wrap .i64 ((i : Int) + 1) = ((i + 1 : Nat) : Int) := by rw [wp (by omega)]; omega
      simp only [e, str_of ho (show i < b.length by omega)]
      have hs : (∀ x ∈ b.drop i, isdg x) ↔ isdg (b.getD i 0) ∧ ∀ x ∈ b.drop (i + 1), isdg x := by
        rw [List.drop_eq_getElem_cons (by omega : i < b.length), getD_lt (by omega)]; exact List.forall_mem_cons
      rw [bp g, bp (by omega), bp g]
      by_cases g1 : b.getD i 0 < 48
      · rw [bp g1, if_neg (fun h => by have := (hs.1 h).1; unfold isdg at this; omega)]
      rw [bn g1, bp (by omega), bp g]
      by_cases g2 : b.getD i 0 > 57
      · rw [bp g2, if_neg (fun h => by have := (hs.1 h).1; unfold isdg at this; omega)]
      rw [bn g2, ew, valid_it ho hl f (i + 1) (by omega) (by omega)]
      have hm2 : isdg (b.getD i 0) := by unfold isdg; omega
      by_cases h : ∀ x ∈ b.drop (i + 1), isdg x
      · rw [if_pos h, if_pos (hs.2 ⟨hm2, h⟩)]
      · rw [if_neg h, if_neg (fun h2 => h (hs.1 h2).2)]
    · rw [bn g, if_pos]
      rw [List.drop_of_length_le (by omega)]; simp
theorem validS {n : Nat} {l : List Int} (hn : 10000 ≤ n) (ho : okb l) (hl : l.length ≤ 9000) : F36 n (str l) = some (decide (Vi l), ()) := by
  have hlb : (body l).length ≤ l.length := by
    rcases form (l := l) with ⟨a, b⟩ | ⟨a, b⟩
    · have := congrArg List.length b; simp at this; omega
    · rw [← b]; omega
  have strip : ∀ {R : Type} (k : ByteArray → ByteArray → Option R), F36_0 n (str l) (str l) k = k (str l) (str (body l)) := by
    intro R k
    unfold F36_0
    simp only [str_size]
    cases l with
    | nil => rfl
    | cons x t =>
      simp only [List.length_cons]
      rw [bp (by omega), bp (by omega), str_of ho (by simp)]
      simp only [show List.getD (x :: t) 0 0 = x from rfl]
      by_cases h : x = 45
      · subst h
        rw [eqp rfl, bp (by omega), bp (by omega), show (((t.length + 1 : Nat) : Int)).toNat = t.length + 1 by omega, str_ext (by simp), (body_ng t).1]
        simp
      · rw [eqn h]
        have hb : body (x :: t) = x :: t := by simp [body, h]
        rw [hb]
  unfold F36
  rw [strip]
  unfold F36_1
  rw [show (0 : Int) = ((0 : Nat) : Int) from rfl, valid_it (body_okb ho) (by omega) n 0 (by omega) (by omega), List.drop_zero]
  by_cases hd : ∀ x ∈ body l, isdg x
  · rw [if_pos hd]
    unfold F61
    simp only [str_size]
    by_cases g1 : ((body l).length : Int) ≥ 1
    · rw [bp g1]
      simp only [ats]
      by_cases g2 : ((body l).length : Int) ≤ 40
      · rw [decide_eq_true g2, ct, bp (by omega), str_of (body_okb ho) (show 0 < (body l).length by omega)]
        by_cases g3 : (body l).getD 0 0 = 48
        · rw [nen g3, show (({ data := #[48] } : ByteArray)) = str [48] from rfl, seq_eq ho (okb.nil.cons (by omega))]
          congr 2
          have : (l = [48]) ↔ Vi l := ⟨fun h => ⟨by omega, by omega, hd, fun _ => h⟩, fun h => h.2.2.2 g3⟩
          simp only [this]
        · rw [nep g3, decide_eq_true (show Vi l from ⟨by omega, by omega, hd, fun h => absurd h g3⟩)]
      · rw [decide_eq_false g2, cf, decide_eq_false (fun h : Vi l => by have := h.2.1; omega)]
    · rw [bn g1]
      simp only [ats, cf]
      rw [decide_eq_false (fun h : Vi l => by have := h.1; omega)]
  · rw [if_neg hd, decide_eq_false (fun h : Vi l => hd h.2.2.1)]
theorem digits_it {R : Type} {n : Nat} {pre b : List Int} {ng : Bool} {k0 : Bool → List Int → Option R} (hp : pre = [] ∨ pre = [45]) (ho : okb (pre ++ b)) (hd : ∀ x ∈ b, isdg x) (hl : b.length ≤ 8000) : ∀ (fuel m : Nat) (acc : List Int), m ≤ b.length → m < fuel → acc.length + m ≤ 9000 →
    F47_0_it n k0 fuel (str (pre ++ b)) ng (((pre.length + m : Nat) : Int) - 1) acc = k0 ng (acc ++ rv (b.take m))
  | fuel, m, acc, hm, hf, ha => by
    obtain ⟨f, rfl⟩ : ∃ f, fuel = f + 1 := ⟨fuel - 1, by omega⟩
    simp only [F47_0_it, F47_0_step, str_size]
    have hlen : (pre ++ b).length = pre.length + b.length := List.length_append
    have hp1 : pre.length ≤ 1 := by rcases hp with rfl | rfl <;> simp
    cases m with
    | zero =>
      rcases hp with rfl | rfl
      · rw [bn (by simp)]; simp [rv]
      · have e0 : (((([45] : List Int).length + 0 : Nat) : Int) - 1) = 0 := rfl
        simp only [e0]
        rw [bp (by omega), bp (by omega), bp (by simp), show (0 : Int).toNat = 0 from rfl, str_of ho (by simp)]
        rw [show ([45] ++ b : List Int).getD 0 0 = 45 from rfl, nen rfl]; simp [rv]
    | succ m =>
      have e2 : (((pre.length + (m + 1) : Nat) : Int) - 1) = ((pre.length + m : Nat) : Int) := by omega
      have e3 : (((pre.length + m : Nat) : Int)).toNat = pre.length + m := by omega
      have eg : (pre ++ b).getD (pre.length + m) 0 = b.getD m 0 := by
        rw [getD_lt (by omega), getD_lt (by omega), List.getElem_append_right (by omega)]; simp
      have hx := hd (b.getD m 0) (by rw [getD_lt (by omega)]; exact List.getElem_mem _)
      unfold isdg at hx
      simp only [e2, e3, str_of ho (show pre.length + m < (pre ++ b).length by omega), eg]
      have w1 : IntKind.wrap .u8 (b.getD m 0 - 48) = b.getD m 0 - 48 := wu (by omega)
      have w2 : IntKind.wrap .i64 (b.getD m 0 - 48) = b.getD m 0 - 48 := wp (by omega)
      have ew : IntKind.wrap .i64 (((pre.length + m : Nat) : Int) - 1) = ((pre.length + m : Nat) : Int) - 1 := wp (by omega)
      simp only [w1, w2, ew]
      rw [bp (by omega), bp (by omega), bp (by omega), nep (by omega), bp (by omega), bp (by omega), bp (by simp; omega), digits_it hp ho hd hl f m _ (by omega) (by omega) (by simp; omega)]
      congr 1
      rw [List.take_succ_eq_append_getElem (by omega), rv_snoc, getD_lt (by omega)]; simp
theorem digitsS {n : Nat} {l : List Int} (hn : 10000 ≤ n) (ho : okb l) (hV : Vi l) : F47 n (str l) = some ((dig (val l).natAbs, (decide (val l < 0), ())), ()) := by
  have hk := rv_okd hV.2.2.1
  have hb := hV.2.1
  have hb1 := hV.1
  have hrl : (rv (body l)).length ≤ 9000 := by rw [rv_len]; omega
  have main : ∀ pre : List Int, (pre = [] ∨ pre = [45]) → l = pre ++ body l → (isng l = decide (pre = [45])) → F47 n (str l) = some ((dig (val l).natAbs, (decide (val l < 0), ())), ()) := by
    intro pre hp hl hi
    have hlen : l.length = pre.length + (body l).length := by conv => lhs; rw [hl]; simp
    have hp1 : pre.length ≤ 1 := by rcases hp with rfl | rfl <;> simp
    unfold F47 F47_0
    simp only [str_size]
    rw [bp (by omega), bp (by omega), str_of ho (by omega)]
    have hng : (l.getD 0 0 == 45) = isng l := by
      cases l with
      | nil => rfl
      | cons x t => rfl
    rw [hng, wp (by omega)]
    have := digits_it (R := (List Int × (Bool × Unit)) × Unit) (n := n) (pre := pre) (b := body l) (ng := isng l) (k0 := fun z660 z661 => (andThen (F50 n z661) fun r675 => some (((r675.2.1.take r675.1), (z660, ())), ()))) hp (by rw [← hl]; exact ho) hV.2.2.1 (by omega) n (body l).length [] (by omega) (by omega) (by simp; omega)
    rw [← hl, ← hlen, List.take_length, List.nil_append] at this
    rw [this, trimS hn hk hrl]
    simp only [ats, takeS hk]
    rw [val_neg hV, show rv (body l) = bd l from rfl, val_D hV]
  rcases form (l := l) with ⟨a, b⟩ | ⟨a, b⟩
  · exact main [45] (.inr rfl) (by simpa using b) (by rw [a]; simp)
  · exact main [] (.inl rfl) (by simpa using b) (by rw [a]; simp)

theorem vl {l : List Int} (h : Vi l) : (dig (val l).natAbs).length ≤ 40 := lim (val_lim h)
theorem addSI {n : Nat} {a b : List Int} (hn : 10000 ≤ n) (ha : okb a) (hb : okb b) (va : Vi a) (vb : Vi b) : F37 n (str a) (str b) = some (res (val a + val b)) := by
  have la := vl va; have lb := vl vb
  unfold F37
  rw [digitsS hn ha va, digitsS hn hb vb]
  simp only [ats]
  generalize val a = x at *
  generalize val b = y at *
  cases hs : (decide (x < 0) == decide (y < 0))
  · rw [cf, cmpS hn (by omega)]
    simp only [ats]
    have hne : decide (x < 0) ≠ decide (y < 0) := by simpa using hs
    have hne2 : ¬ (x < 0 ↔ y < 0) := fun h => hne (by simp [h])
    by_cases g : y.natAbs ≤ x.natAbs
    · rw [bn (by have := sg_ge.2 g; omega), subS hn g (by omega)]
      simp only [ats]
      rw [fitS hn (okd_dig _) (Nat.le_trans (len_mono (Nat.sub_le _ _)) (by omega)), nv_dig]
      have : sgn (decide (x < 0)) ((x.natAbs - y.natAbs : Nat) : Int).toNat = x + y := by
        unfold sgn; by_cases h : x < 0
        · simp [h]; omega
        · simp [h]; omega
      rw [this]; rfl
    · rw [bp (by have := mt sg_ge.1 g; omega), subS hn (by omega) (by omega)]
      simp only [ats]
      rw [fitS hn (okd_dig _) (Nat.le_trans (len_mono (Nat.sub_le _ _)) (by omega)), nv_dig]
      have : sgn (decide (y < 0)) ((y.natAbs - x.natAbs : Nat) : Int).toNat = x + y := by
        unfold sgn; by_cases h : y < 0
        · simp [h]; omega
        · simp [h]; omega
      rw [this]; rfl
  · rw [ct, addS hn (by omega) (by omega)]
    simp only [ats]
    have hl : (dig (x.natAbs + y.natAbs)).length ≤ 9000 := by
      refine Nat.le_trans (dig_len_le.2 ?_) (show 50 ≤ 9000 by omega)
      have h1 := (dig_len_le (k := 40)).1 la
      have h2 := (dig_len_le (k := 40)).1 lb
      omega
    rw [fitS hn (okd_dig _) hl, nv_dig]
    have he : decide (x < 0) = decide (y < 0) := by simpa using hs
    have he2 : (x < 0 ↔ y < 0) := by simpa using he
    have : sgn (decide (x < 0)) ((x.natAbs + y.natAbs : Nat) : Int).toNat = x + y := by
      unfold sgn; by_cases h : x < 0
      · simp [h]; omega
      · simp [h]; omega
    rw [this]; rfl
theorem negS {n : Nat} {b : List Int} (hn : 10000 ≤ n) (hb : okb b) (vb : Vi b) : F42 n (str b) = some (str (toS (-(val b))), ()) := by
  have lb := vl vb
  unfold F42
  rw [digitsS hn hb vb]
  simp only [ats]
  rw [integerS hn (okd_dig _) (by omega), nv_dig]
  simp only [ats]
  have : sgn (!(decide (val b < 0))) (((val b).natAbs : Nat) : Int).toNat = -(val b) := by
    unfold sgn; by_cases h : val b < 0
    · simp [h]; omega
    · simp [h]; omega
  rw [this]
theorem mulSI {n : Nat} {a b : List Int} (hn : 10000 ≤ n) (ha : okb a) (hb : okb b) (va : Vi a) (vb : Vi b) : F40 n (str a) (str b) = some (res (val a * val b)) := by
  have la := vl va; have lb := vl vb
  unfold F40
  rw [digitsS hn ha va, digitsS hn hb vb]
  simp only [ats]
  obtain ⟨L, l1, l2, l3, l4⟩ := mulS (n := n) (x := (val a).natAbs) (y := (val b).natAbs) hn (by omega) (by omega)
  rw [l4]
  simp only [ats, mulS_take l1 l3]
  rw [fitS hn (okd_dig _) (Nat.le_trans (dig_mul_len la lb) (by omega)), nv_dig]
  simp only [ats]
  rw [show (((val a).natAbs * (val b).natAbs : Nat) : Int).toNat = (val a).natAbs * (val b).natAbs by omega, ← sgn_mul, sgn_abs', sgn_abs']
theorem divSI {n : Nat} {a b : List Int} (hn : 10000 ≤ n) (ha : okb a) (hb : okb b) (va : Vi a) (vb : Vi b) (h0 : val b ≠ 0) : F52 n (str a) (str b) = some ((str (toS ((val a).fdiv (val b))), (str (toS ((val a).fmod (val b))), ())), ()) := by
  have la := vl va; have lb := vl vb
  unfold F52
  rw [digitsS hn ha va, digitsS hn hb vb]
  simp only [ats]
  generalize val a = x at *
  generalize val b = y at *
  have hB : 0 < y.natAbs := by omega
  rw [divS hn hB (by omega) (by omega)]
  simp only [ats]
  obtain ⟨q, r, hq, hr, hrs, hp⟩ := floor_parts (x := x) h0
  have lq : (dig (x.natAbs / y.natAbs)).length ≤ 40 := Nat.le_trans (len_mono (Nat.div_le_self _ _)) la
  have lr : (dig (x.natAbs % y.natAbs)).length ≤ 40 := Nat.le_trans (len_mono (Nat.mod_le _ _)) la
  have qa : q.natAbs = x.natAbs / y.natAbs := by rw [hq, sgn_abs]
  have ra : r.natAbs = x.natAbs % y.natAbs := by rw [hr, sgn_abs]
  have hlt : x.natAbs % y.natAbs < y.natAbs := Nat.mod_lt _ hB
  have hr0 : ((dig (x.natAbs % y.natAbs)).length : Int) > 0 ↔ r ≠ 0 := by
    constructor
    · intro h e; rw [← ra, e] at h; simp [dig_zero] at h
    · intro h; have := dig_ne (x := x.natAbs % y.natAbs) (by omega); omega
  have fin : ∀ (Q S : Nat), (dig Q).length ≤ 9000 → (dig S).length ≤ 9000 → sgn (!(decide (x < 0) == decide (y < 0))) Q = x.fdiv y → sgn (decide (y < 0)) S = x.fmod y →
      (andThen (F51 n (dig Q) (!(decide (x < 0) == decide (y < 0)))) fun r1539 => (andThen (F51 n (dig S) (decide (y < 0))) fun r1540 => some ((r1539.1, (r1540.1, ())), ()))) = some ((str (toS (x.fdiv y)), (str (toS (x.fmod y)), ())), ()) := by
    intro Q S h1 h2 h3 h4
    rw [integerS hn (okd_dig _) h1, nv_dig]
    simp only [ats]
    rw [integerS hn (okd_dig _) h2, nv_dig]
    simp only [ats]
    rw [show ((Q : Nat) : Int).toNat = Q by omega, show ((S : Nat) : Int).toNat = S by omega, h3, h4]
  unfold F52_0
  by_cases g : r ≠ 0
  · rw [bp (hr0.2 g)]
    have hrx := hrs g
    cases hs : (decide (x < 0) == decide (y < 0))
    · have hne : decide (r < 0) ≠ decide (y < 0) := by rw [hrx]; simpa using hs
      rw [if_pos ⟨g, hne⟩] at hp
      simp only [Bool.not_false, ct]
      have h1 := addS (n := n) (x := x.natAbs / y.natAbs) (y := 1) hn (by omega) (by rw [dig_one]; decide)
      rw [dig_one] at h1
      rw [h1]
      simp only [ats]
      rw [subS hn (by omega) (by omega)]
      simp only [ats]
      refine fin (x.natAbs / y.natAbs + 1) (y.natAbs - x.natAbs % y.natAbs) ?_ (Nat.le_trans (len_mono (Nat.sub_le _ _)) (by omega)) ?_ ?_
      · refine Nat.le_trans (dig_len_le.2 ?_) (show 50 ≤ 9000 by omega)
        have h1 := (dig_len_le (k := 40)).1 lq
        omega
      · rw [← hp.1, hq, hs]; unfold sgn; simp; omega
      · rw [← hp.2]
        unfold sgn
        by_cases hy : y < 0
        · have : ¬ r < 0 := fun h => hne (by rw [decide_eq_true h, decide_eq_true hy])
          simp [hy]; omega
        · have : r < 0 := by
            apply Classical.byContradiction
            intro h
            exact hne (by rw [decide_eq_false h, decide_eq_false hy])
          simp [hy]; omega
    · have he : decide (r < 0) = decide (y < 0) := by rw [hrx]; simpa using hs
      rw [if_neg (fun h => h.2 he)] at hp
      simp only [Bool.not_true, cf]
      refine fin (x.natAbs / y.natAbs) (x.natAbs % y.natAbs) (by omega) (by omega) (by rw [← hp.1, hq]) ?_
      rw [← hp.2, ← ra, ← he]; exact sgn_abs'
  · rw [bn (mt hr0.1 g)]
    have g : r = 0 := by omega
    rw [if_neg (fun h => h.1 g)] at hp
    refine fin (x.natAbs / y.natAbs) (x.natAbs % y.natAbs) (by omega) (by omega) (by rw [← hp.1, hq]) ?_
    rw [← hp.2, ← ra, g]; exact sgn_zero _
end Go.Proofs.Ytgaghaeniadkkaa.Am
