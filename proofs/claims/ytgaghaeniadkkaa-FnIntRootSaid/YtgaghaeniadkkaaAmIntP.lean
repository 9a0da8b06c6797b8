/- Integers: reading, sums, products, quotients; the program and the reference. -/
import Derived.Test.YtgaghaeniadkkaaAmIntN
namespace Go.Proofs.Ytgaghaeniadkkaa.Am
open Go
set_option autoImplicit false
set_option linter.unusedVariables false
set_option linter.unusedSimpArgs false

-- reading ------------------------------------------------------------------------------------------------------------------------------
theorem cut {n : Nat} {l : List Int} (ho : okb l) : F66 n (str l) ({ data := #[45] } : ByteArray) = some ((str (body l), (isng l, ())), ()) := by
  unfold F66 F70 F72
  rw [show (({ data := #[45] } : ByteArray)) = str [45] from rfl]
  simp only [str_size, List.length_cons, List.length_nil]
  cases l with
  | nil => rfl
  | cons x t =>
    simp only [List.length_cons]
    have hx := ho x (by simp)
    rw [bp (by omega), bp (by omega), bp (by omega)]
    rw [show ((0 + 1 : Nat) : Int).toNat = 1 by omega, str_ext (by simp), seq_eq ((ho.take 1).drop 0) (okb.nil.cons (by omega))]
    simp only [ats]
    by_cases h : x = 45
    · subst h
      have e : decide (List.drop 0 (List.take 1 (45 :: t)) = [45]) = true := decide_eq_true (by simp)
      rw [e]
      simp only [Bool.not_true, cf]
      rw [bp (by omega), bp (by omega), bp (by omega), show (((t.length + 1 : Nat) : Int)).toNat = t.length + 1 by omega, str_ext (by simp)]
      simp only [ats]
      have e2 : List.drop 1 (List.take (t.length + 1) (45 :: t)) = t := by simp
      rw [e2, (body_ng t).1, (body_ng t).2]
    · have e : decide (List.drop 0 (List.take 1 (x :: t)) = [45]) = false := decide_eq_false (by simpa using h)
      rw [e]
      simp only [Bool.not_false, ct, ats]
      have hb : body (x :: t) = x :: t ∧ isng (x :: t) = false := ⟨by simp [body, h], by simp [isng, h]⟩
      rw [hb.1, hb.2]

theorem all_snoc {l : List Int} {m : Nat} (hm : m < l.length) : (∀ x ∈ l.take (m + 1), isdg x) ↔ (∀ x ∈ l.take m, isdg x) ∧ isdg (l.getD m 0) := by
  rw [List.take_succ_eq_append_getElem hm, getD_lt hm]
  constructor
  · intro h; exact ⟨fun x hx => h x (List.mem_append.2 (.inl hx)), h _ (List.mem_append.2 (.inr (List.mem_cons_self ..)))⟩
  · rintro ⟨h1, h2⟩ x hx
    rcases List.mem_append.1 hx with hx | hx
    · exact h1 x hx
    · simp at hx; subst hx; exact h2
theorem rv_snoc (l : List Int) (d : Int) : rv (l ++ [d]) = (d - 48) :: rv l := by simp [rv]
theorem parse_it {R : Type} {n : Nat} {l : List Int} {p q : Bool} {k0 : Bool → Bool → Option R} {k1 : Bool → Bool → List Int → Option R} (ho : okb l) (hl : l.length ≤ 1000) : ∀ (fuel m : Nat) (acc : List Int), m ≤ l.length → m < fuel → acc.length + m ≤ 2000 →
    F43_0_it n k0 k1 fuel (str l) ((m : Int) - 1) p q acc = if ∀ x ∈ l.take m, isdg x then k1 p q (acc ++ rv (l.take m)) else k0 false false
  | fuel, m, acc, hm, hf, ha => by
    obtain ⟨f, rfl⟩ : ∃ f, fuel = f + 1 := ⟨fuel - 1, by omega⟩
    simp only [F43_0_it, F43_0_step, str_size]
    cases m with
    | zero => rw [bn (by omega), if_pos (by simp)]; simp [rv]
    | succ m =>
      have e2 : ((m + 1 : Nat) : Int) - 1 = (m : Int) := by omega
      have e3 : (m : Int).toNat = m := by omega
      have hb := ho.getD m
      simp only [e2, e3, str_of ho (show m < l.length by omega)]
      rw [bp (by omega), bp (by omega), bp (by omega)]
      have hs := all_snoc (l := l) (m := m) (by omega)
      by_cases g1 : l.getD m 0 < 48
      · rw [bp g1, if_neg (fun h => by have := (hs.1 h).2; unfold isdg at this; omega)]
      rw [bn g1, bp (by omega), bp (by omega)]
      by_cases g2 : l.getD m 0 > 57
      · rw [bp g2, if_neg (fun h => by have := (hs.1 h).2; unfold isdg at this; omega)]
      have w1 : IntKind.wrap .u8 (l.getD m 0 - 48) = l.getD m 0 - 48 := wu (by omega)
      have w2 : IntKind.wrap .i64 (l.getD m 0 - 48) = l.getD m 0 - 48 := wp (by omega)
      have ew : IntKind.wrap .i64 ((m : Int) - 1) = (m : Int) - 1 := wp (by omega)
      rw [bn g2, bp (by omega), bp (by omega)]
      simp only [w1, w2, ew]
      rw [bp (by simp; omega), parse_it ho hl f m _ (by omega) (by omega) (by simp; omega)]
      have hm2 : isdg (l.getD m 0) := by unfold isdg; omega
      have e4 : acc ++ [l.getD m 0 - 48] ++ rv (l.take m) = acc ++ rv (l.take (m + 1)) := by
        rw [List.take_succ_eq_append_getElem (by omega), rv_snoc, getD_lt (by omega)]; simp
      by_cases h : ∀ x ∈ l.take m, isdg x
      · rw [if_pos h, if_pos (hs.2 ⟨h, hm2⟩), ← e4]
      · rw [if_neg h, if_neg (fun h2 => h (hs.1 h2).1)]
def NN (z : Int) : Bool × (List Int × Unit) := (decide (z < 0), (dig z.natAbs, ()))
theorem body_okb {l : List Int} (h : okb l) : okb (body l) := by
  cases l with
  | nil => exact okb.nil
  | cons x t =>
    by_cases hx : x = 45
    · have e : body (x :: t) = t := by simp [body, hx]
      rw [e]; exact fun y hy => h y (List.mem_cons_of_mem _ hy)
    · have e : body (x :: t) = x :: t := by simp [body, hx]
      rw [e]; exact h
theorem parse {n : Nat} {l : List Int} (hn : 10000 ≤ n) (ho : okb l) : ∃ r, F43 n (str l) = some ((r, (decide (Vi l), ())), ()) ∧ (Vi l → r = NN (val l)) := by
  unfold F43
  rw [cut ho]
  simp only [ats, str_size]
  have bad : ¬ Vi l → ∃ r, some (((false, (([] : List Int), ())), (false, ())), ()) = some ((r, (decide (Vi l), ())), ()) ∧ (Vi l → r = NN (val l)) := fun h => ⟨_, by rw [decide_eq_false h], fun h2 => absurd h2 h⟩
  by_cases g1 : ((body l).length : Int) < 1
  · rw [bp g1]; exact bad fun h => by have := h.1; omega
  rw [bn g1]
  by_cases g2 : ((body l).length : Int) > 40
  · rw [bp g2]; exact bad fun h => by have := h.2.1; omega
  rw [bn g2, bp (by omega), str_of (body_okb ho) (show 0 < (body l).length by omega)]
  have loop : (((body l).getD 0 0 = 48 → l = [48])) → ∃ r, (F43_0 n (str (body l)) (IntKind.wrap .i64 (((body l).length : Int) - 1)) false (isng l) [] (fun z323 z324 => some (((z324, ([], ())), (z323, ())), ())) (fun z325 z326 z327 => (andThen (F44 n z327) fun r328 => some (((z326, (r328.1, ())), (true, ())), ())))) = some ((r, (decide (Vi l), ())), ()) ∧ (Vi l → r = NN (val l)) := by
    intro h48
    unfold F43_0
    rw [wp (by omega), parse_it (body_okb ho) (by omega) n (body l).length [] (by omega) (by omega) (by simp; omega), List.take_length]
    by_cases hd : ∀ x ∈ body l, isdg x
    · have hV : Vi l := ⟨by omega, by omega, hd, h48⟩
      rw [if_pos hd]
      have hk := rv_okd hd
      have hll : (rv (body l)).length ≤ 9000 := by rw [rv_len]; omega
      rw [List.nil_append, trimI hn hk hll, ats, decide_eq_true hV]
      refine ⟨_, rfl, fun _ => ?_⟩
      unfold NN
      rw [← val_neg hV, ← val_D hV]; rfl
    · rw [if_neg hd]
      exact bad fun h => hd h.2.2.1
  by_cases g3 : (body l).getD 0 0 = 48
  · rw [eqp g3]
    by_cases g4 : ((body l).length : Int) > 1
    · rw [bp g4]
      exact bad fun h => by have := h.2.2.2 g3; subst this; simp [body] at g4
    rw [bn g4]
    by_cases hi : isng l = true
    case neg =>
      have hi : isng l = false := by simpa using hi
      have lp := loop fun _ => ?_
      · rw [hi] at lp ⊢; rw [cf]; exact lp
      have e : l = body l := by
        rcases form (l := l) with ⟨a, b⟩ | ⟨a, b⟩
        · rw [hi] at a; cases a
        · exact b
      have h1 : (body l).length = 1 := by omega
      obtain ⟨x, hx⟩ := List.length_eq_one_iff.1 h1
      rw [hx] at g3 e
      rw [e, show x = 48 from g3]
    · rw [hi, ct]
      exact bad fun h => by have := h.2.2.2 g3; subst this; simp [isng] at hi
  · rw [eqn g3]
    exact loop fun h => absurd h g3
theorem two {n : Nat} {a b : List Int} (hn : 10000 ≤ n) (ha : okb a) (hb : okb b) : ∃ r s t, F33 n (str a) (str b) = some ((r, (s, (t, ()))), ()) ∧ t = decide (Vi a ∧ Vi b) ∧ (Vi a ∧ Vi b → r = NN (val a) ∧ s = NN (val b)) := by
  obtain ⟨r, h1, h2⟩ := parse hn ha
  obtain ⟨s, h3, h4⟩ := parse hn hb
  unfold F33
  rw [h1, h3]
  simp only [ats]
  by_cases ha : Vi a
  · rw [decide_eq_true ha, ct]
    refine ⟨_, _, _, rfl, ?_, fun h => ⟨h2 h.1, h4 h.2⟩⟩
    by_cases hb : Vi b
    · rw [decide_eq_true hb, decide_eq_true ⟨ha, hb⟩]
    · rw [decide_eq_false hb, decide_eq_false fun h => hb h.2]
  · rw [decide_eq_false ha, cf]
    exact ⟨_, _, _, rfl, by rw [decide_eq_false fun h => ha h.1], fun h => absurd h.1 ha⟩

-- numbers of the program ------------------------------------------------------------------------------------------------------------
theorem D_nil_iff {l : List Int} (ho : okd l) : (D l).length = 0 ↔ nv l = 0 := by
  have h := nv_bd ho
  unfold D
  constructor
  · intro h0
    apply Classical.byContradiction
    intro hne
    have := dig_ne (x := (nv l).toNat) (by omega)
    omega
  · intro h0; rw [h0]; simp [dig_zero]
theorem tidy {n : Nat} {b : Bool} {l : List Int} (hn : 10000 ≤ n) (ho : okd l) (hl : l.length ≤ 9000) : F57 n b l = some (NN (sgn b (nv l).toNat), ()) := by
  unfold F57 F57_0
  rw [trimI hn ho hl]
  simp only [ats]
  have h := nv_bd ho
  unfold NN
  rw [sgn_abs]
  by_cases h0 : nv l = 0
  · rw [eqp (by have := (D_nil_iff ho).2 h0; omega)]
    have : decide (sgn b (nv l).toNat < 0) = false := decide_eq_false (by rw [h0]; unfold sgn; cases b <;> simp)
    rw [this]; rfl
  · rw [eqn (by have := mt (D_nil_iff ho).1 h0; omega)]
    have : decide (sgn b (nv l).toNat < 0) = b := by
      unfold sgn; cases b
      · exact decide_eq_false (by simp; omega)
      · exact decide_eq_true (by simp; omega)
    rw [this]; rfl
def sm (x : Int) : Prop := (dig x.natAbs).length ≤ 2000
theorem sm_of {x : Int} (h : x.natAbs < 10 ^ 200) : sm x := Nat.le_trans (dig_len_le.2 h) (by decide)
theorem sgn_abs' {x : Int} : sgn (decide (x < 0)) x.natAbs = x := by
  unfold sgn; by_cases h : x < 0
  · simp [h]; omega
  · simp [h]; omega
theorem tidyd {n : Nat} {b : Bool} {m : Nat} (hn : 10000 ≤ n) (hl : (dig m).length ≤ 9000) : F57 n b (dig m) = some (NN (sgn b m), ()) := by
  have := tidy (b := b) hn (okd_dig m) hl
  rw [nv_dig] at this; simpa using this
theorem plusI {n : Nat} {x y : Int} (hn : 10000 ≤ n) (hx : sm x) (hy : sm y) : F34 n (decide (x < 0)) (dig x.natAbs) (decide (y < 0)) (dig y.natAbs) = some (NN (x + y), ()) := by
  unfold sm at hx hy
  unfold F34
  cases hs : (decide (x < 0) == decide (y < 0))
  · rw [cf, cmpI hn (by omega)]
    simp only [ats]
    have hne : decide (x < 0) ≠ decide (y < 0) := by simpa using hs
    have hne2 : ¬ (x < 0 ↔ y < 0) := fun h => hne (by simp [h])
    by_cases g : y.natAbs ≤ x.natAbs
    · rw [bp (sg_ge.2 g), subI hn g (by omega)]
      simp only [ats]
      rw [tidyd hn (Nat.le_trans (len_mono (Nat.sub_le _ _)) (by omega))]
      have : sgn (decide (x < 0)) (x.natAbs - y.natAbs) = x + y := by
        unfold sgn; by_cases h : x < 0
        · simp [h]; omega
        · simp [h]; omega
      rw [this]; rfl
    · rw [bn (fun h => g (sg_ge.1 h)), subI hn (by omega) (by omega)]
      simp only [ats]
      rw [tidyd hn (Nat.le_trans (len_mono (Nat.sub_le _ _)) (by omega))]
      have : sgn (decide (y < 0)) (y.natAbs - x.natAbs) = x + y := by
        unfold sgn; by_cases h : y < 0
        · simp [h]; omega
        · simp [h]; omega
      rw [this]; rfl
  · rw [ct]
    obtain ⟨L, l1, l2, l3, l4⟩ := addI (n := n) hn (okd_dig x.natAbs) (okd_dig y.natAbs) (by omega) (by omega)
    rw [l4]
    simp only [ats]
    rw [tidy hn l1 (by omega)]
    have he : decide (x < 0) = decide (y < 0) := by simpa using hs
    have he2 : (x < 0 ↔ y < 0) := by simpa using he
    have : sgn (decide (x < 0)) (nv L).toNat = x + y := by
      rw [l3, nv_dig, nv_dig]
      unfold sgn; by_cases h : x < 0
      · simp [h]; omega
      · simp [h]; omega
    rw [this]; rfl
theorem minusI {n : Nat} {x : Int} (hn : 10000 ≤ n) (hx : sm x) : F38 n (decide (x < 0)) (dig x.natAbs) = some (NN (-x), ()) := by
  unfold sm at hx
  unfold F38
  rw [tidyd hn (by omega)]
  have : sgn (!(decide (x < 0))) x.natAbs = -x := by
    unfold sgn; by_cases h : x < 0
    · simp [h]; omega
    · simp [h]; omega
  rw [this]; rfl
theorem dig_mul_len {x y i j : Nat} (hx : (dig x).length ≤ i) (hy : (dig y).length ≤ j) : (dig (x * y)).length ≤ i + j :=
  dig_len_le.2 (by rw [Nat.pow_add]; exact Nat.mul_lt_mul'' (dig_len_le.1 hx) (dig_len_le.1 hy))
theorem sgn_mul (a b : Bool) (m k : Nat) : sgn a m * sgn b k = sgn (!(a == b)) (m * k) := by
  unfold sgn; cases a <;> cases b <;> simp [Int.neg_mul, Int.mul_neg]
theorem timesI {n : Nat} {x y : Int} (hn : 10000 ≤ n) (hx : sm x) (hy : sm y) : F39 n (decide (x < 0)) (dig x.natAbs) (decide (y < 0)) (dig y.natAbs) = some (NN (x * y), ()) := by
  unfold sm at hx hy
  unfold F39
  rw [mulI hn (by omega) (by omega)]
  simp only [ats]
  have hl : (dig (x.natAbs * y.natAbs)).length ≤ 9000 := Nat.le_trans (dig_mul_len hx hy) (by omega)
  rw [tidyd hn hl]
  rw [← sgn_mul, sgn_abs', sgn_abs']; rfl
theorem floor_parts {x y : Int} (hy : y ≠ 0) : ∃ q r : Int, q = sgn (!(decide (x < 0) == decide (y < 0))) (x.natAbs / y.natAbs) ∧ r = sgn (decide (x < 0)) (x.natAbs % y.natAbs) ∧
    (r ≠ 0 → decide (r < 0) = decide (x < 0)) ∧ (if r ≠ 0 ∧ decide (r < 0) ≠ decide (y < 0) then q - 1 = x.fdiv y ∧ r + y = x.fmod y else q = x.fdiv y ∧ r = x.fmod y) := by
  have hB : 0 < y.natAbs := by omega
  obtain ⟨Q, hQ⟩ : ∃ Q, x.natAbs / y.natAbs = Q := ⟨_, rfl⟩
  obtain ⟨S, hS⟩ : ∃ S, x.natAbs % y.natAbs = S := ⟨_, rfl⟩
  have hSy : S < y.natAbs := by rw [← hS]; exact Nat.mod_lt _ hB
  have hA := Nat.div_add_mod x.natAbs y.natAbs
  rw [hQ, hS] at hA
  refine ⟨_, _, rfl, rfl, ?_, ?_⟩
  · rw [hS]
    intro h
    unfold sgn at h ⊢
    by_cases hx : x < 0
    · simp [hx] at h ⊢; omega
    · simp [hx] at h ⊢
  rw [hQ, hS]
  have hyq : y * sgn (!(decide (x < 0) == decide (y < 0))) Q = sgn (decide (x < 0)) (y.natAbs * Q) := by
    conv => lhs; rw [show y = sgn (decide (y < 0)) y.natAbs from sgn_abs'.symm]
    rw [sgn_mul, sgn_abs']
    congr 1
    cases decide (x < 0) <;> cases decide (y < 0) <;> rfl
  have hxx : sgn (decide (x < 0)) S + y * sgn (!(decide (x < 0) == decide (y < 0))) Q = x := by
    rw [hyq]
    have : x = sgn (decide (x < 0)) x.natAbs := sgn_abs'.symm
    conv => rhs; rw [this, ← hA]
    unfold sgn; cases decide (x < 0) <;> simp <;> omega
  generalize sgn (!(decide (x < 0) == decide (y < 0))) Q = q at hxx hyq
  have hr : sgn (decide (x < 0)) S = if x < 0 then -(S : Int) else S := by unfold sgn; by_cases h : x < 0 <;> simp [h]
  generalize hrr : sgn (decide (x < 0)) S = r at hxx hr
  clear hyq
  by_cases hy0 : 0 < y
  · have U := fun (q r : Int) => (Int.fdiv_fmod_unique (a := x) (b := y) (r := r) (q := q) hy0)
    split
    · rename_i h
      have e : r < 0 := by
        have h2 := h.2
        have : decide (y < 0) = false := decide_eq_false (by omega)
        rw [this] at h2
        exact of_decide_eq_true (by simpa using h2)
      have := (U (q - 1) (r + y)).2 ⟨by rw [Int.mul_sub]; omega, by split at hr <;> omega, by omega⟩
      exact ⟨this.1.symm, this.2.symm⟩
    · rename_i h
      have e : 0 ≤ r := by
        apply Classical.byContradiction
        intro hne
        refine h ⟨by omega, ?_⟩
        rw [decide_eq_true (show r < 0 by omega), decide_eq_false (show ¬ y < 0 by omega)]; simp
      have := (U q r).2 ⟨by omega, e, by split at hr <;> omega⟩
      exact ⟨this.1.symm, this.2.symm⟩
  · have hyn : y < 0 := by omega
    have U := fun (q r : Int) => (Int.fdiv_fmod_unique' (a := x) (b := y) (r := r) (q := q) hyn)
    split
    · rename_i h
      have e : 0 < r := by
        have h2 := h.2
        have : decide (y < 0) = true := decide_eq_true hyn
        rw [this] at h2
        have : ¬ r < 0 := of_decide_eq_false (by simpa using h2)
        have := h.1; omega
      have := (U (q - 1) (r + y)).2 ⟨by rw [Int.mul_sub]; omega, by omega, by split at hr <;> omega⟩
      exact ⟨this.1.symm, this.2.symm⟩
    · rename_i h
      have e : r ≤ 0 := by
        apply Classical.byContradiction
        intro hne
        refine h ⟨by omega, ?_⟩
        rw [decide_eq_false (show ¬ r < 0 by omega), decide_eq_true hyn]; simp
      have := (U q r).2 ⟨by omega, by split at hr <;> omega, e⟩
      exact ⟨this.1.symm, this.2.symm⟩
theorem dig_one : dig 1 = [1] := by rw [dig_pos (by omega)]; simp [dig_zero]
theorem sm_mono {x y : Int} (h : x.natAbs ≤ y.natAbs) (hy : sm y) : sm x := Nat.le_trans (len_mono h) hy
theorem partsI {n : Nat} {x y : Int} (hn : 10000 ≤ n) (hx : sm x) (hy : sm y) (h0 : y ≠ 0) : F41 n (decide (x < 0)) (dig x.natAbs) (decide (y < 0)) (dig y.natAbs) = some ((NN (x.fdiv y), (NN (x.fmod y), ())), ()) := by
  have hB : 0 < y.natAbs := by omega
  obtain ⟨q, r, hq, hr, hrs, hp⟩ := floor_parts (x := x) h0
  have qa : q.natAbs ≤ x.natAbs := by rw [hq, sgn_abs]; exact Nat.div_le_self _ _
  have ra : r.natAbs ≤ x.natAbs := by rw [hr, sgn_abs]; exact Nat.mod_le _ _
  have hsq := sm_mono qa hx
  have hsr := sm_mono ra hx
  have hxl : (dig x.natAbs).length ≤ 2000 := hx
  have hyl : (dig y.natAbs).length ≤ 2000 := hy
  unfold F41 F41_0
  rw [divI hn hB (by omega) (by omega)]
  simp only [ats]
  rw [tidyd hn (Nat.le_trans (len_mono (Nat.div_le_self _ _)) (by omega)), ← hq]
  simp only [ats]
  rw [tidyd hn (Nat.le_trans (len_mono (Nat.mod_le _ _)) (by omega)), ← hr]
  simp only [ats, NN]
  have hr0 : ((dig r.natAbs).length : Int) > 0 ↔ r ≠ 0 := by
    constructor
    · intro h e; rw [e] at h; simp [dig_zero] at h
    · intro h; have := dig_ne (x := r.natAbs) (by omega); omega
  by_cases g : r ≠ 0
  · rw [bp (hr0.2 g)]
    cases hs : (decide (r < 0) == decide (y < 0))
    · rw [if_pos ⟨g, by simpa using hs⟩] at hp
      have h1 := plusI (n := n) (x := q) (y := -1) hn hsq (by unfold sm; rw [show (-1 : Int).natAbs = 1 from rfl, dig_one]; decide)
      have h2 := plusI (n := n) (x := r) (y := y) hn hsr hy
      rw [show decide ((-1 : Int) < 0) = true from rfl, show (-1 : Int).natAbs = 1 from rfl, dig_one, show q + -1 = q - 1 by omega, hp.1] at h1
      rw [hp.2] at h2
      simp only [Bool.not_false, ct, h1, h2, ats, NN]
    · rw [if_neg (fun h => h.2 (by simpa using hs))] at hp
      simp only [Bool.not_true, cf, ← hp.1, ← hp.2]
  · rw [bn (mt hr0.1 g), if_neg (fun h => g h.1)] at *
    rw [← hp.1, ← hp.2]
end Go.Proofs.Ytgaghaeniadkkaa.Am
