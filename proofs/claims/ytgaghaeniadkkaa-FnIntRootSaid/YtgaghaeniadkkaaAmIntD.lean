/- Digits: what the functions over them compute. -/
import Derived.Test.YtgaghaeniadkkaaAmIntF
import Derived.Test.YtgaghaeniadkkaaAmDig
namespace Go.Proofs.Ytgaghaeniadkkaa.Am
open Go
set_option autoImplicit false
set_option linter.unusedVariables false
set_option linter.unusedSimpArgs false

def D (l : List Int) : List Int := dig (nv l).toNat
theorem D_okd (l : List Int) : okd (D l) := okd_dig _
theorem D_len {l : List Int} (h : okd l) : (D l).length ≤ l.length := dig_le_len h
theorem D_nv {l : List Int} (h : okd l) : nv (D l) = nv l := by
  unfold D; rw [nv_dig]; have := nv_bd h; omega
theorem D_dig (x : Nat) : D (dig x) = dig x := by unfold D; rw [nv_dig]; simp
theorem snoc_of {l : List Int} (h : 0 < l.length) : l = l.take (l.length - 1) ++ [l.getD (l.length - 1) 0] := by
  have h1 : l.length - 1 < l.length := by omega
  have := List.take_append_drop (l.length - 1) l
  rw [List.drop_eq_getElem_cons h1, show l.length - 1 + 1 = l.length by omega, List.drop_length] at this
  rw [getD_lt h1]; exact this.symm
theorem D_zero {l : List Int} (h : 0 < l.length) (h0 : l.getD (l.length - 1) 0 = 0) : D l = D (l.take (l.length - 1)) := by
  have e := snoc_of h
  rw [h0] at e
  unfold D
  conv => lhs; rw [e, nv_zero_end]
theorem D_full {l : List Int} (ho : okd l) (h : 0 < l.length) (h0 : l.getD (l.length - 1) 0 ≠ 0) : D l = l := by
  refine (can_dig ho fun hne => ?_).symm
  rw [List.getLast_eq_getElem]
  rwa [getD_lt (by omega)] at h0
theorem D_nil : D [] = [] := by unfold D; simp [nv, dig_zero]
theorem D_take : ∀ (m : Nat) {l : List Int}, l.length = m → okd l → l.take (D l).length = D l
  | 0, l, hm, ho => by
    have : l = [] := List.eq_nil_of_length_eq_zero hm
    subst this; rw [D_nil]; rfl
  | m + 1, l, hm, ho => by
    by_cases h0 : l.getD (l.length - 1) 0 = 0
    · have ih := D_take m (l := l.take (l.length - 1)) (by rw [List.length_take]; omega) (ho.take _)
      rw [D_zero (by omega) h0]
      rw [List.take_take, Nat.min_eq_left (by have := D_len (ho.take (l.length - 1)); rw [List.length_take] at this; omega)] at ih
      exact ih
    · rw [D_full ho (by omega) h0, List.take_length]

-- zeros off -----------------------------------------------------------------------------------------------------------------------
theorem trimI_it {R : Type} {n : Nat} {k0 : List Int → Option R} : ∀ (fuel : Nat) (l : List Int), okd l → l.length < fuel → l.length ≤ 100000 → F44_0_it n k0 fuel l = k0 (D l)
  | fuel, l, ho, hf, hl => by
    obtain ⟨f, rfl⟩ : ∃ f, fuel = f + 1 := ⟨fuel - 1, by omega⟩
    simp only [F44_0_it, F44_0_step]
    by_cases h : 0 < l.length
    · have e : ((l.length : Int) - 1).toNat = l.length - 1 := by omega
      simp (disch := omega) only [bp, wp, e, List.drop_zero]
      by_cases h0 : l.getD (l.length - 1) 0 = 0
      · rw [eqp h0, trimI_it f _ (ho.take _) (by rw [List.length_take]; omega) (by rw [List.length_take]; omega), D_zero h h0]
      · rw [eqn h0, D_full ho h h0]
    · have : l = [] := List.eq_nil_of_length_eq_zero (by omega)
      subst this
      rw [bn (by decide), D_nil]
theorem trimI {n : Nat} {l : List Int} (hn : 10000 ≤ n) (ho : okd l) (hl : l.length ≤ 9000) : F44 n l = some (D l, ()) := by
  unfold F44 F44_0
  rw [trimI_it n l ho (by omega) (by omega)]

theorem trimS_it {R : Type} {n : Nat} {l : List Int} {k0 : Int → List Int → Option R} (ho : okd l) (hl : l.length ≤ 100000) : ∀ (fuel i : Nat), i ≤ l.length → i < fuel → F50_0_it n k0 fuel i l = k0 (D (l.take i)).length l
  | fuel, i, hi, hf => by
    obtain ⟨f, rfl⟩ : ∃ f, fuel = f + 1 := ⟨fuel - 1, by omega⟩
    simp only [F50_0_it, F50_0_step]
    have hlen : (l.take i).length = i := by rw [List.length_take]; omega
    by_cases h : 0 < i
    · have e : ((i : Int) - 1).toNat = i - 1 := by omega
      have e2 : ((i : Int) - 1) = ((i - 1 : Nat) : Int) := by omega
      simp (disch := omega) only [bp, wp, e]
      have e3 : (l.take i).getD (i - 1) 0 = l.getD (i - 1) 0 := by
        rw [getD_lt (by omega), getD_lt (by omega), List.getElem_take]
      by_cases h0 : l.getD (i - 1) 0 = 0
      · rw [eqp h0, e2, trimS_it ho hl f (i - 1) (by omega) (by omega), D_zero (l := l.take i) (by omega) (by rw [hlen, e3]; exact h0), List.take_take, hlen, Nat.min_eq_left (by omega)]
      · rw [eqn h0, D_full (l := l.take i) (ho.take _) (by omega) (by rw [hlen, e3]; exact h0), hlen]
    · have : i = 0 := by omega
      subst this
      rw [bn (by decide), List.take_zero, D_nil]; rfl
theorem trimS {n : Nat} {l : List Int} (hn : 10000 ≤ n) (ho : okd l) (hl : l.length ≤ 9000) : F50 n l = some ((D l).length, (l, ())) := by
  unfold F50 F50_0
  rw [trimS_it ho (by omega) n l.length (by omega) (by omega), List.take_length]
  have := D_len ho
  rw [bp (by omega), bp (by omega)]; rfl
theorem takeS {l : List Int} (ho : okd l) : l.take (D l).length = D l := D_take _ rfl ho
theorem trimV_it {R : Type} {n : Nat} {l : List Int} {k0 : List Int → Int → Option R} (ho : okd l) (hl : l.length ≤ 100000) : ∀ (fuel i : Nat), i ≤ l.length → i < fuel → F50v1_0_it n k0 fuel l i = k0 l (D (l.take i)).length
  | fuel, i, hi, hf => by
    obtain ⟨f, rfl⟩ : ∃ f, fuel = f + 1 := ⟨fuel - 1, by omega⟩
    simp only [F50v1_0_it, F50v1_0_step]
    have hlen : (l.take i).length = i := by rw [List.length_take]; omega
    by_cases h : 0 < i
    · have e : ((i : Int) - 1).toNat = i - 1 := by omega
      have e2 : ((i : Int) - 1) = ((i - 1 : Nat) : Int) := by omega
      simp (disch := omega) only [bp, wp, e]
      have e3 : (l.take i).getD (i - 1) 0 = l.getD (i - 1) 0 := by
        rw [getD_lt (by omega), getD_lt (by omega), List.getElem_take]
      by_cases h0 : l.getD (i - 1) 0 = 0
      · rw [eqp h0, e2, trimV_it ho hl f (i - 1) (by omega) (by omega), D_zero (l := l.take i) (by omega) (by rw [hlen, e3]; exact h0), List.take_take, hlen, Nat.min_eq_left (by omega)]
      · rw [eqn h0, D_full (l := l.take i) (ho.take _) (by omega) (by rw [hlen, e3]; exact h0), hlen]
    · have : i = 0 := by omega
      subst this
      rw [bn (by decide), List.take_zero, D_nil]; rfl
theorem trimV {n : Nat} {l : List Int} (hn : 10000 ≤ n) (ho : okd l) (hl : l.length ≤ 9000) : F50v1 n l = some (D l, ()) := by
  unfold F50v1 F50v1_0
  rw [trimV_it ho (by omega) n l.length (by omega) (by omega), List.take_length]
  have := D_len ho
  rw [bp (by omega), bp (by omega), List.drop_zero, show ((D l).length : Int).toNat = (D l).length from by omega, takeS ho]

-- comparing -----------------------------------------------------------------------------------------------------------------------
def sg (x y : Int) : Int := if x < y then -1 else if x = y then 0 else 1
theorem cmpI_it {R : Type} {n : Nat} {a b : List Int} {k0 : Int → Option R} {k1 : Option R} (ha : okd a) (hb : okd b) (hl : a.length = b.length) (hl2 : a.length ≤ 9000) : ∀ (fuel m : Nat), m ≤ a.length → m < fuel → a.drop m = b.drop m →
    F45_0_it n k0 k1 fuel a b ((m : Int) - 1) = (if nv a < nv b then k0 (-1) else if nv a = nv b then k1 else k0 1)
  | fuel, m, hm, hf, hd => by
    obtain ⟨f, rfl⟩ : ∃ f, fuel = f + 1 := ⟨fuel - 1, by omega⟩
    simp only [F45_0_it, F45_0_step]
    cases m with
    | zero =>
      simp only [List.drop_zero] at hd
      subst hd
      rw [bn (by omega), if_neg (by omega), if_pos rfl]
    | succ m =>
      have e : (((m + 1 : Nat) : Int) - 1).toNat = m := by omega
      have e2 : ((m + 1 : Nat) : Int) - 1 = (m : Int) := by omega
      simp (disch := omega) only [bp, wp, e]
      by_cases h : a.getD m 0 = b.getD m 0
      · rw [nen h, e2]
        refine cmpI_it ha hb hl hl2 f m (by omega) (by omega) ?_
        rw [List.drop_eq_getElem_cons (by omega : m < a.length), List.drop_eq_getElem_cons (by omega : m < b.length), hd]
        rw [getD_lt (by omega), getD_lt (by omega)] at h
        rw [h]
      · rw [nep h]
        by_cases h2 : a.getD m 0 < b.getD m 0
        · have := nv_lt_of ha hb (i := m) (by omega) (by omega) hd h2
          rw [bp h2, if_pos this]
        · have := nv_lt_of hb ha (i := m) (by omega) (by omega) hd.symm (by omega)
          rw [bn h2, if_neg (by omega), if_neg (by omega)]
theorem cmpI {n x y : Nat} (hn : 10000 ≤ n) (hx : (dig x).length ≤ 9000) : F45 n (dig x) (dig y) = some (sg x y, ()) := by
  unfold F45 sg
  by_cases h : (dig x).length = (dig y).length
  · rw [nen (by omega)]
    unfold F45_0
    rw [wp (by omega), cmpI_it (okd_dig x) (okd_dig y) h hx n (dig x).length (by omega) (by omega) (by rw [List.drop_length, h, List.drop_length]), nv_dig, nv_dig]
    split
    · rfl
    · split <;> rfl
  · rw [nep (by omega)]
    by_cases h2 : (dig x).length < (dig y).length
    · have := nv_len_lt h2
      rw [bp (by omega), if_pos (by omega)]
    · have := nv_len_lt (x := y) (y := x) (by omega)
      rw [bn (by omega), if_neg (by omega), if_neg (by omega)]
theorem cmpS_it {R : Type} {n : Nat} {a b : List Int} {k0 : Int → Option R} {k1 : Option R} (ha : okd a) (hb : okd b) (hl : a.length = b.length) (hl2 : a.length ≤ 9000) : ∀ (fuel m : Nat), m ≤ a.length → m < fuel → a.drop m = b.drop m →
    F48_0_it n k0 k1 fuel a b ((m : Int) - 1) = (if nv a < nv b then k0 (-1) else if nv a = nv b then k1 else k0 1)
  | fuel, m, hm, hf, hd => by
    obtain ⟨f, rfl⟩ : ∃ f, fuel = f + 1 := ⟨fuel - 1, by omega⟩
    simp only [F48_0_it, F48_0_step]
    cases m with
    | zero =>
      simp only [List.drop_zero] at hd
      subst hd
      rw [bn (by omega), if_neg (by omega), if_pos rfl]
    | succ m =>
      have e : (((m + 1 : Nat) : Int) - 1).toNat = m := by omega
      have e2 : ((m + 1 : Nat) : Int) - 1 = (m : Int) := by omega
      simp (disch := omega) only [bp, wp, e]
      by_cases h : a.getD m 0 = b.getD m 0
      · rw [nen h, e2]
        refine cmpS_it ha hb hl hl2 f m (by omega) (by omega) ?_
        rw [List.drop_eq_getElem_cons (by omega : m < a.length), List.drop_eq_getElem_cons (by omega : m < b.length), hd]
        rw [getD_lt (by omega), getD_lt (by omega)] at h
        rw [h]
      · rw [nep h]
        by_cases h2 : a.getD m 0 < b.getD m 0
        · have := nv_lt_of ha hb (i := m) (by omega) (by omega) hd h2
          rw [bp h2, if_pos this]
        · have := nv_lt_of hb ha (i := m) (by omega) (by omega) hd.symm (by omega)
          rw [bn h2, if_neg (by omega), if_neg (by omega)]
theorem cmpS {n x y : Nat} (hn : 10000 ≤ n) (hx : (dig x).length ≤ 9000) : F48 n (dig x) (dig y) = some (sg x y, ()) := by
  unfold F48 sg
  by_cases h : (dig x).length = (dig y).length
  · rw [nen (by omega)]
    unfold F48_0
    rw [wp (by omega), cmpS_it (okd_dig x) (okd_dig y) h hx n (dig x).length (by omega) (by omega) (by rw [List.drop_length, h, List.drop_length]), nv_dig, nv_dig]
    split
    · rfl
    · split <;> rfl
  · rw [nep (by omega)]
    by_cases h2 : (dig x).length < (dig y).length
    · have := nv_len_lt h2
      rw [bp (by omega), if_pos (by omega)]
    · have := nv_len_lt (x := y) (y := x) (by omega)
      rw [bn (by omega), if_neg (by omega), if_neg (by omega)]
end Go.Proofs.Ytgaghaeniadkkaa.Am
