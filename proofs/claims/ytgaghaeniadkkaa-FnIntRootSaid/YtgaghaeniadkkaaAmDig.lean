/- Plain mathematics: digits, the least one first. -/
import Derived.Test.YtgaghaeniadkkaaAmPl
namespace Go.Proofs.Ytgaghaeniadkkaa.Am
open Go
set_option autoImplicit false
set_option linter.unusedVariables false
set_option linter.unusedSimpArgs false

def nv : List Int → Int
  | [] => 0
  | d :: l => d + 10 * nv l
def okd (l : List Int) : Prop := ∀ x ∈ l, 0 ≤ x ∧ x ≤ 9

theorem okd.nil : okd [] := fun x h => by simp at h
theorem okd.cons {a : Int} {l : List Int} (h : 0 ≤ a ∧ a ≤ 9) (t : okd l) : okd (a :: l) := fun x hx => by
  rcases List.mem_cons.1 hx with rfl | hx
  · exact h
  · exact t x hx
theorem okd.app {a b : List Int} (h : okd a) (t : okd b) : okd (a ++ b) := fun x hx => by
  rcases List.mem_append.1 hx with hx | hx
  · exact h x hx
  · exact t x hx
theorem okd.take {a : List Int} (h : okd a) (n : Nat) : okd (a.take n) := fun x hx => h x (List.mem_of_mem_take hx)
theorem okd.drop {a : List Int} (h : okd a) (n : Nat) : okd (a.drop n) := fun x hx => h x (List.mem_of_mem_drop hx)
theorem okd.getD {a : List Int} (h : okd a) (i : Nat) : 0 ≤ a.getD i 0 ∧ a.getD i 0 ≤ 9 := by
  by_cases hi : i < a.length
  · rw [getD_lt hi]; exact h _ (List.getElem_mem hi)
  · rw [getD_ge (by omega)]; omega
theorem okd.head {a : Int} {l : List Int} (h : okd (a :: l)) : 0 ≤ a ∧ a ≤ 9 := h a (by simp)
theorem okd.tail {a : Int} {l : List Int} (h : okd (a :: l)) : okd l := fun x hx => h x (List.mem_cons_of_mem _ hx)
theorem okd.set {a : List Int} (h : okd a) {i : Nat} {v : Int} (hv : 0 ≤ v ∧ v ≤ 9) : okd (a.set i v) := fun x hx => by
  rcases List.mem_or_eq_of_mem_set hx with hx | rfl
  · exact h x hx
  · exact hv
theorem okd.rep (n : Nat) : okd (List.replicate n 0) := fun x hx => by
  have := (List.mem_replicate.1 hx).2; omega

theorem pow_succ10 (n : Nat) : (10 : Int) ^ (n + 1) = 10 * 10 ^ n := by rw [Int.pow_succ]; omega
theorem pow_pos10 (n : Nat) : (0 : Int) < 10 ^ n := Int.pow_pos (by omega)

theorem nv_app (a b : List Int) : nv (a ++ b) = nv a + 10 ^ a.length * nv b := by
  induction a with
  | nil => simp [nv]
  | cons x a ih =>
    simp only [List.cons_append, nv, List.length_cons, ih, pow_succ10]
    rw [Int.mul_assoc]; omega
theorem nv_one (a : List Int) (d : Int) : nv (a ++ [d]) = nv a + 10 ^ a.length * d := by rw [nv_app]; simp [nv]
theorem nv_bd {l : List Int} (h : okd l) : 0 ≤ nv l ∧ nv l < 10 ^ l.length := by
  induction l with
  | nil => simp [nv]
  | cons x l ih =>
    have := ih h.tail; have h2 := h.head
    simp only [nv, List.length_cons, pow_succ10]; omega
theorem nv_rep (n : Nat) : nv (List.replicate n 0) = 0 := by
  induction n with
  | zero => rfl
  | succ n ih => simp [List.replicate_succ, nv, ih]
theorem nv_drop {l : List Int} {i : Nat} (h : i < l.length) : nv (l.drop i) = l.getD i 0 + 10 * nv (l.drop (i + 1)) := by
  rw [List.drop_eq_getElem_cons h, getD_lt h]; rfl
theorem nv_drop_ge {l : List Int} {i : Nat} (h : l.length ≤ i) : nv (l.drop i) = 0 := by rw [List.drop_of_length_le h]; rfl
/-- one digit off, or nothing -/
theorem nv_drop' (l : List Int) (i : Nat) : nv (l.drop i) = l.getD i 0 + 10 * nv (l.drop (i + 1)) := by
  by_cases h : i < l.length
  · exact nv_drop h
  · rw [nv_drop_ge (by omega), nv_drop_ge (by omega), getD_ge (by omega)]; omega
theorem nv_split (l : List Int) (i : Nat) (h : i ≤ l.length) : nv l = nv (l.take i) + 10 ^ i * nv (l.drop i) := by
  have := nv_app (l.take i) (l.drop i)
  rw [List.take_append_drop, List.length_take, Nat.min_eq_left h] at this
  exact this
theorem nv_set : ∀ {l : List Int} {i : Nat} {v : Int}, i < l.length → nv (l.set i v) = nv l + 10 ^ i * (v - l.getD i 0)
  | x :: l, 0, v, _ => by simp [nv]; omega
  | x :: l, i + 1, v, h => by
    have ih := nv_set (l := l) (i := i) (v := v) (by simpa using h)
    have e : (x :: l).getD (i + 1) 0 = l.getD i 0 := rfl
    simp only [List.set_cons_succ, nv, ih, e, pow_succ10]
    rw [Int.mul_assoc]; omega
theorem getD_set {l : List Int} {i j : Nat} {v : Int} (h : i < l.length) : (l.set i v).getD j 0 = if i = j then v else l.getD j 0 := by
  simp only [List.getD, List.getElem?_set]
  split
  · rename_i e; subst e; simp [h]
  · rfl

/-- the digits of a number -/
def dig (x : Nat) : List Int := if h : x = 0 then [] else ((x % 10 : Nat) : Int) :: dig (x / 10)
  termination_by x
  decreasing_by omega

theorem dig_zero : dig 0 = [] := by unfold dig; simp
theorem dig_pos {x : Nat} (h : x ≠ 0) : dig x = ((x % 10 : Nat) : Int) :: dig (x / 10) := by rw [dig, dif_neg h]
theorem nv_dig (x : Nat) : nv (dig x) = x := by
  induction x using Nat.strongRecOn with
  | _ x ih =>
    by_cases h : x = 0
    · subst h; rw [dig_zero]; rfl
    · rw [dig_pos h]
      simp only [nv, ih (x / 10) (by omega)]
      omega
theorem okd_dig (x : Nat) : okd (dig x) := by
  induction x using Nat.strongRecOn with
  | _ x ih =>
    by_cases h : x = 0
    · subst h; rw [dig_zero]; exact okd.nil
    · rw [dig_pos h]
      exact (ih (x / 10) (by omega)).cons (by omega)
theorem dig_len_le {x k : Nat} : (dig x).length ≤ k ↔ x < 10 ^ k := by
  induction x using Nat.strongRecOn generalizing k with
  | _ x ih =>
    by_cases h : x = 0
    · subst h; rw [dig_zero]; simp; exact Nat.pow_pos (by omega)
    · rw [dig_pos h]
      cases k with
      | zero => simp; omega
      | succ k =>
        simp only [List.length_cons, Nat.add_le_add_iff_right, ih (x / 10) (by omega)]
        rw [Nat.pow_succ]
        exact Nat.div_lt_iff_lt_mul (by omega)
theorem dig_len_lt {x k : Nat} : k < (dig x).length ↔ 10 ^ k ≤ x := by
  have := dig_len_le (x := x) (k := k); omega
/-- digits without zeros at the end are those of their number -/
theorem can_dig : ∀ {l : List Int}, okd l → (∀ h : l ≠ [], l.getLast h ≠ 0) → l = dig (nv l).toNat
  | [], _, _ => by simp [nv, dig_zero]
  | [d], ho, hl => by
    have h1 := hl (by simp); have h2 := ho.head
    simp only [List.getLast_singleton] at h1
    simp only [nv]
    rw [dig_pos (by omega)]
    have : (d + 10 * 0).toNat / 10 = 0 := by omega
    rw [this, dig_zero]
    congr 1; omega
  | d :: e :: l, ho, hl => by
    have ih := can_dig (l := e :: l) ho.tail (fun h => by have := hl (by simp); rwa [List.getLast_cons (by simp)] at this)
    have h2 := ho.head
    have h3 := nv_bd ho.tail
    have hne : nv (e :: l) ≠ 0 := fun h0 => by rw [h0] at ih; simp [dig_zero] at ih
    generalize hm : nv (e :: l) = m at *
    rw [show nv (d :: e :: l) = d + 10 * nv (e :: l) from rfl, hm, dig_pos (by omega)]
    have e1 : (d + 10 * m).toNat / 10 = m.toNat := by omega
    have e2 : (((d + 10 * m).toNat % 10 : Nat) : Int) = d := by omega
    rw [e1, e2, ← ih]
theorem dig_last (x : Nat) (h : dig x ≠ []) : (dig x).getLast h ≠ 0 := by
  induction x using Nat.strongRecOn with
  | _ x ih =>
    have hx : x ≠ 0 := fun e => by subst e; exact h dig_zero
    by_cases h10 : x / 10 = 0
    · have e : dig x = [((x % 10 : Nat) : Int)] := by rw [dig_pos hx, h10, dig_zero]
      simp only [e, List.getLast_singleton]; omega
    · have hne : dig (x / 10) ≠ [] := by rw [dig_pos h10]; simp
      have e := dig_pos hx
      have : (dig x).getLast h = (dig (x / 10)).getLast hne := by
        simp only [e]; exact List.getLast_cons hne
      rw [this]; exact ih _ (by omega) hne
theorem nv_lt_pow {l : List Int} (h : okd l) : (nv l).toNat < 10 ^ l.length := by
  have := nv_bd h
  have e : ((10 ^ l.length : Nat) : Int) = (10 : Int) ^ l.length := by norm_cast
  omega
theorem dig_le_len {l : List Int} (h : okd l) : (dig (nv l).toNat).length ≤ l.length := dig_len_le.2 (nv_lt_pow h)
/-- zeros at the end do not count -/
theorem nv_zero_end (l : List Int) : nv (l ++ [0]) = nv l := by rw [nv_one]; omega
/-- who has the greater first different digit is greater -/
theorem nv_lt_of {a b : List Int} (ha : okd a) (hb : okd b) {i : Nat} (hia : i < a.length) (hib : i < b.length) (hd : a.drop (i + 1) = b.drop (i + 1)) (hlt : a.getD i 0 < b.getD i 0) : nv a < nv b := by
  have h1 := nv_split a i (by omega)
  have h2 := nv_split b i (by omega)
  rw [nv_drop hia, hd] at h1
  rw [nv_drop hib] at h2
  have h3 := nv_bd (ha.take i)
  have h4 := nv_bd (hb.take i)
  rw [List.length_take, Nat.min_eq_left (by omega)] at h3 h4
  have hp := pow_pos10 i
  have : 10 ^ i * (a.getD i 0 + 10 * nv (b.drop (i + 1))) + 10 ^ i ≤ 10 ^ i * (b.getD i 0 + 10 * nv (b.drop (i + 1))) := by
    have e : 10 ^ i * (a.getD i 0 + 10 * nv (b.drop (i + 1))) + (10 : Int) ^ i = 10 ^ i * (a.getD i 0 + 10 * nv (b.drop (i + 1)) + 1) := by rw [Int.mul_add _ _ 1]; omega
    rw [e]
    exact Int.mul_le_mul_of_nonneg_left (by omega) (by omega)
  omega
theorem nv_len_lt {x y : Nat} (h : (dig x).length < (dig y).length) : x < y := by
  have h1 := dig_len_lt.1 h
  have h2 := (dig_len_le (x := x) (k := (dig x).length)).1 (Nat.le_refl _)
  omega
end Go.Proofs.Ytgaghaeniadkkaa.Am
