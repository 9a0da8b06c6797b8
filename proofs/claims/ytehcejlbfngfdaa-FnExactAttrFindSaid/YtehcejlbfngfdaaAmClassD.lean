/- Classes: method orders. -/
import Derived.Test.YtehcejlbfngfdaaAmClassC
namespace Go.Proofs.Ytehcejlbfngfdaa.Am
open Go
set_option autoImplicit false
set_option linter.unusedVariables false
set_option linter.unusedSimpArgs false

def vj (own : List Int) (c : Int) (j : Nat) : Prop := 0 ≤ own.getD j 0 ∧ own.getD j 0 < c ∧ own.getD j 0 ∉ own.take j
def vo (own : List Int) (c : Int) : Prop := ∀ j, 0 ≤ j → j < own.length → vj own c j
def mapO (f : Int → Option (List Int)) : List Int → Option LL
  | [] => some []
  | b :: r => match f b with
    | none => none
    | some l => match mapO f r with
      | none => none
      | some ls => some (l :: ls)
open Classical in
noncomputable def mro (bs : LL) : Nat → Int → Option (List Int)
  | 0, _ => none
  | d + 1, c => if (bs.getD c.toNat []).length ≤ 6 ∧ vo (bs.getD c.toNat []) c then
      match mapO (mro bs d) (bs.getD c.toNat []) with
      | none => none
      | some ls => match mg (tot (ls ++ [bs.getD c.toNat []]) + 1) (ls ++ [bs.getD c.toNat []]) [] with
        | none => none
        | some r => some (c :: r)
    else none

theorem mg_len : ∀ (k : Nat) (A : LL) (out r : List Int), mg k A out = some r → r.length ≤ out.length + tot A
  | k + 1, A, out, r, h => by
    simp only [mg] at h
    split at h
    · cases h; omega
    · split at h
      · cases h
      · rename_i x hx
        have h1 := mg_len k _ _ _ h
        have h2 := tot_adv (nx_some hx)
        simp at h1; omega
theorem mg_nn : ∀ (k : Nat) (A : LL) (out r : List Int), mg k A out = some r → NN A → (∀ x ∈ out, 0 ≤ x) → ∀ x ∈ r, (0 : Int) ≤ x
  | k + 1, A, out, r, h, hA, ho => by
    simp only [mg] at h
    split at h
    · cases h; exact ho
    · split at h
      · cases h
      · rename_i x hx
        refine mg_nn k _ _ _ h (NN_adv x hA) fun y hy => ?_
        rcases List.mem_append.1 hy with hy | hy
        · exact ho y hy
        · simp at hy; subst hy; exact nx_nn hA hx
/-- what holds of each is an order's number -/
theorem mg_in (p : Int → Prop) : ∀ (k : Nat) (A : LL) (out r : List Int), mg k A out = some r → (∀ l ∈ A, ∀ x ∈ l, p x) → (∀ x ∈ out, p x) → ∀ x ∈ r, p x
  | k + 1, A, out, r, h, hA, ho => by
    simp only [mg] at h
    split at h
    · cases h; exact ho
    · split at h
      · cases h
      · rename_i x hx
        refine mg_in p k _ _ _ h ?_ fun y hy => ?_
        · intro l hl y hy
          obtain ⟨m, hm, rfl⟩ := List.mem_map.1 hl
          unfold ad1 at hy
          split at hy
          · exact hA m hm y (List.mem_of_mem_tail hy)
          · exact hA m hm y hy
        · rcases List.mem_append.1 hy with hy | hy
          · exact ho y hy
          · simp at hy; subst hy
            obtain ⟨l, h1, h2, h3⟩ := nx_some hx
            cases l with
            | nil => exact absurd rfl h2
            | cons a l => exact h3 ▸ hA _ h1 a (by simp)
theorem mapO_some {f : Int → Option (List Int)} : ∀ {l : List Int} {ls : LL}, mapO f l = some ls → ls.length = l.length ∧ ∀ m ∈ ls, ∃ b ∈ l, f b = some m
  | [], ls, h => by cases h; exact ⟨rfl, fun m hm => by simp at hm⟩
  | b :: l, ls, h => by
    simp only [mapO] at h
    split at h
    · cases h
    · rename_i m hm
      split at h
      · cases h
      · rename_i r hr
        cases h
        obtain ⟨h1, h2⟩ := mapO_some hr
        refine ⟨by simp [h1], fun q hq => ?_⟩
        rcases List.mem_cons.1 hq with rfl | hq
        · exact ⟨b, by simp, hm⟩
        · obtain ⟨b', h3, h4⟩ := h2 q hq; exact ⟨b', by simp [h3], h4⟩
theorem tot_app : ∀ (A C : LL), tot (A ++ C) = tot A + tot C
  | [], C => by simp [tot]
  | l :: A, C => by simp [tot, tot_app A C]; omega
theorem tot_le {b : Nat} : ∀ (A : LL), (∀ l ∈ A, l.length ≤ b) → tot A ≤ A.length * b
  | [], _ => by simp [tot]
  | l :: A, h => by
    have h1 := h l (by simp)
    have h2 := tot_le A fun m hm => h m (by simp [hm])
    simp only [tot, List.length_cons, Nat.add_mul]; omega
theorem vo_mem {own : List Int} {c : Int} (h : vo own c) : ∀ b ∈ own, 0 ≤ b ∧ b < c := by
  intro b hb
  obtain ⟨j, h1, h2⟩ := imem_get.1 hb
  have := h j (by omega) h1
  unfold vj at this
  rw [h2] at this
  exact ⟨this.1, this.2.1⟩
theorem mro_some {bs : LL} : ∀ (d : Nat) (c : Int) (l : List Int), mro bs d c = some l → 0 ≤ c → l.length + 2 ≤ 2 * 7 ^ d ∧ ∀ x ∈ l, 0 ≤ x ∧ x ≤ c
  | d + 1, c, l, h, hc => by
    simp only [mro] at h
    split at h
    case isFalse => cases h
    rename_i g
    split at h
    · cases h
    rename_i ls hls
    split at h
    · cases h
    rename_i r hr
    cases h
    obtain ⟨h1, h2⟩ := mapO_some hls
    have hv := vo_mem g.2
    have each : ∀ m ∈ ls, m.length + 2 ≤ 2 * 7 ^ d ∧ ∀ x ∈ m, 0 ≤ x ∧ x ≤ c := fun m hm => by
      obtain ⟨b, hb, e⟩ := h2 m hm
      have := mro_some d b m e (hv b hb).1
      exact ⟨this.1, fun x hx => ⟨(this.2 x hx).1, by have := (this.2 x hx).2; have := (hv b hb).2; omega⟩⟩
    have ht := tot_le ls (b := 2 * 7 ^ d - 2) fun m hm => by have := (each m hm).1; omega
    have hp : 1 ≤ 7 ^ d := Nat.one_le_pow _ _ (by omega)
    have ht2 : ls.length * (2 * 7 ^ d - 2) ≤ 6 * (2 * 7 ^ d - 2) := Nat.mul_le_mul_right _ (by omega)
    have hl := mg_len _ _ _ _ hr
    rw [tot_app] at hl
    simp only [tot, List.length_nil] at hl
    refine ⟨by rw [Nat.pow_succ, List.length_cons]; omega, fun x hx => ?_⟩
    rcases List.mem_cons.1 hx with rfl | hx
    · exact ⟨hc, Int.le_refl _⟩
    · refine mg_in (fun x => 0 ≤ x ∧ x ≤ c) _ _ _ _ hr (fun m hm y hy => ?_) (fun y hy => by simp at hy) x hx
      rcases List.mem_append.1 hm with hm | hm
      · exact (each m hm).2 y hy
      · simp at hm; subst hm
        have := hv y hy; exact ⟨this.1, by omega⟩
theorem pow8 {d : Nat} (h : d ≤ 8) : 7 ^ d ≤ 5764801 := Nat.pow_le_pow_right (n := 7) (by omega) h
/-- what is merged is not great -/
theorem mro_tot {bs : LL} {d : Nat} {own : List Int} {c : Int} {ls : LL} (hd : d + 1 ≤ 8) (g : own.length ≤ 6 ∧ vo own c) (hls : mapO (mro bs d) own = some ls) : tot (ls ++ [own]) ≤ 20000000 ∧ NN (ls ++ [own]) ∧ (ls ++ [own]).length ≤ 1000 := by
  obtain ⟨h1, h2⟩ := mapO_some hls
  have hv := vo_mem g.2
  have each : ∀ m ∈ ls, m.length + 2 ≤ 2 * 7 ^ d ∧ ∀ x ∈ m, 0 ≤ x := fun m hm => by
    obtain ⟨b, hb, e⟩ := h2 m hm
    have := mro_some d b m e (hv b hb).1
    exact ⟨this.1, fun x hx => (this.2 x hx).1⟩
  have ht := tot_le ls (b := 2 * 7 ^ d - 2) fun m hm => by have := (each m hm).1; omega
  have hp : 7 ^ d ≤ 823543 := Nat.pow_le_pow_right (n := 7) (by omega) (show d ≤ 7 by omega)
  have ht2 : ls.length * (2 * 7 ^ d - 2) ≤ 6 * (2 * 7 ^ d - 2) := Nat.mul_le_mul_right _ (by omega)
  refine ⟨by rw [tot_app]; simp only [tot]; omega, fun m hm y hy => ?_, by simp; omega⟩
  rcases List.mem_append.1 hm with hm | hm
  · exact (each m hm).2 y hy
  · simp at hm; subst hm; exact (hv y hy).1

theorem cloI {n : Nat} {l : List Int} (h : l.length ≤ 20000000) : F72 n l = some (l, ()) := by
  unfold F72
  cases l with
  | nil => rw [bp (by simp), bp (by simp)]; exact both_self _
  | cons a l => rw [bn (by simp), bp (by simp at h ⊢; omega)]; rfl

open Classical in
theorem mroI_it {R : Type} {n d : Nat} {rc : Q45RC} {bs : LL} {c : Int} {own : List Int} {k0 : Bool → Option R} {k1 : Int → List Int → LL → Option R} (hn : 30000000 ≤ n) (hl : own.length ≤ 6)
    (hrc : ∀ b, 0 ≤ b → b < c → rc.1 bs b = some (enR (mro bs d b), ())) : ∀ (fuel i : Nat) (acc : LL), i ≤ own.length → own.length + 1 ≤ fuel + i → acc.length ≤ i →
    F45b_0_it n rc k0 k1 fuel bs c own own own.length i acc = if ∀ j, i ≤ j → j < own.length → vj own c j then (match mapO (mro bs d) (own.drop i) with | some ls => k1 c own (acc ++ ls) | none => k0 false) else k0 false
  | fuel, i, acc, hi, hfl, ha => by
    obtain ⟨f, rfl⟩ : ∃ f, fuel = f + 1 := ⟨fuel - 1, by omega⟩
    simp only [F45b_0_it, F45b_0_step]
    by_cases g : i < own.length
    · rw [bp (by omega), bp (by omega), bp (by omega), show ((i : Nat) : Int).toNat = i by omega, propext (all_step g)]
      by_cases g1 : own.getD i 0 < 0
      · rw [bp g1, if_neg (fun hh => by have := hh.1.1; omega)]
      rw [bn g1]
      by_cases g2 : own.getD i 0 ≥ c
      · rw [bp g2, if_neg (fun hh => by have := hh.1.2.1; omega)]
      rw [bn g2, bp (by omega), bp (by omega), List.drop_zero, icontI hn (by simp; omega)]
      simp only [ats]
      by_cases g3 : own.getD i 0 ∈ own.take i
      · rw [B_t g3, ct, if_neg (fun hh => hh.1.2.2 g3)]
      rw [B_f g3, cf, hrc _ (by omega) (by omega)]
      simp only [ats]
      have hv : vj own c i := ⟨by omega, by omega, g3⟩
      rw [drop_cons (d := 0) g]
      simp only [mapO]
      cases hm : mro bs d (own.getD i 0) with
      | none =>
        simp only [enR, Option.isSome_none, Bool.not_false, ct]
        split <;> rfl
      | some l =>
        simp only [enR, Option.isSome_some, Bool.not_true, cf, Option.getD_some]
        rw [bp (by simp; omega), wp (by omega), show ((i : Int) + 1) = ((i + 1 : Nat) : Int) by omega]
        rw [mroI_it (k0 := k0) (k1 := k1) hn hl hrc f (i + 1) (acc ++ [l]) (by omega) (by omega) (by simp; omega)]
        by_cases ga : ∀ j, i + 1 ≤ j → j < own.length → vj own c j
        · rw [if_pos ga, if_pos ⟨hv, ga⟩]
          cases mapO (mro bs d) (own.drop (i + 1)) with
          | none => rfl
          | some ls => simp
        · rw [if_neg ga, if_neg (fun hh => ga hh.2)]
    · rw [bn (by omega), List.drop_of_length_le (by omega), if_pos (fun j h1 h2 => by omega)]
      simp [mapO]
theorem mroI {n : Nat} {bs : LL} (hn : 30000000 ≤ n) (hb : bs.length ≤ 8) : ∀ (d k : Nat) (c : Int), d ≤ 8 → d ≤ k → 0 ≤ c → c < bs.length → c < d → (Q45it n k).1 bs c = some (enR (mro bs d c), ())
  | 0, _, _, _, _, _, _, h => by omega
  | d + 1, k, c, h1, h2, h3, h4, h5 => by
    obtain ⟨k, rfl⟩ : ∃ k', k = k' + 1 := ⟨k - 1, by omega⟩
    show F45b n (Q45it n k) bs c = _
    unfold F45b
    rw [bn (by omega), bn (by omega), bn (by omega), bp (by omega), bp (by omega)]
    simp only [mro]
    generalize ho : bs.getD c.toNat [] = own
    by_cases g : own.length > 6
    · rw [bp (by omega), if_neg (fun hh => by omega)]; rfl
    rw [bn (by omega)]
    unfold F45b_0
    rw [show ((0 : Int)) = ((0 : Nat) : Int) from rfl, mroI_it (n := n) (d := d) hn (by omega) (fun b hb0 hbc => mroI hn hb d k b (by omega) (by omega) hb0 (by omega) (by omega)) n 0 [] (by omega) (by omega) (by simp)]
    by_cases gv : vo own c
    · rw [if_pos (c := ∀ j, 0 ≤ j → j < own.length → vj own c j) gv, if_pos ⟨by omega, gv⟩, List.drop_zero]
      cases hls : mapO (mro bs d) own with
      | none => rfl
      | some ls =>
        obtain ⟨t1, t2, t3⟩ := mro_tot h1 ⟨by omega, gv⟩ hls
        simp only [cloI (n := n) (show own.length ≤ 20000000 by omega), ats, List.nil_append]
        rw [bp (by simp at t3 ⊢; omega), mergeI hn t3 t1 t2]
        simp only [ats]
        cases hm : mg (tot (ls ++ [own]) + 1) (ls ++ [own]) [] with
        | none => rfl
        | some r =>
          have hlr := mg_len _ _ _ _ hm
          show (bif (!true) then _ else (bif decide (([c] : List Int).length + r.length ≤ 68719476736) then some (([c] ++ r, (true, ())), ()) else none)) = _
          rw [Bool.not_true, cf, bp (by simp at hlr ⊢; omega)]; rfl
    · rw [if_neg (c := ∀ j, 0 ≤ j → j < own.length → vj own c j) gv, if_neg (fun hh => gv hh.2)]; rfl
theorem mroI8 {n : Nat} {bs : LL} {c : Int} (hn : 30000000 ≤ n) (hb : bs.length ≤ 8) (h0 : 0 ≤ c) (h1 : c < bs.length) : F45 n bs c = some (enR (mro bs 8 c), ()) := by
  unfold F45; exact mroI hn hb 8 n c (by omega) (by omega) h0 h1 (by omega)
theorem mroIx {n : Nat} {bs : LL} {c : Int} (hn : 30000000 ≤ n) (h : c < 0 ∨ bs.length ≤ c ∨ 8 < bs.length) : F45 n bs c = some (enR none, ()) := by
  obtain ⟨m, rfl⟩ : ∃ m, n = m + 1 := ⟨n - 1, by omega⟩
  show F45b _ _ bs c = _
  unfold F45b
  by_cases h1 : c < 0
  · rw [bp h1]; rfl
  rw [bn h1]
  by_cases h2 : c ≥ bs.length
  · rw [bp h2]; rfl
  rw [bn h2, bp (by omega)]; rfl

-- the reference's -----------------------------------------------------------------------------------------------------------------
theorem mroS_it {R : Type} {n d : Nat} {rc : Q74RC} {bs : LL} {c : Int} {k0 : Bool → Option R} {k1 : LL → Int → LL → Option R} (hc0 : 0 ≤ c) (hcl : c < bs.length) (hl : (bs.getD c.toNat []).length ≤ 6) (hv : vo (bs.getD c.toNat []) c)
    (hrc : ∀ b, 0 ≤ b → b < c → rc.1 bs b = some (enR (mro bs d b), ())) : ∀ (fuel i : Nat) (acc : LL), i ≤ (bs.getD c.toNat []).length → (bs.getD c.toNat []).length + 1 ≤ fuel + i → acc.length ≤ i →
    F74b_0_it n rc k0 k1 fuel bs c i acc = match mapO (mro bs d) ((bs.getD c.toNat []).drop i) with | some ls => k1 bs c (acc ++ ls) | none => k0 false
  | fuel, i, acc, hi, hfl, ha => by
    obtain ⟨f, rfl⟩ : ∃ f, fuel = f + 1 := ⟨fuel - 1, by omega⟩
    simp only [F74b_0_it, F74b_0_step]
    rw [bp (by omega), bp (by omega)]
    by_cases g : i < (bs.getD c.toNat []).length
    · rw [bp (by omega), bp (by omega), bp (by omega), bp (by omega), bp (by omega), show ((i : Nat) : Int).toNat = i by omega]
      have hvi := hv i (by omega) g
      rw [hrc _ hvi.1 hvi.2.1]
      simp only [ats]
      rw [drop_cons (d := 0) g]
      simp only [mapO]
      cases hm : mro bs d ((bs.getD c.toNat []).getD i 0) with
      | none => rfl
      | some l =>
        simp only [enR, Option.isSome_some, Bool.not_true, cf, Option.getD_some]
        rw [bp (by simp; omega), wp (by omega), show ((i : Int) + 1) = ((i + 1 : Nat) : Int) by omega]
        rw [mroS_it (k0 := k0) (k1 := k1) hc0 hcl hl hv hrc f (i + 1) (acc ++ [l]) (by omega) (by omega) (by simp; omega)]
        cases mapO (mro bs d) ((bs.getD c.toNat []).drop (i + 1)) with
        | none => rfl
        | some ls => simp
    · rw [bn (by omega), List.drop_of_length_le (by omega)]
      simp [mapO]
/-- all bases are valid -/
def vb (bs : LL) : Prop := ∀ j, 0 ≤ j → j < bs.length → (bs.getD j []).length ≤ 6 ∧ vo (bs.getD j []) j
theorem mroS {n : Nat} {bs : LL} (hn : 30000000 ≤ n) (hb : bs.length ≤ 8) (hv : vb bs) : ∀ (d k : Nat) (c : Int), d ≤ 8 → d ≤ k → 0 ≤ c → c < bs.length → c < d → (Q74it n k).1 bs c = some (enR (mro bs d c), ())
  | 0, _, _, _, _, _, _, h => by omega
  | d + 1, k, c, h1, h2, h3, h4, h5 => by
    obtain ⟨k, rfl⟩ : ∃ k', k = k' + 1 := ⟨k - 1, by omega⟩
    show F74b n (Q74it n k) bs c = _
    have hvc := hv c.toNat (by omega) (by omega)
    rw [show ((c.toNat : Nat) : Int) = c by omega] at hvc
    unfold F74b F74b_0
    rw [show ((0 : Int)) = ((0 : Nat) : Int) from rfl, mroS_it (n := n) (d := d) h3 h4 hvc.1 hvc.2 (fun b hb0 hbc => mroS hn hb hv d k b (by omega) (by omega) hb0 (by omega) (by omega)) n 0 [] (by omega) (by omega) (by simp)]
    simp only [mro]
    rw [if_pos hvc, List.drop_zero]
    generalize ho : bs.getD c.toNat [] = own at hvc
    cases hls : mapO (mro bs d) own with
    | none => rfl
    | some ls =>
      obtain ⟨t1, t2, t3⟩ := mro_tot h1 hvc hls
      simp only [List.nil_append]
      rw [bp (by omega), bp (by omega), bp (by simp; omega), bp (by simp at t3 ⊢; omega), mergeS hn t3 t1 t2]
      simp only [ats]
      cases hm : mg (tot (ls ++ [own]) + 1) (ls ++ [own]) [] with
      | none => rfl
      | some r =>
        have hlr := mg_len _ _ _ _ hm
        show (bif (!true) then _ else (bif decide (([c] : List Int).length + r.length ≤ 68719476736) then some (([c] ++ r, (true, ())), ()) else none)) = _
        rw [Bool.not_true, cf, bp (by simp at hlr ⊢; omega)]; rfl
theorem mroS8 {n : Nat} {bs : LL} {c : Int} (hn : 30000000 ≤ n) (hb : bs.length ≤ 8) (hv : vb bs) (h0 : 0 ≤ c) (h1 : c < bs.length) : F74 n bs c = some (enR (mro bs 8 c), ()) := by
  unfold F74; exact mroS hn hb hv 8 n c (by omega) (by omega) h0 h1 (by omega)

-- valid bases ------------------------------------------------------------------------------------------------------------------------
def BO (bs : LL) : Prop := bs.length ≤ 8 ∧ ∀ j, 0 ≤ j → j < bs.length → (mro bs 8 (j : Nat)).isSome = true
theorem BO_vb {bs : LL} (h : BO bs) : vb bs := by
  intro j h0 hj
  have := h.2 j h0 hj
  simp only [mro, show ((j : Nat) : Int).toNat = j by omega] at this
  split at this
  · rename_i g; exact g
  · cases this
open Classical in
theorem boI_it {R : Type} {n : Nat} {bs : LL} {k0 : Bool → Option R} {k1 : Option R} (hn : 30000000 ≤ n) (hb : bs.length ≤ 8) : ∀ (fuel i : Nat), i ≤ bs.length → bs.length + 1 ≤ fuel + i →
    F33_0_it n k0 k1 fuel bs bs.length i = if ∀ j, i ≤ j → j < bs.length → (mro bs 8 (j : Nat)).isSome = true then k1 else k0 false
  | fuel, i, hi, hfl => by
    obtain ⟨f, rfl⟩ : ∃ f, fuel = f + 1 := ⟨fuel - 1, by omega⟩
    simp only [F33_0_it, F33_0_step]
    by_cases g : i < bs.length
    · rw [bp (by omega), mroI8 hn hb (by omega) (by omega), propext (all_step g)]
      simp only [ats, enR]
      cases hm : (mro bs 8 (i : Nat)).isSome with
      | false => rw [if_neg (fun hh => by have := hh.1; cases this)]; rfl
      | true =>
        simp only [Bool.not_true, cf]
        rw [wp (by omega), show ((i : Int) + 1) = ((i + 1 : Nat) : Int) by omega, boI_it (k0 := k0) (k1 := k1) hn hb f (i + 1) (by omega) (by omega)]
        simp
    · rw [bn (by omega), if_pos (fun j h1 h2 => by omega)]
theorem boI {n : Nat} {bs : LL} (hn : 30000000 ≤ n) : F33 n bs = some (B (BO bs), ()) := by
  unfold F33 F33_0
  by_cases h : bs.length ≤ 8
  · rw [bn (by omega), show ((0 : Int)) = ((0 : Nat) : Int) from rfl, boI_it (n := n) hn h n 0 (by omega) (by omega)]
    split
    · rename_i g; rw [B_t (p := BO bs) ⟨h, g⟩]
    · rename_i g; rw [B_f (p := BO bs) (fun hh => g hh.2)]
  · rw [bp (by omega), B_f (p := BO bs) (fun hh => h hh.1)]
theorem rangeS' {n : Nat} {v a b : Int} : F47 n v a b = some (decide (a ≤ v ∧ v ≤ b), ()) := rangeS
open Classical in
theorem vbS_it0 {R : Type} {n : Nat} {bs : LL} {c : Nat} {k0 : Bool → Option R} {k1 : LL → Int → Option R} (hn : 30000000 ≤ n) (hc : c < bs.length) (hcb : c ≤ 20000000) (hl : (bs.getD c []).length ≤ 20000000) : ∀ (fuel i : Nat), i ≤ (bs.getD c []).length → (bs.getD c []).length + 1 ≤ fuel + i →
    F84_0_it n k0 k1 fuel bs c i = if ∀ j, i ≤ j → j < (bs.getD c []).length → vj (bs.getD c []) c j then k1 bs c else k0 false
  | fuel, i, hi, hfl => by
    obtain ⟨f, rfl⟩ : ∃ f, fuel = f + 1 := ⟨fuel - 1, by omega⟩
    simp only [F84_0_it, F84_0_step]
    rw [bp (by omega), bp (by omega), show ((c : Nat) : Int).toNat = c by omega]
    by_cases g : i < (bs.getD c []).length
    · rw [bp (by omega), bp (by omega), bp (by omega), bp (by omega), bp (by omega), show ((i : Nat) : Int).toNat = i by omega, rangeS, propext (all_step g), wp (by omega)]
      simp only [ats]
      by_cases g1 : 0 ≤ (bs.getD c []).getD i 0 ∧ (bs.getD c []).getD i 0 ≤ (c : Int) - 1
      · rw [nn g1, bp (by omega), bp (by omega), bp (by omega), bp (by omega), bp (by omega), bp (by omega), bp (by omega), bp (by omega), List.drop_zero, inlS hn (by simp; omega)]
        simp only [ats]
        by_cases g2 : (bs.getD c []).getD i 0 ∈ (bs.getD c []).take i
        · rw [B_t g2, ct, if_neg (fun hh => hh.1.2.2 g2)]
        · rw [B_f g2, cf, wp (by omega), show ((i : Int) + 1) = ((i + 1 : Nat) : Int) by omega, vbS_it0 (k0 := k0) (k1 := k1) hn hc hcb hl f (i + 1) (by omega) (by omega)]
          have hv : vj (bs.getD c []) c i := ⟨g1.1, by omega, g2⟩
          by_cases ga : ∀ j, i + 1 ≤ j → j < (bs.getD c []).length → vj (bs.getD c []) c j
          · rw [if_pos ga, if_pos ⟨hv, ga⟩]
          · rw [if_neg ga, if_neg (fun hh => ga hh.2)]
      · rw [np g1, if_neg (fun hh => g1 ⟨hh.1.1, by have := hh.1.2.1; omega⟩)]
    · rw [bn (by omega), if_pos (fun j h1 h2 => by omega)]
open Classical in
theorem vbS_it1 {R : Type} {n : Nat} {bs : LL} {k0 : Bool → Option R} {k1 : LL → Option R} (hn : 30000000 ≤ n) (hb : bs.length ≤ 20000000) (hl : ∀ l ∈ bs, l.length ≤ 20000000) : ∀ (fuel i : Nat), i ≤ bs.length → bs.length + 1 ≤ fuel + i →
    F84_1_it n k0 k1 fuel bs i = if ∀ j, i ≤ j → j < bs.length → ((bs.getD j []).length ≤ 6 ∧ vo (bs.getD j []) j) then k1 bs else k0 false
  | fuel, i, hi, hfl => by
    obtain ⟨f, rfl⟩ : ∃ f, fuel = f + 1 := ⟨fuel - 1, by omega⟩
    simp only [F84_1_it, F84_1_step]
    by_cases g : i < bs.length
    · have hli := hl (bs.getD i []) (mem_getD.2 ⟨i, g, rfl⟩)
      unfold F84_0
      rw [bp (by omega), propext (all_step g)]
      rw [show ((0 : Int)) = ((0 : Nat) : Int) from rfl, vbS_it0 (n := n) hn g (by omega) hli n 0 (by omega) (by omega)]
      by_cases gv : vo (bs.getD i []) i
      · rw [if_pos (c := ∀ j, 0 ≤ j → j < (bs.getD i []).length → vj (bs.getD i []) i j) gv, bp (by omega), bp (by omega), show ((i : Nat) : Int).toNat = i by omega]
        by_cases g6 : (bs.getD i []).length ≤ 6
        · rw [bn (by omega), wp (by omega), show ((i : Int) + 1) = ((i + 1 : Nat) : Int) by omega, vbS_it1 (k0 := k0) (k1 := k1) hn hb hl f (i + 1) (by omega) (by omega)]
          by_cases ga : ∀ j, i + 1 ≤ j → j < bs.length → ((bs.getD j []).length ≤ 6 ∧ vo (bs.getD j []) j)
          · rw [if_pos ga, if_pos ⟨⟨g6, gv⟩, ga⟩]
          · rw [if_neg ga, if_neg (fun hh => ga hh.2)]
        · rw [bp (by omega), if_neg (fun hh => g6 hh.1.1)]
      · rw [if_neg (c := ∀ j, 0 ≤ j → j < (bs.getD i []).length → vj (bs.getD i []) i j) gv, if_neg (fun hh => gv hh.1.2)]
    · rw [bn (by omega), if_pos (fun j h1 h2 => by omega)]
theorem vbS {n : Nat} {bs : LL} (hn : 30000000 ≤ n) (hb : bs.length ≤ 20000000) (hl : ∀ l ∈ bs, l.length ≤ 20000000) : F84 n bs = some (B (vb bs ∧ bs.length ≤ 8), ()) := by
  unfold F84 F84_1
  rw [show ((0 : Int)) = ((0 : Nat) : Int) from rfl, vbS_it1 (n := n) hn hb hl n 0 (by omega) (by omega)]
  split
  · rename_i g
    by_cases h : bs.length ≤ 8
    · rw [decide_eq_true (by omega), B_t (p := vb bs ∧ bs.length ≤ 8) ⟨g, h⟩]
    · rw [decide_eq_false (by omega), B_f (p := vb bs ∧ bs.length ≤ 8) (fun hh => h hh.2)]
  · rename_i g; rw [B_f (p := vb bs ∧ bs.length ≤ 8) (fun hh => g hh.1)]
open Classical in
theorem boS_it {R : Type} {n : Nat} {bs : LL} {k0 : Bool → Option R} {k1 : Option R} (hn : 30000000 ≤ n) (hb : bs.length ≤ 8) (hv : vb bs) : ∀ (fuel i : Nat), i ≤ bs.length → bs.length + 1 ≤ fuel + i →
    F63_0_it n k0 k1 fuel bs i = if ∀ j, i ≤ j → j < bs.length → (mro bs 8 (j : Nat)).isSome = true then k1 else k0 false
  | fuel, i, hi, hfl => by
    obtain ⟨f, rfl⟩ : ∃ f, fuel = f + 1 := ⟨fuel - 1, by omega⟩
    simp only [F63_0_it, F63_0_step]
    by_cases g : i < bs.length
    · rw [bp (by omega), mroS8 hn hb hv (by omega) (by omega), propext (all_step g)]
      simp only [ats, enR]
      cases hm : (mro bs 8 (i : Nat)).isSome with
      | false => rw [if_neg (fun hh => by have := hh.1; cases this)]; rfl
      | true =>
        simp only [Bool.not_true, cf]
        rw [wp (by omega), show ((i : Int) + 1) = ((i + 1 : Nat) : Int) by omega, boS_it (k0 := k0) (k1 := k1) hn hb hv f (i + 1) (by omega) (by omega)]
        simp
    · rw [bn (by omega), if_pos (fun j h1 h2 => by omega)]
theorem boS {n : Nat} {bs : LL} (hn : 30000000 ≤ n) (hb : bs.length ≤ 20000000) (hl : ∀ l ∈ bs, l.length ≤ 20000000) : F63 n bs = some (B (BO bs), ()) := by
  unfold F63 F63_0
  rw [vbS hn hb hl]
  simp only [ats]
  by_cases h : vb bs ∧ bs.length ≤ 8
  · rw [B_t h]
    simp only [Bool.not_true, cf]
    rw [show ((0 : Int)) = ((0 : Nat) : Int) from rfl, boS_it (n := n) hn h.2 h.1 n 0 (by omega) (by omega)]
    split
    · rename_i g; rw [B_t (p := BO bs) ⟨h.2, g⟩]
    · rename_i g; rw [B_f (p := BO bs) (fun hh => g hh.2)]
  · rw [B_f h, B_f (p := BO bs) (fun hh => h ⟨BO_vb hh, hh.1⟩)]; rfl
end Go.Proofs.Ytehcejlbfngfdaa.Am
