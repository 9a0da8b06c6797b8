/- Classes: attributes are set; comparisons. -/
import Derived.Test.YtehcejlbfngfdaaAmClassH
namespace Go.Proofs.Ytehcejlbfngfdaa.Am
open Go
set_option autoImplicit false
set_option linter.unusedVariables false
set_option linter.unusedSimpArgs false

-- setting ---------------------------------------------------------------------------------------------------------------------------
open Classical in
noncomputable def upd (s : ByteArray) (v : Int) : List Atr → Option (List Atr)
  | [] => none
  | a :: r => if a.name = s then some (Atr.mk a.name a.kind v :: r) else match upd s v r with | some r' => some (a :: r') | none => none
theorem upd_hit {s : ByteArray} {v : Int} {a : Atr} {r : List Atr} (h : a.name = s) : upd s v (a :: r) = some (Atr.mk a.name a.kind v :: r) := by simp only [upd]; rw [if_pos h]
theorem upd_miss {s : ByteArray} {v : Int} {a : Atr} {r : List Atr} (h : ¬ a.name = s) : upd s v (a :: r) = match upd s v r with | some r' => some (a :: r') | none => none := by simp only [upd]; rw [if_neg h]
theorem set_at {α : Type} {l : List α} {i : Nat} {a : α} (h : i < l.length) : l.set i a = l.take i ++ a :: l.drop (i + 1) := List.set_eq_take_append_cons_drop.trans (if_pos h)
theorem updI_it {R : Type} {n : Nat} {l : List Atr} {s : ByteArray} {v : Int} {k0 : Bool → List Atr → Option R} {k1 : ByteArray → Int → List Atr → Option R} (h : l.length ≤ 20000000) : ∀ (fuel i : Nat), i ≤ l.length → l.length + 1 ≤ fuel + i →
    F26_0_it n k0 k1 fuel s v l.length i l = match upd s v (l.drop i) with | some r => k0 true (l.take i ++ r) | none => k1 s v l
  | fuel, i, hi, hfl => by
    obtain ⟨f, rfl⟩ : ∃ f, fuel = f + 1 := ⟨fuel - 1, by omega⟩
    simp only [F26_0_it, F26_0_step]
    by_cases g : i < l.length
    · rw [bp (by omega), bp (by omega), bp (by omega), show ((i : Nat) : Int).toNat = i by omega, keq, drop_cons (d := dA) g]
      by_cases g1 : (l.getD i dA).name = s
      · rw [bp g1, bp (by omega), bp (by omega), upd_hit g1, set_at g]
      · rw [bn g1, upd_miss g1, wp (by omega), show ((i : Int) + 1) = ((i + 1 : Nat) : Int) by omega, updI_it (k0 := k0) (k1 := k1) h f (i + 1) (by omega) (by omega)]
        cases upd s v (l.drop (i + 1)) with
        | none => rfl
        | some r =>
          have e : l.take (i + 1) = l.take i ++ [l.getD i dA] := by rw [List.take_add_one, getD_lt g]; simp [g]
          simp only [e, List.append_assoc, List.singleton_append]
    · rw [bn (by omega), List.drop_of_length_le (by omega)]; rfl
theorem upd_at {s : ByteArray} {v : Int} : ∀ {l : List Atr} {j : Nat}, j < l.length → (∀ q, q < j → (l.getD q dA).name ≠ s) → (l.getD j dA).name = s → upd s v l = some (l.set j (Atr.mk (l.getD j dA).name (l.getD j dA).kind v))
  | a :: r, 0, hj, hq, h => upd_hit h
  | a :: r, j + 1, hj, hq, h => by
    rw [upd_miss (show ¬ a.name = s from hq 0 (by omega)), upd_at (l := r) (j := j) (by simpa using hj) (fun q h => hq (q + 1) (by omega)) h]
    rfl
theorem upd_none {s : ByteArray} {v : Int} : ∀ {l : List Atr}, fa s l = none → upd s v l = none
  | [], _ => rfl
  | a :: r, h => by
    by_cases g : a.name = s
    · rw [fa_hit g] at h; cases h
    · rw [fa_miss g] at h; rw [upd_miss g, upd_none h]
open Classical in
noncomputable def AS (L : List Cls) (c : Int) (own : List Atr) (s : ByteArray) (v : Int) : Option (List Atr) :=
  if CO L ∧ PL own ∧ (0 ≤ c ∧ c < L.length) ∧ NM s ∧ (-1000000 ≤ v ∧ v ≤ 1000000) then
    (if ∃ a d, AF L c s = some (a, d) ∧ a.kind = 3 then some own else match upd s v own with
      | some r => some r
      | none => if own.length = 60 then none else some (own ++ [Atr.mk s 1 v]))
  else none
abbrev enL (o : Option (List Atr)) : List Atr × (Bool × Unit) := (o.getD [], (o.isSome, ()))
theorem cloA {n : Nat} {l : List Atr} (h : l.length ≤ 20000000) : F57 n l = some ((), (l, ())) := by
  unfold F57
  cases l with
  | nil => rw [bp (by simp), bp (by simp)]; exact both_self _
  | cons a l => rw [bn (by simp), bp (by simp at h ⊢; omega)]; rfl
theorem updI {n : Nat} {own : List Atr} {s : ByteArray} {v : Int} (hn : 30000000 ≤ n) (hol : own.length ≤ 1048576) : (F26_0 n s v ((own.length) : Int) (0 : Int) own (fun z1964 z1965 =>
  some ((z1965, (z1964, ())), ())) (fun z1966 z1967 z1968 =>
  (bif (((z1968.length) : Int) == (60 : Int)) then
  some (([], (false, ())), ())
  else let v1971 := ((Atr.mk z1966 (1 : Int) z1967) :: [])
  (bif (decide (((z1968.length) + (v1971.length)) ≤ (68719476736 : Nat))) then
  some (((z1968 ++ v1971), (true, ())), ())
  else none)))) = some (enL (match upd s v own with
      | some r => some r
      | none => if own.length = 60 then none else some (own ++ [Atr.mk s 1 v])), ()) := by
  unfold F26_0
  have e := updI_it (n := n) (l := own) (s := s) (v := v) (k0 := fun z1964 z1965 => some ((z1965, (z1964, ())), ())) (k1 := fun z1966 z1967 z1968 =>
  (bif (((z1968.length) : Int) == (60 : Int)) then
  some (([], (false, ())), ())
  else let v1971 := ((Atr.mk z1966 (1 : Int) z1967) :: [])
  (bif (decide (((z1968.length) + (v1971.length)) ≤ (68719476736 : Nat))) then
  some (((z1968 ++ v1971), (true, ())), ())
  else none))) (by omega) n 0 (by omega) (by omega)
  rw [Int.natCast_zero] at e
  rw [e, List.drop_zero]
  cases upd s v own with
  | some r => rfl
  | none =>
    dsimp only
    by_cases h : own.length = 60
    · rw [eqp (by omega), if_pos h]; rfl
    · rw [eqn (by omega), if_neg h, bp (by simp; omega)]; rfl
theorem setI {n : Nat} {L : List Cls} {c : Int} {own : List Atr} {s : ByteArray} {v : Int} (hn : 30000000 ≤ n) (sz : SZ L) (so : SO own) : F26 n L c own s v = some (enL (AS L c own s v), ()) := by
  have hlen := sz.len
  have hol := so.len
  unfold F26
  rw [coI hn sz]
  simp only [ats]
  by_cases h : CO L
  case neg => rw [nB h]; unfold AS; rw [if_neg (fun hh => h hh.1)]; rfl
  rw [nBn h, plI hn so.len]
  simp only [ats]
  by_cases hp : PL own
  case neg => rw [nB hp]; unfold AS; rw [if_neg (fun hh => hp hh.2.1)]; rfl
  rw [nBn hp]
  by_cases h0 : c < 0
  · rw [bp h0]; unfold AS; rw [if_neg (fun hh => by have := hh.2.2.1.1; omega)]; rfl
  rw [bn h0]
  by_cases h1 : c ≥ L.length
  · rw [bp h1]; unfold AS; rw [if_neg (fun hh => by have := hh.2.2.1.2; omega)]; rfl
  rw [bn h1, nameI (by omega)]
  simp only [ats]
  by_cases h2 : NM s
  case neg => rw [nB h2]; unfold AS; rw [if_neg (fun hh => h2 hh.2.2.2.1)]; rfl
  rw [nBn h2, withI]
  simp only [ats]
  by_cases h3 : -1000000 ≤ v ∧ v ≤ 1000000
  case neg => rw [np h3]; unfold AS; rw [if_neg (fun hh => h3 hh.2.2.2.2)]; rfl
  rw [nn h3, cloA (by omega), afI hn sz]
  simp only [ats]
  unfold AS
  rw [if_pos ⟨h, hp, ⟨by omega, by omega⟩, h2, h3⟩]
  cases hf : AF L c s with
  | none =>
    simp only [cf]
    rw [if_neg (fun hh => by obtain ⟨a, d, e, _⟩ := hh; cases e)]
    exact updI hn hol
  | some p =>
    obtain ⟨a, d⟩ := p
    simp only [ct]
    by_cases hk : a.kind = 3
    · rw [eqp hk, if_pos ⟨a, d, rfl, hk⟩]; rfl
    · rw [eqn hk, if_neg (fun hh => by obtain ⟨a', d', e, e2⟩ := hh; cases e; exact hk e2)]
      exact updI hn hol
theorem setS {n : Nat} {L : List Cls} {c : Int} {own : List Atr} {s : ByteArray} {v : Int} (hn : 30000000 ≤ n) (sz : SZ L) (so : SO own) (hs : s.size ≤ 1048576) : F28 n L c own s v = some (enL (AS L c own s v), ()) := by
  have hlen := sz.len
  have hol := so.len
  unfold F28
  rw [coS hn sz]
  simp only [ats]
  by_cases h : CO L
  case neg => rw [nB h]; unfold AS; rw [if_neg (fun hh => h hh.1)]; rfl
  rw [nBn h, rangeS, wp (by omega)]
  simp only [ats]
  by_cases hr : 0 ≤ c ∧ c ≤ (L.length : Int) - 1
  case neg => rw [np hr]; unfold AS; rw [if_neg (fun hh => hr ⟨hh.2.2.1.1, by have := hh.2.2.1.2; omega⟩)]; rfl
  rw [nn hr, plS hn so.len so.nl]
  simp only [ats]
  by_cases hp : PL own
  case neg => rw [nB hp]; unfold AS; rw [if_neg (fun hh => hp hh.2.1)]; rfl
  rw [nBn hp, nameS (by omega) hs]
  simp only [ats]
  by_cases h2 : NM s
  case neg => rw [nB h2]; unfold AS; rw [if_neg (fun hh => h2 hh.2.2.2.1)]; rfl
  rw [nBn h2, rangeS]
  simp only [ats]
  by_cases h3 : -1000000 ≤ v ∧ v ≤ 1000000
  case neg => rw [np h3]; unfold AS; rw [if_neg (fun hh => h3 hh.2.2.2.2)]; rfl
  rw [nn h3, bp (by simp; omega), ffS hn sz h hr.1 (by omega)]
  simp only [ats, List.nil_append]
  unfold AS
  rw [if_pos ⟨h, hp, ⟨by omega, by omega⟩, h2, h3⟩]
  have tail : ∀ (X : Option (List Atr)) (j : Int), ((∃ q : Nat, q < own.length ∧ fa s own = some (own.getD q dA) ∧ (∀ r, r < q → (own.getD r dA).name ≠ s) ∧ j = q) ∨ (fa s own = none ∧ j = -1)) →
      (bif (decide (j ≥ (0 : Int))) then (bif (decide ((0 : Int) ≤ j)) then (bif (decide (j < ((own.length) : Int))) then
        some (((own.set j.toNat (Atr.mk (own.getD j.toNat dA).name (own.getD j.toNat dA).kind v)), (true, ())), ()) else none) else none)
      else (bif (((own.length) : Int) == (60 : Int)) then some (([], (false, ())), ())
      else (bif (decide (((own.length) + ((Atr.mk s 1 v) :: []).length) ≤ (68719476736 : Nat))) then some (((own ++ ((Atr.mk s 1 v) :: [])), (true, ())), ()) else none)))
      = some (enL (match upd s v own with
      | some r => some r
      | none => if own.length = 60 then none else some (own ++ [Atr.mk s 1 v])), ()) := by
    intro X j hj
    rcases hj with ⟨q, q1, q2, q3, rfl⟩ | ⟨q1, rfl⟩
    · rw [bp (by omega), bp (by omega), bp (by omega), show ((q : Nat) : Int).toNat = q by omega, upd_at q1 q3 (fa_mem q2).2]; rfl
    · rw [bn (by omega), upd_none q1]
      dsimp only
      by_cases h : own.length = 60
      · rw [eqp (by omega), if_pos h]; rfl
      · rw [eqn (by omega), if_neg h, bp (by simp; omega)]; rfl
  obtain ⟨j, hj, hje⟩ : ∃ j : Int, ((∃ q : Nat, q < own.length ∧ fa s own = some (own.getD q dA) ∧ (∀ r, r < q → (own.getD r dA).name ≠ s) ∧ j = q) ∨ (fa s own = none ∧ j = -1)) ∧ F54 n own s = some (j, ()) := by
    rcases ixS (n := n) (l := own) (s := s) hn (by omega) with ⟨j, j1, j2, j3, j4⟩ | ⟨j1, j2⟩
    · exact ⟨j, .inl ⟨j, j1, j2, j3, rfl⟩, j4⟩
    · exact ⟨-1, .inr ⟨j1, rfl⟩, j2⟩
  rw [hje]
  simp only [ats]
  unfold F28_0
  cases hf : AF L c s with
  | none =>
    rw [if_neg (fun hh => by obtain ⟨a, d, e, _⟩ := hh; cases e)]
    rw [bn (show ¬ (-1 : Int) ≥ 0 by omega)]
    exact tail none j hj
  | some p =>
    obtain ⟨a, d⟩ := p
    have hd := (AF_rng hf).2.2.2.1
    rw [bp (show d ≥ 0 by omega)]
    by_cases hk : a.kind = 3
    · rw [eqp hk, if_pos ⟨a, d, rfl, hk⟩]; rfl
    · rw [eqn hk, if_neg (fun hh => by obtain ⟨a', d', e, e2⟩ := hh; cases e; exact hk e2)]
      exact tail none j hj

-- comparisons ---------------------------------------------------------------------------------------------------------------------------
theorem babeq (x y : ByteArray) : (x == y) = decide (x = y) := by
  obtain ⟨a⟩ := x
  obtain ⟨b⟩ := y
  show (a == b) = _
  by_cases h : a = b
  · subst h; simp
  · rw [decide_eq_false (fun e => h (by cases e; rfl))]
    exact beq_eq_false_iff_ne.2 h
theorem abeq (a b : Atr) : ((a.name == b.name) && ((a.kind == b.kind) && (a.val == b.val))) = B (a = b) := by
  obtain ⟨x, y, z⟩ := a
  obtain ⟨x', y', z'⟩ := b
  by_cases h : x = x' ∧ y = y' ∧ z = z'
  · obtain ⟨rfl, rfl, rfl⟩ := h
    rw [B_t rfl, babeq]; simp
  · rw [B_f (fun e => by cases e; exact h ⟨rfl, rfl, rfl⟩), babeq]
    by_cases h1 : x = x'
    · by_cases h2 : y = y'
      · have h3 : ¬ z = z' := fun e => h ⟨h1, h2, e⟩
        simp [h3]
      · simp [h2]
    · simp [h1]
open Classical in
theorem sa_it {R : Type} {n : Nat} {a b : List Atr} {k0 : Bool → Option R} {k1 : Option R} (hl : a.length = b.length) (h : a.length ≤ 20000000) : ∀ (fuel i : Nat), i ≤ a.length → a.length + 1 ≤ fuel + i →
    F59_0_it n k0 k1 fuel a b i = if ∀ j, i ≤ j → j < a.length → a.getD j dA = b.getD j dA then k1 else k0 false
  | fuel, i, hi, hfl => by
    obtain ⟨f, rfl⟩ : ∃ f, fuel = f + 1 := ⟨fuel - 1, by omega⟩
    simp only [F59_0_it, F59_0_step]
    by_cases g : i < a.length
    · rw [bp (by omega), bp (by omega), bp (by omega), bp (by omega), bp (by omega), show ((i : Nat) : Int).toNat = i by omega, abeq, propext (all_step g)]
      by_cases g1 : a.getD i dA = b.getD i dA
      · rw [nBn g1, wp (by omega), show ((i : Int) + 1) = ((i + 1 : Nat) : Int) by omega, sa_it (k0 := k0) (k1 := k1) hl h f (i + 1) (by omega) (by omega)]
        by_cases ga : ∀ j, i + 1 ≤ j → j < a.length → a.getD j dA = b.getD j dA
        · rw [if_pos ga, if_pos ⟨g1, ga⟩]
        · rw [if_neg ga, if_neg (fun hh => ga hh.2)]
      · rw [nB g1, if_neg (fun hh => g1 hh.1)]
    · rw [bn (by omega), if_pos (fun j h1 h2 => by omega)]
theorem list_eq {α : Type} {a b : List α} {d : α} (hl : a.length = b.length) (h : ∀ j, 0 ≤ j → j < a.length → a.getD j d = b.getD j d) : a = b := by
  apply List.ext_getElem hl
  intro i h1 h2
  have := h i (by omega) h1
  rw [getD_lt h1, getD_lt h2] at this; exact this
theorem sameA {n : Nat} {a b : List Atr} (hn : 30000000 ≤ n) (h : a.length ≤ 20000000) (hb : b.length ≤ 20000000) : F29 n a b = some (B (a = b), ()) := by
  unfold F29 F59 F59_0
  by_cases hl : a.length = b.length
  · rw [nen (by omega)]
    have e := sa_it (n := n) (a := a) (b := b) (k0 := fun z2129 => some (z2129, ())) (k1 := some (true, ())) hl h n 0 (by omega) (by omega)
    rw [Int.natCast_zero] at e
    rw [e]
    split
    · rename_i g; rw [B_t (list_eq hl g)]; rfl
    · rename_i g; rw [B_f (fun hh => g (by subst hh; exact fun _ _ _ => rfl))]; rfl
  · rw [nep (by omega), B_f (fun hh => hl (by rw [hh]))]; rfl
theorem has_it {R : Type} {n : Nat} {l : List Atr} {a : Atr} {k0 : Bool → Option R} {k1 : Option R} (h : l.length ≤ 20000000) (ha : a ∈ l) : ∀ (fuel i : Nat), i ≤ l.length → l.length + 1 ≤ fuel + i → a ∈ l.drop i →
    F22_0_it n k0 k1 fuel l i a.name a.kind a.val = k0 true
  | fuel, i, hi, hfl, hm => by
    obtain ⟨f, rfl⟩ : ∃ f, fuel = f + 1 := ⟨fuel - 1, by omega⟩
    simp only [F22_0_it, F22_0_step]
    by_cases g : i < l.length
    · rw [drop_cons (d := dA) g] at hm
      rw [bp (by omega), bp (by omega), bp (by omega), show ((i : Nat) : Int).toNat = i by omega, abeq]
      by_cases g1 : l.getD i dA = a
      · rw [cB g1]
      · rw [cBn g1, wp (by omega), show ((i : Int) + 1) = ((i + 1 : Nat) : Int) by omega]
        refine has_it (k0 := k0) (k1 := k1) h ha f (i + 1) (by omega) (by omega) ?_
        rcases List.mem_cons.1 hm with e | hm
        · exact absurd e.symm g1
        · exact hm
    · rw [List.drop_of_length_le (by omega)] at hm; simp at hm
theorem hasA {n : Nat} {l : List Atr} {a : Atr} (hn : 30000000 ≤ n) (h : l.length ≤ 20000000) (ha : a ∈ l) : F22 n l a.name a.kind a.val = some (true, ()) := by
  unfold F22 F22_0
  have e := has_it (n := n) (l := l) (a := a) (k0 := fun z1822 => some (z1822, ())) (k1 := some (false, ())) h ha n 0 (by omega) (by omega) (by simpa using ha)
  rw [Int.natCast_zero] at e
  exact e

-- the order, asked for -----------------------------------------------------------------------------------------------------------------
theorem ofI_it0 {R : Type} {n : Nat} {bs bs' : LL} {own : List Int} {c k x y : Int} {k0 : Bool → Option R} {k1 : LL → Int → LL → Int → Int → Option R} (hn : 30000000 ≤ n) (hl : own.length ≤ 6) (hv : vo own k) : ∀ (fuel i : Nat), i ≤ own.length → own.length + 1 ≤ fuel + i →
    F19_0_it n k0 k1 fuel bs c k own bs' x y own own.length i = k1 bs c bs' x y
  | fuel, i, hi, hfl => by
    obtain ⟨f, rfl⟩ : ∃ f, fuel = f + 1 := ⟨fuel - 1, by omega⟩
    simp only [F19_0_it, F19_0_step]
    by_cases g : i < own.length
    · obtain ⟨v1, v2, v3⟩ := hv i (by omega) g
      rw [bp (by omega), bp (by omega), bp (by omega), show ((i : Nat) : Int).toNat = i by omega, bn (by omega), bn (by omega), bp (by omega), bp (by omega), List.drop_zero, icontI hn (by simp; omega)]
      simp only [ats]
      rw [cBn v3, wp (by omega), show ((i : Int) + 1) = ((i + 1 : Nat) : Int) by omega]
      exact ofI_it0 (k0 := k0) (k1 := k1) hn hl hv f (i + 1) (by omega) (by omega)
    · rw [bn (by omega)]
theorem ofI_it1 {R : Type} {n : Nat} {bs : LL} {c : Int} {k0 : Bool → Option R} {k1 : LL → Int → Option R} (hn : 30000000 ≤ n) (hb : bs.length ≤ 8) (hv : vb bs) : ∀ (fuel i : Nat), i ≤ bs.length → bs.length + 1 ≤ fuel + i →
    F19_1_it n k0 k1 fuel bs c bs bs.length i = k1 bs c
  | fuel, i, hi, hfl => by
    obtain ⟨f, rfl⟩ : ∃ f, fuel = f + 1 := ⟨fuel - 1, by omega⟩
    simp only [F19_1_it, F19_1_step]
    by_cases g : i < bs.length
    · obtain ⟨v1, v2⟩ := hv i (by omega) g
      rw [bp (by omega), bp (by omega), bp (by omega), show ((i : Nat) : Int).toNat = i by omega, bn (by omega)]
      unfold F19_0
      have e := ofI_it0 (n := n) (bs := bs) (bs' := bs) (c := c) (x := bs.length) (y := i) (k0 := fun z1728 => k0 z1728) (k1 := fun z1729 z1730 z1731 z1732 z1733 =>
        F19_1_it n k0 k1 f z1729 z1730 z1731 z1732 (IntKind.wrap .i64 (z1733 + (1 : Int)))) hn v1 v2 n 0 (by omega) (by omega)
      rw [Int.natCast_zero] at e
      rw [e, wp (by omega), show ((i : Int) + 1) = ((i + 1 : Nat) : Int) by omega]
      exact ofI_it1 (k0 := k0) (k1 := k1) hn hb hv f (i + 1) (by omega) (by omega)
    · rw [bn (by omega)]
theorem ofI {n : Nat} {L : List Cls} {c : Int} (hn : 30000000 ≤ n) (h : CO L) (h0 : 0 ≤ c) (h1 : c < L.length) : F19 n (bsOf L) c = some ((ord L c, (true, ())), ()) := by
  unfold F19 F19_1
  have e := ofI_it1 (n := n) (bs := bsOf L) (c := c) (k0 := fun z1735 => some (([], (z1735, ())), ())) (k1 := fun z1736 z1737 =>
    (andThen (F45 n z1736 z1737) fun r1738 => some ((r1738.1.1, (r1738.1.2.1, ())), ()))) hn h.1.1 (BO_vb h.1) n 0 (by omega) (by have := h.1.1; omega)
  rw [Int.natCast_zero] at e
  rw [e, mroI8 hn h.1.1 h0 (by simpa using h1), (ord_ok h h0 h1).1]
  rfl
end Go.Proofs.Ytehcejlbfngfdaa.Am
