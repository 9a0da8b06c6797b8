/- Classes: orders are merged. -/
import Derived.Test.YtehcejlbfngfdaaAmClassA
namespace Go.Proofs.Ytehcejlbfngfdaa.Am
open Go
set_option autoImplicit false
set_option linter.unusedVariables false
set_option linter.unusedSimpArgs false

-- numbers in lists ------------------------------------------------------------------------------------------------------------------
theorem iidx_it {R : Type} {n : Nat} {l : List Int} {s : Int} {k0 : Int → Option R} {k1 : Option R} (h : l.length ≤ 20000000) : ∀ (fuel i : Nat), i ≤ l.length → l.length + 1 ≤ fuel + i →
    (∃ j : Nat, j < l.length ∧ i ≤ j ∧ l.getD j 0 = s ∧ F75_0_it n k0 k1 fuel l s l.length i = k0 j) ∨ ((∀ j, i ≤ j → j < l.length → l.getD j 0 ≠ s) ∧ F75_0_it n k0 k1 fuel l s l.length i = k1)
  | fuel, i, hi, hf => by
    obtain ⟨f, rfl⟩ : ∃ f, fuel = f + 1 := ⟨fuel - 1, by omega⟩
    simp only [F75_0_it, F75_0_step]
    by_cases g : i < l.length
    · rw [bp (by omega), bp (by omega), bp (by omega), show ((i : Nat) : Int).toNat = i by omega, wp (by omega)]
      by_cases g2 : s = l.getD i 0
      · rw [eqp g2]; exact .inl ⟨i, g, Nat.le_refl _, g2.symm, rfl⟩
      · rw [eqn g2]
        rcases iidx_it (n := n) (s := s) (k0 := k0) (k1 := k1) h f (i + 1) (by omega) (by omega) with ⟨j, j1, j2, j3, j4⟩ | ⟨j1, j2⟩
        · exact .inl ⟨j, j1, by omega, j3, j4⟩
        · refine .inr ⟨fun j h1 h2 => ?_, j2⟩
          by_cases e : i = j
          · subst e; exact fun e => g2 e.symm
          · exact j1 j (by omega) h2
    · rw [bn (by omega)]; exact .inr ⟨fun j h1 h2 => by omega, rfl⟩
theorem imem_get {l : List Int} {s : Int} : s ∈ l ↔ ∃ j, j < l.length ∧ l.getD j 0 = s := by
  constructor
  · intro hm
    obtain ⟨j, hj, e⟩ := List.getElem_of_mem hm
    exact ⟨j, hj, by rw [getD_lt hj]; exact e⟩
  · rintro ⟨j, h2, h3⟩
    rw [getD_lt h2] at h3; rw [← h3]; exact List.getElem_mem _
theorem icontI {n : Nat} {l : List Int} {s : Int} (hn : 30000000 ≤ n) (h : l.length ≤ 20000000) : F49 n l s = some (B (s ∈ l), ()) := by
  unfold F49 F75 F75_0
  rcases iidx_it (n := n) (s := s) (k0 := fun z => some (z, ())) (k1 := some ((-1 : Int), ())) h n 0 (by omega) (by omega) with ⟨j, j1, j2, j3, j4⟩ | ⟨j1, j2⟩
  · rw [show ((0 : Int)) = ((0 : Nat) : Int) from rfl, j4]
    simp only [ats]
    rw [B_t (imem_get.2 ⟨j, j1, j3⟩), decide_eq_true (by omega)]
  · rw [show ((0 : Int)) = ((0 : Nat) : Int) from rfl, j2]
    simp only [ats]
    rw [B_f (fun hm => by obtain ⟨j, h1, h2⟩ := imem_get.1 hm; exact j1 j (by omega) h1 h2)]
    rfl
theorem inl_it {R : Type} {n : Nat} {l : List Int} {s : Int} {k0 : Bool → Option R} {k1 : Option R} (h : l.length ≤ 20000000) : ∀ (fuel i : Nat), i ≤ l.length → l.length + 1 ≤ fuel + i →
    (∃ j : Nat, j < l.length ∧ i ≤ j ∧ l.getD j 0 = s ∧ F51_0_it n k0 k1 fuel l s i = k0 true) ∨ ((∀ j, i ≤ j → j < l.length → l.getD j 0 ≠ s) ∧ F51_0_it n k0 k1 fuel l s i = k1)
  | fuel, i, hi, hf => by
    obtain ⟨f, rfl⟩ : ∃ f, fuel = f + 1 := ⟨fuel - 1, by omega⟩
    simp only [F51_0_it, F51_0_step]
    by_cases g : i < l.length
    · rw [bp (by omega), bp (by omega), bp (by omega), show ((i : Nat) : Int).toNat = i by omega, wp (by omega)]
      by_cases g2 : l.getD i 0 = s
      · rw [eqp g2]; exact .inl ⟨i, g, Nat.le_refl _, g2, rfl⟩
      · rw [eqn g2]
        rcases inl_it (n := n) (s := s) (k0 := k0) (k1 := k1) h f (i + 1) (by omega) (by omega) with ⟨j, j1, j2, j3, j4⟩ | ⟨j1, j2⟩
        · exact .inl ⟨j, j1, by omega, j3, j4⟩
        · refine .inr ⟨fun j h1 h2 => ?_, j2⟩
          by_cases e : i = j
          · subst e; exact g2
          · exact j1 j (by omega) h2
    · rw [bn (by omega)]; exact .inr ⟨fun j h1 h2 => by omega, rfl⟩
theorem inlS {n : Nat} {l : List Int} {s : Int} (hn : 30000000 ≤ n) (h : l.length ≤ 20000000) : F51 n l s = some (B (s ∈ l), ()) := by
  unfold F51 F51_0
  rcases inl_it (n := n) (s := s) (k0 := fun z => some (z, ())) (k1 := some (false, ())) h n 0 (by omega) (by omega) with ⟨j, j1, j2, j3, j4⟩ | ⟨j1, j2⟩
  · rw [show ((0 : Int)) = ((0 : Nat) : Int) from rfl, j4]
    rw [B_t (imem_get.2 ⟨j, j1, j3⟩)]
  · rw [show ((0 : Int)) = ((0 : Nat) : Int) from rfl, j2]
    rw [B_f (fun hm => by obtain ⟨j, h1, h2⟩ := imem_get.1 hm; exact j1 j (by omega) h1 h2)]

-- what is merged ----------------------------------------------------------------------------------------------------------------------
abbrev LL : Type := List (List Int)
def fil (A : LL) : LL := A.filter fun l => !l.isEmpty
def tot : LL → Nat
  | [] => 0
  | l :: r => l.length + tot r
def hf (A : LL) (c : Int) : Prop := ∀ m ∈ A, c ∉ m.tail
open Classical in
noncomputable def nx (A : LL) : LL → Option Int
  | [] => none
  | l :: r => if l ≠ [] ∧ hf A (l.getD 0 0) then some (l.getD 0 0) else nx A r
def ad1 (x : Int) (l : List Int) : List Int := if l ≠ [] ∧ l.getD 0 0 = x then l.tail else l
def adv (x : Int) (A : LL) : LL := A.map (ad1 x)
noncomputable def mg : Nat → LL → List Int → Option (List Int)
  | 0, _, _ => none
  | k + 1, A, out => match fil A with
    | [] => some out
    | _ :: _ => match nx A A with
      | none => none
      | some x => mg k (adv x A) (out ++ [x])
def NN (A : LL) : Prop := ∀ l ∈ A, ∀ x ∈ l, (0 : Int) ≤ x

theorem fil_cons_nil {A : LL} : fil ([] :: A) = fil A := by simp [fil]
theorem fil_cons {l : List Int} {A : LL} (h : l ≠ []) : fil (l :: A) = l :: fil A := by cases l <;> simp_all [fil]
theorem fil_ne {A : LL} : ∀ l ∈ fil A, l ≠ [] := by
  intro l hl e
  simp [fil, e] at hl
theorem fil_mem {A : LL} {l : List Int} : l ∈ fil A ↔ l ∈ A ∧ l ≠ [] := by cases l <;> simp [fil]
theorem fil_self {A : LL} (h : ∀ l ∈ A, l ≠ []) : fil A = A := by
  apply List.filter_eq_self.2
  intro l hl
  have := h l hl
  cases l <;> simp_all
theorem fil_fil {A : LL} : fil (fil A) = fil A := fil_self fil_ne
theorem hf_fil {A : LL} {c : Int} : hf (fil A) c ↔ hf A c := by
  constructor
  · intro h m hm
    cases m with
    | nil => simp
    | cons a m => exact h _ (fil_mem.2 ⟨hm, by simp⟩)
  · intro h m hm
    exact h m (fil_mem.1 hm).1
theorem nx_skip {A r : LL} : nx A ([] :: r) = nx A r := by simp [nx]
theorem nx_hit {A r : LL} {l : List Int} (h1 : l ≠ []) (h2 : hf A (l.getD 0 0)) : nx A (l :: r) = some (l.getD 0 0) := by simp only [nx]; rw [if_pos ⟨h1, h2⟩]
theorem nx_miss {A r : LL} {l : List Int} (h2 : ¬ hf A (l.getD 0 0)) : nx A (l :: r) = nx A r := by simp only [nx]; rw [if_neg (fun hh => h2 hh.2)]
theorem nx_fil {A : LL} : ∀ (r : LL), nx (fil A) (fil r) = nx A r
  | [] => rfl
  | [] :: r => by rw [fil_cons_nil, nx_fil r]; simp [nx]
  | (a :: l) :: r => by
    rw [fil_cons (by simp)]
    simp only [nx, nx_fil r]
    rw [propext (hf_fil (A := A) (c := (a :: l).getD 0 0))]
theorem fil_adv {x : Int} : ∀ (A : LL), fil (adv x (fil A)) = fil (adv x A)
  | [] => rfl
  | [] :: A => by
    rw [fil_cons_nil, fil_adv A]
    show _ = fil (ad1 x [] :: adv x A)
    rw [show ad1 x [] = [] by simp [ad1], fil_cons_nil]
  | (a :: l) :: A => by
    rw [fil_cons (by simp)]
    show fil (ad1 x (a :: l) :: adv x (fil A)) = fil (ad1 x (a :: l) :: adv x A)
    by_cases h : ad1 x (a :: l) = []
    · rw [h, fil_cons_nil, fil_cons_nil, fil_adv A]
    · rw [fil_cons h, fil_cons h, fil_adv A]
theorem mg_fil : ∀ (k : Nat) (A : LL) (out : List Int), mg k (fil A) out = mg k A out
  | 0, _, _ => rfl
  | k + 1, A, out => by
    simp only [mg]
    rw [fil_fil, nx_fil]
    split
    · rfl
    · split
      · rfl
      · rename_i x _
        rw [← mg_fil k (adv x (fil A)), fil_adv, mg_fil k (adv x A)]
theorem nx_some {A : LL} {x : Int} : ∀ {r : LL}, nx A r = some x → ∃ l ∈ r, l ≠ [] ∧ l.getD 0 0 = x
  | l :: r, h => by
    simp only [nx] at h
    split at h
    · rename_i g; cases h; exact ⟨l, by simp, g.1, rfl⟩
    · obtain ⟨m, h1, h2⟩ := nx_some h; exact ⟨m, by simp [h1], h2⟩
theorem nx_nn {A r : LL} {x : Int} (h : NN r) (hx : nx A r = some x) : 0 ≤ x := by
  obtain ⟨l, h1, h2, h3⟩ := nx_some hx
  cases l with
  | nil => exact absurd rfl h2
  | cons a l => exact h3 ▸ h _ h1 a (by simp)
theorem ad1_le (x : Int) (l : List Int) : (ad1 x l).length ≤ l.length := by unfold ad1; split <;> simp
theorem tot_adv_le (x : Int) : ∀ (A : LL), tot (adv x A) ≤ tot A
  | [] => Nat.le_refl _
  | l :: A => by
    show (ad1 x l).length + tot (adv x A) ≤ l.length + tot A
    have := ad1_le x l
    have := tot_adv_le x A
    omega
theorem tot_adv {x : Int} : ∀ {A : LL}, (∃ l ∈ A, l ≠ [] ∧ l.getD 0 0 = x) → tot (adv x A) < tot A
  | l :: A, h => by
    show (ad1 x l).length + tot (adv x A) < l.length + tot A
    have h1 := ad1_le x l
    have h2 := tot_adv_le x A
    by_cases g : l ≠ [] ∧ l.getD 0 0 = x
    · have h3 : (ad1 x l).length < l.length := by
        unfold ad1; rw [if_pos g]
        cases l with
        | nil => exact absurd rfl g.1
        | cons a l => simp
      omega
    · have h3 := tot_adv (x := x) (A := A) (by
        obtain ⟨m, hm, h4⟩ := h
        rcases List.mem_cons.1 hm with rfl | hm
        · exact absurd h4 g
        · exact ⟨m, hm, h4⟩)
      omega
theorem tot_fil : ∀ (A : LL), tot (fil A) = tot A
  | [] => rfl
  | [] :: A => by rw [fil_cons_nil, tot_fil A]; simp [tot]
  | (a :: l) :: A => by rw [fil_cons (by simp)]; simp [tot, tot_fil A]
theorem tot_mem : ∀ {A : LL} {l : List Int}, l ∈ A → l.length ≤ tot A
  | m :: A, l, h => by
    simp only [tot]
    rcases List.mem_cons.1 h with rfl | h
    · omega
    · have := tot_mem h; omega
theorem NN_fil {A : LL} (h : NN A) : NN (fil A) := fun l hl => h l (fil_mem.1 hl).1
theorem NN_adv {A : LL} (x : Int) (h : NN A) : NN (adv x A) := by
  intro l hl y hy
  obtain ⟨m, hm, rfl⟩ := List.mem_map.1 hl
  unfold ad1 at hy
  split at hy
  · exact h m hm y (List.mem_of_mem_tail hy)
  · exact h m hm y hy
theorem len_adv (x : Int) (A : LL) : (adv x A).length = A.length := by simp [adv]
theorem len_fil (A : LL) : (fil A).length ≤ A.length := List.length_filter_le _ _

-- the program's --------------------------------------------------------------------------------------------------------------------------
theorem empI {n : Nat} {l : List Int} : F88 n l = some (decide (l = []), ()) := by
  unfold F88
  cases l with
  | nil => rfl
  | cons a l => simp; omega
theorem e_it {R : Type} {n : Nat} {A : LL} {k0 : Int → LL → Option R} {k1 : LL → Option R} (h : A.length ≤ 20000000) : ∀ (fuel i : Nat), i ≤ A.length → A.length + 1 ≤ fuel + i →
    (∃ j : Nat, j < A.length ∧ i ≤ j ∧ A.getD j [] = [] ∧ (∀ q, i ≤ q → q < j → A.getD q [] ≠ []) ∧ F96_0_it n k0 k1 fuel A.length i A = k0 j A) ∨ ((∀ q, i ≤ q → q < A.length → A.getD q [] ≠ []) ∧ F96_0_it n k0 k1 fuel A.length i A = k1 A)
  | fuel, i, hi, hf => by
    obtain ⟨f, rfl⟩ : ∃ f, fuel = f + 1 := ⟨fuel - 1, by omega⟩
    simp only [F96_0_it, F96_0_step]
    by_cases g : i < A.length
    · rw [bp (by omega), bp (by omega), bp (by omega), show ((i : Nat) : Int).toNat = i by omega, wp (by omega), empI]
      simp only [ats]
      by_cases g2 : A.getD i [] = []
      · rw [bp g2]; exact .inl ⟨i, g, Nat.le_refl _, g2, fun q h1 h2 => by omega, rfl⟩
      · rw [bn g2]
        rcases e_it (n := n) (A := A) (k0 := k0) (k1 := k1) h f (i + 1) (by omega) (by omega) with ⟨j, j1, j2, j3, j4, j5⟩ | ⟨j1, j2⟩
        · refine .inl ⟨j, j1, by omega, j3, fun q h1 h2 => ?_, j5⟩
          by_cases e : i = q
          · subst e; exact g2
          · exact j4 q (by omega) h2
        · refine .inr ⟨fun q h1 h2 => ?_, j2⟩
          by_cases e : i = q
          · subst e; exact g2
          · exact j1 q (by omega) h2
    · rw [bn (by omega)]; exact .inr ⟨fun q h1 h2 => by omega, rfl⟩
theorem take_set_lt {α : Type} {l : List α} {i j : Nat} {a : α} (hi : i < l.length) (hij : i < j) : (l.set i a).drop j = l.drop j := by
  apply List.ext_getElem?
  intro q
  rw [List.getElem?_drop, List.getElem?_drop, List.getElem?_set_ne (by omega)]
theorem take_set_succ {α : Type} {l : List α} {i : Nat} {a : α} (hi : i < l.length) : (l.set i a).take (i + 1) = l.take i ++ [a] := by
  apply List.ext_getElem?
  intro q
  have hl : (l.take i).length = i := by simp; omega
  rw [List.getElem?_take, List.getElem?_append, hl]
  by_cases h1 : q < i
  · rw [if_pos (by omega), if_pos h1, List.getElem?_set_ne (by omega), List.getElem?_take, if_pos h1]
  · by_cases h2 : q = i
    · subst h2
      rw [if_pos (by omega), if_neg (by omega), List.getElem?_set_self hi]
      simp
    · rw [if_neg (by omega), if_neg h1]
      rw [List.getElem?_eq_none]; simp; omega
theorem drop_cons {α : Type} {l : List α} {i : Nat} {d : α} (h : i < l.length) : l.drop i = l.getD i d :: l.drop (i + 1) := by
  rw [getD_lt h]; exact List.drop_eq_getElem_cons h
theorem del_it {R : Type} {n : Nat} {k0 : Int → LL → Option R} : ∀ (fuel i j : Nat) (A : LL), i ≤ j → j ≤ A.length → A.length ≤ 20000000 → A.length + 1 ≤ fuel + j →
    ∃ (i' : Nat) (A' : LL), F87_1_it n k0 fuel i j A = k0 i' A' ∧ i' ≤ A'.length ∧ A'.take i' = A.take i ++ fil (A.drop j)
  | fuel, i, j, A, hij, hj, hl, hf => by
    obtain ⟨f, rfl⟩ : ∃ f, fuel = f + 1 := ⟨fuel - 1, by omega⟩
    simp only [F87_1_it, F87_1_step, F87_0]
    by_cases g : j < A.length
    · rw [bp (by omega), bp (by omega), bp (by omega), show ((j : Nat) : Int).toNat = j by omega, empI]
      simp only [ats]
      rw [drop_cons (d := []) g]
      by_cases g2 : A.getD j [] = []
      · rw [nn g2, wp (by omega)]
        rw [show ((j : Int) + 1) = ((j + 1 : Nat) : Int) by omega]
        obtain ⟨i', A', h1, h2, h3⟩ := del_it (n := n) (k0 := k0) f i (j + 1) A (by omega) (by omega) hl (by omega)
        exact ⟨i', A', h1, h2, by rw [h3, g2, fil_cons_nil]⟩
      · rw [np g2, bp (by omega), bp (by omega), wp (by omega), wp (by omega), show ((i : Nat) : Int).toNat = i by omega]
        rw [show ((j : Int) + 1) = ((j + 1 : Nat) : Int) by omega, show ((i : Int) + 1) = ((i + 1 : Nat) : Int) by omega]
        obtain ⟨i', A', h1, h2, h3⟩ := del_it (n := n) (k0 := k0) f (i + 1) (j + 1) (A.set i (A.getD j [])) (by omega) (by simp; omega) (by simpa using hl) (by simp; omega)
        refine ⟨i', A', h1, h2, ?_⟩
        rw [h3, take_set_succ (by omega), take_set_lt (by omega) (by omega), fil_cons g2]
        simp
    · rw [bn (by omega)]
      refine ⟨i, A, rfl, by omega, ?_⟩
      rw [List.drop_of_length_le (by omega)]; simp [fil]
theorem fil_take {A : LL} : ∀ {i : Nat}, (∀ q, q < i → A.getD q [] ≠ []) → i ≤ A.length → fil (A.take i) = A.take i := by
  intro i h hi
  apply fil_self
  intro l hl
  obtain ⟨q, hq, e⟩ := List.getElem_of_mem hl
  simp at hq
  have := h q (by omega)
  rw [getD_lt (by omega)] at this
  rw [← e]; simpa using this
theorem fil_split {A : LL} (i : Nat) : fil A = fil (A.take i) ++ fil (A.drop i) := by
  unfold fil
  rw [← List.filter_append, List.take_append_drop]
theorem delI {n : Nat} {A : LL} (hn : 30000000 ≤ n) (h : A.length ≤ 20000000) : F87 n A = some ((), ((), (fil A, ()))) := by
  unfold F87 F96 F96_0
  rcases e_it (n := n) (A := A) (k0 := fun z421 z422 => some (z421, (z422, ()))) (k1 := fun z423 => some ((-1 : Int), (z423, ()))) h n 0 (by omega) (by omega) with ⟨j, j1, j2, j3, j4, j5⟩ | ⟨j1, j2⟩
  · rw [show ((0 : Int)) = ((0 : Nat) : Int) from rfl, j5]
    simp only [ats]
    rw [eqn (by omega)]
    unfold F87_1
    rw [wp (by omega), show ((j : Int) + 1) = ((j + 1 : Nat) : Int) by omega]
    obtain ⟨i', A', h1, h2, h3⟩ := del_it (n := n) (k0 := fun z446 z447 =>
      (bif (decide ((((0 : Nat) : Int)) ≤ z446)) then
      (bif (decide (z446 ≤ ((z447.length) : Int))) then
      (bif (decide (((z447.length) : Int) ≤ ((z447.length) : Int))) then
      let v448 := (z446.toNat)
      let v449 := ((z447.take v448) ++ (List.replicate ((z447.length) - v448) []))
      (bif (decide ((((0 : Nat) : Int)) ≤ z446)) then
      (bif (decide (z446 ≤ ((v449.length) : Int))) then
      some ((), ((), ((v449.take (z446.toNat)), ())))
      else none)
      else none)
      else none)
      else none)
      else none)) n j (j + 1) A (by omega) (by omega) h (by omega)
    refine h1.trans ?_
    rw [bp (by omega), bp (by omega), bp (by omega)]
    simp only [show ((i' : Nat) : Int).toNat = i' by omega]
    rw [bp (by omega), bp (by simp; omega)]
    rw [List.take_append_of_le_length (by simp; omega), List.take_take, Nat.min_self, h3]
    have e : fil A = A.take j ++ fil (A.drop (j + 1)) := by
      rw [fil_split j, fil_take (fun q hq => j4 q (by omega) hq) (by omega), drop_cons (d := []) j1, j3, fil_cons_nil]
    rw [e]
  · rw [show ((0 : Int)) = ((0 : Nat) : Int) from rfl, j2]
    simp only [ats]
    rw [eqp (by omega)]
    rw [fil_self]
    intro l hl
    obtain ⟨q, hq, e⟩ := List.getElem_of_mem hl
    have := j1 q (by omega) hq
    rw [getD_lt hq, e] at this
    exact this
end Go.Proofs.Ytehcejlbfngfdaa.Am
