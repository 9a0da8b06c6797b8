/- Expressions: what is the same, sizes of arguments, copies. -/
import Derived.Test.YtdfnlaikelijeaaAmExprB
import Derived.Test.YtdfnlaikelijeaaAmOpen
namespace Go.Proofs.Ytdfnlaikelijeaa.Am
open Go
set_option autoImplicit false
set_option linter.unusedVariables false
set_option linter.unusedSimpArgs false

theorem lst_eq {α : Type} {a b : List α} {d : α} (h : a.length = b.length) : (∀ j, 0 ≤ j → j < a.length → a.getD j d = b.getD j d) ↔ a = b := by
  constructor
  · intro g
    apply List.ext_getElem h
    intro j h1 h2
    have := g j (by omega) h1
    rw [getD_lt h1, getD_lt h2] at this; exact this
  · rintro rfl j _ _; rfl
open Classical in
open Classical in
open Classical in
open Classical in
noncomputable def sameR (n : Nat) (a b : Ex) : Bool := fit n 7 a && (fit n 7 b && B (a = b))
theorem szT_it {R : Type} {n : Nat} {a : List ByteArray} {k0 k1 : Int → Option R} (hs : ∀ s ∈ a, s.size ≤ 9223372036854775807) (ha : a.length ≤ 1048576) : ∀ (fuel i : Nat) (l : Int), 0 ≤ l → l ≤ 1048576 → i ≤ a.length → a.length + 1 ≤ fuel + i →
    F29_0_it n k0 k1 fuel a l i = k0 (-1) ∨ ∃ r, 0 ≤ r ∧ r ≤ l ∧ F29_0_it n k0 k1 fuel a l i = k1 r ∧ ∀ j, i ≤ j → j < a.length → (a.getD j ⟨#[]⟩).size ≤ 1048576
  | fuel, i, l, h0, h1, hi, hf => by
    obtain ⟨f, rfl⟩ : ∃ f, fuel = f + 1 := ⟨fuel - 1, by omega⟩
    simp only [F29_0_it, F29_0_step]
    by_cases g : i < a.length
    · have hk := hs (a.getD i ⟨#[]⟩) (mem_get.2 ⟨i, g, rfl⟩)
      rw [bp (by omega), bp (by omega), bp (by omega), show ((i : Nat) : Int).toNat = i by omega, wp (by omega)]
      by_cases h : l - (((a.getD i ⟨#[]⟩).size : Nat) : Int) < 0
      · rw [bp h]; exact .inl rfl
      · rw [bn h, wp (by omega)]
        rcases szT_it (k0 := k0) (k1 := k1) (n := n) hs ha f (i + 1) (l - (((a.getD i ⟨#[]⟩).size : Nat) : Int)) (by omega) (by omega) (by omega) (by omega) with r | ⟨r, r1, r2, r3, r4⟩
        · exact .inl r
        · refine .inr ⟨r, r1, by omega, r3, fun j hj1 hj2 => ?_⟩
          by_cases e : i = j
          · subst e; omega
          · exact r4 j (by omega) hj2
    · rw [bn (by omega)]; exact .inr ⟨l, h0, by omega, rfl, fun j h1 h2 => by omega⟩
theorem szTx {n : Nat} {a : List ByteArray} {l : Int} (hn : 3000000 ≤ n) (h0 : 0 ≤ l) (h1 : l ≤ 1048576) (ha : a.length ≤ 9223372036854775807) (hs : ∀ s ∈ a, s.size ≤ 9223372036854775807) : ∃ r, F29 n a l = some (r, ()) ∧ r ≤ l ∧ (0 ≤ r → a.length ≤ 1048576 ∧ ∀ s ∈ a, s.size ≤ 1048576) := by
  unfold F29 F29_0
  rw [wp (by omega)]
  by_cases h : l - (a.length : Int) < 0
  · rw [bp h]; exact ⟨_, rfl, by omega, fun h => by omega⟩
  · rw [bn h]
    rcases szT_it (R := Int × Unit) (n := n) (a := a) (k0 := fun z38 => some (z38, ())) (k1 := fun z39 => some (z39, ())) hs (by omega) n 0 (l - (a.length : Int)) (by omega) (by omega) (by omega) (by omega) with r | ⟨r, r1, r2, r3, r4⟩
    · rw [show ((0 : Nat) : Int) = 0 from rfl] at r
      exact ⟨_, r, by omega, fun h => by omega⟩
    · rw [show ((0 : Nat) : Int) = 0 from rfl] at r3
      refine ⟨_, r3, by omega, fun h => ⟨by omega, fun s hs' => ?_⟩⟩
      obtain ⟨j, hj, rfl⟩ := mem_get.1 hs'
      exact r4 j (by omega) hj
def Bd (e : Ex) : Prop := e.text.size ≤ 9223372036854775807 ∧ e.names.length ≤ 9223372036854775807 ∧ (∀ s ∈ e.names, s.size ≤ 9223372036854775807) ∧ SmV G (.imm 4 (e.kids : List (G.T 4)))
theorem names_sm {l : List ByteArray} (h : SmV G (.imm 2 (l : List (G.T 2)))) : ∀ s ∈ l, s.size ≤ 9223372036854775807 := fun s hs => by
  obtain ⟨i, hi, e⟩ := List.getElem_of_mem hs
  have := h.elt (i := i) (x := s) (by rw [← e]; exact List.getElem?_eq_getElem hi) (j := 0) (d := .lit (.string s)) rfl
  exact this.siz
theorem kids_bd {l : List Ex} (h : SmV G (.imm 4 (l : List (G.T 4)))) : ∀ e ∈ l, Bd e := fun e he => by
  obtain ⟨i, hi, hh⟩ := List.getElem_of_mem he
  have hx : (l : List (G.T 4))[i]? = some e := by rw [← hh]; exact List.getElem?_eq_getElem hi
  have h1 := h.elt hx (j := 1) (d := .lit (.string e.text)) rfl
  have h2 := h.elt hx (j := 2) (d := .imm 2 (e.names : List (G.T 2))) rfl
  have h3 := h.elt hx (j := 3) (d := .imm 4 (e.kids : List (G.T 4))) rfl
  exact ⟨h1.siz, h2.len, names_sm h2, h3⟩
theorem szK_it {R : Type} {n k L : Nat} {a : List Ex} {k0 k1 : Int → Option R} (hr : ∀ e ∈ a, ∀ l : Int, 0 ≤ l → l ≤ L → ∃ r, (Q9it n k).1 e.kind e.text e.names e.kids l = some (r, ()) ∧ r ≤ l ∧ (0 ≤ r → Smx (L + 1) e)) (ha : a.length ≤ 1048576) : ∀ (fuel i : Nat) (l : Int), 0 ≤ l → l ≤ L → i ≤ a.length → a.length + 1 ≤ fuel + i →
    F30b_0_it n (Q9it n k) k0 k1 fuel a l i = k0 (-1) ∨ ∃ r, 0 ≤ r ∧ r ≤ l ∧ F30b_0_it n (Q9it n k) k0 k1 fuel a l i = k1 r ∧ ∀ j, i ≤ j → j < a.length → Smx (L + 1) (a.getD j (Ex.mk 0 ⟨#[]⟩ [] []))
  | fuel, i, l, h0, h1, hi, hf => by
    obtain ⟨f, rfl⟩ : ∃ f, fuel = f + 1 := ⟨fuel - 1, by omega⟩
    simp only [F30b_0_it, F30b_0_step]
    by_cases g : i < a.length
    · obtain ⟨r, r1, r2, r3⟩ := hr _ (kid_mem g) l h0 h1
      rw [bp (by omega), bp (by omega), bp (by omega), show ((i : Nat) : Int).toNat = i by omega, r1]
      simp only [ats]
      by_cases h : r < 0
      · rw [bp h]; exact .inl rfl
      · rw [bn h, wp (by omega)]
        rcases szK_it (k0 := k0) (k1 := k1) hr ha f (i + 1) r (by omega) (by omega) (by omega) (by omega) with q | ⟨q, q1, q2, q3, q4⟩
        · exact .inl q
        · refine .inr ⟨q, q1, by omega, q3, fun j hj1 hj2 => ?_⟩
          by_cases e : i = j
          · subst e; exact r3 (by omega)
          · exact q4 j (by omega) hj2
    · rw [bn (by omega)]; exact .inr ⟨l, h0, by omega, rfl, fun j h1 h2 => by omega⟩
theorem szE {n : Nat} (hn : 3000000 ≤ n) : ∀ (L k : Nat) (e : Ex) (l : Int), Bd e → 0 ≤ l → l ≤ L → L ≤ 1048576 → 2 * L + 2 ≤ k → ∃ r, (Q9it n k).1 e.kind e.text e.names e.kids l = some (r, ()) ∧ r ≤ l ∧ (0 ≤ r → Smx (L + 1) e)
  | L, k + 2, e, l, ⟨b1, b2, b3, b4⟩, h0, h1, hL, hk => by
    show ∃ r, F9b n (Q9it n (k + 1)) e.kind e.text e.names e.kids l = some (r, ()) ∧ _
    unfold F9b
    rw [wp (by omega)]
    by_cases c1 : l - ((e.text.size : Nat) : Int) < 0
    · rw [bp c1]; exact ⟨_, rfl, by omega, fun h => by omega⟩
    rw [bn c1]
    obtain ⟨r, r1, r2, r3⟩ := szTx (n := n) (a := e.names) (l := l - ((e.text.size : Nat) : Int)) hn (by omega) (by omega) b2 b3
    rw [r1]; simp only [ats]
    by_cases c2 : r < 0
    · rw [bp c2]; exact ⟨_, rfl, by omega, fun h => by omega⟩
    rw [bn c2]
    obtain ⟨s1, s2⟩ := r3 (by omega)
    show ∃ q, (andThen (F30b n (Q9it n k) e.kids r) fun r1910 => (bif (decide (r1910.1 < (0 : Int))) then some ((-1 : Int), ()) else some (r1910.1, ()))) = some (q, ()) ∧ _
    unfold F30b
    have hkl := b4.len
    have hkl : e.kids.length ≤ 9223372036854775807 := hkl
    rw [wp (by omega)]
    by_cases c3 : r - ((e.kids.length : Nat) : Int) < 0
    · rw [bp c3]; exact ⟨-1, rfl, by omega, fun h => by omega⟩
    rw [bn c3]
    unfold F30b_0
    match L, hL, hk, h1 with
    | 0, hL, hk, h1 =>
      have : e.kids.length = 0 := by omega
      have hnil : e.kids = [] := List.length_eq_zero_iff.1 this
      obtain ⟨f, hf⟩ : ∃ f, n = f + 1 := ⟨n - 1, by omega⟩
      have t : F30b_0_it n (Q9it n k) (fun z1930 => (some (z1930, ()) : Option (Int × Unit))) (fun z1931 => some (z1931, ())) n e.kids (r - ((e.kids.length : Nat) : Int)) 0 = some (r - ((e.kids.length : Nat) : Int), ()) := by
        conv => lhs; arg 5; rw [hf]
        simp only [F30b_0_it, F30b_0_step]
        rw [bn (by omega)]
      rw [t]; simp only [ats]
      rw [bn (by omega)]
      exact ⟨_, rfl, by omega, fun _ => ⟨by omega, s1, s2, by omega, fun x hx => by rw [hnil] at hx; cases hx⟩⟩
    | L + 1, hL, hk, h1 =>
      by_cases hz : e.kids.length = 0
      · have hnil : e.kids = [] := List.length_eq_zero_iff.1 hz
        obtain ⟨f, hf⟩ : ∃ f, n = f + 1 := ⟨n - 1, by omega⟩
        have t : F30b_0_it n (Q9it n k) (fun z1930 => (some (z1930, ()) : Option (Int × Unit))) (fun z1931 => some (z1931, ())) n e.kids (r - ((e.kids.length : Nat) : Int)) 0 = some (r - ((e.kids.length : Nat) : Int), ()) := by
          conv => lhs; arg 5; rw [hf]
          simp only [F30b_0_it, F30b_0_step]
          rw [bn (by omega)]
        rw [t]; simp only [ats]
        rw [bn (by omega)]
        exact ⟨_, rfl, by omega, fun _ => ⟨by omega, s1, s2, by omega, fun x hx => by rw [hnil] at hx; cases hx⟩⟩
      · rcases szK_it (R := Int × Unit) (n := n) (k := k) (L := L) (a := e.kids) (k0 := fun z1930 => some (z1930, ())) (k1 := fun z1931 => some (z1931, ())) (fun x hx l' h0' h1' => szE hn L k x l' (kids_bd b4 x hx) h0' h1' (by omega) (by omega)) (by omega) n 0 (r - ((e.kids.length : Nat) : Int)) (by omega) (by omega) (by omega) (by omega) with q | ⟨q, q1, q2, q3, q4⟩
        · rw [show ((0 : Nat) : Int) = 0 from rfl] at q
          rw [q]; simp only [ats]
          exact ⟨-1, rfl, by omega, fun h => by omega⟩
        · rw [show ((0 : Nat) : Int) = 0 from rfl] at q3
          rw [q3]; simp only [ats]
          rw [bn (by omega)]
          exact ⟨q, rfl, by omega, fun _ => ⟨by omega, s1, s2, by omega, fun x hx => (kid_all (p := fun x => Smx (L + 1) x)).1 q4 x hx⟩⟩

-- copies -------------------------------------------------------------------------------------------------------------------------------
theorem getD_set' {α : Type} {l : List α} {i j : Nat} {v d : α} (h : i < l.length) : (l.set i v).getD j d = if i = j then v else l.getD j d := by
  simp only [List.getD, List.getElem?_set]
  by_cases e : i = j
  · subst e; rw [if_pos rfl, if_pos rfl, if_pos h]; rfl
  · rw [if_neg e, if_neg e]
theorem fill_set {α : Type} {a l : List α} {d : α} {i : Nat} (hl : l.length = a.length) (hi : i < a.length) (hp : ∀ j, j < i → l.getD j d = a.getD j d) : (l.set i (a.getD i d)).length = a.length ∧ ∀ j, j < i + 1 → (l.set i (a.getD i d)).getD j d = a.getD j d := by
  refine ⟨by simpa using hl, fun j hj => ?_⟩
  rw [getD_set' (by omega)]
  by_cases e : i = j
  · subst e; rw [if_pos rfl]
  · rw [if_neg e]; exact hp j (by omega)
theorem fill_end {α : Type} {a l : List α} {d : α} (hl : l.length = a.length) (hp : ∀ j, j < a.length → l.getD j d = a.getD j d) : l = a := by
  apply List.ext_getElem hl
  intro j h1 h2
  have := hp j h2
  rw [getD_lt h1, getD_lt h2] at this; exact this
theorem toT_it {R : Type} {n : Nat} {a : List ByteArray} {k0 : List ByteArray → Option R} (ha : a.length ≤ 1048576) : ∀ (fuel i : Nat) (l : List ByteArray), l.length = a.length → i ≤ a.length → (∀ j, j < i → l.getD j ⟨#[]⟩ = a.getD j ⟨#[]⟩) → a.length + 1 ≤ fuel + i →
    F32_0_it n k0 fuel a i l = k0 a
  | fuel, i, l, hl, hi, hp, hf => by
    obtain ⟨f, rfl⟩ : ∃ f, fuel = f + 1 := ⟨fuel - 1, by omega⟩
    simp only [F32_0_it, F32_0_step]
    by_cases g : i < a.length
    · obtain ⟨s1, s2⟩ := fill_set (d := (⟨#[]⟩ : ByteArray)) hl g hp
      rw [bp (by omega), bp (by omega), bp (by omega), bp (by omega), bp (by omega), wp (by omega), show ((i : Nat) : Int).toNat = i by omega]
      exact toT_it ha f (i + 1) _ s1 (by omega) s2 (by omega)
    · rw [bn (by omega), fill_end hl (fun j hj => hp j (by omega))]
theorem toT {n : Nat} {a : List ByteArray} (hn : 3000000 ≤ n) (ha : a.length ≤ 1048576) : F32 n a = some (a, ()) := by
  unfold F32 F32_0
  rw [bp (by omega), bp (by omega), bp (by omega)]
  exact toT_it (R := List ByteArray × Unit) (n := n) (k0 := fun z => some (z, ())) ha n 0 (List.replicate ((a.length : Nat) : Int).toNat ⟨#[]⟩) (by simp) (by omega) (fun j hj => by omega) (by omega)
theorem exEta (x : Ex) : Ex.mk x.kind x.text x.names x.kids = x := by cases x; rfl
theorem toK_it {R : Type} {n k : Nat} {a : List Ex} {k0 : List Ex → Option R} (ha : a.length ≤ 1048576) (hr : ∀ e ∈ a, (Q11it n k).1 e.kind e.text e.names e.kids = some ((e.kind, (e.text, (e.names, (e.kids, ())))), ())) : ∀ (fuel i : Nat) (l : List Ex), l.length = a.length → i ≤ a.length → (∀ j, j < i → l.getD j (Ex.mk 0 ⟨#[]⟩ [] []) = a.getD j (Ex.mk 0 ⟨#[]⟩ [] [])) → a.length + 1 ≤ fuel + i →
    F33b_0_it n (Q11it n k) k0 fuel a i l = k0 a
  | fuel, i, l, hl, hi, hp, hf => by
    obtain ⟨f, rfl⟩ : ∃ f, fuel = f + 1 := ⟨fuel - 1, by omega⟩
    simp only [F33b_0_it, F33b_0_step]
    by_cases g : i < a.length
    · obtain ⟨s1, s2⟩ := fill_set (d := (Ex.mk 0 ⟨#[]⟩ [] [])) hl g hp
      rw [bp (by omega), bp (by omega), bp (by omega), show ((i : Nat) : Int).toNat = i by omega, hr _ (kid_mem g)]; simp only [ats]
      rw [bp (by omega), bp (by omega), wp (by omega), exEta]
      exact toK_it ha hr f (i + 1) _ s1 (by omega) s2 (by omega)
    · rw [bn (by omega), fill_end hl (fun j hj => hp j (by omega))]
theorem toE {n : Nat} (hn : 3000000 ≤ n) : ∀ (d k : Nat) (e : Ex), Smx d e → 2 * d ≤ k → (Q11it n k).1 e.kind e.text e.names e.kids = some ((e.kind, (e.text, (e.names, (e.kids, ())))), ())
  | d + 1, k + 2, e, ⟨h1, h2, h3, h4, h5⟩, hk => by
    show F11b n (Q11it n (k + 1)) e.kind e.text e.names e.kids = _
    unfold F11b
    rw [toT hn h2]; simp only [ats]
    show (andThen (F33b n (Q11it n k) e.kids) fun r1995 => some ((e.kind, (e.text, (e.names, (r1995.1, ())))), ())) = _
    unfold F33b F33b_0
    rw [bp (by omega), bp (by omega), bp (by omega)]
    have t := toK_it (R := List Ex × Unit) (n := n) (k := k) (k0 := fun z => some (z, ())) h4 (fun x hx => toE hn d k x (h5 x hx) (by omega)) n 0 (List.replicate ((e.kids.length : Nat) : Int).toNat (Ex.mk 0 ⟨#[]⟩ [] [])) (by simp) (by omega) (fun j hj => by omega) (by omega)
    rw [show ((0 : Nat) : Int) = 0 from rfl] at t
    rw [t]; rfl
theorem eqT_it {R : Type} {n : Nat} {a : List ByteArray} {k0 : Bool → Option R} {k1 : Option R} (h : a.length ≤ 1048576) : ∀ (fuel i : Nat), i ≤ a.length → a.length + 1 ≤ fuel + i →
    F21_0_it n k0 k1 fuel a a i = k1
  | fuel, i, hi, hf => by
    obtain ⟨f, rfl⟩ : ∃ f, fuel = f + 1 := ⟨fuel - 1, by omega⟩
    simp only [F21_0_it, F21_0_step]
    by_cases g : i < a.length
    · rw [bp (by omega), bp (by omega), bp (by omega), bp (by omega), bp (by omega), keq, nn rfl, wp (by omega)]
      exact eqT_it h f (i + 1) (by omega) (by omega)
    · rw [bn (by omega)]
theorem eqT {n : Nat} {a : List ByteArray} (hn : 3000000 ≤ n) (h : a.length ≤ 1048576) : F21 n a a = some (true, ()) := by
  unfold F21 F21_0
  rw [nen rfl]
  exact eqT_it (R := Bool × Unit) h n 0 (by omega) (by omega)
theorem eqK_it {R : Type} {n k : Nat} {a : List Ex} {k0 : Bool → Option R} {k1 : Option R} (h : a.length ≤ 1048576) (hr : ∀ e ∈ a, (Q13it n k).1 e.kind e.text e.names e.kids e.kind e.text e.names e.kids = some (true, ())) : ∀ (fuel i : Nat), i ≤ a.length → a.length + 1 ≤ fuel + i →
    F35b_0_it n (Q13it n k) k0 k1 fuel a a i = k1
  | fuel, i, hi, hf => by
    obtain ⟨f, rfl⟩ : ∃ f, fuel = f + 1 := ⟨fuel - 1, by omega⟩
    simp only [F35b_0_it, F35b_0_step]
    by_cases g : i < a.length
    · rw [bp (by omega), bp (by omega), bp (by omega), bp (by omega), bp (by omega), show ((i : Nat) : Int).toNat = i by omega, hr _ (kid_mem g)]
      simp only [ats, Bool.not_true, cf]
      rw [wp (by omega)]
      exact eqK_it h hr f (i + 1) (by omega) (by omega)
    · rw [bn (by omega)]
theorem eqE {n : Nat} (hn : 3000000 ≤ n) : ∀ (d k : Nat) (e : Ex), Smx d e → 2 * d ≤ k → (Q13it n k).1 e.kind e.text e.names e.kids e.kind e.text e.names e.kids = some (true, ())
  | d + 1, k + 2, e, ⟨h1, h2, h3, h4, h5⟩, hk => by
    show F13b n (Q13it n (k + 1)) e.kind e.text e.names e.kids e.kind e.text e.names e.kids = _
    unfold F13b
    rw [nen rfl, keq, nn rfl, eqT hn h2]; simp only [ats, Bool.not_true, cf]
    show (andThen (F35b n (Q13it n k) e.kids e.kids) fun r2124 => (bif (!r2124.1) then some (false, ()) else some (true, ()))) = _
    unfold F35b F35b_0
    rw [nen rfl]
    have t := eqK_it (R := Bool × Unit) (n := n) (k := k) (k0 := fun z => some (z, ())) (k1 := some (true, ())) h4 (fun x hx => eqE hn d k x (h5 x hx) (by omega)) n 0 (by omega) (by omega)
    rw [show ((0 : Nat) : Int) = 0 from rfl] at t
    rw [t]; rfl

-- the exact laws -----------------------------------------------------------------------------------------------------------------------
theorem bd_of {y : denC G.T [.int .i64, .str, .imm 2, .imm 4]} (s : ∀ (j : Nat) (d : AV G.T), (encC [.int .i64, .str, .imm 2, .imm 4] y)[j]? = some d → SmV G d) : Bd (Ex.mk y.1 y.2.1 y.2.2.1 y.2.2.2.1) := by
  have h1 := s 1 _ rfl
  have h2 := s 2 _ rfl
  have h3 := s 3 _ rfl
  exact ⟨h1.siz, h2.len, names_sm h2, h3⟩
theorem bb (b : Bool) : (!(b == b)) = false := by cases b <;> rfl
end Go.Proofs.Ytdfnlaikelijeaa.Am
