/- Classes: the exact laws. -/
import Derived.Test.YtehcejlbfngfdaaAmClassM
namespace Go.Proofs.Ytehcejlbfngfdaa.Am
open Go
set_option autoImplicit false
set_option linter.unusedVariables false
set_option linter.unusedSimpArgs false

structure SmL (L : List Cls) : Prop where
  len : L.length ≤ 9223372036854775807
  bl : ∀ c ∈ L, c.bases.length ≤ 9223372036854775807
  al : ∀ c ∈ L, c.attrs.length ≤ 9223372036854775807
  nl : ∀ c ∈ L, ∀ a ∈ c.attrs, a.name.size ≤ 9223372036854775807

theorem sz65 {n : Nat} {a : List Int} {z : Int} (h0 : 0 ≤ z) (h1 : z ≤ 1048576) (ha : a.length ≤ 9223372036854775807) : ∃ r, F65 n a z = some (r, ()) ∧ r ≤ z ∧ (0 ≤ r → a.length ≤ 1048576) := by
  unfold F65
  rw [wp (by omega)]
  dsimp only
  by_cases h : z - a.length < 0
  · rw [bp h]; exact ⟨_, rfl, by omega, fun h => by omega⟩
  · rw [bn h]; exact ⟨_, rfl, by omega, fun h => by omega⟩
theorem sz85 {n : Nat} {s : ByteArray} {x y z : Int} (h0 : 0 ≤ z) (h1 : z ≤ 1048576) (ha : s.size ≤ 9223372036854775807) : ∃ r, F85 n s x y z = some (r, ()) ∧ r ≤ z ∧ (0 ≤ r → s.size ≤ 1048576) := by
  unfold F85
  rw [wp (by omega)]
  dsimp only
  by_cases h : z - s.size < 0
  · rw [bp h]; exact ⟨_, rfl, by omega, fun h => by omega⟩
  · rw [bn h]; exact ⟨_, rfl, by omega, fun h => by omega⟩
theorem sz66_it {R : Type} {n : Nat} {a : List Atr} {k0 k1 : Int → Option R} (ha : a.length ≤ 1048576) (hs : ∀ x ∈ a, x.name.size ≤ 9223372036854775807) : ∀ (fuel i : Nat) (l : Int), 0 ≤ l → l ≤ 1048576 → i ≤ a.length → a.length + 1 ≤ fuel + i →
    F66_0_it n k0 k1 fuel a l i = k0 (-1) ∨ ∃ r, 0 ≤ r ∧ r ≤ l ∧ F66_0_it n k0 k1 fuel a l i = k1 r ∧ ∀ j, i ≤ j → j < a.length → (a.getD j dA).name.size ≤ 1048576
  | fuel, i, l, h0, h1, hi, hfl => by
    obtain ⟨f, rfl⟩ : ∃ f, fuel = f + 1 := ⟨fuel - 1, by omega⟩
    simp only [F66_0_it, F66_0_step]
    by_cases g : i < a.length
    · rw [bp (by omega), bp (by omega), bp (by omega), show ((i : Nat) : Int).toNat = i by omega]
      obtain ⟨r, r1, r2, r3⟩ := sz85 (n := n) (x := (a.getD i dA).kind) (y := (a.getD i dA).val) h0 h1 (hs (a.getD i dA) (gmem.2 ⟨i, g, rfl⟩))
      rw [r1]; simp only [ats]
      by_cases h : r < 0
      · rw [bp h]; exact .inl rfl
      rw [bn h, wp (by omega), show ((i : Int) + 1) = ((i + 1 : Nat) : Int) by omega]
      rcases sz66_it (n := n) (k0 := k0) (k1 := k1) ha hs f (i + 1) r (by omega) (by omega) (by omega) (by omega) with h2 | ⟨q, q1, q2, q3, q4⟩
      · exact .inl h2
      · refine .inr ⟨q, q1, by omega, q3, fun j j1 j2 => ?_⟩
        by_cases e : i = j
        · subst e; exact r3 (by omega)
        · exact q4 j (by omega) j2
    · rw [bn (by omega)]; exact .inr ⟨l, h0, Int.le_refl _, rfl, fun j h1 h2 => by omega⟩
theorem sz66 {n : Nat} {a : List Atr} {z : Int} (hn : 30000000 ≤ n) (h0 : 0 ≤ z) (h1 : z ≤ 1048576) (ha : a.length ≤ 9223372036854775807) (hs : ∀ x ∈ a, x.name.size ≤ 9223372036854775807) : ∃ r, F66 n a z = some (r, ()) ∧ r ≤ z ∧ (0 ≤ r → a.length ≤ 1048576 ∧ ∀ x ∈ a, x.name.size ≤ 1048576) := by
  unfold F66 F66_0
  rw [wp (by omega)]
  dsimp only
  by_cases h : z - a.length < 0
  · rw [bp h]; exact ⟨_, rfl, by omega, fun h => by omega⟩
  · rw [bn h]
    have e := sz66_it (n := n) (a := a) (k0 := fun z1357 => some (z1357, ())) (k1 := fun z1358 => some (z1358, ())) (by omega) hs n 0 (z - a.length) (by omega) (by omega) (by omega) (by omega)
    rw [Int.natCast_zero] at e
    rcases e with e | ⟨q, q1, q2, q3, q4⟩
    · exact ⟨_, e, by omega, fun h => by omega⟩
    · refine ⟨q, q3, by omega, fun _ => ⟨by omega, fun x hx => ?_⟩⟩
      obtain ⟨j, j1, j2⟩ := (gmem (d := dA)).1 hx
      rw [← j2]; exact q4 j (by omega) j1
theorem sz39 {n : Nat} {c : Cls} {z : Int} (hn : 30000000 ≤ n) (h0 : 0 ≤ z) (h1 : z ≤ 1048576) (hb : c.bases.length ≤ 9223372036854775807) (ha : c.attrs.length ≤ 9223372036854775807) (hs : ∀ x ∈ c.attrs, x.name.size ≤ 9223372036854775807) : ∃ r, F39 n c.bases c.attrs z = some (r, ()) ∧ r ≤ z ∧ (0 ≤ r → c.bases.length ≤ 1048576 ∧ c.attrs.length ≤ 1048576 ∧ ∀ x ∈ c.attrs, x.name.size ≤ 1048576) := by
  unfold F39
  obtain ⟨r, r1, r2, r3⟩ := sz65 (n := n) (a := c.bases) h0 h1 hb
  rw [r1]; simp only [ats]
  by_cases h : r < 0
  · rw [bp h]; exact ⟨_, rfl, by omega, fun h => by omega⟩
  rw [bn h]
  obtain ⟨q, q1, q2, q3⟩ := sz66 (n := n) (a := c.attrs) (z := r) hn (by omega) (by omega) ha hs
  rw [q1]; simp only [ats]
  by_cases h2 : q < 0
  · rw [bp h2]; exact ⟨_, rfl, by omega, fun h => by omega⟩
  rw [bn h2]
  exact ⟨q, rfl, by omega, fun h3 => ⟨r3 (by omega), q3 h3⟩⟩
theorem sz13_it {R : Type} {n : Nat} {L : List Cls} {k0 k1 : Int → Option R} (hn : 30000000 ≤ n) (ha : L.length ≤ 1048576) (sm : SmL L) : ∀ (fuel i : Nat) (l : Int), 0 ≤ l → l ≤ 1048576 → i ≤ L.length → L.length + 1 ≤ fuel + i →
    F13_0_it n k0 k1 fuel L l i = k0 (-1) ∨ ∃ r, 0 ≤ r ∧ r ≤ l ∧ F13_0_it n k0 k1 fuel L l i = k1 r ∧ ∀ j, i ≤ j → j < L.length → ((L.getD j dC).bases.length ≤ 1048576 ∧ (L.getD j dC).attrs.length ≤ 1048576 ∧ ∀ x ∈ (L.getD j dC).attrs, x.name.size ≤ 1048576)
  | fuel, i, l, h0, h1, hi, hfl => by
    obtain ⟨f, rfl⟩ : ∃ f, fuel = f + 1 := ⟨fuel - 1, by omega⟩
    simp only [F13_0_it, F13_0_step]
    by_cases g : i < L.length
    · have hm := (gmem (d := dC)).2 ⟨i, g, rfl⟩
      rw [bp (by omega), bp (by omega), bp (by omega), show ((i : Nat) : Int).toNat = i by omega]
      obtain ⟨r, r1, r2, r3⟩ := sz39 (n := n) (c := L.getD i dC) (z := l) hn h0 h1 (sm.bl _ hm) (sm.al _ hm) (sm.nl _ hm)
      rw [r1]; simp only [ats]
      by_cases h : r < 0
      · rw [bp h]; exact .inl rfl
      rw [bn h, wp (by omega), show ((i : Int) + 1) = ((i + 1 : Nat) : Int) by omega]
      rcases sz13_it (n := n) (k0 := k0) (k1 := k1) hn ha sm f (i + 1) r (by omega) (by omega) (by omega) (by omega) with h2 | ⟨q, q1, q2, q3, q4⟩
      · exact .inl h2
      · refine .inr ⟨q, q1, by omega, q3, fun j j1 j2 => ?_⟩
        by_cases e : i = j
        · subst e; exact r3 (by omega)
        · exact q4 j (by omega) j2
    · rw [bn (by omega)]; exact .inr ⟨l, h0, Int.le_refl _, rfl, fun j h1 h2 => by omega⟩
theorem sz13 {n : Nat} {L : List Cls} (hn : 30000000 ≤ n) (sm : SmL L) : ∃ r, F13 n L 1048576 = some (r, ()) ∧ (0 ≤ r → SZ L) := by
  have hlen := sm.len
  unfold F13 F13_0
  rw [wp (by omega)]
  dsimp only
  by_cases h : (1048576 : Int) - L.length < 0
  · rw [bp h]; exact ⟨_, rfl, fun h => by omega⟩
  · rw [bn h]
    have e := sz13_it (n := n) (L := L) (k0 := fun z1364 => some (z1364, ())) (k1 := fun z1365 => some (z1365, ())) hn (by omega) sm n 0 (1048576 - L.length) (by omega) (by omega) (by omega) (by omega)
    rw [Int.natCast_zero] at e
    rcases e with e | ⟨q, q1, q2, q3, q4⟩
    · exact ⟨_, e, fun h => by omega⟩
    · refine ⟨q, q3, fun _ => ⟨by omega, fun c hc => ?_, fun c hc => ?_, fun c hc => ?_⟩⟩ <;>
        (obtain ⟨j, j1, j2⟩ := (gmem (d := dC)).1 hc; rw [← j2])
      · exact (q4 j (by omega) j1).1
      · exact (q4 j (by omega) j1).2.1
      · exact (q4 j (by omega) j1).2.2
-- copies --------------------------------------------------------------------------------------------------------------------------------
theorem cp67_it {R : Type} {n : Nat} {a : List Int} {k0 : List Int → Option R} (ha : a.length ≤ 1048576) : ∀ (fuel i : Nat) (cur : List Int), cur.length = a.length → i ≤ a.length → a.length + 1 ≤ fuel + i →
    F67_0_it n k0 fuel a i cur = k0 (cur.take i ++ a.drop i)
  | fuel, i, cur, hc, hi, hfl => by
    obtain ⟨f, rfl⟩ : ∃ f, fuel = f + 1 := ⟨fuel - 1, by omega⟩
    simp only [F67_0_it, F67_0_step]
    by_cases g : i < a.length
    · rw [bp (by omega), bp (by omega), bp (by omega), bp (by omega), bp (by omega), show ((i : Nat) : Int).toNat = i by omega, wp (by omega), show ((i : Int) + 1) = ((i + 1 : Nat) : Int) by omega,
        cp67_it (k0 := k0) ha f (i + 1) _ (by simpa using hc) (by omega) (by omega), take_set_succ (by omega), drop_cons (d := 0) g]
      simp
    · rw [bn (by omega), List.drop_of_length_le (by omega), List.take_of_length_le (by omega)]; simp
theorem cp67 {n : Nat} {a : List Int} (hn : 30000000 ≤ n) (ha : a.length ≤ 1048576) : F67 n a = some (a, ()) := by
  unfold F67 F67_0
  rw [bp (by omega), bp (by omega), bp (by omega)]
  have e := cp67_it (n := n) (a := a) (k0 := fun z1394 => some (z1394, ())) ha n 0 (List.replicate a.length 0) (by simp) (by omega) (by omega)
  rw [Int.natCast_zero] at e
  rw [show ((a.length : Nat) : Int).toNat = a.length by omega, e]
  simp
theorem cp68_it {R : Type} {n : Nat} {a : List Atr} {k0 : List Atr → Option R} (ha : a.length ≤ 1048576) : ∀ (fuel i : Nat) (cur : List Atr), cur.length = a.length → i ≤ a.length → a.length + 1 ≤ fuel + i →
    F68_0_it n k0 fuel a i cur = k0 (cur.take i ++ a.drop i)
  | fuel, i, cur, hc, hi, hfl => by
    obtain ⟨f, rfl⟩ : ∃ f, fuel = f + 1 := ⟨fuel - 1, by omega⟩
    simp only [F68_0_it, F68_0_step, F86]
    by_cases g : i < a.length
    · rw [bp (by omega), bp (by omega), bp (by omega)]
      simp only [ats]
      rw [bp (by omega), bp (by omega), show ((i : Nat) : Int).toNat = i by omega, wp (by omega), show ((i : Int) + 1) = ((i + 1 : Nat) : Int) by omega,
        cp68_it (k0 := k0) ha f (i + 1) _ (by simpa using hc) (by omega) (by omega), take_set_succ (by omega), drop_cons (d := dA) g]
      simp
    · rw [bn (by omega), List.drop_of_length_le (by omega), List.take_of_length_le (by omega)]; simp
theorem cp68 {n : Nat} {a : List Atr} (hn : 30000000 ≤ n) (ha : a.length ≤ 1048576) : F68 n a = some (a, ()) := by
  unfold F68 F68_0
  rw [bp (by omega), bp (by omega), bp (by omega)]
  have e := cp68_it (n := n) (a := a) (k0 := fun z1415 => some (z1415, ())) ha n 0 (List.replicate a.length dA) (by simp) (by omega) (by omega)
  rw [Int.natCast_zero] at e
  rw [show ((a.length : Nat) : Int).toNat = a.length by omega, e]
  simp
theorem cp14_it {R : Type} {n : Nat} {L : List Cls} {k0 : List Cls → Option R} (hn : 30000000 ≤ n) (sz : SZ L) : ∀ (fuel i : Nat) (cur : List Cls), cur.length = L.length → i ≤ L.length → L.length + 1 ≤ fuel + i →
    F14_0_it n k0 fuel L i cur = k0 (cur.take i ++ L.drop i)
  | fuel, i, cur, hc, hi, hfl => by
    obtain ⟨f, rfl⟩ : ∃ f, fuel = f + 1 := ⟨fuel - 1, by omega⟩
    have hlen := sz.len
    simp only [F14_0_it, F14_0_step, F40]
    by_cases g : i < L.length
    · have hm := (gmem (d := dC)).2 ⟨i, g, rfl⟩
      rw [bp (by omega), bp (by omega), bp (by omega), show ((i : Nat) : Int).toNat = i by omega, cp67 hn (sz.bl _ hm)]
      simp only [ats]
      rw [cp68 hn (sz.al _ hm)]
      simp only [ats]
      rw [bp (by omega), bp (by omega), wp (by omega), show ((i : Int) + 1) = ((i + 1 : Nat) : Int) by omega,
        cp14_it (k0 := k0) hn sz f (i + 1) _ (by simpa using hc) (by omega) (by omega), take_set_succ (by omega), drop_cons (d := dC) g]
      simp
    · rw [bn (by omega), List.drop_of_length_le (by omega), List.take_of_length_le (by omega)]; simp
theorem cp14 {n : Nat} {L : List Cls} (hn : 30000000 ≤ n) (sz : SZ L) : F14 n L = some (L, ()) := by
  have hlen := sz.len
  unfold F14 F14_0
  rw [bp (by omega), bp (by omega), bp (by omega)]
  have e := cp14_it (n := n) (L := L) (k0 := fun z1421 => some (z1421, ())) hn sz n 0 (List.replicate L.length dC) (by simp) (by omega) (by omega)
  rw [Int.natCast_zero] at e
  rw [show ((L.length : Nat) : Int).toNat = L.length by omega, e]
  simp
-- the same as itself ------------------------------------------------------------------------------------------------------------------------
theorem eq69_it {R : Type} {n : Nat} {a : List Int} {k0 : Bool → Option R} {k1 : Option R} (ha : a.length ≤ 1048576) : ∀ (fuel i : Nat), i ≤ a.length → a.length + 1 ≤ fuel + i → F69_0_it n k0 k1 fuel a a i = k1
  | fuel, i, hi, hfl => by
    obtain ⟨f, rfl⟩ : ∃ f, fuel = f + 1 := ⟨fuel - 1, by omega⟩
    simp only [F69_0_it, F69_0_step]
    by_cases g : i < a.length
    · rw [bp (by omega), bp (by omega), bp (by omega), bp (by omega), bp (by omega), nen rfl, wp (by omega), show ((i : Int) + 1) = ((i + 1 : Nat) : Int) by omega, eq69_it (k0 := k0) (k1 := k1) ha f (i + 1) (by omega) (by omega)]
    · rw [bn (by omega)]
theorem eq69 {n : Nat} {a : List Int} (hn : 30000000 ≤ n) (ha : a.length ≤ 1048576) : F69 n a a = some (true, ()) := by
  unfold F69 F69_0
  rw [nen rfl]
  have e := eq69_it (n := n) (a := a) (k0 := fun z1464 => some (z1464, ())) (k1 := some (true, ())) ha n 0 (by omega) (by omega)
  rw [Int.natCast_zero] at e
  exact e
theorem eq30 {n : Nat} {s : ByteArray} {x y : Int} : F30 n s x y s x y = some (true, ()) := by
  unfold F30
  rw [keq, nn rfl, nen rfl, nen rfl]
theorem eq70_it {R : Type} {n : Nat} {a : List Atr} {k0 : Bool → Option R} {k1 : Option R} (ha : a.length ≤ 1048576) : ∀ (fuel i : Nat), i ≤ a.length → a.length + 1 ≤ fuel + i → F70_0_it n k0 k1 fuel a a i = k1
  | fuel, i, hi, hfl => by
    obtain ⟨f, rfl⟩ : ∃ f, fuel = f + 1 := ⟨fuel - 1, by omega⟩
    simp only [F70_0_it, F70_0_step]
    by_cases g : i < a.length
    · rw [bp (by omega), bp (by omega), bp (by omega), bp (by omega), bp (by omega), eq30]
      simp only [ats, Bool.not_true, cf]
      rw [wp (by omega), show ((i : Int) + 1) = ((i + 1 : Nat) : Int) by omega, eq70_it (k0 := k0) (k1 := k1) ha f (i + 1) (by omega) (by omega)]
    · rw [bn (by omega)]
theorem eq70 {n : Nat} {a : List Atr} (hn : 30000000 ≤ n) (ha : a.length ≤ 1048576) : F70 n a a = some (true, ()) := by
  unfold F70 F70_0
  rw [nen rfl]
  have e := eq70_it (n := n) (a := a) (k0 := fun z1497 => some (z1497, ())) (k1 := some (true, ())) ha n 0 (by omega) (by omega)
  rw [Int.natCast_zero] at e
  exact e
theorem eq15_it {R : Type} {n : Nat} {L : List Cls} {k0 : Bool → Option R} {k1 : Option R} (hn : 30000000 ≤ n) (sz : SZ L) : ∀ (fuel i : Nat), i ≤ L.length → L.length + 1 ≤ fuel + i → F15_0_it n k0 k1 fuel L L i = k1
  | fuel, i, hi, hfl => by
    obtain ⟨f, rfl⟩ : ∃ f, fuel = f + 1 := ⟨fuel - 1, by omega⟩
    have hlen := sz.len
    simp only [F15_0_it, F15_0_step, F41]
    by_cases g : i < L.length
    · have hm := (gmem (d := dC)).2 ⟨i, g, rfl⟩
      rw [bp (by omega), bp (by omega), bp (by omega), bp (by omega), bp (by omega), show ((i : Nat) : Int).toNat = i by omega, eq69 hn (sz.bl _ hm)]
      simp only [ats, Bool.not_true, cf]
      rw [eq70 hn (sz.al _ hm)]
      simp only [ats, Bool.not_true, cf]
      rw [wp (by omega), show ((i : Int) + 1) = ((i + 1 : Nat) : Int) by omega, eq15_it (k0 := k0) (k1 := k1) hn sz f (i + 1) (by omega) (by omega)]
    · rw [bn (by omega)]
theorem eq15 {n : Nat} {L : List Cls} (hn : 30000000 ≤ n) (sz : SZ L) : F15 n L L = some (true, ()) := by
  have hlen := sz.len
  unfold F15 F15_0
  rw [nen rfl]
  have e := eq15_it (n := n) (L := L) (k0 := fun z1503 => some (z1503, ())) (k1 := some (true, ())) hn sz n 0 (by omega) (by omega)
  rw [Int.natCast_zero] at e
  exact e
-- the laws ------------------------------------------------------------------------------------------------------------------------------------
theorem sml_of {L : List Cls} (h : SmV G (.imm 6 (L : List (G.T 6)))) : SmL L := by
  have el : ∀ c ∈ L, SmV G (.imm 0 (c.bases : List (G.T 0))) ∧ SmV G (.imm 5 (c.attrs : List (G.T 5))) := fun c hc => by
    obtain ⟨i, hi, e⟩ := List.getElem_of_mem hc
    have hg : (L : List (G.T 6))[i]? = some c := by rw [← e]; exact List.getElem?_eq_getElem hi
    exact ⟨h.elt (i := i) (x := c) hg (j := 0) (d := .imm 0 c.bases) rfl, h.elt (i := i) (x := c) hg (j := 1) (d := .imm 5 c.attrs) rfl⟩
  refine ⟨h.len, fun c hc => (el c hc).1.len, fun c hc => (el c hc).2.len, fun c hc a ha => ?_⟩
  obtain ⟨i, hi, e⟩ := List.getElem_of_mem ha
  have hg : (c.attrs : List (G.T 5))[i]? = some a := by rw [← e]; exact List.getElem?_eq_getElem hi
  exact ((el c hc).2.elt (i := i) (x := a) hg (j := 0) (d := .lit (.string a.name)) rfl).siz
theorem xok {n : Nat} (hn : 30000000 ≤ n) {y : List Cls} (sm : SmL y) : F4 n y = some (true, ()) := by
  obtain ⟨r, r1, r2⟩ := sz13 hn sm
  unfold F4
  rw [r1]; simp only [ats]
  by_cases h : r < 0
  · rw [bp h]
  have sz := r2 (by omega)
  rw [bn h]
  simp only [cp14 hn sz, ats]
  rw [coS' hn sz]; simp only [ats]
  rw [coI hn sz]; simp only [ats, beqB, Bool.not_true, cf]
  rw [eq15 hn sz]; rfl
theorem law_xok {n : Nat} (hn : 30000000 ≤ n) (y : Cd.den G.T (.imm 6)) (s : SmV G (Cd.enc (.imm 6) y)) : F4 n y = some (true, ()) := xok hn (sml_of s)
theorem xfind {n : Nat} (hn : 30000000 ≤ n) {y : List Cls} {y1 : Int} {y2 : ByteArray} (sm : SmL y) : F9 n y y1 y2 = some (true, ()) := by
  obtain ⟨r, r1, r2⟩ := sz13 hn sm
  unfold F9
  by_cases hy : ((ByteArray.size y2 : Nat) : Int) > 1048576
  · rw [bp hy]
  rw [bn hy]
  rw [r1]; simp only [ats]
  by_cases h : r < 0
  · rw [bp h]
  have sz := r2 (by omega)
  rw [bn h]
  simp only [cp14 hn sz, ats]
  rw [afS hn sz]; simp only [ats]
  rw [afI hn sz]; simp only [ats]
  rw [eq30]; simp only [ats, Bool.not_true, cf]
  rw [nen rfl, beqB]; simp only [Bool.not_true, cf]
  rw [eq15 hn sz]; rfl
theorem law_xfind {n : Nat} (hn : 30000000 ≤ n) (y : Cd.den G.T (.imm 6)) (s : SmV G (Cd.enc (.imm 6) y)) (y1 : Cd.den G.T (.int .i64)) (s1 : SmV G (Cd.enc (.int .i64) y1)) (y2 : Cd.den G.T .str) (s2 : SmV G (Cd.enc .str y2)) : F9 n y y1 y2 = some (true, ()) := xfind hn (sml_of s)
end Go.Proofs.Ytehcejlbfngfdaa.Am
