/- The exact laws of dictionaries: sizes, copies, comparisons, marks. -/
import Derived.Test.YtfpgihjociacnaaAmDictI
namespace Go.Proofs.Ytfpgihjociacnaa.Am
open Go
set_option autoImplicit false
set_option linter.unusedVariables false
set_option linter.unusedSimpArgs false

-- sizes --------------------------------------------------------------------------------------------------------------------------------
theorem szIntS {n : Nat} {a : List Int} {l : Int} (h0 : 0 ≤ l) (h1 : l ≤ 1048576) (ha : a.length ≤ 9223372036854775807) : ∃ r, F23 n a l = some (r, ()) ∧ r ≤ l ∧ (0 ≤ r → a.length ≤ 1048576) := by
  unfold F23
  rw [wp (by omega)]
  by_cases h : l - (a.length : Int) < 0
  · rw [bp h]; exact ⟨_, rfl, by omega, fun h => by omega⟩
  · rw [bn h]; exact ⟨_, rfl, by omega, fun h => by omega⟩
theorem szEnt_it {R : Type} {n : Nat} {a : List Ety} {k0 k1 : Int → Option R} (hs : ∀ (i : Nat) (e : Ety), a[i]? = some e → e.key.size ≤ 9223372036854775807) (ha : a.length ≤ 1048576) : ∀ (fuel i : Nat) (l : Int), 0 ≤ l → l ≤ 1048576 → i ≤ a.length → a.length + 1 ≤ fuel + i →
    ∃ r, r ≤ l ∧ (F24_0_it n k0 k1 fuel a l i = k0 r ∨ F24_0_it n k0 k1 fuel a l i = k1 r)
  | fuel, i, l, h0, h1, hi, hf => by
    obtain ⟨f, rfl⟩ : ∃ f, fuel = f + 1 := ⟨fuel - 1, by omega⟩
    simp only [F24_0_it, F24_0_step, F51]
    by_cases g : i < a.length
    · have hk := hs i _ (List.getElem?_eq_getElem g)
      rw [bp (by omega), bp (by omega), bp (by omega), show ((i : Nat) : Int).toNat = i by omega, getD_lt g, wp (by omega)]
      by_cases h : l - ((a[i].key.size : Nat) : Int) < 0
      · rw [bp h]; simp only [ats]
        rw [bp (by omega)]
        exact ⟨-1, by omega, .inl rfl⟩
      · rw [bn h]; simp only [ats]
        rw [bn (by omega), wp (by omega)]
        obtain ⟨r, r1, r2⟩ := szEnt_it (k0 := k0) (k1 := k1) (n := n) hs ha f (i + 1) (l - ((a[i].key.size : Nat) : Int)) (by omega) (by omega) (by omega) (by omega)
        exact ⟨r, by omega, r2⟩
    · rw [bn (by omega)]; exact ⟨l, by omega, .inr rfl⟩
theorem szEntryS {n : Nat} {a : List Ety} {l : Int} (hn : 3000000 ≤ n) (h0 : 0 ≤ l) (h1 : l ≤ 1048576) (ha : a.length ≤ 9223372036854775807) (hs : ∀ (i : Nat) (e : Ety), a[i]? = some e → e.key.size ≤ 9223372036854775807) : ∃ r, F24 n a l = some (r, ()) ∧ r ≤ l ∧ (0 ≤ r → a.length ≤ 1048576) := by
  unfold F24 F24_0
  rw [wp (by omega)]
  by_cases h : l - (a.length : Int) < 0
  · rw [bp h]; exact ⟨_, rfl, by omega, fun h => by omega⟩
  · rw [bn h]
    obtain ⟨r, r1, r2⟩ := szEnt_it (R := Int × Unit) (n := n) (a := a) (k0 := fun z38 => some (z38, ())) (k1 := fun z39 => some (z39, ())) hs (by omega) n 0 (l - (a.length : Int)) (by omega) (by omega) (by omega) (by omega)
    rw [show ((0 : Nat) : Int) = 0 from rfl] at r2
    exact ⟨r, r2.elim id id, by omega, fun h => by omega⟩
theorem szD {n : Nat} {ix : List Int} {es : List Ety} (hn : 3000000 ≤ n) (h1 : ix.length ≤ 9223372036854775807) (h2 : es.length ≤ 9223372036854775807) (hs : ∀ (i : Nat) (e : Ety), es[i]? = some e → e.key.size ≤ 9223372036854775807) : ∃ r, F7 n ix es 1048576 = some (r, ()) ∧ (0 ≤ r → ix.length ≤ 1048576 ∧ es.length ≤ 1048576) := by
  unfold F7
  obtain ⟨r, r1, r2, r3⟩ := szIntS (n := n) (a := ix) (l := 1048576) (by omega) (by omega) h1
  rw [r1]; simp only [ats]
  by_cases h : r < 0
  · rw [bp h]; exact ⟨-1, rfl, fun h => by omega⟩
  · rw [bn h]
    obtain ⟨q, q1, q2, q3⟩ := szEntryS (n := n) (a := es) (l := r) hn (by omega) (by omega) h2 hs
    rw [q1]; simp only [ats]
    by_cases h' : q < 0
    · rw [bp h']; exact ⟨-1, rfl, fun h => by omega⟩
    · rw [bn h']; exact ⟨q, rfl, fun h => ⟨r3 (by omega), q3 h⟩⟩

-- copies -------------------------------------------------------------------------------------------------------------------------------
theorem fill_set {α : Type} {a l : List α} {d : α} {i : Nat} (hl : l.length = a.length) (hi : i < a.length) (hp : ∀ j, j < i → l.getD j d = a.getD j d) : (l.set i (a.getD i d)).length = a.length ∧ ∀ j, j < i + 1 → (l.set i (a.getD i d)).getD j d = a.getD j d := by
  refine ⟨by simpa using hl, fun j hj => ?_⟩
  rw [getD_set' (by omega)]
  by_cases e : i = j
  · subst e; rw [if_pos rfl]
  · rw [if_neg e]; exact hp j (by omega)
theorem fill_end {α : Type} {a l : List α} {d : α} (hl : l.length = a.length) (hp : ∀ j, j < a.length → l.getD j d = a.getD j d) : l = a := by
  apply List.ext_getElem hl
  intro j h1 h2
  have := hp j h2
  rw [getD_lt h1, getD_lt h2] at this; exact this
theorem toInt_it {R : Type} {n : Nat} {a : List Int} {k0 : List Int → Option R} (ha : a.length ≤ 1048576) : ∀ (fuel i : Nat) (l : List Int), l.length = a.length → i ≤ a.length → (∀ j, j < i → l.getD j 0 = a.getD j 0) → a.length + 1 ≤ fuel + i →
    F26_0_it n k0 fuel a i l = k0 a
  | fuel, i, l, hl, hi, hp, hf => by
    obtain ⟨f, rfl⟩ : ∃ f, fuel = f + 1 := ⟨fuel - 1, by omega⟩
    simp only [F26_0_it, F26_0_step]
    by_cases g : i < a.length
    · obtain ⟨s1, s2⟩ := fill_set (d := 0) hl g hp
      rw [bp (by omega), bp (by omega), bp (by omega), bp (by omega), bp (by omega), wp (by omega), show ((i : Nat) : Int).toNat = i by omega]
      exact toInt_it ha f (i + 1) _ s1 (by omega) s2 (by omega)
    · rw [bn (by omega), fill_end hl (fun j hj => hp j (by omega))]
theorem toIntS {n : Nat} {a : List Int} (hn : 3000000 ≤ n) (ha : a.length ≤ 1048576) : F26 n a = some ((), (a, ())) := by
  unfold F26 F26_0
  rw [bp (by omega), bp (by omega), bp (by omega)]
  have := toInt_it (R := Unit × (List Int × Unit)) (n := n) (k0 := fun z => some ((), (z, ()))) ha n 0 (List.replicate ((a.length : Nat) : Int).toNat 0) (by simp) (by omega) (fun j hj => by omega) (by omega)
  exact this
theorem toEnt_it {R : Type} {n : Nat} {a : List Ety} {k0 : List Ety → Option R} (ha : a.length ≤ 1048576) : ∀ (fuel i : Nat) (l : List Ety), l.length = a.length → i ≤ a.length → (∀ j, j < i → l.getD j ze = a.getD j ze) → a.length + 1 ≤ fuel + i →
    F27_0_it n k0 fuel a i l = k0 a
  | fuel, i, l, hl, hi, hp, hf => by
    obtain ⟨f, rfl⟩ : ∃ f, fuel = f + 1 := ⟨fuel - 1, by omega⟩
    simp only [F27_0_it, F27_0_step, F54]
    by_cases g : i < a.length
    · obtain ⟨s1, s2⟩ := fill_set (d := ze) hl g hp
      rw [bp (by omega), bp (by omega), bp (by omega)]; simp only [ats]
      rw [bp (by omega), bp (by omega), wp (by omega), show ((i : Nat) : Int).toNat = i by omega]
      exact toEnt_it ha f (i + 1) _ s1 (by omega) s2 (by omega)
    · rw [bn (by omega), fill_end hl (fun j hj => hp j (by omega))]
theorem toEntryS {n : Nat} {a : List Ety} (hn : 3000000 ≤ n) (ha : a.length ≤ 1048576) : F27 n a = some ((), (a, ())) := by
  unfold F27 F27_0
  rw [bp (by omega), bp (by omega), bp (by omega)]
  have := toEnt_it (R := Unit × (List Ety × Unit)) (n := n) (k0 := fun z => some ((), (z, ()))) ha n 0 (List.replicate ((a.length : Nat) : Int).toNat ze) (by simp) (by omega) (fun j hj => by omega) (by omega)
  exact this
theorem toD {n : Nat} {d : Dic} (hn : 3000000 ≤ n) (h1 : d.ix.length ≤ 1048576) (h2 : d.es.length ≤ 1048576) : F9 n d.ix d.es = some (((), ((), ())), (d.ix, (d.es, ()))) := by
  unfold F9
  rw [toIntS hn h1]; simp only [ats]
  rw [toEntryS hn h2]; rfl

-- comparisons --------------------------------------------------------------------------------------------------------------------------
theorem eqInt_it {R : Type} {n : Nat} {a : List Int} {k0 : Bool → Option R} {k1 : Option R} (h : a.length ≤ 1048576) : ∀ (fuel i : Nat), i ≤ a.length → a.length + 1 ≤ fuel + i →
    F29_0_it n k0 k1 fuel a a i = k1
  | fuel, i, hi, hf => by
    obtain ⟨f, rfl⟩ : ∃ f, fuel = f + 1 := ⟨fuel - 1, by omega⟩
    simp only [F29_0_it, F29_0_step]
    by_cases g : i < a.length
    · rw [bp (by omega), bp (by omega), bp (by omega), bp (by omega), bp (by omega), nen rfl, wp (by omega)]
      exact eqInt_it h f (i + 1) (by omega) (by omega)
    · rw [bn (by omega)]
theorem eqIntS {n : Nat} {a : List Int} (hn : 3000000 ≤ n) (h : a.length ≤ 1048576) : F29 n a a = some (true, ()) := by
  unfold F29 F29_0
  rw [nen rfl]
  exact eqInt_it (R := Bool × Unit) h n 0 (by omega) (by omega)
theorem eqStr_it {R : Type} {n : Nat} {a : List ByteArray} {k0 : Bool → Option R} {k1 : Option R} (h : a.length ≤ 1048576) : ∀ (fuel i : Nat), i ≤ a.length → a.length + 1 ≤ fuel + i →
    F11_0_it n k0 k1 fuel a a i = k1
  | fuel, i, hi, hf => by
    obtain ⟨f, rfl⟩ : ∃ f, fuel = f + 1 := ⟨fuel - 1, by omega⟩
    simp only [F11_0_it, F11_0_step]
    by_cases g : i < a.length
    · rw [bp (by omega), bp (by omega), bp (by omega), bp (by omega), bp (by omega), keq, nn rfl, wp (by omega)]
      exact eqStr_it h f (i + 1) (by omega) (by omega)
    · rw [bn (by omega)]
theorem eqStringS {n : Nat} {a : List ByteArray} (hn : 3000000 ≤ n) (h : a.length ≤ 1048576) : F11 n a a = some (true, ()) := by
  unfold F11 F11_0
  rw [nen rfl]
  exact eqStr_it (R := Bool × Unit) h n 0 (by omega) (by omega)
theorem eqEnt_it {R : Type} {n : Nat} {a : List Ety} {k0 : Bool → Option R} {k1 : Option R} (h : a.length ≤ 1048576) : ∀ (fuel i : Nat), i ≤ a.length → a.length + 1 ≤ fuel + i →
    F30_0_it n k0 k1 fuel a a i = k1
  | fuel, i, hi, hf => by
    obtain ⟨f, rfl⟩ : ∃ f, fuel = f + 1 := ⟨fuel - 1, by omega⟩
    simp only [F30_0_it, F30_0_step, F57]
    by_cases g : i < a.length
    · rw [bp (by omega), bp (by omega), bp (by omega), bp (by omega), bp (by omega), keq, nn rfl, nen rfl, nen rfl]
      simp only [beq_self_eq_true, Bool.not_true, cf, ats]
      rw [wp (by omega)]
      exact eqEnt_it h f (i + 1) (by omega) (by omega)
    · rw [bn (by omega)]
theorem eqEntryS {n : Nat} {a : List Ety} (hn : 3000000 ≤ n) (h : a.length ≤ 1048576) : F30 n a a = some (true, ()) := by
  unfold F30 F30_0
  rw [nen rfl]
  exact eqEnt_it (R := Bool × Unit) h n 0 (by omega) (by omega)
theorem eqD {n : Nat} {d : Dic} (hn : 3000000 ≤ n) (h1 : d.ix.length ≤ 1048576) (h2 : d.es.length ≤ 1048576) : F12 n d.ix d.es d.ix d.es = some (true, ()) := by
  unfold F12
  rw [eqIntS hn h1]; simp only [ats, Bool.not_true, cf]
  rw [eqEntryS hn h2]; rfl

-- marks --------------------------------------------------------------------------------------------------------------------------------
theorem mt_it {R : Type} {n : Nat} {k0 : ByteArray → Option R} : ∀ (c fuel : Nat) (k : Int) (acc : ByteArray), 0 ≤ k → k < 10 ^ c → k ≤ 1000000000000 → c + 1 ≤ fuel → acc.size + c ≤ 1000 → ∃ s, F33_0_it n k0 fuel k acc = k0 s ∧ s.size ≤ acc.size + c
  | c, fuel, k, acc, h0, h1, h2, hf, ha => by
    obtain ⟨f, rfl⟩ : ∃ f, fuel = f + 1 := ⟨fuel - 1, by omega⟩
    simp only [F33_0_it, F33_0_step]
    by_cases g : k > 0
    · match c with
      | 0 => omega
      | c + 1 =>
        rw [bp g]
        generalize hv : bytesOfInts (List.map (fun y => y) (IntKind.wrap .u8 (IntKind.wrap .i64 (48 + k.tmod 10)) :: [])) = v
        have hs : v.size = 1 := by rw [← hv]; rfl
        have e : (10 : Int) ^ (c + 1) = 10 ^ c * 10 := by rw [Int.pow_succ]
        rw [bp (by omega), td h0, wp (by omega)]
        have hsz : (v ++ acc).size = 1 + acc.size := by rw [ByteArray.size_append, hs]
        obtain ⟨s, s1, s2⟩ := mt_it (n := n) (k0 := k0) c f (k / 10) (v ++ acc) (by omega) (by omega) (by omega) (by omega) (by omega)
        exact ⟨s, s1, by omega⟩
    · rw [bn g]; exact ⟨acc, rfl, by omega⟩
theorem mt_ok {n : Nat} {k : Int} (hn : 100 ≤ n) (h0 : 0 < k) (h1 : k ≤ 1000000000) : ∃ s, F33 n k = some (s, ()) := by
  unfold F33 F33_0
  rw [bn (by omega)]
  obtain ⟨s, s1, s2⟩ := mt_it (R := ByteArray × Unit) (n := n) (k0 := fun z => bif (decide (((1 : Nat) + (z.size)) ≤ (68719476736 : Nat))) then some ((({ data := #[109] } : ByteArray) ++ z), ()) else none) 10 n k ⟨#[]⟩ (by omega) (by omega) (by omega) (by omega) (by decide)
  have h5 : (({ data := #[] } : ByteArray)).size = 0 := rfl
  exact ⟨_, by rw [s1, bp (by omega)]⟩
noncomputable def mt (n : Nat) (k : Int) : ByteArray := match F33 n k with | some r => r.1 | none => ⟨#[]⟩
theorem mt_eq {n : Nat} {k : Int} (hn : 100 ≤ n) (h0 : 0 < k) (h1 : k ≤ 1000000000) : F33 n k = some (mt n k, ()) := by
  obtain ⟨s, h⟩ := mt_ok hn h0 h1
  unfold mt; rw [h]
def mkI (k : Int) (len : Nat) : List Int := (List.range len).map fun i : Nat => k + (i : Int)
noncomputable def mkT (n : Nat) (k : Int) (len : Nat) : List ByteArray := (List.range len).map fun i : Nat => mt n (k + (i : Int))
noncomputable def mkE (n : Nat) (k : Int) (len : Nat) : List Ety := (List.range len).map fun i : Nat => ⟨mt n (k + 4 * (i : Int)), k + 4 * (i : Int) + 1, k + 4 * (i : Int) + 2, (k + 4 * (i : Int) + 3).tmod 3 == 0⟩
theorem mk_get {α : Type} {f : Nat → α} {len i : Nat} {d : α} (h : i < len) : ((List.range len).map f).getD i d = f i := by
  rw [getD_lt (by simpa using h)]; simp
theorem mark_set {α : Type} {f : Nat → α} {len i : Nat} {l : List α} {d v : α} (hl : l.length = len) (hi : i < len) (hv : v = f i) (hp : ∀ j, j < i → l.getD j d = f j) : (l.set i v).length = len ∧ ∀ j, j < i + 1 → (l.set i v).getD j d = f j := by
  refine ⟨by simpa using hl, fun j hj => ?_⟩
  rw [getD_set' (by omega)]
  by_cases e : i = j
  · subst e; rw [if_pos rfl, hv]
  · rw [if_neg e]; exact hp j (by omega)
theorem mark_end {α : Type} {f : Nat → α} {len : Nat} {l : List α} {d : α} (hl : l.length = len) (hp : ∀ j, j < len → l.getD j d = f j) : l = (List.range len).map f := by
  apply List.ext_getElem (by simpa using hl)
  intro j h1 h2
  have h3 : j < len := by omega
  have := hp j h3
  rw [getD_lt h1] at this
  rw [this]; simp
theorem markInt_it {R : Type} {n len : Nat} {k : Int} {k0 : Int → List Int → Option R} (hk : 0 ≤ k) (hk2 : k ≤ 10000000) (ha : len ≤ 1048576) : ∀ (fuel i : Nat) (l : List Int), l.length = len → i ≤ len → (∀ j, j < i → l.getD j 0 = k + (j : Int)) → len + 1 ≤ fuel + i →
    F31_0_it n k0 fuel (k + i) i l = k0 (k + len) (mkI k len)
  | fuel, i, l, hl, hi, hp, hf => by
    obtain ⟨f, rfl⟩ : ∃ f, fuel = f + 1 := ⟨fuel - 1, by omega⟩
    simp only [F31_0_it, F31_0_step]
    by_cases g : i < len
    · obtain ⟨s1, s2⟩ := mark_set (f := fun j => k + (j : Int)) (v := k + (i : Int)) hl g rfl hp
      rw [bp (by omega), bp (by omega), bp (by omega), wp (by omega), wp (by omega), show ((i : Nat) : Int).toNat = i by omega]
      have ih := markInt_it (R := R) (n := n) (k0 := k0) hk hk2 ha f (i + 1) _ s1 (by omega) s2 (by omega)
      rw [show k + ((i + 1 : Nat) : Int) = k + (i : Int) + 1 by omega] at ih
      exact ih
    · have : i = len := by omega
      subst this
      rw [bn (by omega), mark_end hl hp]; rfl
theorem markIntS {n : Nat} {k : Int} {a : List Int} (hn : 3000000 ≤ n) (hk : 0 ≤ k) (hk2 : k ≤ 10000000) (ha : a.length ≤ 1048576) : F31 n k a = some (k + a.length, (mkI k a.length, ())) := by
  unfold F31 F31_0
  have := markInt_it (R := Int × (List Int × Unit)) (n := n) (k := k) (k0 := fun z1 z2 => some (z1, (z2, ()))) hk hk2 ha n 0 a rfl (by omega) (fun j hj => by omega) (by omega)
  rw [show k + ((0 : Nat) : Int) = k by omega] at this
  exact this
theorem heldInt_it {R : Type} {n len : Nat} {k : Int} {k0 k1 : Int → Option R} (hk : 0 ≤ k) (hk2 : k ≤ 10000000) (ha : len ≤ 1048576) : ∀ (fuel i : Nat), i ≤ len → len + 1 ≤ fuel + i →
    F39_0_it n k0 k1 fuel (mkI k len) (k + i) i = k1 (k + len)
  | fuel, i, hi, hf => by
    obtain ⟨f, rfl⟩ : ∃ f, fuel = f + 1 := ⟨fuel - 1, by omega⟩
    have hl : (mkI k len).length = len := by simp [mkI]
    simp only [F39_0_it, F39_0_step, hl]
    by_cases g : i < len
    · rw [bp (by omega), bp (by omega), bp (by omega), show ((i : Nat) : Int).toNat = i by omega, nen (show (mkI k len).getD i 0 = k + (i : Int) from mk_get g), wp (by omega), wp (by omega)]
      have ih := heldInt_it (R := R) (n := n) (k0 := k0) (k1 := k1) hk hk2 ha f (i + 1) (by omega) (by omega)
      rw [show k + ((i + 1 : Nat) : Int) = k + (i : Int) + 1 by omega] at ih
      exact ih
    · have : i = len := by omega
      subst this
      rw [bn (by omega)]
theorem heldIntS {n len : Nat} {k : Int} (hn : 3000000 ≤ n) (hk : 0 ≤ k) (hk2 : k ≤ 10000000) (ha : len ≤ 1048576) : F39 n (mkI k len) k = some (k + len, ()) := by
  unfold F39 F39_0
  have := heldInt_it (R := Int × Unit) (n := n) (k := k) (len := len) (k0 := fun z => some (z, ())) (k1 := fun z => some (z, ())) hk hk2 ha n 0 (by omega) (by omega)
  rw [show k + ((0 : Nat) : Int) = k by omega] at this
  exact this
theorem markStr_it {R : Type} {n len : Nat} {k : Int} {k0 : Int → List ByteArray → Option R} (hn : 100 ≤ n) (hk : 0 < k) (hk2 : k ≤ 10000000) (ha : len ≤ 1048576) : ∀ (fuel i : Nat) (l : List ByteArray), l.length = len → i ≤ len → (∀ j, j < i → l.getD j ⟨#[]⟩ = mt n (k + (j : Int))) → len + 1 ≤ fuel + i →
    F14_0_it n k0 fuel (k + i) i l = k0 (k + len) (mkT n k len)
  | fuel, i, l, hl, hi, hp, hf => by
    obtain ⟨f, rfl⟩ : ∃ f, fuel = f + 1 := ⟨fuel - 1, by omega⟩
    simp only [F14_0_it, F14_0_step]
    by_cases g : i < len
    · obtain ⟨s1, s2⟩ := mark_set (f := fun j => mt n (k + (j : Int))) (v := mt n (k + (i : Int))) hl g rfl hp
      rw [bp (by omega), mt_eq hn (by omega) (by omega)]; simp only [ats]
      rw [bp (by omega), bp (by omega), wp (by omega), wp (by omega), show ((i : Nat) : Int).toNat = i by omega]
      have ih := markStr_it (R := R) (n := n) (k0 := k0) hn hk hk2 ha f (i + 1) _ s1 (by omega) s2 (by omega)
      rw [show k + ((i + 1 : Nat) : Int) = k + (i : Int) + 1 by omega] at ih
      exact ih
    · have : i = len := by omega
      subst this
      rw [bn (by omega), mark_end hl hp]; rfl
theorem markStringS {n : Nat} {k : Int} {a : List ByteArray} (hn : 3000000 ≤ n) (hk : 0 < k) (hk2 : k ≤ 10000000) (ha : a.length ≤ 1048576) : F14 n k a = some (k + a.length, (mkT n k a.length, ())) := by
  unfold F14 F14_0
  have := markStr_it (R := Int × (List ByteArray × Unit)) (n := n) (k := k) (k0 := fun z1 z2 => some (z1, (z2, ()))) (by omega) hk hk2 ha n 0 a rfl (by omega) (fun j hj => by omega) (by omega)
  rw [show k + ((0 : Nat) : Int) = k by omega] at this
  exact this
theorem heldStr_it {R : Type} {n len : Nat} {k : Int} {k0 k1 : Int → Option R} (hn : 100 ≤ n) (hk : 0 < k) (hk2 : k ≤ 10000000) (ha : len ≤ 1048576) : ∀ (fuel i : Nat), i ≤ len → len + 1 ≤ fuel + i →
    F15_0_it n k0 k1 fuel (mkT n k len) (k + i) i = k1 (k + len)
  | fuel, i, hi, hf => by
    obtain ⟨f, rfl⟩ : ∃ f, fuel = f + 1 := ⟨fuel - 1, by omega⟩
    have hl : (mkT n k len).length = len := by simp [mkT]
    simp only [F15_0_it, F15_0_step, hl]
    by_cases g : i < len
    · rw [bp (by omega), bp (by omega), bp (by omega), show ((i : Nat) : Int).toNat = i by omega, mt_eq hn (by omega) (by omega)]; simp only [ats]
      rw [keq, nn (show (mkT n k len).getD i ⟨#[]⟩ = mt n (k + (i : Int)) from mk_get g), wp (by omega), wp (by omega)]
      have ih := heldStr_it (R := R) (n := n) (k0 := k0) (k1 := k1) hn hk hk2 ha f (i + 1) (by omega) (by omega)
      rw [show k + ((i + 1 : Nat) : Int) = k + (i : Int) + 1 by omega] at ih
      exact ih
    · have : i = len := by omega
      subst this
      rw [bn (by omega)]
theorem heldStringS {n len : Nat} {k : Int} (hn : 3000000 ≤ n) (hk : 0 < k) (hk2 : k ≤ 10000000) (ha : len ≤ 1048576) : F15 n (mkT n k len) k = some (k + len, ()) := by
  unfold F15 F15_0
  have := heldStr_it (R := Int × Unit) (n := n) (k := k) (len := len) (k0 := fun z => some (z, ())) (k1 := fun z => some (z, ())) (by omega) hk hk2 ha n 0 (by omega) (by omega)
  rw [show k + ((0 : Nat) : Int) = k by omega] at this
  exact this
theorem markEnt_it {R : Type} {n len : Nat} {k : Int} {k0 : Int → List Ety → Option R} (hn : 100 ≤ n) (hk : 0 < k) (hk2 : k ≤ 10000000) (ha : len ≤ 1048576) : ∀ (fuel i : Nat) (l : List Ety), l.length = len → i ≤ len → (∀ j, j < i → l.getD j ze = ⟨mt n (k + 4 * (j : Int)), k + 4 * (j : Int) + 1, k + 4 * (j : Int) + 2, (k + 4 * (j : Int) + 3).tmod 3 == 0⟩) → len + 1 ≤ fuel + i →
    F32_0_it n k0 fuel (k + 4 * i) i l = k0 (k + 4 * len) (mkE n k len)
  | fuel, i, l, hl, hi, hp, hf => by
    obtain ⟨f, rfl⟩ : ∃ f, fuel = f + 1 := ⟨fuel - 1, by omega⟩
    simp only [F32_0_it, F32_0_step, List.length_set]
    by_cases g : i < len
    · obtain ⟨s1, s2⟩ := mark_set (f := fun j => (⟨mt n (k + 4 * (j : Int)), k + 4 * (j : Int) + 1, k + 4 * (j : Int) + 2, (k + 4 * (j : Int) + 3).tmod 3 == 0⟩ : Ety)) (v := ⟨mt n (k + 4 * (i : Int)), k + 4 * (i : Int) + 1, k + 4 * (i : Int) + 2, (k + 4 * (i : Int) + 3).tmod 3 == 0⟩) hl g rfl hp
      rw [bp (by omega), mt_eq hn (by omega) (by omega)]; simp only [ats]
      have w1 : IntKind.wrap .i64 (k + 4 * (i : Int) + 1) = k + 4 * (i : Int) + 1 := wp (by omega)
      have w2 : IntKind.wrap .i64 (k + 4 * (i : Int) + 1 + 1) = k + 4 * (i : Int) + 2 := by rw [wp (by omega)]; omega
      have w3 : IntKind.wrap .i64 (k + 4 * (i : Int) + 2 + 1) = k + 4 * (i : Int) + 3 := by rw [wp (by omega)]; omega
      have w4 : IntKind.wrap .i64 (k + 4 * (i : Int) + 3 + 1) = k + 4 * ((i + 1 : Nat) : Int) := by rw [wp (by omega)]; omega
      have w5 : IntKind.wrap .i64 ((i : Int) + 1) = ((i + 1 : Nat) : Int) := by rw [wp (by omega)]; omega
      have e : ((i : Nat) : Int).toNat = i := by omega
      have gs : ∀ (l : List Ety) (v : Ety), l.length = len → (l.set i v).getD i (Ety.mk ({ data := #[] } : ByteArray) (0 : Int) (0 : Int) false) = v := fun l v h => by rw [getD_set' (by omega), if_pos rfl]
      have c1 : (0 : Int) ≤ (i : Int) := by omega
      have c2 : (i : Int) < (l.length : Int) := by omega
      simp only [bp c1, bp c2, e, w1, w2, w3, w4, w5, List.set_set]
      simp only [gs l _ hl]
      exact markEnt_it hn hk hk2 ha f (i + 1) _ s1 (by omega) s2 (by omega)
    · have : i = len := by omega
      subst this
      rw [bn (by omega), mark_end hl hp]; rfl
theorem markEntryS {n : Nat} {k : Int} {a : List Ety} (hn : 3000000 ≤ n) (hk : 0 < k) (hk2 : k ≤ 10000000) (ha : a.length ≤ 1048576) : F32 n k a = some (k + 4 * a.length, (mkE n k a.length, ())) := by
  unfold F32 F32_0
  have := markEnt_it (R := Int × (List Ety × Unit)) (n := n) (k := k) (k0 := fun z1 z2 => some (z1, (z2, ()))) (by omega) hk hk2 ha n 0 a rfl (by omega) (fun j hj => by omega) (by omega)
  rw [show k + 4 * ((0 : Nat) : Int) = k by omega] at this
  exact this
theorem heldEnt_it {R : Type} {n len : Nat} {k : Int} {k0 k1 : Int → Option R} (hn : 100 ≤ n) (hk : 0 < k) (hk2 : k ≤ 10000000) (ha : len ≤ 1048576) : ∀ (fuel i : Nat), i ≤ len → len + 1 ≤ fuel + i →
    F40_0_it n k0 k1 fuel (mkE n k len) (k + 4 * i) i = k1 (k + 4 * len)
  | fuel, i, hi, hf => by
    obtain ⟨f, rfl⟩ : ∃ f, fuel = f + 1 := ⟨fuel - 1, by omega⟩
    have hl : (mkE n k len).length = len := by simp [mkE]
    simp only [F40_0_it, F40_0_step, hl]
    by_cases g : i < len
    · have w1 : IntKind.wrap .i64 (k + 4 * (i : Int) + 1) = k + 4 * (i : Int) + 1 := wp (by omega)
      have w2 : IntKind.wrap .i64 (k + 4 * (i : Int) + 1 + 1) = k + 4 * (i : Int) + 2 := by rw [wp (by omega)]; omega
      have w3 : IntKind.wrap .i64 (k + 4 * (i : Int) + 2 + 1) = k + 4 * (i : Int) + 3 := by rw [wp (by omega)]; omega
      have w4 : IntKind.wrap .i64 (k + 4 * (i : Int) + 3 + 1) = k + 4 * ((i + 1 : Nat) : Int) := by rw [wp (by omega)]; omega
      have w5 : IntKind.wrap .i64 ((i : Int) + 1) = ((i + 1 : Nat) : Int) := by rw [wp (by omega)]; omega
      have e : ((i : Nat) : Int).toNat = i := by omega
      have ge : (mkE n k len).getD i (Ety.mk ({ data := #[] } : ByteArray) (0 : Int) (0 : Int) false) = ⟨mt n (k + 4 * (i : Int)), k + 4 * (i : Int) + 1, k + 4 * (i : Int) + 2, (k + 4 * (i : Int) + 3).tmod 3 == 0⟩ := mk_get g
      have c1 : (0 : Int) ≤ (i : Int) := by omega
      have c2 : (i : Int) < (len : Int) := by omega
      simp only [bp c1, bp c2, e, w1, w2, w3, w4, w5, ge]
      rw [mt_eq hn (by omega) (by omega)]; simp only [ats]
      rw [keq, nn rfl, nen rfl, nen rfl]
      simp only [beq_self_eq_true, Bool.not_true, cf]
      exact heldEnt_it hn hk hk2 ha f (i + 1) (by omega) (by omega)
    · have : i = len := by omega
      subst this
      rw [bn (by omega)]
theorem heldEntryS {n len : Nat} {k : Int} (hn : 3000000 ≤ n) (hk : 0 < k) (hk2 : k ≤ 10000000) (ha : len ≤ 1048576) : F40 n (mkE n k len) k = some (k + 4 * len, ()) := by
  unfold F40 F40_0
  have := heldEnt_it (R := Int × Unit) (n := n) (k := k) (len := len) (k0 := fun z => some (z, ())) (k1 := fun z => some (z, ())) (by omega) hk hk2 ha n 0 (by omega) (by omega)
  rw [show k + 4 * ((0 : Nat) : Int) = k by omega] at this
  exact this
theorem markD {n : Nat} {d : Dic} (hn : 3000000 ≤ n) (h1 : d.ix.length ≤ 1048576) (h2 : d.es.length ≤ 1048576) : F13 n 1 d.ix d.es = some ((1 + d.ix.length + 4 * d.es.length : Int), (mkI 1 d.ix.length, (mkE n (1 + d.ix.length) d.es.length, ()))) := by
  unfold F13
  rw [markIntS hn (by omega) (by omega) h1]; simp only [ats]
  rw [markEntryS hn (by omega) (by omega) h2]; rfl
theorem heldD {n a b : Nat} (hn : 3000000 ≤ n) (h1 : a ≤ 1048576) (h2 : b ≤ 1048576) : F18 n (mkI 1 a) (mkE n (1 + a) b) 1 = some ((1 + a + 4 * b : Int), ()) := by
  unfold F18
  rw [heldIntS hn (by omega) (by omega) h1]; simp only [ats]
  rw [bn (by omega), heldEntryS hn (by omega) (by omega) h2]; simp only [ats]
  rw [bn (by omega)]
end Go.Proofs.Ytfpgihjociacnaa.Am
