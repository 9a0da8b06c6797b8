/- Dictionaries: slots that are looked at, plainly. -/
import Derived.Test.YtfpgihjociacnaaAmDictSig
import Derived.Test.YtfpgihjociacnaaAmPl
namespace Go.Proofs.Ytfpgihjociacnaa.Am
open Go
set_option autoImplicit false
set_option linter.unusedVariables false
set_option linter.unusedSimpArgs false

-- the order of the slots ---------------------------------------------------------------------------------------------------------------
def nx (n : Nat) (p : Nat × Nat) : Nat × Nat := ((5 * p.1 + p.2 / 8 + 1) % n, p.2 / 8)
def pos (n h : Nat) : Nat → Nat × Nat
  | 0 => (h % n, h)
  | t + 1 => nx n (pos n h t)
def szs : List Nat := [8, 16, 32, 64, 128]
theorem szs_iff {n : Nat} : n ∈ szs ↔ (n = 8 ∨ n = 16 ∨ n = 32 ∨ n = 64 ∨ n = 128) := by simp [szs]
theorem pos_lt {n h : Nat} (hn : 0 < n) (t : Nat) : (pos n h t).1 < n := by
  cases t with
  | zero => exact Nat.mod_lt _ hn
  | succ t => exact Nat.mod_lt _ hn
theorem pos_rest (n h t : Nat) : (pos n h t).2 = h / 8 ^ t := by
  induction t with
  | zero => simp [pos]
  | succ t ih => show (pos n h t).2 / 8 = _; rw [ih, Nat.div_div_eq_div_mul, Nat.pow_succ]
theorem rest_zero {n h t : Nat} (hh : h < 65536) (ht : 6 ≤ t) : (pos n h t).2 = 0 := by
  rw [pos_rest]
  apply Nat.div_eq_of_lt
  exact Nat.lt_of_lt_of_le (show h < 8 ^ 6 by omega) (Nat.pow_le_pow_right (by omega) ht)
def g5 (n i : Nat) : Nat := (5 * i + 1) % n
def orb (n : Nat) : Nat → Nat
  | 0 => 0
  | t + 1 => g5 n (orb n t)
theorem orb_all : ∀ n ∈ szs, orb n n = 0 ∧ ∀ s, s < n → ∃ t, t < n ∧ orb n t = s := by decide +kernel
theorem orb_per {n : Nat} (h : orb n n = 0) (t : Nat) : orb n (n + t) = orb n t := by
  induction t with
  | zero => exact h
  | succ t ih => show g5 n (orb n (n + t)) = g5 n (orb n t); rw [ih]
theorem pos_orb {n h a : Nat} (hh : h < 65536) (ha : (pos n h 6).1 = orb n a) (t : Nat) : (pos n h (6 + t)).1 = orb n (a + t) := by
  induction t with
  | zero => exact ha
  | succ t ih =>
    show (5 * (pos n h (6 + t)).1 + (pos n h (6 + t)).2 / 8 + 1) % n = g5 n (orb n (a + t))
    rw [rest_zero hh (by omega), ih]; rfl
theorem reach5 {n h s : Nat} (hn : n ∈ szs) (hh : h < 65536) (hs : s < n) : ∃ t, t < 6 + n ∧ (pos n h t).1 = s := by
  have hp : 0 < n := by have := szs_iff.1 hn; omega
  obtain ⟨h1, h2⟩ := orb_all n hn
  obtain ⟨a, a1, a2⟩ := h2 _ (pos_lt (h := h) hp 6)
  obtain ⟨b, b1, b2⟩ := h2 s hs
  by_cases g : a ≤ b
  · exact ⟨6 + (b - a), by omega, by rw [pos_orb hh a2.symm, show a + (b - a) = b by omega, b2]⟩
  · exact ⟨6 + (n + b - a), by omega, by rw [pos_orb hh a2.symm, show a + (n + b - a) = n + b by omega, orb_per h1, b2]⟩

-- the hash -----------------------------------------------------------------------------------------------------------------------------
def hsh (key : ByteArray) : Nat → Int
  | 0 => 7
  | i + 1 => (hsh key i * 31 + strOf key i) % 65536
theorem hsh_bd (key : ByteArray) (i : Nat) : 0 ≤ hsh key i ∧ hsh key i < 65536 := by
  cases i with
  | zero => exact ⟨by unfold hsh; omega, by unfold hsh; omega⟩
  | succ i => exact ⟨Int.emod_nonneg _ (by omega), Int.emod_lt_of_pos _ (by omega)⟩
def H (key : ByteArray) : Nat := (hsh key key.size).toNat
theorem H_lt (key : ByteArray) : H key < 65536 := by have := hsh_bd key key.size; unfold H; omega
theorem H_eq (key : ByteArray) : (H key : Int) = hsh key key.size := by have := hsh_bd key key.size; unfold H; omega
theorem strOf_bd (s : ByteArray) (i : Nat) : 0 ≤ strOf s i ∧ strOf s i < 256 := by
  unfold strOf
  split
  · rename_i h; have := (s[i]'h).toNat_lt; omega
  · omega

-- the first stop -----------------------------------------------------------------------------------------------------------------------
def fw (p : Nat → Bool) : Nat → Nat → Nat
  | 0, t => t
  | f + 1, t => if p t then t else fw p f (t + 1)
theorem fw_ok {p : Nat → Bool} : ∀ {f t k : Nat}, t ≤ k → k < t + f → p k = true → p (fw p f t) = true ∧ t ≤ fw p f t ∧ fw p f t ≤ k ∧ ∀ u, t ≤ u → u < fw p f t → p u = false
  | 0, t, k, h1, h2, h3 => by omega
  | f + 1, t, k, h1, h2, h3 => by
    unfold fw
    by_cases h : p t
    · rw [if_pos h]; exact ⟨h, by omega, h1, fun u _ _ => by omega⟩
    · rw [if_neg h]
      have hk : t ≠ k := fun e => h (e ▸ h3)
      obtain ⟨a, b, c, d⟩ := fw_ok (f := f) (t := t + 1) (k := k) (by omega) (by omega) h3
      refine ⟨a, by omega, c, fun u h4 h5 => ?_⟩
      by_cases e : u = t
      · subst e; simpa using h
      · exact d u (by omega) h5
theorem fw_uq {p : Nat → Bool} {f k : Nat} (hk : k < f) (h : p k = true) (hm : ∀ u, u < k → p u = false) : fw p f 0 = k := by
  obtain ⟨a, b, c, d⟩ := fw_ok (f := f) (t := 0) (k := k) (by omega) (by omega) h
  apply Classical.byContradiction
  intro hne
  have := hm _ (show fw p f 0 < k by omega)
  rw [a] at this; cases this

structure Dic where
  ix : List Int
  es : List Ety
def ze : Ety := ⟨⟨#[]⟩, 0, 0, false⟩
/-- the slot s ends the looking for a key -/
def st (d : Dic) (key : ByteArray) (s : Nat) : Bool := decide (d.ix.getD s 0 = -1 ∨ (0 ≤ d.ix.getD s 0 ∧ (d.es.getD (d.ix.getD s 0).toNat ze).key = key))
def pn (d : Dic) (key : ByteArray) (t : Nat) : Nat := (pos d.ix.length (H key) t).1
/-- how many slots are passed -/
def kk (d : Dic) (key : ByteArray) : Nat := fw (fun t => st d key (pn d key t)) 200 0
/-- the slot of a key -/
def sl (d : Dic) (key : ByteArray) : Nat := pn d key (kk d key)
/-- what the slot of a key holds -/
def at' (d : Dic) (key : ByteArray) : Int := d.ix.getD (sl d key) 0
/-- the slots that are looked at -/
def way (d : Dic) (key : ByteArray) : List Int := (List.range (kk d key + 1)).map fun t => ((pn d key t : Nat) : Int)

/-- the looking for any key ends -/
structure Fin (d : Dic) : Prop where
  sz : d.ix.length ∈ szs
  em : ∃ s, s < d.ix.length ∧ d.ix.getD s 0 = -1
  rg : ∀ s, s < d.ix.length → d.ix.getD s 0 < d.es.length

theorem Fin.pos {d : Dic} (h : Fin d) : 8 ≤ d.ix.length ∧ d.ix.length ≤ 128 := by have := szs_iff.1 h.sz; omega
theorem Fin.stp {d : Dic} (h : Fin d) (key : ByteArray) : st d key (sl d key) = true ∧ kk d key < 134 ∧ ∀ u, u < kk d key → st d key (pn d key u) = false := by
  obtain ⟨s, s1, s2⟩ := h.em
  obtain ⟨t, t1, t2⟩ := reach5 h.sz (H_lt key) s1
  have hp := h.pos
  obtain ⟨a, b, c, e⟩ := fw_ok (p := fun t => st d key (pn d key t)) (f := 200) (t := 0) (k := t) (by omega) (by omega) (by show st d key (pn d key t) = true; unfold pn; rw [t2]; unfold st; rw [s2]; simp)
  exact ⟨a, by show fw _ _ _ < 134; omega, fun u hu => e u (by omega) hu⟩
theorem Fin.sl_lt {d : Dic} (h : Fin d) (key : ByteArray) : sl d key < d.ix.length := pos_lt (by have := h.pos; omega) _
theorem Fin.at_cases {d : Dic} (h : Fin d) (key : ByteArray) : at' d key = -1 ∨ (0 ≤ at' d key ∧ (at' d key).toNat < d.es.length ∧ (d.es.getD (at' d key).toNat ze).key = key) := by
  have h1 := (h.stp key).1
  have h2 := h.rg _ (h.sl_lt key)
  unfold st at h1
  have h3 := of_decide_eq_true h1
  unfold at'
  rcases h3 with h3 | ⟨h3, h4⟩
  · exact .inl h3
  · exact .inr ⟨h3, by omega, h4⟩
theorem way_len (d : Dic) (key : ByteArray) : (way d key).length = kk d key + 1 := by simp [way]
theorem way_get {d : Dic} {key : ByteArray} {t : Nat} (h : t ≤ kk d key) : (way d key).getD t 0 = pn d key t := by
  rw [getD_lt (by rw [way_len]; omega)]; simp [way]
theorem way_last (d : Dic) (key : ByteArray) : (way d key).getD (kk d key) 0 = sl d key := way_get (Nat.le_refl _)
/-- the slot is known by what it does -/
theorem sl_uq {d : Dic} {key : ByteArray} {k : Nat} (hk : k < 200) (h : st d key (pn d key k) = true) (hm : ∀ u, u < k → st d key (pn d key u) = false) : kk d key = k := fw_uq hk h hm
end Go.Proofs.Ytfpgihjociacnaa.Am
