/- Dictionaries: what the functions compute. -/
import Derived.Test.YtfpgihjociacnaaAmDictF
import Derived.Test.YtfpgihjociacnaaAmDictO
namespace Go.Proofs.Ytfpgihjociacnaa.Am
open Go
set_option autoImplicit false
set_option linter.unusedVariables false
set_option linter.unusedSimpArgs false

theorem keq (a b : ByteArray) : (a.toList == b.toList) = decide (a = b) := by
  by_cases h : a = b
  · subst h; simp
  · rw [decide_eq_false h, beq_eq_false_iff_ne]
    exact fun e => h (toList_inj e)

-- the hash -----------------------------------------------------------------------------------------------------------------------------
theorem hashS_it {R : Type} {n : Nat} {key : ByteArray} {k0 : Int → Option R} (hk : key.size ≤ 9000) : ∀ (fuel i : Nat), i ≤ key.size → key.size + 1 ≤ fuel + i →
    F52_0_it n k0 fuel key (hsh key i) i = k0 (hsh key key.size)
  | fuel, i, hi, hf => by
    obtain ⟨f, rfl⟩ : ∃ f, fuel = f + 1 := ⟨fuel - 1, by omega⟩
    simp only [F52_0_it, F52_0_step]
    by_cases g : i < key.size
    · have hb := hsh_bd key i
      have hs := strOf_bd key i
      rw [bp (by omega), bp (by omega), bp (by omega)]
      rw [show ((i : Nat) : Int).toNat = i by omega, wp (x := hsh key i * 31) (by omega), wp (x := strOf key i) (by omega), wp (x := hsh key i * 31 + strOf key i) (by omega), tm (by omega), wp (by omega)]
      exact hashS_it hk f (i + 1) (by omega) (by omega)
    · have : i = key.size := by omega
      subst this
      rw [bn (by omega)]
theorem hashS {n : Nat} {key : ByteArray} (hn : 10000 ≤ n) (hk : key.size ≤ 9000) : F52 n key = some ((H key : Int), ()) := by
  unfold F52 F52_0
  have := hashS_it (R := Int × Unit) (n := n) (k0 := fun z => some (z, ())) hk n 0 (by omega) (by omega)
  rw [H_eq]; exact this
theorem hashI_it {R : Type} {n : Nat} {key : ByteArray} {k0 : Int → Option R} (hk : key.size ≤ 9000) : ∀ (fuel i : Nat), i ≤ key.size → key.size + 1 ≤ fuel + i →
    F56_0_it n k0 fuel key (hsh key i) key.size i = k0 (hsh key key.size)
  | fuel, i, hi, hf => by
    obtain ⟨f, rfl⟩ : ∃ f, fuel = f + 1 := ⟨fuel - 1, by omega⟩
    simp only [F56_0_it, F56_0_step]
    by_cases g : i < key.size
    · have hb := hsh_bd key i
      have hs := strOf_bd key i
      rw [bp (by omega), bp (by omega), bp (by omega)]
      rw [show ((i : Nat) : Int).toNat = i by omega, wp (x := hsh key i * 31) (by omega), wp (x := strOf key i) (by omega), wp (x := hsh key i * 31 + strOf key i) (by omega), tm (by omega), wp (by omega)]
      exact hashI_it hk f (i + 1) (by omega) (by omega)
    · have : i = key.size := by omega
      subst this
      rw [bn (by omega)]
theorem hashI {n : Nat} {key : ByteArray} (hn : 10000 ≤ n) (hk : key.size ≤ 20) : F56 n key = some ((H key : Int), ()) := by
  unfold F56 F56_0
  rw [bn (by omega)]
  have := hashI_it (R := Int × Unit) (n := n) (key := key) (k0 := fun z => some (z, ())) (by omega) n 0 (by omega) (by omega)
  rw [H_eq]; exact this

-- live entries -------------------------------------------------------------------------------------------------------------------------
theorem liveS_it {R : Type} {n : Nat} {ix : List Int} {es : List Ety} {k0 : Int → Option R} (hl : es.length ≤ 9000) : ∀ (fuel i : Nat), i ≤ es.length → es.length + 1 ≤ fuel + i →
    F43_1_it n k0 fuel (lives (es.take i)) i ix es = k0 (lives es)
  | fuel, i, hi, hf => by
    obtain ⟨f, rfl⟩ : ∃ f, fuel = f + 1 := ⟨fuel - 1, by omega⟩
    simp only [F43_1_it, F43_1_step, F43_0]
    by_cases g : i < es.length
    · have h1 := lives_le (es.take i)
      have h2 : (es.take i).length ≤ i := List.length_take_le _ _
      rw [bp (by omega), bp (by omega), bp (by omega), show ((i : Nat) : Int).toNat = i by omega]
      have ih := liveS_it (R := R) (n := n) (ix := ix) (k0 := k0) hl f (i + 1) (by omega) (by omega)
      rw [lives_take g] at ih
      show (bif (es.getD i ze).live then _ else _) = _
      cases hv : (es.getD i ze).live
      · rw [hv] at ih; rw [cf, wp (by omega)]; exact ih
      · rw [hv] at ih; rw [ct, wp (by omega), wp (by omega)]; exact ih
    · have : i = es.length := by omega
      subst this
      rw [bn (by omega), List.take_length]
theorem liveS {n : Nat} {ix : List Int} {es : List Ety} (hn : 10000 ≤ n) (hl : es.length ≤ 9000) : F43 n ix es = some ((lives es : Int), ()) := by
  unfold F43 F43_1
  exact liveS_it (R := Int × Unit) (n := n) (k0 := fun z => some (z, ())) hl n 0 (by omega) (by omega)
theorem liveI_it {R : Type} {n : Nat} {es : List Ety} {k0 : Int → Option R} (hl : es.length ≤ 9000) : ∀ (fuel i : Nat), i ≤ es.length → es.length + 1 ≤ fuel + i →
    F45_1_it n k0 fuel (lives (es.take i)) es es.length i = k0 (lives es)
  | fuel, i, hi, hf => by
    obtain ⟨f, rfl⟩ : ∃ f, fuel = f + 1 := ⟨fuel - 1, by omega⟩
    simp only [F45_1_it, F45_1_step, F45_0]
    by_cases g : i < es.length
    · have h1 := lives_le (es.take i)
      have h2 : (es.take i).length ≤ i := List.length_take_le _ _
      rw [bp (by omega), bp (by omega), bp (by omega), show ((i : Nat) : Int).toNat = i by omega]
      have ih := liveI_it (R := R) (n := n) (k0 := k0) hl f (i + 1) (by omega) (by omega)
      rw [lives_take g] at ih
      show (bif (es.getD i ze).live then _ else _) = _
      cases hv : (es.getD i ze).live
      · rw [hv] at ih; rw [cf, wp (by omega)]; exact ih
      · rw [hv] at ih; rw [ct, wp (by omega), wp (by omega)]; exact ih
    · have : i = es.length := by omega
      subst this
      rw [bn (by omega), List.take_length]
theorem liveI {n : Nat} {ix : List Int} {es : List Ety} (hn : 10000 ≤ n) (hl : es.length ≤ 9000) : F45 n ix es = some ((lives es : Int), ()) := by
  unfold F45 F45_1
  exact liveI_it (R := Int × Unit) (n := n) (k0 := fun z => some (z, ())) hl n 0 (by omega) (by omega)

-- slots that are looked at -------------------------------------------------------------------------------------------------------------
def wy (d : Dic) (key : ByteArray) (t : Nat) : List Int := (List.range t).map fun t => ((pn d key t : Nat) : Int)
theorem wy_succ (d : Dic) (key : ByteArray) (t : Nat) : wy d key t ++ [((pn d key t : Nat) : Int)] = wy d key (t + 1) := by
  unfold wy; rw [List.range_succ, List.map_append]; rfl
theorem wy_len (d : Dic) (key : ByteArray) (t : Nat) : (wy d key t).length = t := by simp [wy]
theorem rest_lt (n h t : Nat) (hh : h < 65536) : (pos n h t).2 < 65536 := by
  rw [pos_rest]; exact Nat.lt_of_le_of_lt (Nat.div_le_self _ _) hh
theorem pn_succ (d : Dic) (key : ByteArray) (t : Nat) : pn d key (t + 1) = (5 * pn d key t + (pos d.ix.length (H key) t).2 / 8 + 1) % d.ix.length := rfl
theorem Fin.stop {d : Dic} (h : Fin d) {key : ByteArray} {t : Nat} (ht : t ≤ kk d key) : st d key (pn d key t) = true ↔ t = kk d key := by
  obtain ⟨h1, _, h3⟩ := h.stp key
  constructor
  · intro g
    apply Classical.byContradiction
    intro hne
    have := h3 t (by omega)
    rw [g] at this; cases this
  · rintro rfl; exact h1
theorem next_cast {d : Dic} {key : ByteArray} {t : Nat} (h : Fin d) :
    (IntKind.wrap .i64 ((IntKind.wrap .i64 ((IntKind.wrap .i64 ((5 : Int) * ((pn d key t : Nat) : Int))) + (IntKind.wrap .i64 ((((pos d.ix.length (H key) t).2 : Nat) : Int).tdiv (8 : Int))))) + (1 : Int))).tmod (d.ix.length : Int) = ((pn d key (t + 1) : Nat) : Int) ∧
    IntKind.wrap .i64 ((((pos d.ix.length (H key) t).2 : Nat) : Int).tdiv (8 : Int)) = (((pos d.ix.length (H key) (t + 1)).2 : Nat) : Int) := by
  have h1 := rest_lt d.ix.length (H key) t (H_lt key)
  have h2 : pn d key t < d.ix.length := pos_lt (by have := h.pos; omega) t
  have hp := h.pos
  have e : IntKind.wrap .i64 ((((pos d.ix.length (H key) t).2 : Nat) : Int).tdiv (8 : Int)) = (((pos d.ix.length (H key) t).2 / 8 : Nat) : Int) := by
    rw [td (by omega), wp (by omega)]; omega
  rw [e]
  refine ⟨?_, rfl⟩
  rw [wp (x := 5 * ((pn d key t : Nat) : Int)) (by omega), wp (x := 5 * ((pn d key t : Nat) : Int) + _) (by omega), wp (by omega), tm (by omega), pn_succ]
  push_cast
  rfl
theorem slot_eq (d : Dic) (s : Nat) : d.ix.getD s 0 = slot d s := rfl
theorem ent_eq (d : Dic) (i : Nat) : d.es.getD i (Ety.mk ({ data := #[] } : ByteArray) (0 : Int) (0 : Int) false) = ent d i := rfl
theorem ent_eq' (d : Dic) (i : Nat) : d.es.getD i ze = ent d i := rfl
theorem probeS_it {R : Type} {n : Nat} {d : Dic} {key : ByteArray} {k0 : List Int → Option R} (h : Fin d) : ∀ (c fuel t : Nat), t + c = kk d key → c + 1 ≤ fuel →
    F58_0_it n k0 fuel key d.ix.length (pos d.ix.length (H key) t).2 (pn d key t) d.ix d.es (wy d key t) = k0 (way d key)
  | c, fuel, t, hc, hf => by
    obtain ⟨f, rfl⟩ : ∃ f, fuel = f + 1 := ⟨fuel - 1, by omega⟩
    simp only [F58_0_it, F58_0_step]
    have hp := h.pos
    have hk := (h.stp key).2.1
    have hlt : pn d key t < d.ix.length := pos_lt (by omega) t
    have hst := h.stop (key := key) (t := t) (by omega)
    rw [st_iff] at hst
    rw [bp (by rw [wy_len]; simp only [List.length_cons, List.length_nil]; omega), bp (by omega), bp (by omega), show ((pn d key t : Nat) : Int).toNat = pn d key t by omega, wy_succ]
    rw [slot_eq, ent_eq]
    have hrg := h.rg _ hlt
    have hrg : slot d (pn d key t) < d.es.length := hrg
    have nc := next_cast (key := key) (t := t) h
    by_cases g : t = kk d key
    · have hw : wy d key (t + 1) = way d key := by rw [g]; rfl
      rw [hw]
      rcases hst.2 g with g1 | ⟨g1, g2⟩
      · rw [eqp g1]
      · rw [eqn (by omega), bp (by omega), bp (by omega), bp (by omega), keq]
        rw [bp g2]
    · have hne := mt hst.1 g
      rw [not_or] at hne
      rw [eqn hne.1]
      have ih := probeS_it (R := R) (n := n) (key := key) (k0 := k0) h (c - 1) f (t + 1) (by omega) (by omega)
      by_cases g1 : slot d (pn d key t) ≥ 0
      · rw [bp g1, bp (by omega), bp (by omega), keq]
        rw [bn (fun e => hne.2 ⟨g1, e⟩)]
        rw [np (by omega), nc.1, nc.2]; exact ih
      · rw [bn g1, np (by omega), nc.1, nc.2]; exact ih
theorem probeS {n : Nat} {d : Dic} {key : ByteArray} (hn : 10000 ≤ n) (h : Fin d) (hk : key.size ≤ 9000) : F58 n d.ix d.es key = some (way d key, ()) := by
  unfold F58 F58_0
  have hp := h.pos
  have hk2 := (h.stp key).2.1
  rw [hashS hn hk]
  simp only [ats]
  rw [np (by omega), tm (by omega)]
  have := probeS_it (R := List Int × Unit) (n := n) (k0 := fun z => some (z, ())) (key := key) h (kk d key) n 0 (by omega) (by omega)
  rw [show ((H key : Nat) : Int) % (d.ix.length : Int) = ((pn d key 0 : Nat) : Int) from by unfold pn; show _ = ((H key % d.ix.length : Nat) : Int); push_cast; rfl]
  exact this
theorem slotS {n : Nat} {d : Dic} {key : ByteArray} (hn : 10000 ≤ n) (h : Fin d) (hk : key.size ≤ 9000) : F36 n d.ix d.es key = some ((sl d key : Int), ()) := by
  unfold F36
  rw [probeS hn h hk]
  simp only [ats, way_len]
  have hk2 := (h.stp key).2.1
  rw [wp (by omega), bp (by omega), bp (by omega), show (((kk d key + 1 : Nat) : Int) - 1).toNat = kk d key by omega, way_last]
end Go.Proofs.Ytfpgihjociacnaa.Am
