/- Dictionaries: both tests of what is valid. -/
import Derived.Test.YtfpgihjociacnaaAmDictW
namespace Go.Proofs.Ytfpgihjociacnaa.Am
open Go
set_option autoImplicit false
set_option linter.unusedVariables false
set_option linter.unusedSimpArgs false

-- the program's slots ------------------------------------------------------------------------------------------------------------------
theorem probeI_it {R : Type} {n : Nat} {d : Dic} {key : ByteArray} {N : Int} {k0 k1 : List Int → Option R} (h : Fin d) (hN : 65536 ≤ N) (hN2 : N ≤ 100000) : ∀ (c fuel t : Nat), t + c = kk d key → c + 1 ≤ fuel →
    F38_0_it n k0 k1 fuel key d.ix.length (pn d key t) (pos d.ix.length (H key) t).2 N t d.ix d.es (wy d key t) = k0 (way d key)
  | c, fuel, t, hc, hf => by
    obtain ⟨f, rfl⟩ : ∃ f, fuel = f + 1 := ⟨fuel - 1, by omega⟩
    simp only [F38_0_it, F38_0_step]
    have hp := h.pos
    have hk := (h.stp key).2.1
    have hlt : pn d key t < d.ix.length := pos_lt (by omega) t
    have hst := h.stop (key := key) (t := t) (by omega)
    rw [st_iff] at hst
    rw [bp (by omega), bp (by rw [wy_len]; simp only [List.length_cons, List.length_nil]; omega), bp (by omega), bp (by omega), show ((pn d key t : Nat) : Int).toNat = pn d key t by omega, wy_succ]
    rw [slot_eq, ent_eq]
    have hrg := h.rg _ hlt
    have hrg : slot d (pn d key t) < d.es.length := hrg
    have nc := next_cast (key := key) (t := t) h
    by_cases g : t = kk d key
    · have hw : wy d key (t + 1) = way d key := by rw [g]; rfl
      rw [hw]
      rcases hst.2 g with g1 | ⟨g1, g2⟩
      · rw [eqp g1]
      · rw [eqn (by omega), bp (by omega), bp (by omega), bp (by omega), keq]
        rw [bp g2]
    · have hne := mt hst.1 g
      rw [not_or] at hne
      rw [eqn hne.1]
      have ih := probeI_it (R := R) (n := n) (key := key) (k0 := k0) (k1 := k1) h hN hN2 (c - 1) f (t + 1) (by omega) (by omega)
      by_cases g1 : slot d (pn d key t) ≥ 0
      · rw [bp g1, bp (by omega), bp (by omega), keq]
        rw [bn (fun e => hne.2 ⟨g1, e⟩)]
        rw [np (by omega), nc.1, nc.2, wp (by omega)]; exact ih
      · rw [bn g1, np (by omega), nc.1, nc.2, wp (by omega)]; exact ih
theorem start_cast {d : Dic} {key : ByteArray} (h : Fin d) : ((H key : Nat) : Int).tmod (d.ix.length : Int) = ((pn d key 0 : Nat) : Int) := by
  rw [tm (by omega)]
  unfold pn; show _ = ((H key % d.ix.length : Nat) : Int); push_cast; rfl
theorem probeI {n : Nat} {d : Dic} {key : ByteArray} (hn : 10000 ≤ n) (h : Fin d) (hk : key.size ≤ 20) : F38 n d.ix d.es key = some (way d key, ()) := by
  unfold F38 F38_0
  have hp := h.pos
  have hk2 := (h.stp key).2.1
  rw [hashI hn hk]
  simp only [ats]
  rw [np (by omega), start_cast h, wp (x := 2 * (d.ix.length : Int)) (by omega), wp (by omega)]
  exact probeI_it (R := List Int × Unit) (n := n) (k0 := fun z => some (z, ())) (k1 := fun z => some (z, ())) (key := key) h (by omega) (by omega) (kk d key) n 0 (by omega) (by omega)
theorem findI {n : Nat} {d : Dic} {key : ByteArray} (hn : 10000 ≤ n) (h : Fin d) (hk : key.size ≤ 20) : F49 n d.ix d.es key = some (at' d key, ()) := by
  unfold F49
  rw [probeI hn h hk]
  simp only [ats, way_len]
  have hk2 := (h.stp key).2.1
  have hs := h.sl_lt key
  rw [wp (by omega), bp (by omega), bp (by omega), show (((kk d key + 1 : Nat) : Int) - 1).toNat = kk d key by omega, way_last, bp (by omega), bp (by omega), show ((sl d key : Nat) : Int).toNat = sl d key by omega]
  have : d.ix.getD (sl d key) 0 = at' d key := rfl
  rw [this, if_neg (by rcases h.at_cases key with g | g <;> omega)]

-- entries ------------------------------------------------------------------------------------------------------------------------------
theorem rangeS {n : Nat} {v a b : Int} : F46 n v a b = some (decide (a ≤ v ∧ v ≤ b), ()) := by
  unfold F46
  by_cases h : v ≥ a
  · rw [bp h]; congr 3; simp; omega
  · rw [bn h, decide_eq_false (by omega)]
theorem rangeI {n : Nat} {v a b : Int} : F48 n v a b = some (decide (a ≤ v ∧ v ≤ b), ()) := by
  unfold F48
  by_cases h : v ≥ a
  · rw [bp h]; congr 3; simp; omega
  · rw [bn h, decide_eq_false (by omega)]
theorem kb (k : ByteArray) (h : (k == (⟨#[]⟩ : ByteArray)) = true) : k = ⟨#[]⟩ := by
  obtain ⟨a⟩ := k
  have h2 : (a == #[]) = true := h
  have := eq_of_beq h2
  rw [this]
noncomputable instance : DecidableEq Ety := fun a b => Classical.propDecidable (a = b)
theorem zero_iff {e : Ety} : ((e.key == (⟨#[]⟩ : ByteArray)) && ((e.hash == 0) && ((e.val == 0) && (e.live == false)))) = decide (e = ze) := by
  by_cases h : e = ze
  · subst h; rw [decide_eq_true (p := ze = ze) rfl]; rfl
  · rw [decide_eq_false h, Bool.eq_false_iff]
    intro g
    simp only [Bool.and_eq_true, beq_iff_eq] at g
    apply h
    obtain ⟨k, a, b, c⟩ := e
    obtain ⟨g1, g2, g3, g4⟩ := g
    have g1 : k = ⟨#[]⟩ := kb k g1
    have g2 : a = 0 := g2
    have g3 : b = 0 := g3
    have g4 : c = false := g4
    subst g1; subst g2; subst g3; subst g4
    rfl
open Classical in
theorem entS_it {R : Type} {n : Nat} {d : Dic} {k0 : Bool → Option R} {k1 : List Int → List Ety → Option R} (hn : 10000 ≤ n) (hl : d.es.length ≤ 9000) : ∀ (fuel i : Nat), i ≤ d.es.length → d.es.length + 1 ≤ fuel + i →
    F25_0_it n k0 k1 fuel i d.ix d.es = if ∀ j, i ≤ j → j < d.es.length → EOk (ent d j) then k1 d.ix d.es else k0 false
  | fuel, i, hi, hf => by
    obtain ⟨f, rfl⟩ : ∃ f, fuel = f + 1 := ⟨fuel - 1, by omega⟩
    simp only [F25_0_it, F25_0_step]
    by_cases g : i < d.es.length
    · rw [bp (by omega), bp (by omega), bp (by omega), show ((i : Nat) : Int).toNat = i by omega]
      rw [ent_eq, wp (by omega)]
      have ih := entS_it (R := R) (n := n) (k0 := k0) (k1 := k1) hn hl f (i + 1) (by omega) (by omega)
      have e1 : (∀ j, i ≤ j → j < d.es.length → EOk (ent d j)) ↔ EOk (ent d i) ∧ ∀ j, i + 1 ≤ j → j < d.es.length → EOk (ent d j) := by
        constructor
        · intro h; exact ⟨h i (by omega) g, fun j h1 h2 => h j (by omega) h2⟩
        · rintro ⟨h1, h2⟩ j h3 h4
          by_cases e : j = i
          · subst e; exact h1
          · exact h2 j (by omega) h4
      generalize hE : ent d i = E at *
      rw [show ((i : Nat) : Int) + 1 = ((i + 1 : Nat) : Int) by omega]
      simp only [zero_iff, rangeS, F34, ats]
      cases hv : E.live
      · simp only [Bool.not_false, ct, Bool.not_true, cf]
        by_cases hz : E = ze
        · subst hz
          have : EOk ze := ⟨fun _ => rfl, fun h => by cases h⟩
          rw [nn (c := ze = ze) rfl, nn (by decide), nn (by decide), ih]
          simp [e1, this]
        · have : ¬ EOk E := fun h => hz (h.1 hv)
          rw [np hz, if_neg (fun h => this (e1.1 h).1)]
      · simp only [Bool.not_false, ct, Bool.not_true, cf]
        have hb : EOk E ↔ (E.key.size ≤ 20 ∧ E.hash = H E.key ∧ -1000000 ≤ E.val ∧ E.val ≤ 1000000) :=
          ⟨fun h => h.2 hv, fun h => ⟨fun h1 => (by rw [hv] at h1; cases h1), fun _ => h⟩⟩
        by_cases h1 : E.key.size ≤ 20
        · rw [nn (by omega), hashS hn (by omega)]
          simp only [ats]
          by_cases h2 : E.hash = H E.key
          · rw [nen h2]
            by_cases h3 : -1000000 ≤ E.val ∧ E.val ≤ 1000000
            · rw [nn h3, ih]
              have : EOk E := hb.2 ⟨h1, h2, h3⟩
              simp [e1, this]
            · rw [np h3, if_neg (fun h => h3 (hb.1 (e1.1 h).1).2.2)]
          · rw [nep h2, if_neg (fun h => h2 (hb.1 (e1.1 h).1).2.1)]
        · rw [np (by omega), if_neg (fun h => h1 (hb.1 (e1.1 h).1).1)]
    · rw [bn (by omega), if_pos (fun j h1 h2 => by omega)]
open Classical in
theorem entI_it {R : Type} {n : Nat} {d : Dic} {cs : List Int} {k0 : Bool → Option R} {k1 : List Int → List Ety → Option R} (hn : 10000 ≤ n) (hl : d.es.length ≤ 9000) (hc : cs.length = d.es.length) : ∀ (fuel i : Nat), i ≤ d.es.length → d.es.length + 1 ≤ fuel + i →
    F28_3_it n k0 k1 fuel d.es d.es.length i d.ix d.es cs = if ∀ j, i ≤ j → j < d.es.length → (EOk (ent d j) ∧ ((ent d j).live = true → cs.getD j 0 = 1)) then k1 d.ix d.es else k0 false
  | fuel, i, hi, hf => by
    obtain ⟨f, rfl⟩ : ∃ f, fuel = f + 1 := ⟨fuel - 1, by omega⟩
    simp only [F28_3_it, F28_3_step, F28_2]
    by_cases g : i < d.es.length
    · rw [bp (by omega), bp (by omega), bp (by omega), show ((i : Nat) : Int).toNat = i by omega]
      rw [ent_eq, wp (by omega)]
      have ih := entI_it (R := R) (n := n) (k0 := k0) (k1 := k1) hn hl hc f (i + 1) (by omega) (by omega)
      have e1 : (∀ j, i ≤ j → j < d.es.length → (EOk (ent d j) ∧ ((ent d j).live = true → cs.getD j 0 = 1))) ↔ (EOk (ent d i) ∧ ((ent d i).live = true → cs.getD i 0 = 1)) ∧ ∀ j, i + 1 ≤ j → j < d.es.length → (EOk (ent d j) ∧ ((ent d j).live = true → cs.getD j 0 = 1)) := by
        constructor
        · intro h; exact ⟨h i (by omega) g, fun j h1 h2 => h j (by omega) h2⟩
        · rintro ⟨h1, h2⟩ j h3 h4
          by_cases e : j = i
          · subst e; exact h1
          · exact h2 j (by omega) h4
      generalize hE : ent d i = E at *
      rw [show ((i : Nat) : Int) + 1 = ((i + 1 : Nat) : Int) by omega]
      simp only [zero_iff, rangeI]
      cases hv : E.live
      · simp only [Bool.not_false, ct, Bool.not_true, cf]
        by_cases hz : E = ze
        · subst hz
          have : EOk ze := ⟨fun _ => rfl, fun h => by cases h⟩
          rw [nn (c := ze = ze) rfl, ih]
          have h0 : ze.live = true → cs.getD i 0 = 1 := fun h => by cases h
          by_cases h6 : ∀ j, i + 1 ≤ j → j < d.es.length → (EOk (ent d j) ∧ ((ent d j).live = true → cs.getD j 0 = 1))
          · rw [if_pos h6, if_pos (e1.2 ⟨⟨this, h0⟩, h6⟩)]
          · rw [if_neg h6, if_neg (fun h => h6 (e1.1 h).2)]
        · have : ¬ EOk E := fun h => hz (h.1 hv)
          rw [np hz, if_neg (fun h => this (e1.1 h).1.1)]
      · simp only [Bool.not_false, ct, Bool.not_true, cf]
        have hb : EOk E ↔ (E.key.size ≤ 20 ∧ E.hash = H E.key ∧ -1000000 ≤ E.val ∧ E.val ≤ 1000000) :=
          ⟨fun h => h.2 hv, fun h => ⟨fun h1 => (by rw [hv] at h1; cases h1), fun _ => h⟩⟩
        rw [bp (by omega), bp (by omega)]
        by_cases h4 : cs.getD i 0 = 1
        · rw [nen h4]
          by_cases h1 : E.key.size ≤ 20
          · rw [bn (by omega), hashI hn h1]
            simp only [ats]
            by_cases h2 : E.hash = H E.key
            · rw [nen h2]
              by_cases h3 : -1000000 ≤ E.val ∧ E.val ≤ 1000000
              · rw [nn h3, ih]
                have : EOk E := hb.2 ⟨h1, h2, h3⟩
                have h5 : E.live = true → cs.getD i 0 = 1 := fun _ => h4
                by_cases h6 : ∀ j, i + 1 ≤ j → j < d.es.length → (EOk (ent d j) ∧ ((ent d j).live = true → cs.getD j 0 = 1))
                · rw [if_pos h6, if_pos (e1.2 ⟨⟨this, h5⟩, h6⟩)]
                · rw [if_neg h6, if_neg (fun h => h6 (e1.1 h).2)]
              · rw [np h3, if_neg (fun h => h3 (hb.1 (e1.1 h).1.1).2.2)]
            · rw [nep h2, if_neg (fun h => h2 (hb.1 (e1.1 h).1.1).2.1)]
          · rw [bp (by omega), if_neg (fun h => h1 (hb.1 (e1.1 h).1.1).1)]
        · rw [nep h4, if_neg (fun h => h4 ((e1.1 h).1.2 hv))]
    · rw [bn (by omega), if_pos (fun j h1 h2 => by omega)]
end Go.Proofs.Ytfpgihjociacnaa.Am
