/- Dictionaries: the laws. -/
import Derived.Test.YtdnbepnajhggpaaAmDictT
namespace Go.Proofs.Ytdnbepnajhggpaa.Am
open Go
set_option autoImplicit false
set_option linter.unusedVariables false
set_option linter.unusedSimpArgs false

theorem draw2 {n : Nat} {z : List Int} (hn : 10000 ≤ n) (hz : okb z) : ∃ (d : Dic) (key : ByteArray), F28 n z = some (((d.ix, (d.es, ())), (key, ())), ()) := by
  obtain ⟨c, e, h⟩ := newRnd_ok (n := n) hz
  obtain ⟨d, i1, e1, h1⟩ := dict_ok (n := n) hn h (by omega)
  obtain ⟨key, i2, e2, h2⟩ := key_ok (n := n) hn h1 (by omega)
  refine ⟨d, key, ?_⟩
  unfold F28
  rw [e]; simp only [ats]; rw [e1]; simp only [ats]; rw [e2]; rfl
theorem draw2p {n : Nat} {z : List Int} (hn : 10000 ≤ n) (hz : okb z) : ∃ (d : Dic) (key : ByteArray), F16 n z = some (((d.ix, (d.es, ())), (key, ())), ()) := draw2 hn hz
theorem draw2d {n : Nat} {z : List Int} (hn : 10000 ≤ n) (hz : okb z) : ∃ (d : Dic) (key : ByteArray), F46 n z = some (((d.ix, (d.es, ())), (key, ())), ()) := draw2 hn hz
theorem draw1 {n : Nat} {z : List Int} (hn : 10000 ≤ n) (hz : okb z) : ∃ (d : Dic), F22 n z = some ((d.ix, (d.es, ())), ()) := by
  obtain ⟨c, e, h⟩ := newRnd_ok (n := n) hz
  obtain ⟨d, i1, e1, h1⟩ := dict_ok (n := n) hn h (by omega)
  refine ⟨d, ?_⟩
  unfold F22
  rw [e]; simp only [ats]; rw [e1]; rfl
theorem draw1o {n : Nat} {z : List Int} (hn : 10000 ≤ n) (hz : okb z) : ∃ (d : Dic), F35 n z = some ((d.ix, (d.es, ())), ()) := draw1 hn hz
theorem draw1p {n : Nat} {z : List Int} (hn : 10000 ≤ n) (hz : okb z) : ∃ (d : Dic), F40 n z = some ((d.ix, (d.es, ())), ()) := draw1 hn hz
theorem draw3 {n : Nat} {z : List Int} (hn : 10000 ≤ n) (hz : okb z) : ∃ (d : Dic) (key : ByteArray) (v : Int), F43 n z = some (((d.ix, (d.es, ())), (key, (v, ()))), ()) := by
  obtain ⟨c, e, h⟩ := newRnd_ok (n := n) hz
  obtain ⟨d, i1, e1, h1⟩ := dict_ok (n := n) hn h (by omega)
  obtain ⟨key, i2, e2, h2⟩ := key_ok (n := n) hn h1 (by omega)
  obtain ⟨q, i3, e3, q1, q2, h3⟩ := pick (n := n) (m := 99) h2 (by omega)
  obtain ⟨v, i4, e4, h4⟩ := often_ok (n := n) (v := q) h3 (by omega)
  refine ⟨d, key, v, ?_⟩
  unfold F43
  rw [e]; simp only [ats]; rw [e1]; simp only [ats]; rw [e2]; simp only [ats]; rw [e3]; simp only [ats]; rw [e4]; rfl
theorem drawS {n : Nat} {z : List Int} (hn : 10000 ≤ n) (hz : okb z) : ∃ (a b : Dic), F32 n z = some (((a.ix, (a.es, ())), ((b.ix, (b.es, ())), ())), ()) := by
  obtain ⟨c, e, h⟩ := newRnd_ok (n := n) hz
  obtain ⟨d, i1, e1, h1⟩ := dict_ok (n := n) hn h (by omega)
  obtain ⟨q, i3, e3, q1, q2, h3⟩ := pick (n := n) (m := 2) h1 (by omega)
  unfold F32
  rw [e]; simp only [ats]; rw [e1]; simp only [ats]; rw [e3]; simp only [ats]
  by_cases g : q = 0
  · rw [eqp g, packdS hn]
    exact ⟨d, packR d, rfl⟩
  · obtain ⟨b, i4, e4, h4⟩ := dict_ok (n := n) hn h3 (by omega)
    rw [eqn g, e4]
    exact ⟨d, b, rfl⟩
theorem halfOk {n : Nat} {z : List Int} (hz : okb z) (hl : z.length ≤ 1048576) : ∃ y, okb y ∧ F44 n z = some (y, ()) := by
  unfold F44
  rw [td (by omega), wp (by omega), bp (by omega), bp (by omega), bp (by omega)]
  exact ⟨_, (hz.take _).drop _, rfl⟩

-- what is listed -----------------------------------------------------------------------------------------------------------------------
theorem get_all {d : Dic} {s : ByteArray} (hs : s ∈ keysR d) : Valid d ∧ (s, (getR d s).1) ∈ L d ∧ (getR d s).2 = true := by
  by_cases h : Valid d
  · rw [keysR_ok h] at hs
    obtain ⟨v, hv⟩ := mem_keys_L.1 hs
    rw [get_yes h hv]; exact ⟨h, hv, rfl⟩
  · rw [keysR_bad h] at hs; cases hs
theorem ok_it {R : Type} {n : Nat} {d : Dic} {l : List ByteArray} {k0 : Bool → Option R} {k1 : List Int → List Ety → Option R} (hn : 10000 ≤ n) (h : l.length ≤ 9000) (hg : ∀ s ∈ l, (getR d s).2 = true) : ∀ (fuel i : Nat), i ≤ l.length → l.length + 1 ≤ fuel + i →
    F7_0_it n k0 k1 fuel i d.ix d.es l = k1 d.ix d.es
  | fuel, i, hi, hf => by
    obtain ⟨f, rfl⟩ : ∃ f, fuel = f + 1 := ⟨fuel - 1, by omega⟩
    simp only [F7_0_it, F7_0_step]
    by_cases g : i < l.length
    · rw [bp (by omega), bp (by omega), bp (by omega), show ((i : Nat) : Int).toNat = i by omega, getI hn]
      simp only [ats]
      rw [hg _ (by rw [getD_lt g]; exact List.getElem_mem _), wp (by omega)]
      simp only [Bool.not_true, cf]
      exact ok_it hn h hg f (i + 1) (by omega) (by omega)
    · rw [bn (by omega)]
theorem law_ok {n : Nat} {z : List Int} (hn : 20000 ≤ n) (hz : okb z) : F7 n z = some (true, ()) := by
  unfold F7
  by_cases hl : (z.length : Int) > 1048576
  · rw [bp hl]
  have hn : 10000 ≤ n := by omega
  obtain ⟨d, e⟩ := draw1o (n := n) hn hz
  rw [bn hl, e]; simp only [ats]
  rw [validI hn]; simp only [ats]
  rw [okS hn]; simp only [ats, beq_self_eq_true, Bool.not_true, cf]
  by_cases h : Valid d
  case neg => rw [decide_eq_false h]; rfl
  rw [decide_eq_true h]; simp only [Bool.not_true, cf]
  rw [keysI hn]; simp only [ats]
  have hk := keysR_len d
  unfold F7_0
  have t := ok_it (R := Bool × Unit) (n := n) (d := d) (l := keysR d) (k0 := fun z => some (z, ())) (k1 := fun z1673 z1674 => (andThen (F37 n z1673 z1674) fun r1836 => (andThen (F33 n z1673 z1674 r1836.1.1 r1836.1.2.1) fun r1837 => (bif r1837.1 then (andThen (F37 n z1673 z1674) fun r1838 => (andThen (F29 n r1838.1.1 r1838.1.2.1) fun r1839 => some (r1839.1, ()))) else some (false, ()))))) hn (by omega) (fun s hs => (get_all hs).2.2) n 0 (by omega) (by omega)
  rw [show ((0 : Nat) : Int) = 0 from rfl] at t
  rw [t]
  obtain ⟨p1, p2, p3, p4⟩ := pack_ok h
  rw [packdI hn]; simp only [ats]
  rw [sameI hn, decide_eq_true (sameD_L h p2 p3.symm)]; simp only [ats, ct]
  rw [validI hn, decide_eq_true p2]; rfl
open Classical in
theorem keys_it {R : Type} {n : Nat} {d : Dic} {l : List ByteArray} {k0 : Bool → Option R} {k1 : List ByteArray → Option R} (hn : 10000 ≤ n) (h : l.length ≤ 9000) (hg : ∀ s ∈ l, (getR d s).2 = true) (hu : l.Nodup) : ∀ (fuel i : Nat), i ≤ l.length → l.length + 1 ≤ fuel + i →
    F4_0_it n k0 k1 fuel i d.ix d.es l = k1 l
  | fuel, i, hi, hf => by
    obtain ⟨f, rfl⟩ : ∃ f, fuel = f + 1 := ⟨fuel - 1, by omega⟩
    simp only [F4_0_it, F4_0_step]
    by_cases g : i < l.length
    · rw [bp (by omega), bp (by omega), bp (by omega), show ((i : Nat) : Int).toNat = i by omega, getI hn]
      simp only [ats]
      rw [hg _ (by rw [getD_lt g]; exact List.getElem_mem _), wp (by omega)]
      simp only [Bool.not_true, cf]
      rw [bp (by omega), bp (by omega), bp (by omega), bp (by omega), isOne hn (by rw [List.length_take]; omega)]
      simp only [ats]
      rw [bn]
      · exact keys_it hn h hg hu f (i + 1) (by omega) (by omega)
      · rw [getD_lt g]
        intro hm
        obtain ⟨j, hj, e⟩ := List.getElem_of_mem hm
        rw [List.length_take] at hj
        rw [List.getElem_take] at e
        have := List.pairwise_iff_getElem.1 hu j i (by omega) g (by omega)
        exact this e
    · rw [bn (by omega)]
theorem keysR_nodup (d : Dic) : (keysR d).Nodup := by
  by_cases h : Valid d
  · rw [keysR_ok h]; exact keys_nodup h
  · rw [keysR_bad h]; simp
theorem law_keys {n : Nat} {z : List Int} (hn : 20000 ≤ n) (hz : okb z) : F4 n z = some (true, ()) := by
  unfold F4
  by_cases hl : (z.length : Int) > 1048576
  · rw [bp hl]
  have hn : 10000 ≤ n := by omega
  obtain ⟨d, e⟩ := draw1 (n := n) hn hz
  have hk := keysR_len d
  rw [bn hl, e]; simp only [ats]
  rw [keysI hn]; simp only [ats]
  rw [keysS hn]; simp only [ats]
  rw [texts hn (by omega)]; simp only [ats, Bool.not_true, cf]
  by_cases g : ((keysR d).length : Int) = 0
  · rw [eqp g]
  rw [eqn g]
  unfold F4_0
  have t := keys_it (R := Bool × Unit) (n := n) (d := d) (l := keysR d) (k0 := fun z => some (z, ())) (k1 := fun z1442 => some ((decide (((z1442.length) : Int) ≤ (40 : Int))), ())) hn (by omega) (fun s hs => (get_all hs).2.2) (keysR_nodup d) n 0 (by omega) (by omega)
  rw [show ((0 : Nat) : Int) = 0 from rfl] at t
  rw [t, decide_eq_true (by omega)]
theorem law_new {n : Nat} {z : List Int} (hn : 20000 ≤ n) (hz : okb z) : F5 n z = some (true, ()) := by
  unfold F5
  by_cases hl : (z.length : Int) > 1048576
  · rw [bp hl]
  have hn : 10000 ≤ n := by omega
  obtain ⟨d, key, e⟩ := draw2 (n := n) hn hz
  rw [bn hl, dnewI hn]; simp only [ats]
  rw [e]; simp only [ats]
  have hv := emp_valid (N := 8) (by decide)
  have e1 := getI (n := n) (d := emp 8) (key := key) hn
  have e2 := validI (n := n) (d := emp 8) hn
  have e3 := keysI (n := n) (d := emp 8) hn
  have e4 := same (n := n) (d := emp 8) hn (by decide) (by decide)
  rw [show (emp 8).es = [] from rfl] at e1 e2 e3 e4
  rw [e1]; simp only [ats]
  rw [e2, decide_eq_true hv]; simp only [ats, ct]
  rw [dnewS hn]; simp only [ats]
  rw [show (emp 8).es = [] from rfl, e4]; simp only [ats, ct]
  rw [get_no (show key ∉ keys (emp 8) from by simp [keys, L_emp])]
  simp only [Bool.not_false, ct]
  rw [e3]; simp only [ats]
  rw [keysR_ok hv]; rfl
theorem same_it {R : Type} {n : Nat} {a b : Dic} {l : List ByteArray} {k0 : Bool → Option R} {k1 : List Int → List Ety → List Int → List Ety → List ByteArray → Option R} (hn : 10000 ≤ n) (h : l.length ≤ 9000) (hg : ∀ s ∈ l, (getR a s).2 = true ∧ (getR b s).2 = true ∧ (getR a s).1 = (getR b s).1) : ∀ (fuel i : Nat), i ≤ l.length → l.length + 1 ≤ fuel + i →
    F6_0_it n k0 k1 fuel i a.ix a.es b.ix b.es l = k1 a.ix a.es b.ix b.es l
  | fuel, i, hi, hf => by
    obtain ⟨f, rfl⟩ : ∃ f, fuel = f + 1 := ⟨fuel - 1, by omega⟩
    simp only [F6_0_it, F6_0_step]
    by_cases g : i < l.length
    · obtain ⟨g1, g2, g3⟩ := hg (l.getD i ⟨#[]⟩) (by rw [getD_lt g]; exact List.getElem_mem _)
      rw [bp (by omega), bp (by omega), bp (by omega), show ((i : Nat) : Int).toNat = i by omega, getI hn]
      simp only [ats]
      rw [bp (by omega), bp (by omega), getI hn]
      simp only [ats]
      rw [g1, g2, wp (by omega)]
      simp only [Bool.not_true, cf]
      rw [nen g3]
      exact same_it hn h hg f (i + 1) (by omega) (by omega)
    · rw [bn (by omega)]
theorem law_same {n : Nat} {z : List Int} (hn : 20000 ≤ n) (hz : okb z) : F6 n z = some (true, ()) := by
  unfold F6
  by_cases hl : (z.length : Int) > 1048576
  · rw [bp hl]
  have hn : 10000 ≤ n := by omega
  obtain ⟨a, b, e⟩ := drawS (n := n) hn hz
  rw [bn hl, e]; simp only [ats]
  rw [sameI hn]; simp only [ats]
  rw [sameS hn]; simp only [ats, beq_self_eq_true, Bool.not_true, cf]
  by_cases h : SameD a b
  case neg => rw [decide_eq_false h]; rfl
  rw [decide_eq_true h]; simp only [Bool.not_true, cf]
  obtain ⟨ha, hb, hll, hs⟩ := sameD_iff.1 h
  have hk := keysR_len a
  rw [keysI hn]; simp only [ats]
  unfold F6_0
  have t := same_it (R := Bool × Unit) (n := n) (a := a) (b := b) (l := keysR a) (k0 := fun z => some (z, ())) (k1 := fun z1635 z1636 z1637 z1638 z1639 => (andThen (F33 n z1637 z1638 z1635 z1636) fun r1640 => (bif r1640.1 then (andThen (F23 n z1637 z1638) fun r1642 => some ((((z1639.length) : Int) == ((r1642.2.1.length) : Int)), ())) else some (false, ())))) hn (by omega) (fun s hs' => by
    obtain ⟨_, g1, g2⟩ := get_all hs'
    rw [get_yes hb (hs _ g1)]; exact ⟨g2, rfl, rfl⟩) n 0 (by omega) (by omega)
  rw [show ((0 : Nat) : Int) = 0 from rfl] at t
  rw [t]
  rw [sameI hn, decide_eq_true (sameD_symm h)]; simp only [ats, ct]
  rw [keysI hn]; simp only [ats]
  rw [keysR_ok ha, keysR_ok hb, keys_len, keys_len, hll]; simp
theorem probes_it {R : Type} {n : Nat} {d : Dic} {key : ByteArray} {ok : Bool} {k0 : Bool → Option R} {k1 : List Int → Bool → List Int → List Ety → Option R} (h : Fin d) : ∀ (fuel t : Nat), t ≤ kk d key + 1 → kk d key + 2 ≤ fuel + t →
    F3_0_it n k0 k1 fuel (way d key) ok (pos d.ix.length (H key) t).2 (pn d key t) t d.ix d.es = k1 (way d key) ok d.ix d.es
  | fuel, t, ht, hf => by
    obtain ⟨f, rfl⟩ : ∃ f, fuel = f + 1 := ⟨fuel - 1, by omega⟩
    simp only [F3_0_it, F3_0_step, way_len]
    have hp := h.pos
    have hk := (h.stp key).2.1
    by_cases g : t < kk d key + 1
    · have hlt := pn_lt h key t
      have nc := next_cast (key := key) (t := t) h
      have ih := probes_it (R := R) (n := n) (key := key) (ok := ok) (k0 := k0) (k1 := k1) h f (t + 1) (by omega) (by omega)
      rw [bp (by omega), bp (by omega), bp (by omega), show ((t : Nat) : Int).toNat = t by omega, nen (way_get (d := d) (key := key) (by omega)), wp (x := ((kk d key + 1 : Nat) : Int) - 1) (by omega)]
      by_cases g2 : t < kk d key
      · have hst := h.stop (key := key) (t := t) (by omega)
        rw [st_iff] at hst
        have : slot d (pn d key t) ≠ -1 := fun e => by
          have := hst.1 (.inl e); omega
        rw [bp (by omega), bp (by omega), bp (by omega), show ((pn d key t : Nat) : Int).toNat = pn d key t by omega, slot_eq, eqn this]
        rw [np (by omega), nc.1, nc.2, wp (by omega)]; exact ih
      · rw [bn (by omega), np (by omega), nc.1, nc.2, wp (by omega)]; exact ih
    · rw [bn (by omega)]
theorem law_probes {n : Nat} {z : List Int} (hn : 20000 ≤ n) (hz : okb z) : F3 n z = some (true, ()) := by
  unfold F3
  by_cases hl : (z.length : Int) > 1048576
  · rw [bp hl]
  have hn : 10000 ≤ n := by omega
  obtain ⟨d, key, e⟩ := draw2p (n := n) hn hz
  rw [bn hl, e]; simp only [ats]
  rw [probesI hn]; simp only [ats]
  rw [probesS hn]; simp only [ats]
  by_cases h : Valid d ∧ key.size ≤ 20
  case neg =>
    have e0 : probesR d key = [] := by unfold probesR; rw [if_neg h]
    rw [e0, nums hn (by simp)]; rfl
  obtain ⟨h, hk⟩ := h
  have e0 : probesR d key = way d key := by unfold probesR; rw [if_pos ⟨h, hk⟩]
  have hf := h.toBase.fin
  have hk2 := (hf.stp key).2.1
  have hs := hf.sl_lt key
  have hp := hf.pos
  rw [e0, nums hn (by rw [way_len]; omega)]; simp only [ats, Bool.not_true, cf, way_len]
  rw [eqn (by omega), getI hn]; simp only [ats]
  rw [hashI hn hk]; simp only [ats]
  rw [np (by omega), start_cast hf]
  unfold F3_0
  have t := probes_it (R := Bool × Unit) (n := n) (d := d) (key := key) (ok := (getR d key).2) (k0 := fun z => some (z, ())) (k1 := fun z1326 z1327 z1328 z1329 =>
    bif decide ((0 : Int) ≤ (IntKind.wrap .i64 (((z1326.length) : Int) - (1 : Int)))) then
    bif decide ((IntKind.wrap .i64 (((z1326.length) : Int) - (1 : Int))) < ((z1326.length) : Int)) then
    bif decide ((0 : Int) ≤ (z1326.getD ((IntKind.wrap .i64 (((z1326.length) : Int) - (1 : Int))).toNat) (0 : Int))) then
    bif decide ((z1326.getD ((IntKind.wrap .i64 (((z1326.length) : Int) - (1 : Int))).toNat) (0 : Int)) < ((z1328.length) : Int)) then
    some ((((z1328.getD ((z1326.getD ((IntKind.wrap .i64 (((z1326.length) : Int) - (1 : Int))).toNat) (0 : Int)).toNat) (0 : Int)) == (-1 : Int)) == (!z1327)), ())
    else none else none else none else none) hf n 0 (by omega) (by omega)
  rw [show ((0 : Nat) : Int) = 0 from rfl] at t
  refine Eq.trans t ?_
  simp only [way_len]
  rw [wp (by omega), bp (by omega), bp (by omega), show (((kk d key + 1 : Nat) : Int) - 1).toNat = kk d key by omega, way_last, bp (by omega), bp (by omega), show ((sl d key : Nat) : Int).toNat = sl d key by omega]
  have e : d.ix.getD (sl d key) 0 = at' d key := rfl
  rw [e]
  unfold getR
  by_cases g : 0 ≤ at' d key
  · rw [if_pos ⟨h, hk, g⟩, show (at' d key == (-1 : Int)) = false from by rw [beq_eq_false_iff_ne]; omega]; rfl
  · rw [if_neg (fun hh => g hh.2.2), show (at' d key == (-1 : Int)) = true from by rw [beq_iff_eq]; exact at_neg hf g]; rfl
open Classical in
theorem law_get {n : Nat} {z : List Int} (hn : 20000 ≤ n) (hz : okb z) : F8 n z = some (true, ()) := by
  unfold F8
  by_cases hl : (z.length : Int) > 1048576
  · rw [bp hl]
  have hn : 10000 ≤ n := by omega
  obtain ⟨d, key, e⟩ := draw2 (n := n) hn hz
  rw [bn hl, e]; simp only [ats]
  rw [getI hn]; simp only [ats]
  rw [getS hn]; simp only [ats]
  rw [eqp rfl]
  simp only [beq_self_eq_true, Bool.not_true, cf]
  cases h : (getR d key).2
  · rfl
  simp only [Bool.not_true, cf]
  obtain ⟨hv, hk, hm⟩ := get_mem h
  have hmk : key ∈ keys d := mem_keys_L.2 ⟨_, hm⟩
  rw [dropI hn, drop_yes hv hmk]; simp only [ats]
  rw [getI hn]; simp only [ats, ct]
  rw [get_no (drop_gone hv ((mem_keys hv).1 hmk))]; simp only [Bool.not_false, ct]
  rw [keysI hn]; simp only [ats]
  have hkl := keysR_len d
  rw [isOne hn (by omega), keysR_ok hv, decide_eq_true hmk]; rfl
theorem law_pack {n : Nat} {z : List Int} (hn : 20000 ≤ n) (hz : okb z) : F9 n z = some (true, ()) := by
  unfold F9
  by_cases hl : (z.length : Int) > 1048576
  · rw [bp hl]
  have hn : 10000 ≤ n := by omega
  obtain ⟨d, e⟩ := draw1p (n := n) hn hz
  have hpl := pack_len d
  rw [bn hl, e]; simp only [ats]
  rw [packdI hn]; simp only [ats]
  rw [packdS hn]; simp only [ats]
  rw [same hn (by omega) (by omega)]; simp only [ats, Bool.not_true, cf]
  by_cases h : Valid d
  case neg => rw [pack_bad h]; rfl
  obtain ⟨p1, p2, p3, p4⟩ := pack_ok h
  have hp := p2.toBase.pos
  have hkl := keysR_len d
  rw [eqn (by omega), keysI hn]; simp only [ats]
  rw [keysI hn]; simp only [ats]
  rw [show keysR (packR d) = keysR d by rw [keysR_ok p2, keysR_ok h]; unfold keys; rw [p3], texts hn (by omega)]; simp only [ats, ct]
  rw [packdI hn]; simp only [ats]
  rw [pack_pack h, same hn (by omega) (by omega)]; simp only [ats, ct]
  rw [sameI hn, decide_eq_true (sameD_L p2 h p3)]; rfl
end Go.Proofs.Ytdnbepnajhggpaa.Am
