/- Dictionaries: both tests say what is valid. -/
import Derived.Test.YtfpgihjociacnaaAmDictY
namespace Go.Proofs.Ytfpgihjociacnaa.Am
open Go
set_option autoImplicit false
set_option linter.unusedVariables false
set_option linter.unusedSimpArgs false

open Classical in
theorem endS_it {R : Type} {n : Nat} {d : Dic} {k0 : Bool → Option R} {k1 : Option R} (hn : 10000 ≤ n) (h : Fin d) (hl : d.es.length ≤ 9000) (hk : ∀ i, (ent d i).live = true → (ent d i).key.size ≤ 20) : ∀ (fuel i : Nat), i ≤ d.es.length → d.es.length + 1 ≤ fuel + i →
    F25_1_it n k0 k1 fuel i d.ix d.es = if ∀ j, i ≤ j → j < d.es.length → ((ent d j).live = true → at' d (ent d j).key = j) then k1 else k0 false
  | fuel, i, hi, hf => by
    obtain ⟨f, rfl⟩ : ∃ f, fuel = f + 1 := ⟨fuel - 1, by omega⟩
    simp only [F25_1_it, F25_1_step]
    by_cases g : i < d.es.length
    · rw [bp (by omega), bp (by omega), bp (by omega), show ((i : Nat) : Int).toNat = i by omega]
      rw [ent_eq, wp (by omega)]
      have ih := endS_it (R := R) (n := n) (k0 := k0) (k1 := k1) hn h hl hk f (i + 1) (by omega) (by omega)
      have e1 := all_step (p := fun j => ((ent d j).live = true → at' d (ent d j).key = j)) g
      rw [show ((i : Nat) : Int) + 1 = ((i + 1 : Nat) : Int) by omega]
      have fin : ((ent d i).live = true → at' d (ent d i).key = i) → F25_1_it n k0 k1 f ((i + 1 : Nat) : Int) d.ix d.es = if ∀ j, i ≤ j → j < d.es.length → ((ent d j).live = true → at' d (ent d j).key = j) then k1 else k0 false := by
        intro hh
        rw [ih]
        by_cases h6 : ∀ j, i + 1 ≤ j → j < d.es.length → ((ent d j).live = true → at' d (ent d j).key = j)
        · rw [if_pos h6, if_pos (e1.2 ⟨hh, h6⟩)]
        · rw [if_neg h6, if_neg (fun h => h6 (e1.1 h).2)]
      cases hv : (ent d i).live
      · rw [cf]; exact fin (fun h' => by rw [hv] at h'; cases h')
      · rw [ct, bp (by omega), bp (by omega), slotS hn h (Nat.le_trans (hk i hv) (by omega))]
        simp only [ats]
        have hs := h.sl_lt (ent d i).key
        rw [bp (by omega), bp (by omega), show ((sl d (ent d i).key : Nat) : Int).toNat = sl d (ent d i).key by omega]
        have : d.ix.getD (sl d (ent d i).key) 0 = at' d (ent d i).key := rfl
        rw [this]
        by_cases h2 : at' d (ent d i).key = i
        · rw [nen h2]; exact fin (fun _ => h2)
        · rw [nep h2, if_neg (fun h => h2 ((e1.1 h).1 hv))]
    · rw [bn (by omega), if_pos (fun j h1 h2 => by omega)]
open Classical in
theorem endI_it {R : Type} {n : Nat} {d : Dic} {k0 : Bool → Option R} {k1 : Option R} (hn : 10000 ≤ n) (h : Fin d) (hl : d.es.length ≤ 9000) (hk : ∀ i, (ent d i).live = true → (ent d i).key.size ≤ 20) : ∀ (fuel i : Nat), i ≤ d.es.length → d.es.length + 1 ≤ fuel + i →
    F28_5_it n k0 k1 fuel d.es d.es.length i d.ix d.es = if ∀ j, i ≤ j → j < d.es.length → ((ent d j).live = true → at' d (ent d j).key = j) then k1 else k0 false
  | fuel, i, hi, hf => by
    obtain ⟨f, rfl⟩ : ∃ f, fuel = f + 1 := ⟨fuel - 1, by omega⟩
    simp only [F28_5_it, F28_5_step, F28_4]
    by_cases g : i < d.es.length
    · rw [bp (by omega), bp (by omega), bp (by omega), show ((i : Nat) : Int).toNat = i by omega]
      rw [ent_eq, wp (x := (i : Int) + 1) (by omega)]
      have ih := endI_it (R := R) (n := n) (k0 := k0) (k1 := k1) hn h hl hk f (i + 1) (by omega) (by omega)
      have e1 := all_step (p := fun j => ((ent d j).live = true → at' d (ent d j).key = j)) g
      rw [show ((i : Nat) : Int) + 1 = ((i + 1 : Nat) : Int) by omega]
      have fin : ((ent d i).live = true → at' d (ent d i).key = i) → F28_5_it n k0 k1 f d.es d.es.length ((i + 1 : Nat) : Int) d.ix d.es = if ∀ j, i ≤ j → j < d.es.length → ((ent d j).live = true → at' d (ent d j).key = j) then k1 else k0 false := by
        intro hh
        rw [ih]
        by_cases h6 : ∀ j, i + 1 ≤ j → j < d.es.length → ((ent d j).live = true → at' d (ent d j).key = j)
        · rw [if_pos h6, if_pos (e1.2 ⟨hh, h6⟩)]
        · rw [if_neg h6, if_neg (fun h => h6 (e1.1 h).2)]
      cases hv : (ent d i).live
      · rw [cf]; exact fin (fun h' => by rw [hv] at h'; cases h')
      · rw [ct, probeI hn h (hk i hv)]
        simp only [ats, way_len]
        have hk2 := (h.stp (ent d i).key).2.1
        have hs := h.sl_lt (ent d i).key
        rw [wp (by omega), bp (by omega), bp (by omega), show (((kk d (ent d i).key + 1 : Nat) : Int) - 1).toNat = kk d (ent d i).key by omega, way_last]
        rw [bp (by omega), bp (by omega), show ((sl d (ent d i).key : Nat) : Int).toNat = sl d (ent d i).key by omega]
        have : d.ix.getD (sl d (ent d i).key) 0 = at' d (ent d i).key := rfl
        rw [this]
        by_cases h2 : at' d (ent d i).key = i
        · rw [nen h2]; exact fin (fun _ => h2)
        · rw [nep h2, if_neg (fun h => h2 ((e1.1 h).1 hv))]
    · rw [bn (by omega), if_pos (fun j h1 h2 => by omega)]

noncomputable instance (d : Dic) : Decidable (Valid d) := Classical.propDecidable _
theorem count_mono (l : List Int) (s : Nat) (x : Int) : (l.take s).count x ≤ l.count x := (List.take_sublist s l).count_le x
theorem nodup_iff {d : Dic} : (∀ s, s < d.ix.length → 0 ≤ slot d s → (d.ix.take s).count (slot d s) = 0) ↔ ∀ i : Nat, d.ix.count (i : Int) ≤ 1 := by
  constructor
  · intro h i
    have key : ∀ s, s ≤ d.ix.length → (d.ix.take s).count (i : Int) ≤ 1 := by
      intro s
      induction s with
      | zero => intro _; simp
      | succ s ih =>
        intro hs
        rw [count_take (by omega), slot_eq]
        by_cases e : slot d s = i
        · have := h s (by omega) (by omega)
          rw [e] at this
          rw [if_pos e]; omega
        · rw [if_neg e]; have := ih (by omega); omega
    have := key d.ix.length (Nat.le_refl _)
    rwa [List.take_length] at this
  · intro h s hs h0
    have h1 := count_take hs (slot d s)
    rw [slot_eq, if_pos rfl] at h1
    have h2 := count_mono d.ix (s + 1) (slot d s)
    have h3 := h (slot d s).toNat
    rw [show (((slot d s).toNat : Nat) : Int) = slot d s by omega] at h3
    omega
theorem base_keys {d : Dic} (h : ∀ j, j < d.es.length → EOk (ent d j)) : ∀ i, (ent d i).live = true → (ent d i).key.size ≤ 20 := fun i hv => ((h i (ent_lt hv)).2 hv).1

theorem tailS {n : Nat} {d : Dic} (hn : 10000 ≤ n) (hz : d.ix.length ∈ szs) : (bif (decide (((d.es.length) : Int) > (IntKind.wrap .i64 ((IntKind.wrap .i64 ((d.ix.length : Int) * (2 : Int))).tdiv (3 : Int))))) then
    some (false, ())
    else (andThen (F43 n d.ix d.es) fun r204 =>
    (bif (decide (r204.1 > (40 : Int))) then
    some (false, ())
    else (F25_0 n (0 : Int) d.ix d.es (fun z259 =>
    some (z259, ())) (fun z260 z261 =>
    (andThen (F53 n z260 z261) fun r342 =>
    (bif (!r342.1) then
    some (false, ())
    else (F25_1 n (0 : Int) z260 z261 (fun z401 =>
    some (z401, ())) (
    some (true, ())))))))))) = some (decide (Valid d), ()) := by
  have hp := szs_iff.1 hz
  have no : ∀ {p : Prop}, ¬ p → (Valid d → p) → (some (false, ()) : Option (Bool × Unit)) = some (decide (Valid d), ()) := fun h1 h2 => by
    rw [decide_eq_false (fun h => h1 (h2 h))]
  rw [wp (x := (d.ix.length : Int) * 2) (by omega), td (by omega), wp (by omega)]
  by_cases h1 : d.es.length ≤ d.ix.length * 2 / 3
  case neg => rw [bp (by omega)]; exact no h1 fun h => h.le
  rw [bn (by omega), liveS hn (by omega)]
  simp only [ats]
  by_cases h2 : lives d.es ≤ 40
  case neg => rw [bp (by omega)]; exact no h2 fun h => h.lv
  rw [bn (by omega)]
  unfold F25_0
  have t1 := entS_it (R := Bool × Unit) (n := n) (d := d) (k0 := fun z259 => some (z259, ())) (k1 := fun z260 z261 => (andThen (F53 n z260 z261) fun r342 => (bif (!r342.1) then some (false, ()) else (F25_1 n (0 : Int) z260 z261 (fun z401 => some (z401, ())) (some (true, ())))))) hn (by omega) n 0 (by omega) (by omega)
  rw [show ((0 : Nat) : Int) = 0 from rfl] at t1
  rw [t1]
  by_cases h3 : ∀ j, 0 ≤ j → j < d.es.length → EOk (ent d j)
  case neg => rw [if_neg h3]; exact no h3 fun h j _ hj => h.en j hj
  rw [if_pos h3]
  have h3 : ∀ j, j < d.es.length → EOk (ent d j) := fun j hj => h3 j (by omega) hj
  unfold F53
  rw [bp (by omega), bp (by omega), bp (by omega), show ((d.es.length : Nat) : Int).toNat = d.es.length by omega]
  unfold F53_2
  have t2 := slotsS_it (R := Bool × Unit) (n := n) (d := d) (k0 := fun z316 => some (z316, ())) (k1 := fun z317 z318 z319 z320 => (F53_3 n z317 (0 : Int) z318 z319 z320 (fun z334 => some (z334, ())) (fun z335 z336 z337 => (andThen (F43 n z336 z337) fun r339 => some ((z335 == (IntKind.wrap .i64 (((z337.length) : Int) - r339.1))), ()))))) (by omega) n 0 (by omega) (by omega)
  rw [sns_zero] at t2
  simp only [List.take_zero, List.count_nil] at t2
  rw [show ((0 : Nat) : Int) = 0 from rfl] at t2
  rw [t2]
  by_cases h4 : ∀ s, 0 ≤ s → s < d.ix.length → (sok d s ∧ (0 ≤ slot d s → (d.ix.take s).count (slot d s) = 0))
  case neg =>
    rw [if_neg h4]
    simp only [ats, Bool.not_false, ct]
    refine no h4 fun h s _ hs => ⟨h.rg s hs, ?_⟩
    revert s
    have := (nodup_iff (d := d)).2 fun i => by
      cases hv : (ent d i).live
      · rw [h.toBase.count0 hv]; omega
      · rw [h.c1 i (ent_lt hv) hv]; omega
    exact fun s _ hs => this s hs
  rw [if_pos h4]
  have h5 := (nodup_iff (d := d)).1 fun s hs => (h4 s (by omega) hs).2
  have h4 : ∀ s, s < d.ix.length → sok d s := fun s hs => (h4 s (by omega) hs).1
  unfold F53_3
  have t3 := seenS_it (R := Bool × Unit) (n := n) (d := d) (v := (d.ix.count (-2) : Nat)) (sn := sns d.ix d.es.length d.ix.length) (k0 := fun z334 => some (z334, ())) (k1 := fun z335 z336 z337 => (andThen (F43 n z336 z337) fun r339 => some ((z335 == (IntKind.wrap .i64 (((z337.length) : Int) - r339.1))), ()))) (by omega) (sns_len _ _ _) n 0 (by omega) (by omega)
  rw [show ((0 : Nat) : Int) = 0 from rfl] at t3
  rw [t3]
  by_cases h6 : ∀ j, 0 ≤ j → j < d.es.length → (sns d.ix d.es.length d.ix.length).getD j false = (ent d j).live
  case neg =>
    rw [if_neg h6]
    simp only [ats, Bool.not_false, ct]
    refine no h6 fun h j _ hj => ?_
    rw [sns_get hj, List.take_length]
    cases hv : (ent d j).live
    · rw [h.toBase.count0 hv]; rfl
    · rw [h.c1 j hj hv]; rfl
  rw [if_pos h6]
  have h7 : ∀ i, i < d.es.length → (ent d i).live = true → d.ix.count (i : Int) = 1 := fun i hi hv => by
    have := h6 i (by omega) hi
    rw [sns_get hi, List.take_length, hv] at this
    have := of_decide_eq_true this
    have := h5 i; omega
  have hle := lives_le d.es
  rw [liveS hn (by omega)]
  simp only [ats]
  rw [wp (by omega)]
  by_cases h8 : d.ix.count (-2) + lives d.es = d.es.length
  case neg =>
    rw [show (((d.ix.count (-2) : Nat) : Int) == ((d.es.length : Int) - (lives d.es : Int))) = false from by rw [beq_eq_false_iff_ne]; omega]
    simp only [Bool.not_false, ct]
    exact no h8 fun h => h.dr
  rw [show (((d.ix.count (-2) : Nat) : Int) == ((d.es.length : Int) - (lives d.es : Int))) = true from by rw [beq_iff_eq]; omega]
  simp only [Bool.not_true, cf]
  have hb : Base d := ⟨hz, h1, h2, h4, h7, h8⟩
  unfold F25_1
  have t4 := endS_it (R := Bool × Unit) (n := n) (d := d) (k0 := fun z401 => some (z401, ())) (k1 := some (true, ())) hn hb.fin (by omega) (base_keys h3) n 0 (by omega) (by omega)
  rw [show ((0 : Nat) : Int) = 0 from rfl] at t4
  rw [t4]
  by_cases h9 : ∀ j, 0 ≤ j → j < d.es.length → ((ent d j).live = true → at' d (ent d j).key = j)
  case neg => rw [if_neg h9]; exact no h9 fun h j _ hj => h.pr j hj
  rw [if_pos h9, decide_eq_true ⟨hb, h3, fun j hj => h9 j (by omega) hj⟩]
theorem validS {n : Nat} {d : Dic} (hn : 10000 ≤ n) : F25 n d.ix d.es = some (decide (Valid d), ()) := by
  unfold F25
  by_cases hz : d.ix.length ∈ szs
  · have t := tailS hn hz
    rcases szs_iff.1 hz with h | h | h | h | h
    · rw [nen (by omega)]; exact t
    · rw [nep (by omega), nen (by omega)]; exact t
    · rw [nep (by omega), nep (by omega), nen (by omega)]; exact t
    · rw [nep (by omega), nep (by omega), nep (by omega), nen (by omega)]; exact t
    · rw [nep (by omega), nep (by omega), nep (by omega), nep (by omega), nen (by omega)]; exact t
  · have := mt szs_iff.2 hz
    rw [nep (by omega), nep (by omega), nep (by omega), nep (by omega), nep (by omega), decide_eq_false (fun h => hz h.sz)]
theorem sizeI {n : Nat} {x : Int} (hn : 10000 ≤ n) : F55 n ((8 : Int) :: ((16 : Int) :: ((32 : Int) :: ((64 : Int) :: ((128 : Int) :: []))))) x = some (decide (x = 8 ∨ x = 16 ∨ x = 32 ∨ x = 64 ∨ x = 128), ()) := by
  unfold F55 F63 F63_0
  obtain ⟨f, rfl⟩ : ∃ f, n = f + 6 := ⟨n - 6, by omega⟩
  simp only [F63_0_it, F63_0_step]
  by_cases h1 : x = 8
  · subst h1; rfl
  by_cases h2 : x = 16
  · subst h2; rfl
  by_cases h3 : x = 32
  · subst h3; rfl
  by_cases h4 : x = 64
  · subst h4; rfl
  by_cases h5 : x = 128
  · subst h5; rfl
  show (andThen (bif x == (8 : Int) then some ((0 : Int), ()) else (bif x == (16 : Int) then some ((1 : Int), ()) else (bif x == (32 : Int) then some ((2 : Int), ()) else (bif x == (64 : Int) then some ((3 : Int), ()) else (bif x == (128 : Int) then some ((4 : Int), ()) else some ((-1 : Int), ())))))) fun r => some (decide (r.1 ≥ (0 : Int)), ())) = _
  rw [eqn h1, eqn h2, eqn h3, eqn h4, eqn h5]
  rw [decide_eq_false (by omega)]
  rfl
theorem validI {n : Nat} {d : Dic} (hn : 10000 ≤ n) : F28 n d.ix d.es = some (decide (Valid d), ()) := by
  unfold F28
  have no : ∀ {p : Prop}, ¬ p → (Valid d → p) → (some (false, ()) : Option (Bool × Unit)) = some (decide (Valid d), ()) := fun h1 h2 => by
    rw [decide_eq_false (fun h => h1 (h2 h))]
  rw [sizeI hn]
  simp only [ats]
  by_cases hz : d.ix.length ∈ szs
  case neg => rw [np (by rw [szs_iff] at hz; omega)]; exact no hz fun h => h.sz
  have hp := szs_iff.1 hz
  rw [nn (by omega)]
  rw [wp (x := (2 : Int) * (d.ix.length : Int)) (by omega), td (by omega), wp (by omega)]
  by_cases h1 : d.es.length ≤ d.ix.length * 2 / 3
  case neg => rw [bp (by omega)]; exact no h1 fun h => h.le
  rw [bn (by omega), liveI hn (by omega)]
  simp only [ats]
  by_cases h2 : lives d.es ≤ 40
  case neg => rw [bp (by omega)]; exact no h2 fun h => h.lv
  rw [bn (by omega), bp (by omega), bp (by omega), bp (by omega), show ((d.es.length : Nat) : Int).toNat = d.es.length by omega]
  unfold F28_1
  have t2 := slotsI_it (R := Bool × Unit) (n := n) (d := d) (k0 := fun z840 => some (z840, ())) (k1 := fun z841 z842 z843 z844 => (andThen (F45 n z842 z843) fun r846 => (bif (z841 != (IntKind.wrap .i64 (((z843.length) : Int) - r846.1))) then some (false, ()) else (F28_3 n z843 ((z843.length) : Int) (0 : Int) z842 z843 z844 (fun z908 => some (z908, ())) (fun z909 z910 => (F28_5 n z910 ((z910.length) : Int) (0 : Int) z909 z910 (fun z1016 => some (z1016, ())) (some (true, ())))))))) (by omega) n 0 (by omega) (by omega)
  rw [cnts_zero] at t2
  simp only [List.take_zero, List.count_nil] at t2
  rw [show ((0 : Nat) : Int) = 0 from rfl] at t2
  rw [t2]
  by_cases h4 : ∀ s, 0 ≤ s → s < d.ix.length → sok d s
  case neg => rw [if_neg h4]; exact no h4 fun h s _ hs => h.rg s hs
  rw [if_pos h4]
  have h4 : ∀ s, s < d.ix.length → sok d s := fun s hs => h4 s (by omega) hs
  have hle := lives_le d.es
  rw [liveI hn (by omega)]
  simp only [ats]
  rw [wp (by omega)]
  by_cases h8 : d.ix.count (-2) + lives d.es = d.es.length
  case neg => rw [nep (by omega)]; exact no h8 fun h => h.dr
  rw [nen (by omega)]
  unfold F28_3
  have t3 := entI_it (R := Bool × Unit) (n := n) (d := d) (cs := cnts d.ix d.es.length d.ix.length) (k0 := fun z908 => some (z908, ())) (k1 := fun z909 z910 => (F28_5 n z910 ((z910.length) : Int) (0 : Int) z909 z910 (fun z1016 => some (z1016, ())) (some (true, ())))) hn (by omega) (cnts_len _ _ _) n 0 (by omega) (by omega)
  rw [show ((0 : Nat) : Int) = 0 from rfl] at t3
  rw [t3]
  by_cases h6 : ∀ j, 0 ≤ j → j < d.es.length → (EOk (ent d j) ∧ ((ent d j).live = true → (cnts d.ix d.es.length d.ix.length).getD j 0 = 1))
  case neg =>
    rw [if_neg h6]
    refine no h6 fun h j _ hj => ⟨h.en j hj, fun hv => ?_⟩
    rw [cnts_get hj, List.take_length, h.c1 j hj hv]; rfl
  rw [if_pos h6]
  have h3 : ∀ j, j < d.es.length → EOk (ent d j) := fun j hj => (h6 j (by omega) hj).1
  have h7 : ∀ i, i < d.es.length → (ent d i).live = true → d.ix.count (i : Int) = 1 := fun i hi hv => by
    have := (h6 i (by omega) hi).2 hv
    rw [cnts_get hi, List.take_length] at this; omega
  have hb : Base d := ⟨hz, h1, h2, h4, h7, h8⟩
  unfold F28_5
  have t4 := endI_it (R := Bool × Unit) (n := n) (d := d) (k0 := fun z401 => some (z401, ())) (k1 := some (true, ())) hn hb.fin (by omega) (base_keys h3) n 0 (by omega) (by omega)
  rw [show ((0 : Nat) : Int) = 0 from rfl] at t4
  rw [t4]
  by_cases h9 : ∀ j, 0 ≤ j → j < d.es.length → ((ent d j).live = true → at' d (ent d j).key = j)
  case neg => rw [if_neg h9]; exact no h9 fun h j _ hj => h.pr j hj
  rw [if_pos h9, decide_eq_true ⟨hb, h3, fun j hj => h9 j (by omega) hj⟩]
end Go.Proofs.Ytfpgihjociacnaa.Am
