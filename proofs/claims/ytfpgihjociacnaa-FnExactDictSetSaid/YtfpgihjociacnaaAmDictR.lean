/- Dictionaries: what the reference's operations compute. -/
import Derived.Test.YtfpgihjociacnaaAmDictZ
import Derived.Test.YtfpgihjociacnaaAmDictQ
namespace Go.Proofs.Ytfpgihjociacnaa.Am
open Go
set_option autoImplicit false
set_option linter.unusedVariables false
set_option linter.unusedSimpArgs false

-- what is computed ---------------------------------------------------------------------------------------------------------------------
noncomputable section
open Classical in
def getR (d : Dic) (key : ByteArray) : Int × Bool := if Valid d ∧ key.size ≤ 20 ∧ 0 ≤ at' d key then ((ent d (at' d key).toNat).val, true) else (0, false)
open Classical in
def drpR (d : Dic) (key : ByteArray) : Dic × Bool := if Valid d ∧ key.size ≤ 20 then (if 0 ≤ at' d key then (drp d key, true) else (d, false)) else (⟨[], []⟩, false)
open Classical in
def setR (d : Dic) (key : ByteArray) (v : Int) : Dic × Bool := if Valid d ∧ key.size ≤ 20 ∧ -1000000 ≤ v ∧ v ≤ 1000000 then (if 0 ≤ at' d key ∨ lives d.es < 40 then (setk d key v, true) else (d, false)) else (⟨[], []⟩, false)
open Classical in
def keysR (d : Dic) : List ByteArray := if Valid d then keys d else []
open Classical in
def packR (d : Dic) : Dic := if Valid d then pk (szf (lives d.es)) d.es else ⟨[], []⟩
open Classical in
def probesR (d : Dic) (key : ByteArray) : List Int := if Valid d ∧ key.size ≤ 20 then way d key else []
def SameD (a b : Dic) : Prop := Valid a ∧ Valid b ∧ lives a.es = lives b.es ∧ ∀ j, (ent a j).live = true → ((ent a j).key, (ent a j).val) ∈ L b
instance (a b : Dic) : Decidable (SameD a b) := Classical.propDecidable _
end

-- the reference ------------------------------------------------------------------------------------------------------------------------
theorem newIx_it {R : Type} {n N : Nat} {k0 : List Int → Option R} (hN : N ≤ 128) : ∀ (fuel i : Nat), i ≤ N → N + 1 ≤ fuel + i →
    F61_0_it n k0 fuel N i (List.replicate i (-1)) = k0 (List.replicate N (-1))
  | fuel, i, hi, hf => by
    obtain ⟨f, rfl⟩ : ∃ f, fuel = f + 1 := ⟨fuel - 1, by omega⟩
    simp only [F61_0_it, F61_0_step]
    by_cases g : i < N
    · rw [bp (by omega), bp (by simp; omega), wp (by omega)]
      have ih := newIx_it (R := R) (n := n) (k0 := k0) hN f (i + 1) (by omega) (by omega)
      rw [List.replicate_succ'] at ih
      exact ih
    · have : i = N := by omega
      subst this
      rw [bn (by omega)]
theorem newIx {n N : Nat} (hn : 10000 ≤ n) (hN : N ≤ 128) : F61 n (N : Int) = some ((), (List.replicate N (-1), ())) := by
  unfold F61 F61_0
  exact newIx_it (R := Unit × (List Int × Unit)) (n := n) (k0 := fun z => some ((), (z, ()))) hN n 0 (by omega) (by omega)
theorem copyS {n : Nat} {ix : List Int} {es : List Ety} (h1 : ix.length ≤ 10000000) (h2 : es.length ≤ 10000000) : F35 n ix es = some (((), ((), ())), (ix, (es, ()))) := by
  unfold F35
  simp only [List.length_nil, List.nil_append]
  rw [bp (by omega), bp (by omega)]
theorem keyS {n : Nat} {key : ByteArray} : F34 n key = some (decide (key.size ≤ 20), ()) := by
  unfold F34
  rw [decide_eq_decide.2 (show ((key.size : Int) ≤ 20) ↔ key.size ≤ 20 by omega)]
theorem Valid.len {d : Dic} (h : Valid d) : d.ix.length ≤ 128 ∧ d.es.length ≤ 85 := by
  have := h.toBase.pos; have := h.le; omega
theorem dropS {n : Nat} {d : Dic} {key : ByteArray} (hn : 10000 ≤ n) : F16 n d.ix d.es key = some ((((), ((), ())), ((drpR d key).2, ())), ((drpR d key).1.ix, ((drpR d key).1.es, ()))) := by
  unfold F16 drpR
  rw [validS hn]
  simp only [ats]
  by_cases hv : Valid d
  case neg => rw [decide_eq_false hv, if_neg (fun h => hv h.1)]; rfl
  rw [decide_eq_true hv, keyS]
  simp only [ats, Bool.not_true, cf]
  by_cases hk : key.size ≤ 20
  case neg => rw [decide_eq_false hk, if_neg (fun h => hk h.2)]; rfl
  have hl := hv.len
  have hf := hv.toBase.fin
  have hs := hf.sl_lt key
  rw [decide_eq_true hk, copyS (by omega) (by omega), if_pos ⟨hv, hk⟩]
  simp only [ats, Bool.not_true, cf]
  rw [slotS hn hf (by omega)]
  simp only [ats]
  rw [bp (by omega), bp (by omega), show ((sl d key : Nat) : Int).toNat = sl d key by omega]
  have e : d.ix.getD (sl d key) 0 = at' d key := rfl
  rw [e]
  by_cases g : 0 ≤ at' d key
  · have hr := hf.rg _ hs
    rw [e] at hr
    rw [bn (by omega), bp (by omega), bp (by omega), bp (by omega), bp (by omega), if_pos g]; rfl
  · rw [bp (by omega), if_neg g]
theorem szS_step {R : Type} {n f : Nat} {m N : Int} {k0 : Int → Option R} (hm : 0 ≤ m ∧ m ≤ 42) (hN : 0 ≤ N ∧ N ≤ 128) : F42_0_it n k0 (f + 1) m N = if N ≤ 3 * m then F42_0_it n k0 f m (N * 2) else k0 N := by
  simp only [F42_0_it, F42_0_step]
  rw [wp (x := m * 3) (by omega), wp (by omega)]
  by_cases g : N ≤ 3 * m
  · rw [bp (by omega), if_pos g]
  · rw [bn (by omega), if_neg g]
theorem szS_it {R : Type} {n f m : Nat} {k0 : Int → Option R} (hm : m ≤ 42) : F42_0_it n k0 (f + 6) m 8 = k0 (szf m) := by
  unfold szf
  rw [szS_step (by omega) (by omega)]
  by_cases h1 : 3 * m < 8
  · rw [if_pos h1, if_neg (by omega)]; rfl
  rw [if_neg h1, if_pos (by omega), szS_step (by omega) (by omega)]
  by_cases h2 : 3 * m < 16
  · rw [if_pos h2, if_neg (by omega)]; rfl
  rw [if_neg h2, if_pos (by omega), szS_step (by omega) (by omega)]
  by_cases h3 : 3 * m < 32
  · rw [if_pos h3, if_neg (by omega)]; rfl
  rw [if_neg h3, if_pos (by omega), szS_step (by omega) (by omega)]
  by_cases h4 : 3 * m < 64
  · rw [if_pos h4, if_neg (by omega)]; rfl
  rw [if_neg h4, if_pos (by omega), szS_step (by omega) (by omega), if_neg (by omega)]; rfl
theorem szS {n m : Nat} (hn : 10000 ≤ n) (hm : m ≤ 42) : F42 n (m : Int) = some ((szf m : Int), ()) := by
  unfold F42 F42_0
  obtain ⟨f, hf⟩ : ∃ f, n = f + 6 := ⟨n - 6, by omega⟩
  have := szS_it (R := Int × Unit) (n := n) (f := f) (k0 := fun z => some ((if ((128 : Int) < z) then (128 : Int) else z), ())) hm
  rw [← hf] at this
  rw [this]
  have h : szf m ≤ 128 := by unfold szf; repeat' split
                             all_goals omega
  rw [if_neg (by omega)]
theorem packS_it {R : Type} {n N : Nat} {d : Dic} {k0 : List Int → List Ety → Option R} (hn : 10000 ≤ n) (h : Valid d) (hN : N ∈ szs) (hl : lives d.es ≤ N * 2 / 3) : ∀ (fuel i : Nat), i ≤ d.es.length → d.es.length + 1 ≤ fuel + i →
    F41_1_it n k0 fuel i d.ix d.es (pk N (d.es.take i)).ix (pk N (d.es.take i)).es = k0 (pk N d.es).ix (pk N d.es).es
  | fuel, i, hi, hf => by
    obtain ⟨f, rfl⟩ : ∃ f, fuel = f + 1 := ⟨fuel - 1, by omega⟩
    simp only [F41_1_it, F41_1_step, F41_0]
    by_cases g : i < d.es.length
    · have hle := h.len
      obtain ⟨p1, p2, p3⟩ := pk_take h hN hl i
      have pf := p1.toBase.fin
      have pl := p1.len
      rw [bp (by omega), bp (by omega), bp (by omega), show ((i : Nat) : Int).toNat = i by omega, wp (by omega)]
      have ih := packS_it (R := R) (n := n) (k0 := k0) hn h hN hl f (i + 1) (by omega) (by omega)
      rw [pk_succ g] at ih
      rw [ent_eq, ← ent_eq']
      cases hv : (d.es.getD i ze).live
      · rw [hv] at ih; rw [cf]; exact ih
      · rw [hv] at ih
        have hk := ((h.en i g).2 hv).1
        rw [ct, slotS hn pf (by unfold ent at hk; omega)]
        simp only [ats]
        have hs := pf.sl_lt (d.es.getD i ze).key
        rw [bp (by omega), bp (by omega), bp (by simp only [List.length_cons, List.length_nil]; omega)]
        rw [show (Ety.mk (d.es.getD i ze).key (d.es.getD i ze).hash (d.es.getD i ze).val true) = d.es.getD i ze by rw [← hv]]
        exact ih
    · have : i = d.es.length := by omega
      subst this
      rw [bn (by omega), List.take_length]
theorem packS {n N : Nat} {d : Dic} (hn : 10000 ≤ n) (h : Valid d) (hN : N ∈ szs) (hl : lives d.es ≤ N * 2 / 3) : F41 n d.ix d.es (N : Int) = some (((), ((), ())), ((pk N d.es).ix, ((pk N d.es).es, ()))) := by
  unfold F41 F41_1
  have hp := szs_iff.1 hN
  have hle := h.len
  rw [newIx hn (by omega)]
  simp only [ats]
  have := packS_it (R := (Unit × (Unit × Unit)) × (List Int × (List Ety × Unit))) (n := n) (k0 := fun z586 z587 => some (((), ((), ())), (z586, (z587, ())))) hn h hN hl n 0 (by omega) (by omega)
  rw [pk_zero] at this
  exact this
theorem setkS {n : Nat} {d : Dic} {key : ByteArray} {v : Int} (hn : 10000 ≤ n) (h : Valid d) (hk : key.size ≤ 20) (hl : 0 ≤ at' d key ∨ lives d.es < 40) : F47 n d.ix d.es key v = some (((), ((), ())), ((setk d key v).ix, ((setk d key v).es, ()))) := by
  unfold F47 setk
  have hle := h.len
  have hf := h.toBase.fin
  have hs := hf.sl_lt key
  rw [copyS (by omega) (by omega)]
  simp only [ats]
  rw [slotS hn hf (by omega)]
  simp only [ats]
  rw [bp (by omega), bp (by omega), show ((sl d key : Nat) : Int).toNat = sl d key by omega]
  have e : d.ix.getD (sl d key) 0 = at' d key := rfl
  rw [e]
  by_cases g : 0 ≤ at' d key
  · have hr := hf.rg _ hs
    rw [e] at hr
    rw [bp (by omega), bp (by omega), bp (by omega), bp (by omega), bp (by omega), if_pos g]; rfl
  · have hl : lives d.es < 40 := by omega
    rw [bn (by omega), if_neg g]
    unfold F47_0
    have h0 := at_neg hf g
    rw [wp (x := (d.ix.length : Int) * 2) (by omega), td (by omega), wp (by omega)]
    have fin : ∀ r : Dic, Valid r → (bif decide (0 ≤ ((sl r key : Nat) : Int)) then bif decide (((sl r key : Nat) : Int) < (r.ix.length : Int)) then andThen (F52 n key) fun r598 => bif decide (r.es.length + [Ety.mk key r598.1 v true].length ≤ 68719476736) then some (((), (), ()), r.ix.set ((sl r key : Nat) : Int).toNat (r.es.length : Int), r.es ++ [Ety.mk key r598.1 v true], ()) else none else none else none) = some (((), (), ()), (add r (en key v)).ix, (add r (en key v)).es, ()) := by
      intro r hr
      have hs := hr.toBase.fin.sl_lt key
      have hle := hr.len
      rw [bp (by omega), bp (by omega), hashS hn (by omega)]
      simp only [ats]
      rw [bp (by simp only [List.length_cons, List.length_nil]; omega)]; rfl
    unfold rm
    by_cases g2 : d.es.length < d.ix.length * 2 / 3
    · rw [bn (by omega), if_pos g2]; exact fin d h
    · obtain ⟨s1, s2⟩ := szf_ok (n := lives d.es + 1) (by omega)
      rw [bp (by omega), if_neg g2, liveS hn (by omega)]
      simp only [ats]
      rw [wp (by omega), show ((lives d.es : Int) + 1) = ((lives d.es + 1 : Nat) : Int) by omega, szS hn (by omega)]
      simp only [ats]
      obtain ⟨p1, p2, p3⟩ := pk_valid h s1 (by omega)
      rw [packS hn h s1 (by omega)]
      simp only [ats]
      rw [slotS hn p1.toBase.fin (by omega)]
      exact fin _ p1
theorem setS {n : Nat} {d : Dic} {key : ByteArray} {v : Int} (hn : 10000 ≤ n) : F21 n d.ix d.es key v = some ((((), ((), ())), ((setR d key v).2, ())), ((setR d key v).1.ix, ((setR d key v).1.es, ()))) := by
  unfold F21 setR
  rw [validS hn]
  simp only [ats]
  by_cases hv : Valid d
  case neg => rw [decide_eq_false hv, if_neg (fun h => hv h.1)]; rfl
  rw [decide_eq_true hv, keyS]
  simp only [ats, Bool.not_true, cf]
  by_cases hk : key.size ≤ 20
  case neg => rw [decide_eq_false hk, if_neg (fun h => hk h.2.1)]; rfl
  rw [decide_eq_true hk, rangeS]
  simp only [ats, Bool.not_true, cf]
  by_cases hr : -1000000 ≤ v ∧ v ≤ 1000000
  case neg => rw [decide_eq_false hr, if_neg (fun h => hr h.2.2)]; rfl
  rw [decide_eq_true hr, if_pos ⟨hv, hk, hr⟩]
  simp only [ats, Bool.not_true, cf]
  have hle := hv.len
  have hf := hv.toBase.fin
  have hs := hf.sl_lt key
  rw [slotS hn hf (by omega)]
  simp only [ats]
  rw [bp (by omega), bp (by omega), show ((sl d key : Nat) : Int).toNat = sl d key by omega]
  have e : d.ix.getD (sl d key) 0 = at' d key := rfl
  rw [e]
  by_cases g : 0 ≤ at' d key
  · rw [bn (by omega), setkS hn hv hk (.inl g), if_pos (.inl g)]; rfl
  · rw [bp (by omega), liveS hn (by omega)]
    simp only [ats]
    by_cases g2 : lives d.es < 40
    · rw [bn (by omega), setkS hn hv hk (.inr g2), if_pos (.inr g2)]; rfl
    · rw [bp (by omega), copyS (by omega) (by omega), if_neg (by omega)]; rfl
theorem keysS_it {R : Type} {n : Nat} {d : Dic} {k0 : List ByteArray → Option R} (h : d.es.length ≤ 9000) : ∀ (fuel i : Nat), i ≤ d.es.length → d.es.length + 1 ≤ fuel + i →
    F8_1_it n k0 fuel i d.ix d.es ((lv (d.es.take i)).map fun e => e.key) = k0 (keys d)
  | fuel, i, hi, hf => by
    obtain ⟨f, rfl⟩ : ∃ f, fuel = f + 1 := ⟨fuel - 1, by omega⟩
    simp only [F8_1_it, F8_1_step, F8_0]
    by_cases g : i < d.es.length
    · have h1 : ((lv (d.es.take i)).map fun e => e.key).length ≤ i := by
        rw [List.length_map]
        exact Nat.le_trans (List.length_filter_le _ _) (by rw [List.length_take]; omega)
      rw [bp (by omega), bp (by omega), bp (by omega), show ((i : Nat) : Int).toNat = i by omega, wp (by omega)]
      have ih := keysS_it (R := R) (n := n) (k0 := k0) h f (i + 1) (by omega) (by omega)
      rw [lv_take g] at ih
      rw [ent_eq, ← ent_eq']
      cases hv : (d.es.getD i ze).live
      · rw [hv] at ih; rw [cf]; exact ih
      · rw [hv, if_pos rfl, List.map_append] at ih
        rw [ct, bp (by omega), bp (by omega), bp (by simp only [List.length_cons, List.length_nil]; omega)]
        exact ih
    · have : i = d.es.length := by omega
      subst this
      rw [bn (by omega), List.take_length, keys_eq]
theorem keysS {n : Nat} {d : Dic} (hn : 10000 ≤ n) : F8 n d.ix d.es = some (keysR d, ()) := by
  unfold F8 F8_1 keysR
  rw [validS hn]
  simp only [ats]
  by_cases hv : Valid d
  case neg => rw [decide_eq_false hv, if_neg hv]; rfl
  have hle := hv.len
  rw [decide_eq_true hv, if_pos hv]
  simp only [Bool.not_true, cf]
  exact keysS_it (R := List ByteArray × Unit) (n := n) (k0 := fun z => some (z, ())) (by omega) n 0 (by omega) (by omega)
open Classical in
theorem packdS {n : Nat} {d : Dic} (hn : 10000 ≤ n) : F19 n d.ix d.es = some (((packR d).ix, ((packR d).es, ())), ()) := by
  unfold F19 packR
  rw [validS hn]
  simp only [ats]
  by_cases hv : Valid d
  case neg => rw [decide_eq_false hv, if_neg hv]; rfl
  have hle := hv.len
  have hlv := hv.lv
  obtain ⟨s1, s2⟩ := szf_ok (n := lives d.es) (by omega)
  rw [decide_eq_true hv, if_pos hv, liveS hn (by omega)]
  simp only [ats, Bool.not_true, cf]
  rw [szS hn (by omega)]
  simp only [ats]
  rw [packS hn hv s1 (by omega)]
  rfl
end Go.Proofs.Ytfpgihjociacnaa.Am
