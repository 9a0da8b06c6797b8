/- Dictionaries: what the program's operations compute. -/
import Derived.Test.YtfpgihjociacnaaAmDictR
namespace Go.Proofs.Ytfpgihjociacnaa.Am
open Go
set_option autoImplicit false
set_option linter.unusedVariables false
set_option linter.unusedSimpArgs false

theorem both_self' {α : Type} (x : Option α) : both x x = x := by first | exact both_self x | exact both_self _
theorem newI_it {R : Type} {n N : Nat} {k0 : List Int → Option R} (hN : N ≤ 128) : ∀ (fuel i : Nat) (l : List Int), l.length = N → i ≤ N → (∀ j, j < i → l.getD j 0 = -1) → N + 1 ≤ fuel + i →
    F62_0_it n k0 fuel N i l = k0 (List.replicate N (-1))
  | fuel, i, l, hl, hi, hp, hf => by
    obtain ⟨f, rfl⟩ : ∃ f, fuel = f + 1 := ⟨fuel - 1, by omega⟩
    simp only [F62_0_it, F62_0_step]
    by_cases g : i < N
    · rw [bp (by omega), bp (by omega), bp (by omega), wp (by omega), show ((i : Nat) : Int).toNat = i by omega]
      exact newI_it (R := R) (n := n) (k0 := k0) hN f (i + 1) (l.set i (-1)) (by simpa using hl) (by omega) (fun j hj => by
        rw [getD_set' (by omega)]
        by_cases e : i = j
        · rw [if_pos e]
        · rw [if_neg e]; exact hp j (by omega)) (by omega)
    · have : i = N := by omega
      subst this
      rw [bn (by omega)]
      have : l = List.replicate i (-1) := by
        apply List.ext_getElem (by simpa using hl)
        intro j h1 h2
        have := hp j (by omega)
        rw [getD_lt h1] at this
        rw [this]; simp
      rw [this]
theorem newI {n N : Nat} (hn : 10000 ≤ n) (hN : N ≤ 128) : F62 n (N : Int) = some ((), (List.replicate N (-1), ())) := by
  unfold F62 F62_0
  rw [bp (by omega), bp (by omega), bp (by omega)]
  simp only [List.length_replicate, show ((N : Nat) : Int).toNat = N by omega]
  exact newI_it (R := Unit × (List Int × Unit)) (n := n) (k0 := fun z => some ((), (z, ()))) hN n 0 _ (by simp) (by omega) (fun j hj => by omega) (by omega)
theorem cloneN {n : Nat} {ix : List Int} (h1 : ix.length ≤ 10000000) : F59 n ix = some ((), (ix, ())) := by
  unfold F59
  simp only [List.length_nil, List.nil_append]
  by_cases h : ix.length ≤ 0
  · have : ix = [] := List.length_eq_zero_iff.1 (by omega)
    subst this
    rw [bp h, bp (by simp)]; exact both_self' _
  · rw [bn h, bp (by omega)]
theorem cloneE {n : Nat} {es : List Ety} (h1 : es.length ≤ 10000000) : F60 n es = some ((), (es, ())) := by
  unfold F60
  simp only [List.length_nil, List.nil_append]
  by_cases h : es.length ≤ 0
  · have : es = [] := List.length_eq_zero_iff.1 (by omega)
    subst this
    rw [bp h, bp (by simp)]; exact both_self' _
  · rw [bn h, bp (by omega)]
theorem cloneI {n : Nat} {ix : List Int} {es : List Ety} (h1 : ix.length ≤ 10000000) (h2 : es.length ≤ 10000000) : F37 n ix es = some (((), ((), ())), (ix, (es, ()))) := by
  unfold F37
  rw [cloneN h1]
  simp only [ats]
  rw [cloneE h2]
  rfl
theorem probeV_it {R : Type} {n : Nat} {d : Dic} {key : ByteArray} {N : Int} {k0 k1 : List Int → List Ety → List Int → Option R} (h : Fin d) (hN : 65536 ≤ N) (hN2 : N ≤ 100000) : ∀ (c fuel t : Nat), t + c = kk d key → c + 1 ≤ fuel →
    F38v1_0_it n k0 k1 fuel key d.ix.length (pn d key t) (pos d.ix.length (H key) t).2 N t d.ix d.es (wy d key t) = k0 d.ix d.es (way d key)
  | c, fuel, t, hc, hf => by
    obtain ⟨f, rfl⟩ : ∃ f, fuel = f + 1 := ⟨fuel - 1, by omega⟩
    simp only [F38v1_0_it, F38v1_0_step]
    have hp := h.pos
    have hk := (h.stp key).2.1
    have hlt : pn d key t < d.ix.length := pos_lt (by omega) t
    have hst := h.stop (key := key) (t := t) (by omega)
    rw [st_iff] at hst
    rw [bp (by omega), bp (by rw [wy_len]; simp only [List.length_cons, List.length_nil]; omega), bp (by omega), bp (by omega), show ((pn d key t : Nat) : Int).toNat = pn d key t by omega, wy_succ]
    rw [slot_eq, ent_eq]
    have hrg := h.rg _ hlt
    have hrg : slot d (pn d key t) < d.es.length := hrg
    have nc := next_cast (key := key) (t := t) h
    by_cases g : t = kk d key
    · have hw : wy d key (t + 1) = way d key := by rw [g]; rfl
      rw [hw]
      rcases hst.2 g with g1 | ⟨g1, g2⟩
      · rw [eqp g1]
      · rw [eqn (by omega), bp (by omega), bp (by omega), bp (by omega), keq]
        rw [bp g2]
    · have hne := mt hst.1 g
      rw [not_or] at hne
      rw [eqn hne.1]
      have ih := probeV_it (R := R) (n := n) (key := key) (k0 := k0) (k1 := k1) h hN hN2 (c - 1) f (t + 1) (by omega) (by omega)
      by_cases g1 : slot d (pn d key t) ≥ 0
      · rw [bp g1, bp (by omega), bp (by omega), keq]
        rw [bn (fun e => hne.2 ⟨g1, e⟩)]
        rw [np (by omega), nc.1, nc.2, wp (by omega)]; exact ih
      · rw [bn g1, np (by omega), nc.1, nc.2, wp (by omega)]; exact ih
theorem probeV {n : Nat} {d : Dic} {key : ByteArray} (hn : 10000 ≤ n) (h : Fin d) (hk : key.size ≤ 20) : F38v1 n key d.ix d.es = some (way d key, (d.ix, (d.es, ()))) := by
  unfold F38v1 F38v1_0
  have hp := h.pos
  have hk2 := (h.stp key).2.1
  rw [hashI hn hk]
  simp only [ats]
  rw [np (by omega), start_cast h, wp (x := 2 * (d.ix.length : Int)) (by omega), wp (by omega)]
  exact probeV_it (R := List Int × (List Int × (List Ety × Unit))) (n := n) (k0 := fun z1 z2 z => some (z, (z1, (z2, ())))) (k1 := fun z1 z2 z => some (z, (z1, (z2, ())))) (key := key) h (by omega) (by omega) (kk d key) n 0 (by omega) (by omega)
theorem addI {n : Nat} {d : Dic} {key : ByteArray} {v : Int} (hn : 10000 ≤ n) (h : Fin d) (hk : key.size ≤ 20) (hl : d.es.length ≤ 10000000) : F50v1 n key v d.ix d.es = some ((), (((), ((), ())), ((add d (en key v)).ix, ((), ((add d (en key v)).es, ()))))) := by
  unfold F50v1
  rw [probeV hn h hk]
  simp only [ats, way_len]
  have hk2 := (h.stp key).2.1
  have hs := h.sl_lt key
  rw [wp (by omega), bp (by omega), bp (by omega), show (((kk d key + 1 : Nat) : Int) - 1).toNat = kk d key by omega, way_last, bp (by omega), bp (by omega), hashI hn hk]
  simp only [ats]
  rw [bp (by simp only [List.length_cons, List.length_nil]; omega)]; rfl
theorem szI_step {R : Type} {n f : Nat} {m N : Int} {ix : List Int} {es : List Ety} {k0 : Int → List Int → List Ety → Option R} (hm : 0 ≤ m ∧ m ≤ 42) (hN : 0 ≤ N ∧ N ≤ 128) : F44_0_it n k0 (f + 1) m N ix es = if N < 128 ∧ N ≤ 3 * m then F44_0_it n k0 f m (N * 2) ix es else k0 N ix es := by
  simp only [F44_0_it, F44_0_step]
  rw [wp (x := 3 * m) (by omega), wp (by omega)]
  by_cases g : N < 128
  · rw [bp g]
    by_cases g2 : N ≤ 3 * m
    · rw [bp (by omega), if_pos ⟨g, g2⟩]
    · rw [bn (by omega), if_neg (fun h => g2 h.2)]
  · rw [bn g, if_neg (fun h => g h.1)]
theorem szI_it {R : Type} {n f m : Nat} {ix : List Int} {es : List Ety} {k0 : Int → List Int → List Ety → Option R} (hm : m ≤ 42) : F44_0_it n k0 (f + 6) m 8 ix es = k0 (szf m) ix es := by
  unfold szf
  rw [szI_step (by omega) (by omega)]
  by_cases h1 : 3 * m < 8
  · rw [if_pos h1, if_neg (by omega)]; rfl
  rw [if_neg h1, if_pos (by omega), szI_step (by omega) (by omega)]
  by_cases h2 : 3 * m < 16
  · rw [if_pos h2, if_neg (by omega)]; rfl
  rw [if_neg h2, if_pos (by omega), szI_step (by omega) (by omega)]
  by_cases h3 : 3 * m < 32
  · rw [if_pos h3, if_neg (by omega)]; rfl
  rw [if_neg h3, if_pos (by omega), szI_step (by omega) (by omega)]
  by_cases h4 : 3 * m < 64
  · rw [if_pos h4, if_neg (by omega)]; rfl
  rw [if_neg h4, if_pos (by omega), szI_step (by omega) (by omega), if_neg (by omega)]; rfl
theorem packI_it {R : Type} {n N : Nat} {d : Dic} {k0 : List Int → List Ety → Option R} (hn : 10000 ≤ n) (h : Valid d) (hN : N ∈ szs) (hl : lives d.es ≤ N * 2 / 3) : ∀ (fuel i : Nat), i ≤ d.es.length → d.es.length + 1 ≤ fuel + i →
    F44_2_it n k0 fuel d.es d.es.length i (pk N (d.es.take i)).ix (pk N (d.es.take i)).es = k0 (pk N d.es).ix (pk N d.es).es
  | fuel, i, hi, hf => by
    obtain ⟨f, rfl⟩ : ∃ f, fuel = f + 1 := ⟨fuel - 1, by omega⟩
    simp only [F44_2_it, F44_2_step, F44_1]
    by_cases g : i < d.es.length
    · have hle := h.len
      obtain ⟨p1, p2, p3⟩ := pk_take h hN hl i
      have pf := p1.toBase.fin
      have pl := p1.len
      rw [bp (by omega), bp (by omega), bp (by omega), show ((i : Nat) : Int).toNat = i by omega, wp (by omega)]
      have ih := packI_it (R := R) (n := n) (k0 := k0) hn h hN hl f (i + 1) (by omega) (by omega)
      rw [pk_succ g] at ih
      rw [ent_eq, ← ent_eq']
      cases hv : (d.es.getD i ze).live
      · rw [hv] at ih; rw [cf]; exact ih
      · rw [hv] at ih
        have he := (h.en i g).2 hv
        unfold ent at he
        rw [ct, addI hn pf he.1 (by omega)]
        simp only [ats]
        rw [show en (d.es.getD i ze).key (d.es.getD i ze).val = d.es.getD i ze by
          unfold en; rw [← he.2.1, ← hv]]
        exact ih
    · have : i = d.es.length := by omega
      subst this
      rw [bn (by omega), List.take_length]
theorem packI {n m : Nat} {d : Dic} (hn : 10000 ≤ n) (h : Valid d) (hm : m ≤ 40) (hl : lives d.es ≤ m) : F44 n d.ix d.es (m : Int) = some (((), ((), ())), ((pk (szf m) d.es).ix, ((pk (szf m) d.es).es, ()))) := by
  unfold F44 F44_0
  obtain ⟨s1, s2⟩ := szf_ok hm
  have hp := szs_iff.1 s1
  have hle := h.len
  have sz := szI_it (R := (Unit × (Unit × Unit)) × (List Int × (List Ety × Unit))) (n := n) (f := n - 6) (m := m) (ix := d.ix) (es := d.es) (k0 := fun z1784 z1785 z1786 => (andThen (F62 n z1784) fun r1787 => (F44_2 n z1786 ((z1786.length) : Int) (0 : Int) r1787.2.1 [] (fun z1827 z1828 => some (((), ((), ())), (z1827, (z1828, ()))))))) (by omega)
  rw [show n - 6 + 6 = n by omega] at sz
  rw [sz]
  unfold F44_2
  rw [newI hn (by omega)]
  simp only [ats]
  have := packI_it (R := (Unit × (Unit × Unit)) × (List Int × (List Ety × Unit))) (n := n) (k0 := fun z1827 z1828 => some (((), ((), ())), (z1827, (z1828, ())))) hn h s1 (by omega) n 0 (by omega) (by omega)
  rw [pk_zero] at this
  exact this
theorem setI {n : Nat} {d : Dic} {key : ByteArray} {v : Int} (hn : 10000 ≤ n) : F22 n d.ix d.es key v = some ((((), ((), ())), ((setR d key v).2, ())), ((setR d key v).1.ix, ((setR d key v).1.es, ()))) := by
  unfold F22 setR
  rw [validI hn]
  simp only [ats]
  by_cases hv : Valid d
  case neg => rw [decide_eq_false hv, if_neg (fun h => hv h.1)]; rfl
  rw [decide_eq_true hv]
  simp only [Bool.not_true, cf]
  by_cases hk : key.size ≤ 20
  case neg => rw [bp (by omega), if_neg (fun h => hk h.2.1)]
  rw [bn (by omega), rangeI]
  simp only [ats]
  by_cases hr : -1000000 ≤ v ∧ v ≤ 1000000
  case neg => rw [decide_eq_false hr, if_neg (fun h => hr h.2.2)]; rfl
  rw [decide_eq_true hr, if_pos ⟨hv, hk, hr⟩]
  simp only [Bool.not_true, cf]
  have hle := hv.len
  have hf := hv.toBase.fin
  have hs := hf.sl_lt key
  rw [cloneI (by omega) (by omega)]
  simp only [ats]
  rw [findI hn hf hk]
  simp only [ats]
  have hr := hf.rg _ hs
  have e : d.ix.getD (sl d key) 0 = at' d key := rfl
  rw [e] at hr
  by_cases g : 0 ≤ at' d key
  · rw [bp (by omega), bp (by omega), bp (by omega), if_pos (.inl g)]; unfold setk; rw [if_pos g]; rfl
  · rw [bn (by omega), liveI hn (by omega)]
    simp only [ats]
    have h40 := hv.lv
    by_cases g2 : lives d.es < 40
    · rw [eqn (by omega), if_pos (.inr g2)]
      unfold F22_0 setk rm
      rw [if_neg g]
      rw [wp (x := (2 : Int) * (d.ix.length : Int)) (by omega), td (by omega), wp (by omega)]
      by_cases g3 : d.es.length < d.ix.length * 2 / 3
      · rw [bn (by omega), if_pos g3]; dsimp only; rw [addI hn hf hk (by omega)]; rfl
      · rw [bp (by omega), if_neg g3, liveI hn (by omega)]
        simp only [ats]
        rw [wp (by omega), show ((lives d.es : Int) + 1) = ((lives d.es + 1 : Nat) : Int) by omega, packI hn hv (by omega) (by omega)]
        simp only [ats]
        obtain ⟨s1, s2⟩ := szf_ok (n := lives d.es + 1) (by omega)
        obtain ⟨p1, p2, p3⟩ := pk_valid hv s1 (by omega)
        have := p1.len
        rw [addI hn p1.toBase.fin hk (by omega)]; rfl
    · rw [eqp (by omega), if_neg (by omega)]
theorem dropI {n : Nat} {d : Dic} {key : ByteArray} (hn : 10000 ≤ n) : F17 n d.ix d.es key = some ((((), ((), ())), ((drpR d key).2, ())), ((drpR d key).1.ix, ((drpR d key).1.es, ()))) := by
  unfold F17 drpR
  rw [validI hn]
  simp only [ats]
  by_cases hv : Valid d
  case neg => rw [decide_eq_false hv, if_neg (fun h => hv h.1)]; rfl
  rw [decide_eq_true hv]
  simp only [Bool.not_true, cf]
  by_cases hk : key.size ≤ 20
  case neg => rw [bp (by omega), if_neg (fun h => hk h.2)]
  have hl := hv.len
  have hf := hv.toBase.fin
  have hs := hf.sl_lt key
  have hk2 := (hf.stp key).2.1
  rw [bn (by omega), cloneI (by omega) (by omega), if_pos ⟨hv, hk⟩]
  simp only [ats]
  rw [probeV hn hf hk]
  simp only [ats, way_len]
  rw [wp (by omega), bp (by omega), bp (by omega), show (((kk d key + 1 : Nat) : Int) - 1).toNat = kk d key by omega, way_last, bp (by omega), bp (by omega), show ((sl d key : Nat) : Int).toNat = sl d key by omega]
  have e : d.ix.getD (sl d key) 0 = at' d key := rfl
  rw [e]
  by_cases g : 0 ≤ at' d key
  · have hr := hf.rg _ hs
    rw [e] at hr
    rw [bn (by omega), bp (by omega), bp (by omega), bp (by omega), bp (by omega), if_pos g]; rfl
  · rw [bp (by omega), if_neg g]
theorem keysI_it {R : Type} {n : Nat} {d : Dic} {k0 : List ByteArray → Option R} (h : d.es.length ≤ 9000) : ∀ (fuel i : Nat), i ≤ d.es.length → d.es.length + 1 ≤ fuel + i →
    F10_1_it n k0 fuel d.es d.es.length i ((lv (d.es.take i)).map fun e => e.key) = k0 (keys d)
  | fuel, i, hi, hf => by
    obtain ⟨f, rfl⟩ : ∃ f, fuel = f + 1 := ⟨fuel - 1, by omega⟩
    simp only [F10_1_it, F10_1_step, F10_0]
    by_cases g : i < d.es.length
    · have h1 : ((lv (d.es.take i)).map fun e => e.key).length ≤ i := by
        rw [List.length_map]
        exact Nat.le_trans (List.length_filter_le _ _) (by rw [List.length_take]; omega)
      rw [bp (by omega), bp (by omega), bp (by omega), show ((i : Nat) : Int).toNat = i by omega, wp (by omega)]
      have ih := keysI_it (R := R) (n := n) (k0 := k0) h f (i + 1) (by omega) (by omega)
      rw [lv_take g] at ih
      rw [ent_eq, ← ent_eq']
      cases hv : (d.es.getD i ze).live
      · rw [hv] at ih; rw [cf]; exact ih
      · rw [hv, if_pos rfl, List.map_append] at ih
        rw [ct, bp (by simp only [List.length_cons, List.length_nil]; omega)]
        exact ih
    · have : i = d.es.length := by omega
      subst this
      rw [bn (by omega), List.take_length, keys_eq]
theorem keysI {n : Nat} {d : Dic} (hn : 10000 ≤ n) : F10 n d.ix d.es = some ((), (keysR d, ())) := by
  unfold F10 F10_1 keysR
  rw [validI hn]
  simp only [ats]
  by_cases hv : Valid d
  case neg => rw [decide_eq_false hv, if_neg hv]; rfl
  have hle := hv.len
  rw [decide_eq_true hv, if_pos hv]
  simp only [Bool.not_true, cf]
  exact keysI_it (R := Unit × (List ByteArray × Unit)) (n := n) (k0 := fun z => some ((), (z, ()))) (by omega) n 0 (by omega) (by omega)
open Classical in
theorem packdI {n : Nat} {d : Dic} (hn : 10000 ≤ n) : F20 n d.ix d.es = some (((), ((), ())), ((packR d).ix, ((packR d).es, ()))) := by
  unfold F20 packR
  rw [validI hn]
  simp only [ats]
  by_cases hv : Valid d
  case neg => rw [decide_eq_false hv, if_neg hv]; rfl
  have hle := hv.len
  have hlv := hv.lv
  rw [decide_eq_true hv, if_pos hv, liveI hn (by omega)]
  simp only [ats, Bool.not_true, cf]
  rw [packI hn hv (by omega) (by omega)]
  rfl
end Go.Proofs.Ytfpgihjociacnaa.Am
