/- Dictionaries: the laws about setting and dropping. -/
import Derived.Test.YtdnbepnajhggpaaAmDictL
namespace Go.Proofs.Ytdnbepnajhggpaa.Am
open Go
set_option autoImplicit false
set_option linter.unusedVariables false
set_option linter.unusedSimpArgs false

theorem bself' (b : Bool) : (b == b) = true := by cases b <;> rfl
open Classical in
theorem order_it {R : Type} {n : Nat} {d : Dic} {k0 : Bool → Option R} {k1 : List Int → List Ety → List ByteArray → List Int → List Ety → Option R} (hn : 10000 ≤ n) (h : Valid d) : ∀ (fuel i : Nat) (x : Dic), i ≤ lives d.es → lives d.es + 1 ≤ fuel + i → Valid x → L x = (L d).take i →
    ∃ x', Valid x' ∧ L x' = L d ∧ F10_0_it n k0 k1 fuel i d.ix d.es (keys d) x.ix x.es = k1 d.ix d.es (keys d) x'.ix x'.es
  | fuel, i, x, hi, hf, hx, hl => by
    obtain ⟨f, rfl⟩ : ∃ f, fuel = f + 1 := ⟨fuel - 1, by omega⟩
    simp only [F10_0_it, F10_0_step, keys_len]
    have h40 := h.lv
    by_cases g : i < lives d.es
    · have hlen := L_len d
      have g1 : i < (L d).length := by omega
      have hk : (keys d).getD i ⟨#[]⟩ = (L d)[i].1 := by
        rw [getD_lt (by rw [keys_len]; exact g)]; unfold keys; rw [List.getElem_map]
      have hm : ((L d)[i].1, (L d)[i].2) ∈ L d := List.getElem_mem g1
      have hlx : lives x.es = i := by rw [← L_len, hl, List.length_take]; omega
      have hnew : (L d)[i].1 ∉ keys x := by
        unfold keys; rw [hl]
        intro hmm
        obtain ⟨p, hp, e⟩ := List.mem_map.1 hmm
        obtain ⟨j, hj, e2⟩ := List.getElem_of_mem hp
        rw [List.length_take] at hj
        rw [List.getElem_take] at e2
        have hnd := keys_nodup h
        unfold keys at hnd
        have := List.pairwise_iff_getElem.1 hnd j i (by rw [List.length_map]; omega) (by rw [List.length_map]; omega) (by omega)
        rw [List.getElem_map, List.getElem_map, e2] at this
        exact this e
      have hsz := key_sz h (mem_keys_L.2 ⟨_, hm⟩)
      have hv := L_val h hm
      have hset := set_yes (d := x) (key := (L d)[i].1) (v := (L d)[i].2) hx hsz hv (.inr (by omega))
      have hvx := setk_valid hx hsz hv (.inr (show lives x.es < 40 by omega))
      have hLx := L_setk (d := x) (key := (L d)[i].1) (v := (L d)[i].2) hx (.inr (by omega))
      rw [if_neg hnew, hl, ← List.take_succ_eq_append_getElem g1] at hLx
      rw [bp (by omega), bp (by omega), bp (by omega), show ((i : Nat) : Int).toNat = i by omega, hk, getI hn]
      simp only [ats]
      rw [bp (by omega), bp (by omega), get_yes h hm, setI hn, hset]
      simp only [ats, Bool.not_true, cf]
      rw [wp (by omega)]
      exact order_it hn h f (i + 1) _ (by omega) (by omega) hvx hLx
    · rw [bn (by omega)]
      exact ⟨x, hx, by rw [hl, List.take_of_length_le (by rw [L_len]; omega)], rfl⟩
theorem law_order {n : Nat} {z : List Int} (hn : 20000 ≤ n) (hz : okb z) : F10 n z = some (true, ()) := by
  unfold F10
  by_cases hl : (z.length : Int) > 1048576
  · rw [bp hl]
  have hn : 10000 ≤ n := by omega
  obtain ⟨d, e⟩ := draw1 (n := n) hn hz
  have hkl := keysR_len d
  rw [bn hl, e]; simp only [ats]
  rw [keysI hn]; simp only [ats]
  rw [dnewI hn]; simp only [ats]
  have tail : ∀ x : Dic, Valid x → keys x = keysR d → (Valid d → SameD x d) → (andThen (F36 n d.ix d.es) fun r1957 =>
  (andThen (F29 n d.ix d.es) fun r1958 =>
  (bif (r1957.1 == r1958.1) then
  (andThen (F23 n x.ix x.es) fun r1960 =>
  (andThen (F25 n r1960.2.1 (keysR d)) fun r1961 =>
  (bif r1961.1 then
  (andThen (F33 n x.ix x.es d.ix d.es) fun r1962 =>
  (andThen (F29 n d.ix d.es) fun r1963 =>
  some ((r1962.1 == r1963.1), ())))
  else some (false, ()))))
  else some (false, ())))) = some (true, ()) := by
    intro x hx hk hs
    rw [okS hn]; simp only [ats]
    rw [validI hn]; simp only [ats, bself', ct]
    rw [keysI hn]; simp only [ats]
    rw [keysR_ok hx, hk, texts hn (by omega)]; simp only [ats, ct]
    rw [sameI hn]; simp only [ats]
    by_cases h : Valid d
    · rw [decide_eq_true h, decide_eq_true (hs h)]; rfl
    · rw [decide_eq_false h, decide_eq_false (fun hh : SameD x d => h hh.2.1)]; rfl
  have hv8 := emp_valid (N := 8) (by decide)
  unfold F10_0
  by_cases h : Valid d
  · have h40 := h.lv
    obtain ⟨x, x1, x2, x3⟩ := order_it (R := Bool × Unit) (n := n) (d := d) (k0 := fun z => some (z, ())) (k1 := fun z1952 z1953 z1954 z1955 z1956 =>
      (andThen (F36 n z1952 z1953) fun r1957 =>
      (andThen (F29 n z1952 z1953) fun r1958 =>
      (bif (r1957.1 == r1958.1) then
      (andThen (F23 n z1955 z1956) fun r1960 =>
      (andThen (F25 n r1960.2.1 z1954) fun r1961 =>
      (bif r1961.1 then
      (andThen (F33 n z1955 z1956 z1952 z1953) fun r1962 =>
      (andThen (F29 n z1952 z1953) fun r1963 =>
      some ((r1962.1 == r1963.1), ())))
      else some (false, ()))))
      else some (false, ()))))) hn h n 0 (emp 8) (by omega) (by omega) hv8 (by simp [L_emp])
    rw [keysR_ok h]
    refine Eq.trans x3 ?_
    have := tail x x1 (by rw [keysR_ok h]; unfold keys; rw [x2]) (fun _ => sameD_L x1 h x2)
    rw [keysR_ok h] at this
    exact this
  · have := tail (emp 8) hv8 (by rw [keysR_bad h]; simp [keys, L_emp]) (fun hh => absurd hh h)
    rw [keysR_bad h] at this ⊢
    obtain ⟨f, hf⟩ : ∃ f, n = f + 1 := ⟨n - 1, by omega⟩
    conv => lhs; arg 4; rw [hf]
    simp only [F10_0_it, F10_0_step, List.length_nil]
    rw [bn (by omega)]
    exact this
theorem law_drop {n : Nat} {z : List Int} (hn : 20000 ≤ n) (hz : okb z) : F12 n z = some (true, ()) := by
  unfold F12
  by_cases hl : (z.length : Int) > 1048576
  · rw [bp hl]
  have hn : 10000 ≤ n := by omega
  obtain ⟨d, key, e⟩ := draw2d (n := n) hn hz
  have hdl := drop_len (d := d) (key := key)
  rw [bn hl, e]; simp only [ats]
  rw [dropI hn]; simp only [ats]
  rw [dropS hn]; simp only [ats]
  rw [same hn (by omega) (by omega)]; simp only [ats, ct, bself', Bool.not_true, cf]
  cases h : (drpR d key).2
  · rfl
  simp only [Bool.not_true, cf]
  obtain ⟨hv, hk, ha, he⟩ := drop_ok h
  have hdv := drop_valid hv ha
  have hgone := drop_gone hv ha
  have hli := lives_drp hv ha
  have h40 := hv.lv
  rw [he, getI hn]; simp only [ats]
  rw [get_no hgone, setI hn, set_yes hdv hk (by omega) (.inr (by omega))]; simp only [ats, Bool.not_false, ct]
  have hsv := setk_valid (v := 1) hdv hk (by omega) (.inr (show lives (drp d key).es < 40 by omega))
  have hks := keys_setk_new (v := 1) hdv (.inr (show lives (drp d key).es < 40 by omega)) hgone
  have hlen : (keys (setk (drp d key) key 1)).length = lives d.es := by rw [hks, List.length_append, keys_len, List.length_singleton]; omega
  rw [keysI hn]; simp only [ats]
  rw [validI hn, decide_eq_true hdv]; simp only [ats, ct]
  rw [keysR_ok hsv, hlen, bp (by omega), wp (by omega), bp (by omega), bp (by omega)]
  have hlast : (keys (setk (drp d key) key 1)).getD ((lives d.es : Int) - 1).toNat ⟨#[]⟩ = key := by
    rw [hks, show ((lives d.es : Int) - 1).toNat = (keys (drp d key)).length by rw [keys_len]; omega]; exact getD_snoc
  rw [hlast, keq, bp rfl, keysI hn]; simp only [ats]
  rw [keysR_ok hv, keys_len]; simp
open Classical in
theorem law_set {n : Nat} {z : List Int} (hn : 20000 ≤ n) (hz : okb z) : F14 n z = some (true, ()) := by
  unfold F14
  by_cases hl : (z.length : Int) > 1048576
  · rw [bp hl]
  have hn : 10000 ≤ n := by omega
  obtain ⟨d, key, v, e⟩ := draw3 (n := n) hn hz
  have hsl := set_len (d := d) (key := key) (v := v)
  rw [bn hl, e]; simp only [ats]
  rw [setI hn]; simp only [ats]
  rw [setS hn]; simp only [ats]
  rw [same hn (by omega) (by omega)]; simp only [ats, ct, bself', Bool.not_true, cf]
  cases h : (setR d key v).2
  · rfl
  simp only [Bool.not_true, cf]
  obtain ⟨hv, hk, hr, ha, he⟩ := set_ok h
  have hsv := setk_valid hv hk hr ha
  have hm := (mem_setk (v := v) hv ha (p := (key, v))).2 (.inl rfl)
  have h40 := hv.lv
  have h40' := hsv.lv
  rw [he, getI hn]; simp only [ats]
  rw [keysI hn]; simp only [ats]
  rw [keysI hn]; simp only [ats]
  rw [keysR_ok hv, keysR_ok hsv, get_yes hsv hm]
  unfold F14_0
  rw [isOne hn (by rw [keys_len]; omega)]; simp only [ats]
  have fin : ∀ l : List ByteArray, l = keys (setk d key v) → (bif v == v then andThen (F29 n (setk d key v).ix (setk d key v).es) fun r2096 => bif r2096.1 then andThen (F25 n l (keys (setk d key v))) fun r2097 => some (r2097.1, ()) else some (false, ()) else some (false, ())) = some (true, ()) := by
    rintro l rfl
    rw [eqp rfl, validI hn, decide_eq_true hsv]; simp only [ats, ct]
    rw [texts hn (by rw [keys_len]; omega)]; rfl
  by_cases g : key ∈ keys d
  · rw [decide_eq_true g]; simp only [Bool.not_true, cf, ct]
    exact fin _ (keys_setk_old hv ha g).symm
  · rw [decide_eq_false g]; simp only [Bool.not_false, ct]
    rw [bp (by rw [keys_len]; simp only [List.length_cons, List.length_nil]; omega)]
    exact fin _ (keys_setk_new hv ha g).symm
open Classical in
theorem law_undone {n : Nat} {z : List Int} (hn : 20000 ≤ n) (hz : okb z) : F15 n z = some (true, ()) := by
  unfold F15
  by_cases hl : (z.length : Int) > 1048576
  · rw [bp hl]
  have hn : 10000 ≤ n := by omega
  obtain ⟨d, key, v, e⟩ := draw3 (n := n) hn hz
  have hsl := set_len (d := d) (key := key) (v := v)
  rw [bn hl, e]; simp only [ats]
  rw [setI hn]; simp only [ats]
  rw [setS hn]; simp only [ats, bself', Bool.not_true, cf]
  rw [same hn (by omega) (by omega)]; simp only [ats, Bool.not_true, cf]
  rw [getI hn]; simp only [ats]
  cases h : (setR d key v).2
  · rfl
  simp only [Bool.not_true, cf]
  obtain ⟨hv, hk, hr, ha, he⟩ := set_ok h
  have hsv := setk_valid hv hk hr ha
  have hm := (mem_setk (v := v) hv ha (p := (key, v))).2 (.inl rfl)
  have h40 := hv.lv
  by_cases g : key ∈ keys d
  · obtain ⟨w, hw⟩ := mem_keys_L.1 g
    rw [get_yes hv hw]; rfl
  rw [get_no g]; simp only [cf]
  have hmk : key ∈ keys (setk d key v) := mem_keys_L.2 ⟨v, hm⟩
  have ha2 := (mem_keys hsv).1 hmk
  have hdv := drop_valid hsv ha2
  have hL : L (drp (setk d key v) key) = L d := by
    rw [L_drp hsv ha2, L_setk hv ha, if_neg g, List.filter_append]
    have : (L d).filter (fun p => decide (p.1 ≠ key)) = L d := by
      rw [List.filter_eq_self]
      intro p hp
      rw [decide_eq_true_iff]
      exact fun e => g (mem_keys_L.2 ⟨p.2, by rw [← e]; exact hp⟩)
    rw [this]; simp
  rw [he, dropI hn, drop_yes hsv hmk]; simp only [ats, ct]
  rw [sameI hn, decide_eq_true (sameD_L hdv hv hL)]; simp only [ats, ct]
  rw [keysI hn]; simp only [ats]
  rw [keysI hn]; simp only [ats]
  rw [show keysR (drp (setk d key v) key) = keysR d by rw [keysR_ok hdv, keysR_ok hv]; unfold keys; rw [hL], texts hn (by have := keysR_len d; omega)]; rfl
open Classical in
theorem law_again {n : Nat} {z : List Int} (hn : 20000 ≤ n) (hz : okb z) : F13 n z = some (true, ()) := by
  unfold F13
  by_cases hl : (z.length : Int) > 1048576
  · rw [bp hl]
  have hn : 10000 ≤ n := by omega
  obtain ⟨d, key, v, e⟩ := draw3 (n := n) hn hz
  have hsl := set_len (d := d) (key := key) (v := v)
  rw [bn hl, e]; simp only [ats]
  rw [setI hn]; simp only [ats]
  rw [setS hn]; simp only [ats, bself', Bool.not_true, cf]
  rw [same hn (by omega) (by omega)]; simp only [ats, Bool.not_true, cf]
  cases h : (setR d key v).2
  · rfl
  simp only [Bool.not_true, cf]
  obtain ⟨hv, hk, hr, ha, he⟩ := set_ok h
  have hsv := setk_valid hv hk hr ha
  have hm := (mem_setk (v := v) hv ha (p := (key, v))).2 (.inl rfl)
  have hmk : key ∈ keys (setk d key v) := mem_keys_L.2 ⟨v, hm⟩
  have ha2 := (mem_keys hsv).1 hmk
  rw [wp (by omega), he, setI hn]; simp only [ats]
  rw [getI hn]; simp only [ats]
  cases h2 : (setR (setk d key v) key (v + 1)).2
  · have : ¬ (v + 1 ≤ 1000000) := fun hh => by
      rw [set_yes hsv hk (by omega) (.inl hmk)] at h2; cases h2
    simp only [Bool.not_false, ct]
    rw [bp (by omega)]
  · obtain ⟨_, _, hr2, _, he2⟩ := set_ok h2
    have hsv2 := setk_valid hsv hk hr2 (.inl ha2)
    have hm2 := (mem_setk (v := v + 1) hsv (.inl ha2) (p := (key, v + 1))).2 (.inl rfl)
    have h40 := hsv.lv
    simp only [Bool.not_true, cf, ct]
    rw [he2, get_yes hsv2 hm2]; simp only [ct]
    rw [eqp rfl, keysI hn]; simp only [ats]
    rw [keysI hn]; simp only [ats]
    rw [show keysR (setk (setk d key v) key (v + 1)) = keysR (setk d key v) by rw [keysR_ok hsv2, keysR_ok hsv, keys_setk_old hsv (.inl ha2) hmk], texts hn (by have := keysR_len (setk d key v); omega)]; simp only [ats, ct]
    have : (setk (setk d key v) key (v + 1)).es.length = (setk d key v).es.length := by
      have e : setk (setk d key v) key (v + 1) = upd (setk d key v) (at' (setk d key v) key).toNat (v + 1) := if_pos ha2
      rw [e, upd_len]
    rw [this]; simp
open Classical in
theorem law_apart {n : Nat} {z : List Int} (hn : 20000 ≤ n) (hz : okb z) : F11 n z = some (true, ()) := by
  unfold F11
  by_cases hl : (z.length : Int) > 1048576
  · rw [bp hl]
  have hn : 10000 ≤ n := by omega
  obtain ⟨d, key, v, e⟩ := draw3 (n := n) hn hz
  obtain ⟨y, hy, ey⟩ := halfOk (n := n) hz (by omega)
  obtain ⟨d', o, e'⟩ := draw2 (n := n) hn hy
  have hsl := set_len (d := d) (key := key) (v := v)
  rw [bn hl, e]; simp only [ats]
  rw [ey]; simp only [ats]
  rw [e']; simp only [ats]
  rw [setI hn]; simp only [ats]
  rw [setS hn]; simp only [ats, bself', Bool.not_true, cf]
  rw [same hn (by omega) (by omega)]; simp only [ats, Bool.not_true, cf]
  rw [setI hn]; simp only [ats]
  cases h : (setR d key v).2
  · rfl
  simp only [Bool.not_true, cf]
  cases h2 : (setR d o 7).2
  · rfl
  simp only [Bool.not_true, cf]
  rw [keq]
  by_cases hne : key = o
  · rw [bp hne]
  rw [bn hne]
  obtain ⟨hv, hk, hr, ha, he⟩ := set_ok h
  obtain ⟨_, hk2, hr2, ha2, he2⟩ := set_ok h2
  have sx := setk_valid hv hk hr ha
  have sy := setk_valid hv hk2 hr2 ha2
  have mx : ∀ {p}, p ∈ L (setk d key v) ↔ p = (key, v) ∨ (p ∈ L d ∧ p.1 ≠ key) := mem_setk hv ha
  have my : ∀ {p}, p ∈ L (setk d o 7) ↔ p = (o, 7) ∨ (p ∈ L d ∧ p.1 ≠ o) := mem_setk hv ha2
  have kx : o ∈ keys (setk d key v) ↔ o ∈ keys d := by
    by_cases g : key ∈ keys d
    · rw [keys_setk_old hv ha g]
    · rw [keys_setk_new hv ha g, List.mem_append, List.mem_singleton]
      exact ⟨fun hh => hh.elim id (fun e => absurd e.symm hne), .inl⟩
  have ky : key ∈ keys (setk d o 7) ↔ key ∈ keys d := by
    by_cases g : o ∈ keys d
    · rw [keys_setk_old hv ha2 g]
    · rw [keys_setk_new hv ha2 g, List.mem_append, List.mem_singleton]
      exact ⟨fun hh => hh.elim id (fun e => absurd e hne), .inl⟩
  have mk := mem_keys hv (key := key)
  have mo := mem_keys hv (key := o)
  have lx : lives (setk d key v).es = if key ∈ keys d then lives d.es else lives d.es + 1 := by
    by_cases g : key ∈ keys d
    · rw [if_pos g, lives_setk_old hv ha g]
    · rw [if_neg g, lives_setk_new hv ha g]
  have ly : lives (setk d o 7).es = if o ∈ keys d then lives d.es else lives d.es + 1 := by
    by_cases g : o ∈ keys d
    · rw [if_pos g, lives_setk_old hv ha2 g]
    · rw [if_neg g, lives_setk_new hv ha2 g]
  have same2 : (o ∈ keys (setk d key v) ∨ lives (setk d key v).es < 40) ↔ (key ∈ keys (setk d o 7) ∨ lives (setk d o 7).es < 40) := by
    rw [kx, ky, lx, ly]
    by_cases g : key ∈ keys d <;> by_cases g2 : o ∈ keys d
    · rw [if_pos g, if_pos g2]; exact ⟨fun _ => .inl g, fun _ => .inl g2⟩
    · rw [if_pos g, if_neg g2]
      have : lives d.es < 40 := ha2.resolve_left (fun hh => g2 (mo.2 hh))
      exact ⟨fun _ => .inl g, fun _ => .inr this⟩
    · rw [if_neg g, if_pos g2]
      have : lives d.es < 40 := ha.resolve_left (fun hh => g (mk.2 hh))
      exact ⟨fun _ => .inr this, fun _ => .inl g2⟩
    · rw [if_neg g, if_neg g2]
      exact ⟨fun hh => .inr (hh.resolve_left g2), fun hh => .inr (hh.resolve_left g)⟩
  rw [he, he2, setI hn]; simp only [ats]
  rw [setI hn]; simp only [ats]
  by_cases g : o ∈ keys (setk d key v) ∨ lives (setk d key v).es < 40
  case neg =>
    rw [set_full sx g, set_full sy (fun hh => g (same2.2 hh))]; rfl
  have g2 := same2.1 g
  rw [set_yes sx hk2 hr2 g, set_yes sy hk hr g2]
  have ga := g.imp (mem_keys sx).1 id
  have gb := g2.imp (mem_keys sy).1 id
  have va := setk_valid sx hk2 hr2 ga
  have vb := setk_valid sy hk hr gb
  simp only [bself', ct, Bool.not_true, cf]
  have la : lives (setk (setk d key v) o 7).es = if o ∈ keys d then lives (setk d key v).es else lives (setk d key v).es + 1 := by
    by_cases g : o ∈ keys d
    · rw [if_pos g, lives_setk_old sx ga (kx.2 g)]
    · rw [if_neg g, lives_setk_new sx ga (fun hh => g (kx.1 hh))]
  have lb : lives (setk (setk d o 7) key v).es = if key ∈ keys d then lives (setk d o 7).es else lives (setk d o 7).es + 1 := by
    by_cases g : key ∈ keys d
    · rw [if_pos g, lives_setk_old sy gb (ky.2 g)]
    · rw [if_neg g, lives_setk_new sy gb (fun hh => g (ky.1 hh))]
  have hs : SameD (setk (setk d key v) o 7) (setk (setk d o 7) key v) := by
    refine sameD_iff.2 ⟨va, vb, ?_, fun p hp => ?_⟩
    · rw [la, lb, lx, ly]
      by_cases g : key ∈ keys d <;> by_cases g2 : o ∈ keys d <;> simp only [g, g2, if_true, if_false]
    · rw [mem_setk sx ga, mx] at hp
      rw [mem_setk sy gb, my]
      rcases hp with rfl | ⟨rfl | ⟨h1, h2⟩, h3⟩
      · exact .inr ⟨.inl rfl, fun e => hne e.symm⟩
      · exact .inl rfl
      · exact .inr ⟨.inr ⟨h1, h3⟩, h2⟩
  rw [sameI hn, decide_eq_true hs]; rfl
end Go.Proofs.Ytdnbepnajhggpaa.Am
