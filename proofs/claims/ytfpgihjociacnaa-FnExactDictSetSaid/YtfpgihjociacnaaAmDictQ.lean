/- Dictionaries: valid ones stay valid. -/
import Derived.Test.YtfpgihjociacnaaAmDictO
namespace Go.Proofs.Ytfpgihjociacnaa.Am
open Go
set_option autoImplicit false
set_option linter.unusedVariables false
set_option linter.unusedSimpArgs false

theorem lives_set {es : List Ety} {i : Nat} {e : Ety} (h : i < es.length) : lives (es.set i e) + (if (es.getD i ze).live then 1 else 0) = lives es + (if e.live then 1 else 0) := by
  have e1 := List.take_append_drop i es
  have e2 : es = es.take i ++ es.getD i ze :: es.drop (i + 1) := by
    rw [getD_lt h, ← List.drop_eq_getElem_cons h]; exact e1.symm
  have e3 : es.set i e = es.take i ++ e :: es.drop (i + 1) := List.set_eq_take_append_cons_drop ▸ (if_pos h)
  have c1 : lives es = lives (es.take i) + (lives (es.drop (i + 1)) + (if (es.getD i ze).live then 1 else 0)) := by
    conv => lhs; rw [e2]
    unfold lives; rw [List.countP_append, List.countP_cons]
  have c2 : lives (es.set i e) = lives (es.take i) + (lives (es.drop (i + 1)) + (if e.live then 1 else 0)) := by
    rw [e3]; unfold lives; rw [List.countP_append, List.countP_cons]
  omega

-- an empty one -------------------------------------------------------------------------------------------------------------------------
def emp (N : Nat) : Dic := ⟨List.replicate N (-1), []⟩
theorem emp_sz (N : Nat) : (emp N).ix.length = N := by simp [emp]
theorem emp_slot {N s : Nat} (h : s < N) : slot (emp N) s = -1 := by simp [slot, emp, List.getD, h]
theorem emp_valid {N : Nat} (h : N ∈ szs) : Valid (emp N) := by
  have hp := szs_iff.1 h
  exact ⟨⟨by rw [emp_sz]; exact h, by simp [emp], by simp [emp, lives], fun s hs => .inl (emp_slot (by rw [emp_sz] at hs; exact hs)), fun i hi => by simp [emp] at hi, by simp [emp, lives, List.count_replicate]⟩, fun i hi => by simp [emp] at hi, fun i hi => by simp [emp] at hi⟩

-- another value ------------------------------------------------------------------------------------------------------------------------
def upd (d : Dic) (i : Nat) (v : Int) : Dic := ⟨d.ix, d.es.set i ⟨(ent d i).key, (ent d i).hash, v, (ent d i).live⟩⟩
theorem upd_ent {d : Dic} {i j : Nat} {v : Int} (h : i < d.es.length) : ent (upd d i v) j = if i = j then ⟨(ent d i).key, (ent d i).hash, v, (ent d i).live⟩ else ent d j := getD_set' h
theorem upd_key {d : Dic} {i j : Nat} {v : Int} (h : i < d.es.length) : (ent (upd d i v) j).key = (ent d j).key := by
  rw [upd_ent h]; by_cases g : i = j
  · subst g; rw [if_pos rfl]
  · rw [if_neg g]
theorem upd_live {d : Dic} {i j : Nat} {v : Int} (h : i < d.es.length) : (ent (upd d i v) j).live = (ent d j).live := by
  rw [upd_ent h]; by_cases g : i = j
  · subst g; rw [if_pos rfl]
  · rw [if_neg g]
theorem upd_len (d : Dic) (i : Nat) (v : Int) : (upd d i v).es.length = d.es.length := by simp [upd]
theorem upd_at {d : Dic} (hf : Fin d) {i : Nat} {v : Int} (h : i < d.es.length) (key : ByteArray) : at' (upd d i v) key = at' d key := by
  have hs := sl_same (d' := upd d i v) (key := key) hf rfl (fun t _ => by
    apply Bool.eq_iff_iff.2
    rw [st_iff, st_iff, upd_key h]; rfl)
  show slot d (sl (upd d i v) key) = _
  rw [hs]; rfl
theorem upd_valid {d : Dic} (h : Valid d) {i : Nat} {v : Int} (hi : (ent d i).live = true) (hv : -1000000 ≤ v ∧ v ≤ 1000000) : Valid (upd d i v) := by
  have hl := ent_lt hi
  have hv' : lives (upd d i v).es = lives d.es := by
    have := lives_set (e := ⟨(ent d i).key, (ent d i).hash, v, (ent d i).live⟩) hl
    have e : d.es.getD i ze = ent d i := rfl
    rw [e, hi] at this
    show lives (d.es.set i _) = _
    rw [hi]; simpa using this
  refine ⟨⟨h.sz, by rw [upd_len]; exact h.le, by rw [hv']; exact h.lv, fun s hs => ?_, fun j hj hlv => ?_, by rw [hv', upd_len]; exact h.dr⟩, fun j hj => ?_, fun j hj hlv => ?_⟩
  · rw [upd_len, upd_live hl]; exact h.rg s hs
  · rw [upd_len] at hj; rw [upd_live hl] at hlv; exact h.c1 j hj hlv
  · rw [upd_len] at hj
    rw [upd_ent hl]
    by_cases g : i = j
    · subst g; rw [if_pos rfl]
      have he := (h.en i hj).2 hi
      exact ⟨fun hf => (by rw [hi] at hf; cases hf), fun _ => ⟨he.1, he.2.1, hv⟩⟩
    · rw [if_neg g]; exact h.en j hj
  · rw [upd_len] at hj; rw [upd_live hl] at hlv
    rw [upd_key hl, upd_at h.toBase.fin hl]; exact h.pr j hj hlv

-- an entry that is dropped -------------------------------------------------------------------------------------------------------------
theorem count1_uq {l : List Int} {x : Int} {s s' : Nat} (h : l.count x = 1) (hs : s < l.length) (hs' : s' < l.length) (e : l.getD s 0 = x) (e' : l.getD s' 0 = x) : s = s' := by
  apply Classical.byContradiction
  intro hne
  have c := count_set' (x := x + 1) (y := x) hs
  rw [if_pos e, if_neg (by omega), h] at c
  have c0 : (l.set s (x + 1)).count x = 0 := by omega
  have := List.count_eq_zero.1 c0
  apply this
  have g : (l.set s (x + 1)).getD s' 0 = x := by rw [getD_set' hs, if_neg hne]; exact e'
  have hs2 : s' < (l.set s (x + 1)).length := by simpa using hs'
  rw [getD_lt hs2] at g
  have hm := List.getElem_mem hs2
  rw [g] at hm; exact hm
theorem Base.slot_uq {d : Dic} (h : Base d) {s s' : Nat} (hs : s < d.ix.length) (hs' : s' < d.ix.length) (h0 : 0 ≤ slot d s) (e : slot d s = slot d s') : s = s' := by
  have hr := h.rg s hs
  rcases hr with g | g | ⟨g1, g2, g3⟩
  · omega
  · omega
  · have c := h.c1 _ (by omega) g3
    rw [show (((slot d s).toNat : Nat) : Int) = slot d s by omega] at c
    exact count1_uq c hs hs' rfl e.symm
def drp (d : Dic) (key : ByteArray) : Dic := ⟨d.ix.set (sl d key) (-2), d.es.set (at' d key).toNat ze⟩
theorem ze_ok : EOk ze := ⟨fun _ => rfl, fun h => by cases h⟩
section
variable {d : Dic} (h : Valid d) {key : ByteArray} {i : Nat} (ha : at' d key = i)
include h ha
theorem drp_live : (ent d i).live = true ∧ (ent d i).key = key ∧ i < d.es.length := by
  rcases h.toBase.found key with g | ⟨j, g1, g2, g3, g4⟩
  · omega
  · have : j = i := by omega
    subst this; exact ⟨g3, g4, g2⟩
omit ha in
theorem drp_slot (ha : at' d key = i) (s : Nat) : slot (drp d key) s = if sl d key = s then -2 else slot d s := getD_set' (h.toBase.fin.sl_lt key)
theorem drp_ent (j : Nat) : ent (drp d key) j = if i = j then ze else ent d j := by
  have hl := (drp_live h ha).2.2
  show (d.es.set (at' d key).toNat ze).getD j ze = _
  rw [ha, show ((i : Nat) : Int).toNat = i by omega]
  exact getD_set' hl
omit h ha in
theorem drp_len (h : Valid d) (ha : at' d key = i) : (drp d key).es.length = d.es.length ∧ (drp d key).ix.length = d.ix.length := by simp [drp]
theorem drp_at {j : Nat} (hj : (ent d j).live = true) (hne : i ≠ j) : at' (drp d key) (ent d j).key = j := by
  obtain ⟨l1, l2, l3⟩ := drp_live h ha
  have hf := h.toBase.fin
  have hp := h.pr j (ent_lt hj) hj
  have hsi : slot d (sl d key) = i := ha
  have hsj : slot d (sl d (ent d j).key) = j := hp
  have hs := sl_same (d' := drp d key) (key := (ent d j).key) hf (drp_len h ha).2 (fun t ht => by
    apply Bool.eq_iff_iff.2
    rw [st_iff, st_iff, drp_slot h ha]
    have hlt := pn_lt hf (ent d j).key t
    by_cases g : sl d key = pn d (ent d j).key t
    · rw [if_pos g, ← g, hsi]
      constructor
      · rintro (a | a) <;> omega
      · rintro (a | ⟨a, b⟩)
        · omega
        · rw [show ((i : Nat) : Int).toNat = i by omega] at b
          exact absurd (h.uq l1 hj b) hne
    · rw [if_neg g]
      have hr := h.rg _ hlt
      by_cases g2 : 0 ≤ slot d (pn d (ent d j).key t)
      · rw [drp_ent h ha, if_neg]
        intro e
        apply g
        exact (h.toBase.slot_uq hlt (hf.sl_lt key) g2 (by rw [hsi]; omega)).symm
      · constructor <;> (rintro (a | a) <;> first | exact .inl a | omega))
  show slot (drp d key) (sl (drp d key) (ent d j).key) = _
  rw [hs, drp_slot h ha, if_neg (fun e => hne (by rw [e, hsj] at hsi; omega)), hsj]
theorem drp_valid : Valid (drp d key) := by
  obtain ⟨l1, l2, l3⟩ := drp_live h ha
  have hf := h.toBase.fin
  obtain ⟨n1, n2⟩ := drp_len h ha
  have hsi : slot d (sl d key) = i := ha
  have hv : lives (drp d key).es + 1 = lives d.es := by
    have := lives_set (e := ze) l3
    have e : d.es.getD i ze = ent d i := rfl
    rw [e, l1] at this
    show lives (d.es.set (at' d key).toNat ze) + 1 = _
    rw [ha, show ((i : Nat) : Int).toNat = i by omega]
    simpa [ze] using this
  have hc : ∀ y : Int, (drp d key).ix.count y + (if (i : Int) = y then 1 else 0) = d.ix.count y + (if (-2 : Int) = y then 1 else 0) := fun y => by
    have := count_set' (l := d.ix) (x := -2) (y := y) (hf.sl_lt key)
    rw [show d.ix.getD (sl d key) 0 = i from hsi] at this
    exact this
  have hlv := h.lv; have hle := h.le; have hdr := h.dr
  refine ⟨⟨by rw [n2]; exact h.sz, by rw [n1, n2]; exact h.le, by omega, fun s hs => ?_, fun j hj hl => ?_, ?_⟩, fun j hj => ?_, fun j hj hl => ?_⟩
  · rw [n2] at hs
    rw [drp_slot h ha, n1]
    by_cases g : sl d key = s
    · rw [if_pos g]; exact .inr (.inl rfl)
    · rw [if_neg g]
      rcases h.rg s hs with a | a | ⟨a, b, c⟩
      · exact .inl a
      · exact .inr (.inl a)
      · refine .inr (.inr ⟨a, b, ?_⟩)
        rw [drp_ent h ha, if_neg]
        · exact c
        · intro e
          exact g (h.toBase.slot_uq hs (hf.sl_lt key) a (by rw [hsi]; omega)).symm
  · rw [n1] at hj
    rw [drp_ent h ha] at hl
    by_cases g : i = j
    · rw [if_pos g] at hl; cases hl
    · rw [if_neg g] at hl
      have := hc j
      rw [if_neg (by omega), if_neg (by omega), h.c1 j hj hl] at this; exact this
  · have := hc (-2)
    rw [if_neg (by omega), if_pos rfl] at this
    rw [n1]; omega
  · rw [n1] at hj
    rw [drp_ent h ha]
    by_cases g : i = j
    · rw [if_pos g]; exact ze_ok
    · rw [if_neg g]; exact h.en j hj
  · rw [drp_ent h ha] at hl ⊢
    by_cases g : i = j
    · rw [if_pos g] at hl; cases hl
    · rw [if_neg g] at hl ⊢; exact drp_at h ha hl g
end

-- packing ------------------------------------------------------------------------------------------------------------------------------
def fill (d : Dic) (l : List Ety) : Dic := l.foldl add d
theorem fill_valid : ∀ (l : List Ety) (d : Dic), Valid d → (∀ e ∈ l, e.live = true ∧ EOk e ∧ at' d e.key = -1) → (l.map fun e => e.key).Nodup → d.es.length + l.length ≤ d.ix.length * 2 / 3 → lives d.es + l.length ≤ 40 →
    Valid (fill d l) ∧ (fill d l).es = d.es ++ l ∧ (fill d l).ix.length = d.ix.length
  | [], d, h, _, _, _, _ => ⟨h, by simp [fill], rfl⟩
  | e :: l, d, h, he, hn, h1, h2 => by
    obtain ⟨e1, e2, e3⟩ := he e (by simp)
    rw [List.length_cons] at h1 h2
    rw [List.map_cons, List.nodup_cons] at hn
    have hv := add_valid h e2 e1 e3 (by omega) (by omega)
    have hf := h.toBase.fin
    have hl : lives (add d e).es = lives d.es + 1 := by show lives (d.es ++ [e]) = _; rw [lives_snoc, e1]; rfl
    obtain ⟨r1, r2, r3⟩ := fill_valid l (add d e) hv (fun e' he' => by
      obtain ⟨f1, f2, f3⟩ := he e' (List.mem_cons_of_mem _ he')
      refine ⟨f1, f2, hv.none.2 fun i hi => ?_⟩
      have hlt := ent_lt hi
      rw [add_len] at hlt
      by_cases g : i = d.es.length
      · subst g; rw [add_new]
        intro hk
        exact hn.1 (hk ▸ List.mem_map.2 ⟨e', he', rfl⟩)
      · rw [add_ent (by omega)] at hi ⊢
        exact h.none.1 f3 i hi) hn.2 (by rw [add_len, add_sz]; omega) (by rw [hl]; omega)
    refine ⟨r1, ?_, by rw [← add_sz d e]; exact r3⟩
    show (fill (add d e) l).es = _
    rw [r2]; show (d.es ++ [e]) ++ l = _; simp
def lv (es : List Ety) : List Ety := es.filter fun e => e.live
theorem lv_len (es : List Ety) : (lv es).length = lives es := by unfold lv lives; rw [List.countP_eq_length_filter]
theorem lv_lv (es : List Ety) : lv (lv es) = lv es := by simp [lv]
def pk (N : Nat) (es : List Ety) : Dic := fill (emp N) (lv es)
theorem mem_lv {d : Dic} {e : Ety} (h : e ∈ lv d.es) : ∃ i, i < d.es.length ∧ ent d i = e ∧ e.live = true := by
  unfold lv at h
  obtain ⟨h1, h2⟩ := List.mem_filter.1 h
  obtain ⟨i, hi, rfl⟩ := List.getElem_of_mem h1
  exact ⟨i, hi, by unfold ent; rw [getD_lt hi], h2⟩
theorem Valid.nodup {d : Dic} (h : Valid d) : ((lv d.es).map fun e => e.key).Nodup := by
  unfold lv List.Nodup
  rw [List.pairwise_map, List.pairwise_filter, List.pairwise_iff_getElem]
  intro i j hi hj hij h1 h2 hk
  have a1 : ent d i = d.es[i] := by unfold ent; rw [getD_lt hi]
  have a2 : ent d j = d.es[j] := by unfold ent; rw [getD_lt hj]
  have := h.uq (i := i) (j := j) (by rw [a1]; exact h1) (by rw [a2]; exact h2) (by rw [a1, a2]; exact hk)
  omega
theorem pk_gen {l : List Ety} {N : Nat} (hN : N ∈ szs) (h1 : ∀ e ∈ l, EOk e) (h2 : ((lv l).map fun e => e.key).Nodup) (h3 : lives l ≤ N * 2 / 3) (h4 : lives l ≤ 40) : Valid (pk N l) ∧ (pk N l).es = lv l ∧ (pk N l).ix.length = N := by
  have hv := emp_valid hN
  obtain ⟨a, b, c⟩ := fill_valid (lv l) (emp N) hv (fun e he => by
    have he' := List.mem_filter.1 he
    exact ⟨he'.2, h1 e he'.1, hv.none.2 fun j hj => by
      have := ent_lt hj
      simp [emp] at this⟩) h2 (by rw [lv_len, emp_sz]; simp [emp]; exact h3) (by rw [lv_len]; simp [emp, lives]; exact h4)
  refine ⟨a, ?_, by rw [emp_sz] at c; exact c⟩
  show (fill (emp N) (lv l)).es = _
  rw [b]; simp [emp]
theorem mem_ok {d : Dic} (h : Valid d) {e : Ety} (he : e ∈ d.es) : EOk e := by
  obtain ⟨i, hi, rfl⟩ := List.getElem_of_mem he
  have := h.en i hi
  unfold ent at this; rw [getD_lt hi] at this; exact this
theorem pk_valid {d : Dic} (h : Valid d) {N : Nat} (hN : N ∈ szs) (hl : lives d.es ≤ N * 2 / 3) : Valid (pk N d.es) ∧ (pk N d.es).es = lv d.es ∧ (pk N d.es).ix.length = N :=
  pk_gen hN (fun e he => mem_ok h he) h.nodup hl h.lv
theorem lives_take_le (es : List Ety) (i : Nat) : lives (es.take i) ≤ lives es := (List.take_sublist i es).countP_le
theorem pk_take {d : Dic} (h : Valid d) {N : Nat} (hN : N ∈ szs) (hl : lives d.es ≤ N * 2 / 3) (i : Nat) : Valid (pk N (d.es.take i)) ∧ (pk N (d.es.take i)).es = lv (d.es.take i) ∧ (pk N (d.es.take i)).ix.length = N := by
  have h1 := lives_take_le d.es i
  have h2 := h.lv
  exact pk_gen hN (fun e he => mem_ok h (List.mem_of_mem_take he)) (h.nodup.sublist (((List.take_sublist i d.es).filter _).map _)) (by omega) (by omega)
theorem lv_take {es : List Ety} {i : Nat} (h : i < es.length) : lv (es.take (i + 1)) = if (es.getD i ze).live then lv (es.take i) ++ [es.getD i ze] else lv (es.take i) := by
  unfold lv
  rw [List.take_succ_eq_append_getElem h, List.filter_append, getD_lt h]
  by_cases g : es[i].live = true
  · rw [if_pos g, List.filter_cons_of_pos g]; rfl
  · rw [if_neg g, List.filter_cons_of_neg g]; simp
theorem pk_succ {es : List Ety} {i N : Nat} (h : i < es.length) : pk N (es.take (i + 1)) = if (es.getD i ze).live then add (pk N (es.take i)) (es.getD i ze) else pk N (es.take i) := by
  unfold pk
  rw [lv_take h]
  by_cases g : (es.getD i ze).live = true
  · rw [if_pos g, if_pos g]; unfold fill; rw [List.foldl_append]; rfl
  · rw [if_neg g, if_neg g]
theorem pk_zero (es : List Ety) (N : Nat) : pk N (es.take 0) = emp N := by simp [pk, lv, fill]
def szf (n : Nat) : Nat := if 3 * n < 8 then 8 else if 3 * n < 16 then 16 else if 3 * n < 32 then 32 else if 3 * n < 64 then 64 else 128
theorem szf_ok {n : Nat} (h : n ≤ 40) : szf n ∈ szs ∧ 3 * n < szf n := by
  rw [szs_iff]
  unfold szf
  repeat' split
  all_goals omega

-- setting ------------------------------------------------------------------------------------------------------------------------------
def en (key : ByteArray) (v : Int) : Ety := ⟨key, (H key : Int), v, true⟩
theorem en_ok {key : ByteArray} {v : Int} (hk : key.size ≤ 20) (hv : -1000000 ≤ v ∧ v ≤ 1000000) : EOk (en key v) := ⟨fun h => (by cases h), fun _ => ⟨hk, rfl, hv⟩⟩
def rm (d : Dic) : Dic := if d.es.length < d.ix.length * 2 / 3 then d else pk (szf (lives d.es + 1)) d.es
theorem rm_ok {d : Dic} (h : Valid d) (hl : lives d.es < 40) : Valid (rm d) ∧ (rm d).es.length < (rm d).ix.length * 2 / 3 ∧ lv (rm d).es = lv d.es := by
  unfold rm
  by_cases g : d.es.length < d.ix.length * 2 / 3
  · rw [if_pos g]; exact ⟨h, g, rfl⟩
  · rw [if_neg g]
    obtain ⟨s1, s2⟩ := szf_ok (n := lives d.es + 1) (by omega)
    obtain ⟨a, b, c⟩ := pk_valid h s1 (by omega)
    exact ⟨a, by rw [b, c, lv_len]; omega, by rw [b, lv_lv]⟩
theorem Valid.none_lv {d : Dic} (h : Valid d) {key : ByteArray} : at' d key = -1 ↔ ∀ e ∈ lv d.es, e.key ≠ key := by
  rw [h.none]
  constructor
  · intro g e he
    obtain ⟨i, hi, rfl, h2⟩ := mem_lv he
    exact g i h2
  · intro g i hi
    apply g
    unfold lv
    refine List.mem_filter.2 ⟨?_, hi⟩
    unfold ent; rw [getD_lt (ent_lt hi)]; exact List.getElem_mem _
theorem rm_at {d : Dic} (h : Valid d) (hl : lives d.es < 40) {key : ByteArray} (h0 : at' d key = -1) : at' (rm d) key = -1 := by
  obtain ⟨a, b, c⟩ := rm_ok h hl
  rw [a.none_lv, c]; exact h.none_lv.1 h0
def setk (d : Dic) (key : ByteArray) (v : Int) : Dic := if 0 ≤ at' d key then upd d (at' d key).toNat v else add (rm d) (en key v)
theorem at_neg {d : Dic} (h : Fin d) {key : ByteArray} (hn : ¬ 0 ≤ at' d key) : at' d key = -1 := by
  rcases h.at_cases key with g | g
  · exact g
  · omega
theorem at_pos {d : Dic} (h : Base d) {key : ByteArray} (hn : 0 ≤ at' d key) : (ent d (at' d key).toNat).live = true ∧ (ent d (at' d key).toNat).key = key := by
  rcases h.found key with g | ⟨i, g1, g2, g3, g4⟩
  · omega
  · rw [g1, show ((i : Nat) : Int).toNat = i by omega]; exact ⟨g3, g4⟩
theorem lives_lv {a b : List Ety} (h : lv a = lv b) : lives a = lives b := by rw [← lv_len, ← lv_len, h]
theorem setk_valid {d : Dic} (h : Valid d) {key : ByteArray} {v : Int} (hk : key.size ≤ 20) (hv : -1000000 ≤ v ∧ v ≤ 1000000) (hl : 0 ≤ at' d key ∨ lives d.es < 40) : Valid (setk d key v) := by
  unfold setk
  by_cases g : 0 ≤ at' d key
  · rw [if_pos g]; exact upd_valid h (at_pos h.toBase g).1 hv
  · rw [if_neg g]
    have hl : lives d.es < 40 := by omega
    obtain ⟨a, b, c⟩ := rm_ok h hl
    exact add_valid a (en_ok hk hv) rfl (rm_at h hl (at_neg h.toBase.fin g)) b (by rw [lives_lv c]; exact hl)

-- what is listed -----------------------------------------------------------------------------------------------------------------------
def L (d : Dic) : List (ByteArray × Int) := (lv d.es).map fun e => (e.key, e.val)
def keys (d : Dic) : List ByteArray := (L d).map fun p => p.1
theorem keys_eq (d : Dic) : keys d = (lv d.es).map fun e => e.key := by simp [keys, L, Function.comp_def]
theorem L_len (d : Dic) : (L d).length = lives d.es := by unfold L; rw [List.length_map, lv_len]
theorem keys_nodup {d : Dic} (h : Valid d) : (keys d).Nodup := by rw [keys_eq]; exact h.nodup
theorem L_emp (N : Nat) : L (emp N) = [] := rfl
theorem L_add {d : Dic} {e : Ety} (h : e.live = true) : L (add d e) = L d ++ [(e.key, e.val)] := by
  unfold L lv; show List.map _ (List.filter _ (d.es ++ [e])) = _
  rw [List.filter_append, List.map_append]; simp [h]
theorem L_pk {d : Dic} (h : Valid d) {N : Nat} (hN : N ∈ szs) (hl : lives d.es ≤ N * 2 / 3) : L (pk N d.es) = L d := by
  unfold L; rw [(pk_valid h hN hl).2.1, lv_lv]
theorem mem_keys {d : Dic} (h : Valid d) {key : ByteArray} : key ∈ keys d ↔ 0 ≤ at' d key := by
  rw [keys_eq]
  constructor
  · intro g
    apply Classical.byContradiction
    intro hn
    obtain ⟨e, he, hk⟩ := List.mem_map.1 g
    exact h.none_lv.1 (at_neg h.toBase.fin hn) e he hk
  · intro g
    obtain ⟨a, b⟩ := at_pos h.toBase g
    refine List.mem_map.2 ⟨ent d (at' d key).toNat, ?_, b⟩
    unfold lv
    refine List.mem_filter.2 ⟨?_, a⟩
    unfold ent; rw [getD_lt (ent_lt a)]; exact List.getElem_mem _
theorem mem_L {d : Dic} (h : Valid d) {key : ByteArray} {v : Int} : (key, v) ∈ L d ↔ (0 ≤ at' d key ∧ (ent d (at' d key).toNat).val = v) := by
  unfold L
  constructor
  · intro g
    obtain ⟨e, he, hk⟩ := List.mem_map.1 g
    obtain ⟨i, hi, rfl, h2⟩ := mem_lv he
    have := h.find h2 (congrArg Prod.fst hk)
    rw [this, show ((i : Nat) : Int).toNat = i by omega]
    exact ⟨by omega, congrArg Prod.snd hk⟩
  · rintro ⟨g, hv⟩
    obtain ⟨a, b⟩ := at_pos h.toBase g
    refine List.mem_map.2 ⟨ent d (at' d key).toNat, ?_, by rw [b, hv]⟩
    unfold lv
    refine List.mem_filter.2 ⟨?_, a⟩
    unfold ent; rw [getD_lt (ent_lt a)]; exact List.getElem_mem _
theorem L_upd {d : Dic} (h : Valid d) {i : Nat} {v : Int} (hi : (ent d i).live = true) : L (upd d i v) = (L d).map fun p => if p.1 = (ent d i).key then (p.1, v) else p := by
  have hl := ent_lt hi
  unfold L lv
  have e1 : (upd d i v).es = d.es.map fun e => if e.live = true ∧ e.key = (ent d i).key then ⟨e.key, e.hash, v, e.live⟩ else e := by
    apply List.ext_getElem
    · rw [upd_len, List.length_map]
    · intro j h1 h2
      rw [upd_len] at h1
      have a1 : ent (upd d i v) j = (upd d i v).es[j]'(by rw [upd_len]; exact h1) := by unfold ent; rw [getD_lt (by rw [upd_len]; exact h1)]
      have a2 : ent d j = d.es[j] := by unfold ent; rw [getD_lt h1]
      rw [← a1, List.getElem_map, ← a2, upd_ent hl]
      by_cases g : i = j
      · subst g; rw [if_pos rfl, if_pos ⟨hi, rfl⟩]
      · rw [if_neg g, if_neg (fun hh => g (h.uq hi hh.1 hh.2.symm))]
  rw [e1, List.filter_map, List.map_map, List.map_map]
  have e2 : ((fun e : Ety => e.live) ∘ fun e : Ety => if e.live = true ∧ e.key = (ent d i).key then (⟨e.key, e.hash, v, e.live⟩ : Ety) else e) = fun e : Ety => e.live := by
    funext e; simp only [Function.comp]; split <;> rfl
  rw [e2]
  apply List.map_congr_left
  intro e he
  have := (List.mem_filter.1 he).2
  simp only [Function.comp]
  by_cases g : e.key = (ent d i).key
  · rw [if_pos ⟨this, g⟩, if_pos g]
  · rw [if_neg (fun hh => g hh.2), if_neg g]
theorem L_drp {d : Dic} (h : Valid d) {key : ByteArray} (ha : 0 ≤ at' d key) : L (drp d key) = (L d).filter fun p => decide (p.1 ≠ key) := by
  obtain ⟨i, hi⟩ : ∃ i : Nat, at' d key = i := ⟨(at' d key).toNat, by omega⟩
  obtain ⟨l1, l2, l3⟩ := drp_live h hi
  unfold L lv
  have e1 : (drp d key).es = d.es.map fun e => if e.live = true ∧ e.key = key then ze else e := by
    apply List.ext_getElem
    · rw [(drp_len h hi).1, List.length_map]
    · intro j h1 h2
      rw [(drp_len h hi).1] at h1
      have a1 : ent (drp d key) j = (drp d key).es[j]'(by rw [(drp_len h hi).1]; exact h1) := by unfold ent; rw [getD_lt (by rw [(drp_len h hi).1]; exact h1)]
      have a2 : ent d j = d.es[j] := by unfold ent; rw [getD_lt h1]
      rw [← a1, List.getElem_map, ← a2, drp_ent h hi]
      by_cases g : i = j
      · subst g; rw [if_pos rfl, if_pos ⟨l1, l2⟩]
      · rw [if_neg g, if_neg (fun hh => g (h.uq l1 hh.1 (by rw [l2, hh.2])))]
  rw [e1]
  have gen : ∀ l : List Ety, List.map (fun e : Ety => (e.key, e.val)) (List.filter (fun e : Ety => e.live) (l.map fun e => if e.live = true ∧ e.key = key then ze else e)) = List.filter (fun p : ByteArray × Int => decide (p.1 ≠ key)) (List.map (fun e : Ety => (e.key, e.val)) (List.filter (fun e : Ety => e.live) l)) := by
    intro l
    induction l with
    | nil => rfl
    | cons e l ih =>
      rw [List.map_cons]
      by_cases g : e.live = true
      · by_cases g2 : e.key = key
        · rw [if_pos ⟨g, g2⟩, List.filter_cons_of_neg (by simp [ze]), List.filter_cons_of_pos g, List.map_cons, List.filter_cons_of_neg (by simpa using g2), ih]
        · rw [if_neg (fun hh => g2 hh.2), List.filter_cons_of_pos g, List.filter_cons_of_pos g, List.map_cons, List.map_cons, List.filter_cons_of_pos (by simpa using g2), ih]
      · rw [if_neg (fun hh => g hh.1), List.filter_cons_of_neg g, List.filter_cons_of_neg g, ih]
  exact gen d.es
open Classical in
theorem L_setk {d : Dic} (h : Valid d) {key : ByteArray} {v : Int} (hl : 0 ≤ at' d key ∨ lives d.es < 40) : L (setk d key v) = if key ∈ keys d then (L d).map (fun p => if p.1 = key then (p.1, v) else p) else L d ++ [(key, v)] := by
  unfold setk
  by_cases g : 0 ≤ at' d key
  · obtain ⟨a, b⟩ := at_pos h.toBase g
    rw [if_pos g, if_pos ((mem_keys h).2 g), L_upd h a, b]
  · rw [if_neg g, if_neg (fun hh => g ((mem_keys h).1 hh)), L_add rfl]
    unfold L; rw [(rm_ok h (by omega)).2.2]; rfl
end Go.Proofs.Ytfpgihjociacnaa.Am
