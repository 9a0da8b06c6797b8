/- Dictionaries: what is listed after each operation. -/
import Derived.Test.YtdnbepnajhggpaaAmDrawD
namespace Go.Proofs.Ytdnbepnajhggpaa.Am
open Go
set_option autoImplicit false
set_option linter.unusedVariables false
set_option linter.unusedSimpArgs false

theorem back {α : Type} [DecidableEq α] : ∀ {a b : List α}, a.Nodup → (∀ x ∈ a, x ∈ b) → b.length ≤ a.length → ∀ x ∈ b, x ∈ a
  | [], b, _, _, hl, x, hx => by
    have : b = [] := List.length_eq_zero_iff.1 (by simpa using hl)
    rw [this] at hx; exact hx
  | y :: a, b, hn, hs, hl, x, hx => by
    rw [List.nodup_cons] at hn
    have hy := hs y (by simp)
    have h1 : (b.erase y).length = b.length - 1 := List.length_erase_of_mem hy
    have h0 : 0 < b.length := List.length_pos_of_mem hy
    rw [List.length_cons] at hl
    by_cases e : x = y
    · subst e; simp
    · refine List.mem_cons_of_mem _ (back (b := b.erase y) hn.2 (fun z hz => ?_) (by omega) x ((List.mem_erase_of_ne e).2 hx))
      have hzy : z ≠ y := fun e => hn.1 (e ▸ hz)
      exact (List.mem_erase_of_ne hzy).2 (hs z (List.mem_cons_of_mem _ hz))

theorem mem_keys_L {d : Dic} {key : ByteArray} : key ∈ keys d ↔ ∃ v, (key, v) ∈ L d := by
  unfold keys
  constructor
  · intro h
    obtain ⟨p, hp, e⟩ := List.mem_map.1 h
    exact ⟨p.2, by rw [← e]; exact hp⟩
  · rintro ⟨v, h⟩
    exact List.mem_map.2 ⟨_, h, rfl⟩
theorem L_uq {d : Dic} (h : Valid d) {key : ByteArray} {v w : Int} (h1 : (key, v) ∈ L d) (h2 : (key, w) ∈ L d) : v = w := by
  have a := (mem_L h).1 h1
  have b := (mem_L h).1 h2
  rw [← a.2, ← b.2]
theorem key_sz {d : Dic} (h : Valid d) {key : ByteArray} (hk : key ∈ keys d) : key.size ≤ 20 := by
  have g := (mem_keys h).1 hk
  obtain ⟨a, b⟩ := at_pos h.toBase g
  have := ((h.en _ (ent_lt a)).2 a).1
  rw [b] at this; exact this
theorem L_val {d : Dic} (h : Valid d) {key : ByteArray} {v : Int} (hp : (key, v) ∈ L d) : -1000000 ≤ v ∧ v ≤ 1000000 := by
  obtain ⟨g, e⟩ := (mem_L h).1 hp
  obtain ⟨a, b⟩ := at_pos h.toBase g
  have := ((h.en _ (ent_lt a)).2 a).2.2
  rw [e] at this; exact this
theorem get_yes {d : Dic} (h : Valid d) {key : ByteArray} {v : Int} (hp : (key, v) ∈ L d) : getR d key = (v, true) := by
  obtain ⟨g, e⟩ := (mem_L h).1 hp
  unfold getR
  rw [if_pos ⟨h, key_sz h (mem_keys_L.2 ⟨v, hp⟩), g⟩, e]
theorem get_no {d : Dic} {key : ByteArray} (hp : key ∉ keys d) : getR d key = (0, false) := by
  unfold getR
  rw [if_neg (fun hh => hp ((mem_keys hh.1).2 hh.2.2))]
theorem get_bad {d : Dic} (h : ¬ Valid d) (key : ByteArray) : getR d key = (0, false) := by
  unfold getR
  rw [if_neg (fun hh => h hh.1)]
theorem get_mem {d : Dic} {key : ByteArray} (h : (getR d key).2 = true) : Valid d ∧ key.size ≤ 20 ∧ (key, (getR d key).1) ∈ L d := by
  unfold getR at h ⊢
  by_cases g : Valid d ∧ key.size ≤ 20 ∧ 0 ≤ at' d key
  · rw [if_pos g] at h ⊢
    exact ⟨g.1, g.2.1, (mem_L g.1).2 ⟨g.2.2, rfl⟩⟩
  · rw [if_neg g] at h; cases h
theorem keysR_ok {d : Dic} (h : Valid d) : keysR d = keys d := by unfold keysR; rw [if_pos h]
theorem keysR_bad {d : Dic} (h : ¬ Valid d) : keysR d = [] := by unfold keysR; rw [if_neg h]
theorem keys_len (d : Dic) : (keys d).length = lives d.es := by unfold keys; rw [List.length_map, L_len]
theorem keysR_len (d : Dic) : (keysR d).length ≤ 40 := by
  by_cases h : Valid d
  · rw [keysR_ok h, keys_len]; exact h.lv
  · rw [keysR_bad h]; simp
theorem nil_bad : ¬ Valid ⟨[], []⟩ := fun h => by
  have := h.toBase.pos
  simp at this

theorem sameD_iff {a b : Dic} : SameD a b ↔ Valid a ∧ Valid b ∧ lives a.es = lives b.es ∧ ∀ p ∈ L a, p ∈ L b := by
  unfold SameD
  constructor
  · rintro ⟨ha, hb, hl, h⟩
    refine ⟨ha, hb, hl, fun p hp => ?_⟩
    unfold L at hp
    obtain ⟨e, he, rfl⟩ := List.mem_map.1 hp
    obtain ⟨i, hi, rfl, h2⟩ := mem_lv he
    exact h i h2
  · rintro ⟨ha, hb, hl, h⟩
    refine ⟨ha, hb, hl, fun j hj => h _ ?_⟩
    unfold L lv
    refine List.mem_map.2 ⟨ent a j, List.mem_filter.2 ⟨?_, hj⟩, rfl⟩
    unfold ent; rw [getD_lt (ent_lt hj)]; exact List.getElem_mem _
theorem L_nodup {d : Dic} (h : Valid d) : (L d).Nodup := by
  have := keys_nodup h
  unfold keys at this
  unfold List.Nodup at this ⊢
  rw [List.pairwise_map] at this
  exact this.imp (fun hne e => hne (congrArg Prod.fst e))
theorem sameD_L {a b : Dic} (ha : Valid a) (hb : Valid b) (h : L a = L b) : SameD a b :=
  sameD_iff.2 ⟨ha, hb, by rw [← L_len, ← L_len, h], fun p hp => h ▸ hp⟩
open Classical in
theorem sameD_symm {a b : Dic} (h : SameD a b) : SameD b a := by
  obtain ⟨ha, hb, hl, hs⟩ := sameD_iff.1 h
  exact sameD_iff.2 ⟨hb, ha, hl.symm, back (L_nodup ha) hs (by rw [L_len, L_len]; omega)⟩

-- setting ------------------------------------------------------------------------------------------------------------------------------
theorem set_ok {d : Dic} {key : ByteArray} {v : Int} (h : (setR d key v).2 = true) : Valid d ∧ key.size ≤ 20 ∧ (-1000000 ≤ v ∧ v ≤ 1000000) ∧ (0 ≤ at' d key ∨ lives d.es < 40) ∧ (setR d key v).1 = setk d key v := by
  unfold setR at h ⊢
  by_cases g : Valid d ∧ key.size ≤ 20 ∧ -1000000 ≤ v ∧ v ≤ 1000000
  · rw [if_pos g] at h ⊢
    by_cases g2 : 0 ≤ at' d key ∨ lives d.es < 40
    · rw [if_pos g2]; exact ⟨g.1, g.2.1, g.2.2, g2, rfl⟩
    · rw [if_neg g2] at h; cases h
  · rw [if_neg g] at h; cases h
theorem set_yes {d : Dic} {key : ByteArray} {v : Int} (h : Valid d) (hk : key.size ≤ 20) (hv : -1000000 ≤ v ∧ v ≤ 1000000) (hl : key ∈ keys d ∨ lives d.es < 40) : setR d key v = (setk d key v, true) := by
  unfold setR
  rw [if_pos ⟨h, hk, hv⟩, if_pos (hl.imp (mem_keys h).1 id)]
theorem set_full {d : Dic} {key : ByteArray} {v : Int} (h : Valid d) (hl : ¬ (key ∈ keys d ∨ lives d.es < 40)) : (setR d key v).2 = false := by
  unfold setR
  by_cases g : Valid d ∧ key.size ≤ 20 ∧ -1000000 ≤ v ∧ v ≤ 1000000
  · rw [if_pos g, if_neg (fun hh => hl (hh.imp (mem_keys h).2 id))]
  · rw [if_neg g]
theorem set_len {d : Dic} {key : ByteArray} {v : Int} : (setR d key v).1.ix.length ≤ 128 ∧ (setR d key v).1.es.length ≤ 85 := by
  by_cases g : Valid d ∧ key.size ≤ 20 ∧ -1000000 ≤ v ∧ v ≤ 1000000
  · exact (setR_valid g.1 g.2.1 g.2.2).len
  · unfold setR; rw [if_neg g]; simp
section
variable {d : Dic} (h : Valid d) {key : ByteArray} {v : Int} (hl : 0 ≤ at' d key ∨ lives d.es < 40)
include h hl
theorem mem_setk {p : ByteArray × Int} : p ∈ L (setk d key v) ↔ p = (key, v) ∨ (p ∈ L d ∧ p.1 ≠ key) := by
  rw [L_setk h hl]
  by_cases g : key ∈ keys d
  · rw [if_pos g]
    obtain ⟨w, hw⟩ := mem_keys_L.1 g
    constructor
    · intro hp
      obtain ⟨q, hq, e⟩ := List.mem_map.1 hp
      by_cases e2 : q.1 = key
      · rw [if_pos e2] at e; left; rw [← e, e2]
      · rw [if_neg e2] at e; right; rw [← e]; exact ⟨hq, e2⟩
    · rintro (rfl | ⟨h1, h2⟩)
      · exact List.mem_map.2 ⟨(key, w), hw, by rw [if_pos rfl]⟩
      · exact List.mem_map.2 ⟨p, h1, by rw [if_neg h2]⟩
  · rw [if_neg g, List.mem_append, List.mem_singleton]
    constructor
    · rintro (h1 | h1)
      · exact .inr ⟨h1, fun e => g (mem_keys_L.2 ⟨p.2, by rw [← e]; exact h1⟩)⟩
      · exact .inl h1
    · rintro (h1 | h1)
      · exact .inr h1
      · exact .inl h1.1
theorem keys_setk_old (g : key ∈ keys d) : keys (setk d key v) = keys d := by
  unfold keys
  rw [L_setk h hl, if_pos g, List.map_map]
  apply List.map_congr_left
  intro p _
  simp only [Function.comp]
  by_cases e : p.1 = key
  · rw [if_pos e]
  · rw [if_neg e]
theorem keys_setk_new (g : key ∉ keys d) : keys (setk d key v) = keys d ++ [key] := by
  conv => lhs; unfold keys
  rw [L_setk h hl, if_neg g, List.map_append]; rfl
theorem lives_setk_old (g : key ∈ keys d) : lives (setk d key v).es = lives d.es := by
  rw [← keys_len, keys_setk_old h hl g, keys_len]
theorem lives_setk_new (g : key ∉ keys d) : lives (setk d key v).es = lives d.es + 1 := by
  rw [← keys_len, keys_setk_new h hl g, List.length_append, keys_len]; rfl
end
-- dropping -----------------------------------------------------------------------------------------------------------------------------
theorem drop_ok {d : Dic} {key : ByteArray} (h : (drpR d key).2 = true) : Valid d ∧ key.size ≤ 20 ∧ 0 ≤ at' d key ∧ (drpR d key).1 = drp d key := by
  unfold drpR at h ⊢
  by_cases g : Valid d ∧ key.size ≤ 20
  · rw [if_pos g] at h ⊢
    by_cases g2 : 0 ≤ at' d key
    · rw [if_pos g2]; exact ⟨g.1, g.2, g2, rfl⟩
    · rw [if_neg g2] at h; cases h
  · rw [if_neg g] at h; cases h
theorem drop_yes {d : Dic} {key : ByteArray} (h : Valid d) (hk : key ∈ keys d) : drpR d key = (drp d key, true) := by
  unfold drpR
  rw [if_pos ⟨h, key_sz h hk⟩, if_pos ((mem_keys h).1 hk)]
theorem drop_len {d : Dic} {key : ByteArray} : (drpR d key).1.ix.length ≤ 128 ∧ (drpR d key).1.es.length ≤ 85 := by
  by_cases g : Valid d ∧ key.size ≤ 20
  · exact (drpR_valid g.1 g.2).len
  · unfold drpR; rw [if_neg g]; simp
theorem drop_valid {d : Dic} (h : Valid d) {key : ByteArray} (hk : 0 ≤ at' d key) : Valid (drp d key) := drp_valid h (i := (at' d key).toNat) (by omega)
theorem drop_gone {d : Dic} (h : Valid d) {key : ByteArray} (hk : 0 ≤ at' d key) : key ∉ keys (drp d key) := by
  rw [mem_keys_L]
  rintro ⟨v, hv⟩
  rw [L_drp h hk] at hv
  have := (List.mem_filter.1 hv).2
  simp at this
theorem lives_drp {d : Dic} (h : Valid d) {key : ByteArray} (hk : 0 ≤ at' d key) : lives (drp d key).es + 1 = lives d.es := by
  obtain ⟨l1, l2, l3⟩ := drp_live h (i := (at' d key).toNat) (key := key) (by omega)
  have := lives_set (e := ze) l3
  have e : d.es.getD (at' d key).toNat ze = ent d (at' d key).toNat := rfl
  rw [e, l1] at this
  show lives (d.es.set (at' d key).toNat ze) + 1 = _
  simpa [ze] using this
-- packing ------------------------------------------------------------------------------------------------------------------------------
theorem pack_ok {d : Dic} (h : Valid d) : packR d = pk (szf (lives d.es)) d.es ∧ Valid (packR d) ∧ L (packR d) = L d ∧ (packR d).es = lv d.es := by
  have hl := h.lv
  obtain ⟨s1, s2⟩ := szf_ok (n := lives d.es) (by omega)
  have e : packR d = pk (szf (lives d.es)) d.es := by unfold packR; rw [if_pos h]
  obtain ⟨a, b, c⟩ := pk_valid h s1 (by omega)
  exact ⟨e, by rw [e]; exact a, by rw [e, L_pk h s1 (by omega)], by rw [e, b]⟩
theorem pack_bad {d : Dic} (h : ¬ Valid d) : packR d = ⟨[], []⟩ := by unfold packR; rw [if_neg h]
theorem pack_len (d : Dic) : (packR d).ix.length ≤ 128 ∧ (packR d).es.length ≤ 85 := by
  by_cases h : Valid d
  · exact (pack_ok h).2.1.len
  · rw [pack_bad h]; simp
theorem pack_pack {d : Dic} (h : Valid d) : packR (packR d) = packR d := by
  obtain ⟨e1, e2, e3, e4⟩ := pack_ok h
  obtain ⟨f1, f2, f3, f4⟩ := pack_ok e2
  rw [f1, e4]
  have : lives (lv d.es) = lives d.es := by rw [← lv_len, lv_lv, lv_len]
  rw [this, e1]
  unfold pk; rw [lv_lv]
end Go.Proofs.Ytdnbepnajhggpaa.Am
