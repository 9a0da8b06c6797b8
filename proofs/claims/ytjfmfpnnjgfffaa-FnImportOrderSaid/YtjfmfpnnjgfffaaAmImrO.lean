/- Modules are imported once: the law. -/
import Derived.Test.YtjfmfpnnjgfffaaAmImrM
namespace Go.Proofs.Ytjfmfpnnjgfffaa.Am
open Go
set_option autoImplicit false
set_option linter.unusedVariables false
set_option linter.unusedSimpArgs false
set_option maxRecDepth 10000

theorem has_it {R : Type} {n : Nat} {l : List Int} {v : Int} {k0 : Bool → Option R} {k1 : Option R} (hl : l.length ≤ 3900000) : ∀ (fuel i : Nat), i ≤ l.length → l.length + 1 ≤ fuel + i → F45_0_it n k0 k1 fuel l v i = bif B (v ∈ l.drop i) then k0 true else k1
  | fuel, i, hi, hf => by
    obtain ⟨g, rfl⟩ : ∃ g, fuel = g + 1 := ⟨fuel - 1, by omega⟩
    simp only [F45_0_it, F45_0_step]
    by_cases h : i < l.length
    · rw [bp (by omega), bp (by omega), bp (by omega)]
      simp only [e0]
      by_cases e : l.getD i 0 = v
      · rw [eqp e, B_t (by rw [drop_get 0 h, e]; exact List.mem_cons_self)]; rfl
      · rw [eqn e, wp (by omega), e1, has_it hl g (i + 1) (by omega) (by omega)]
        have : v ∈ l.drop i ↔ v ∈ l.drop (i + 1) := by
          rw [drop_get 0 h, List.mem_cons]
          exact ⟨fun q => q.resolve_left (Ne.symm e), .inr⟩
        rw [B_congr this]
    · rw [bn (by omega), List.drop_of_length_le (by omega), B_f (by simp)]; rfl
theorem hasI {n : Nat} (hn : 4000000 ≤ n) {l : List Int} {v : Int} (hl : l.length ≤ 3900000) : F21 n l v = some (B (v ∈ l), ()) := by
  unfold F21 F45 F45_0
  have := has_it (R := Bool × Unit) (n := n) (v := v) (k0 := (fun z1810 => some (z1810, ()))) (k1 := some (false, ())) hl n 0 (by omega) (by omega)
  rw [List.drop_zero] at this
  have e : F45_0_it n (fun z1810 => some (z1810, ())) (some (false, ())) n l v (0 : Int) = some (B (v ∈ l), ()) := by
    refine Eq.trans this ?_
    cases B (v ∈ l) <;> rfl
  rw [e]; rfl
theorem nodup_take {l : List Int} (h : l.Nodup) {i : Nat} (hi : i < l.length) : l.getD i 0 ∉ l.take i := fun hm => by
  have e : l = l.take i ++ l.getD i 0 :: l.drop (i + 1) := by rw [← drop_get 0 hi, List.take_append_drop]
  rw [e, List.nodup_append] at h
  exact h.2.2 _ hm _ List.mem_cons_self rfl
theorem runW_it {R : Type} {n : Nat} (hn : 4000000 ≤ n) {a : List (List Stp)} {l fa : List Int} {s : Ab} {k0 : Bool → Option R} {k1 : List (List Stp) → List Int → List Int → List Int → List Int → List ByteArray → List Int → Option R} (jv : Jv a s) (w : Wf a.length s) (hb : s.bg.length ≤ 3900000) (hw : s.wh.length ≤ 3900000) : ∀ (fuel i : Nat), i ≤ s.wh.length → s.wh.length + 1 ≤ fuel + i →
    F5_0_it n k0 k1 fuel a l i s.bg s.wh fa s.rd s.st = k1 a l s.bg s.wh fa s.rd s.st
  | fuel, i, hi, hf => by
    obtain ⟨g, rfl⟩ : ∃ g, fuel = g + 1 := ⟨fuel - 1, by omega⟩
    simp only [F5_0_it, F5_0_step]
    by_cases h : i < s.wh.length
    · obtain ⟨⟨q0, q1⟩, q2, q3⟩ := jv.j1 _ (getD_in (d := 0) h)
      have hs := w.st
      have hnt := nodup_take jv.j2 h
      rw [bp (by omega), bp (by omega), bp (by omega)]
      simp only [e0]
      rw [bp (by omega), bp (by omega), nen q2, bp (by omega), bp (by omega), hasI hn hb, B_t q3]
      simp only [ats, Bool.not_true, cf]
      rw [bp (by omega), bp (by omega), bp (by omega), bp (by omega), List.drop_zero, hasI hn (by rw [List.length_take]; omega), B_f hnt]
      simp only [ats, cf]
      rw [wp (by omega), e1]
      exact runW_it hn jv w hb hw g (i + 1) (by omega) (by omega)
    · rw [bn (by omega)]
theorem runL_it {R : Type} {n : Nat} (hn : 4000000 ≤ n) {a : List (List Stp)} {l bg wh fa : List Int} {rd : List ByteArray} {st : List Int} {k0 : Bool → Option R} {k1 : List (List Stp) → List Int → List Int → List Int → List ByteArray → List Int → Option R} (hl : l.length ≤ 1000) (hfa : fa.length ≤ 3900000) (hr : ∀ k ∈ l, Rng st.length k)
    (h1 : ∀ j, st.getD j 0 ≠ 1) (h2 : ∀ k ∈ l, st.getD k.toNat 0 = 2 ∨ k ∈ fa) : ∀ (fuel i : Nat), i ≤ l.length → l.length + 1 ≤ fuel + i → F5_1_it n k0 k1 fuel a l i bg wh fa rd st = k1 a bg wh fa rd st
  | fuel, i, hi, hf => by
    obtain ⟨g, rfl⟩ : ∃ g, fuel = g + 1 := ⟨fuel - 1, by omega⟩
    simp only [F5_1_it, F5_1_step]
    by_cases h : i < l.length
    · have hm := getD_in (d := 0) h
      obtain ⟨q0, q1⟩ := hr _ hm
      rw [bp (by omega), bp (by omega), bp (by omega)]
      simp only [e0]
      rw [bp (by omega), bp (by omega), eqn (h1 _), bp (by omega), bp (by omega), bp (by omega), bp (by omega)]
      by_cases e : st.getD (l.getD i 0).toNat 0 = 2
      · rw [nen e, wp (by omega), e1]
        exact runL_it hn hl hfa hr h1 h2 g (i + 1) (by omega) (by omega)
      · rw [nep e, bp (by omega), bp (by omega), hasI hn hfa, B_t ((h2 _ hm).resolve_left e)]
        simp only [ats, Bool.not_true, cf]
        rw [wp (by omega), e1]
        exact runL_it hn hl hfa hr h1 h2 g (i + 1) (by omega) (by omega)
    · rw [bn (by omega)]
/-- a list of imports, at its end -/
theorem end_of {a : List (List Stp)} {l : List Int} (hv : VM a) (hr : Vr a.length l) : Wf a.length (imp a l (s0 a.length, [])).1 ∧ Jv a (imp a l (s0 a.length, [])).1 ∧ (∀ j, (imp a l (s0 a.length, [])).1.st.getD j 0 ≠ 1) ∧ ∀ k ∈ l, (imp a l (s0 a.length, [])).1.st.getD k.toNat 0 = 2 ∨ k ∈ (imp a l (s0 a.length, [])).2 := by
  obtain ⟨w1, -, -⟩ := imp_ok hv (s := (s0 a.length, [])) hr.all (s0_wf _)
  obtain ⟨f, ef, hf⟩ := imp_ne hv (s := (s0 a.length, [])) hr.all (s0_wf _)
  obtain ⟨jv, h1⟩ := imp_jv hv (s := (s0 a.length, [])) hr.all (s0_wf _) s0_jv (fun j => by
    show (List.replicate a.length (0 : Int)).getD j 0 ≠ 1
    rw [rep_get]; decide)
  refine ⟨w1, jv, h1, fun k hk => ?_⟩
  rcases hf k hk with h | h
  · rcases jv.j5 k.toNat with q | q | q
    · exact absurd q h
    · exact absurd q (h1 _)
    · exact .inl q
  · exact .inr (by rw [ef]; exact List.mem_append_right _ h)
theorem law_run {n : Nat} (hn : 4000000 ≤ n) {z : List Int} (hz : okb z) : F5 n z = some (true, ()) := by
  unfold F5
  by_cases h : (z.length : Int) > 1048576
  · rw [bp h]
  rw [bn h]
  obtain ⟨a, l, e, al, dm, ll⟩ := draw_ok hn hz
  have sz := dm.sz al
  rw [e]; simp only [ats]
  rw [runI hn sz (by omega)]; simp only [ats]
  rw [runS hn sz (by omega)]; simp only [ats]
  rw [same_res hn (res_len (by omega))]
  simp only [ats, Bool.not_true, cf]
  by_cases g : VM a ∧ Vr a.length l
  case neg => rw [res_no g]; rfl
  obtain ⟨hv, hr⟩ := g
  have rl := res_len (a := a) (l := l) (by omega)
  rw [res_ok hv hr] at rl ⊢
  have hm1 := hv.2.1
  obtain ⟨w, jv, h1, h2⟩ := end_of hv hr
  generalize imp a l (s0 a.length, []) = r at rl w jv h1 h2 ⊢
  simp only [pkR] at rl ⊢
  have l1 := w.st
  rw [eqn (by omega)]
  unfold F5_0
  have e1 := runW_it (R := Bool × Unit) hn (l := l) (fa := r.2) (k0 := (fun z1819 => some (z1819, ()))) (k1 := (fun z1820 z1821 z1822 z1823 z1824 z1825 z1826 =>
    (F5_1 n z1820 z1821 (0 : Int) z1822 z1823 z1824 z1825 z1826 (fun z1853 =>
    some (z1853, ())) (fun z1854 z1855 z1856 z1857 z1858 z1859 =>
    some ((((z1859.length) : Int) == ((z1854.length) : Int)), ()))))) jv w rl.1 rl.2.1 n 0 (by omega) (by omega)
  refine Eq.trans e1 ?_
  unfold F5_1
  have e2 := runL_it (R := Bool × Unit) hn (a := a) (bg := r.1.bg) (wh := r.1.wh) (rd := r.1.rd) (k0 := (fun z1853 => some (z1853, ()))) (k1 := (fun z1854 z1855 z1856 z1857 z1858 z1859 =>
    some ((((z1859.length) : Int) == ((z1854.length) : Int)), ()))) (by omega) rl.2.2.1 (by rw [l1]; exact hr.all) h1 h2 n 0 (by omega) (by omega)
  refine Eq.trans e2 ?_
  rw [l1]
  simp
end Go.Proofs.Ytjfmfpnnjgfffaa.Am
