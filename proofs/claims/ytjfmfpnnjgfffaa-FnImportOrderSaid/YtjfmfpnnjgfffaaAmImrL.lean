/- Importing twice: the law. -/
import Derived.Test.YtjfmfpnnjgfffaaAmImrK
namespace Go.Proofs.Ytjfmfpnnjgfffaa.Am
open Go
set_option autoImplicit false
set_option linter.unusedVariables false
set_option linter.unusedSimpArgs false
set_option maxRecDepth 10000

theorem ld_id {a : List (List Stp)} {k : Int} {s : Ab} (h : s.st.getD k.toNat 0 ≠ 0) : ld a 7 k s = (true, s) := by
  show (if s.st.getD k.toNat 0 ≠ 0 then _ else _) = _
  rw [if_pos h]
theorem imp_id {a : List (List Stp)} : ∀ {l : List Int} {s : Ab × List Int}, (∀ k ∈ l, s.1.st.getD k.toNat 0 ≠ 0) → imp a l s = s
  | [], s, _ => rfl
  | k :: l, s, h => by
    simp only [imp]
    rw [ld_id (h k List.mem_cons_self)]
    exact imp_id (s := s) fun j hj => h j (List.mem_cons_of_mem _ hj)
theorem imp_ne {a : List (List Stp)} (hv : VM a) : ∀ {l : List Int} {s : Ab × List Int}, (∀ k ∈ l, Rng a.length k) → Wf a.length s.1 → ∃ f, (imp a l s).2 = s.2 ++ f ∧ (∀ k ∈ l, (imp a l s).1.st.getD k.toNat 0 ≠ 0 ∨ k ∈ f)
  | [], s, _, _ => ⟨[], by simp [imp], fun k hk => by cases hk⟩
  | k :: l, s, hr, w => by
    have h := ld7 hv k s.1 w (uz6 hv w) (hr k List.mem_cons_self)
    simp only [imp]
    have hr' : ∀ j ∈ l, Rng a.length j := fun j hj => hr j (List.mem_cons_of_mem _ hj)
    obtain ⟨f, e, hf⟩ := imp_ne hv (l := l) (s := ((ld a 7 k s.1).2, if (ld a 7 k s.1).1 = true then s.2 else s.2 ++ [k])) hr' h.wf
    obtain ⟨-, g, -⟩ := imp_ok hv (l := l) (s := ((ld a 7 k s.1).2, if (ld a 7 k s.1).1 = true then s.2 else s.2 ++ [k])) hr' h.wf
    rw [e]
    by_cases hb : (ld a 7 k s.1).1 = true
    · refine ⟨f, by simp only [if_pos hb], fun j hj => ?_⟩
      rcases List.mem_cons.1 hj with rfl | hj
      · exact .inl (by rw [g.keep _ (h.ok hb)]; exact h.ok hb)
      · exact hf j hj
    · refine ⟨k :: f, by simp only [if_neg hb, List.append_assoc]; rfl, fun j hj => ?_⟩
      rcases List.mem_cons.1 hj with rfl | hj
      · exact .inr List.mem_cons_self
      · exact (hf j hj).imp_right fun h => List.mem_cons_of_mem _ h
theorem res_ok {a : List (List Stp)} {l : List Int} (h : VM a) (h2 : Vr a.length l) : res a l = pkR (imp a l (s0 a.length, [])) := by
  unfold res; rw [B_t h, B_t h2]; rfl
theorem res_no {a : List (List Stp)} {l : List Int} (h : ¬ (VM a ∧ Vr a.length l)) : res a l = ([], ([], ([], ([], ([], ()))))) := by
  unfold res
  by_cases g : VM a
  · rw [B_t g, B_f fun q => h ⟨g, q⟩]; rfl
  · rw [B_f g]; rfl
theorem vr_app {m : Nat} {l : List Int} : Vr m (l ++ l) ↔ Vr m l := by
  constructor
  · intro h j hj
    have := h j (by rw [List.length_append]; omega)
    rwa [show (l ++ l).getD j 0 = l.getD j 0 by simp [List.getD, List.getElem?_append_left hj]] at this
  · intro h j hj
    by_cases e : j < l.length
    · rw [show (l ++ l).getD j 0 = l.getD j 0 by simp [List.getD, List.getElem?_append_left e]]; exact h j e
    · rw [show (l ++ l).getD j 0 = l.getD (j - l.length) 0 by simp [List.getD, List.getElem?_append_right (Nat.le_of_not_lt e)]]
      exact h _ (by rw [List.length_append] at hj; omega)
theorem ints_eq {n : Nat} (hn : 4000000 ≤ n) {l : List Int} (hl : l.length ≤ 3900000) : F20 n l l = some (true, ()) := by
  unfold F20; rw [nums_eq hn hl]; rfl

theorem law_twice {n : Nat} (hn : 4000000 ≤ n) {z : List Int} (hz : okb z) : F4 n z = some (true, ()) := by
  unfold F4
  by_cases h : (z.length : Int) > 1048576
  · rw [bp h]
  rw [bn h]
  obtain ⟨a, l, e, al, dm, ll⟩ := draw_ok hn hz
  have sz := dm.sz al
  rw [e]; simp only [ats]
  rw [runI hn sz (by omega)]; simp only [ats]
  rw [runS hn sz (by omega)]; simp only [ats]
  rw [same_res hn (res_len (by omega))]
  simp only [ats, Bool.not_true, cf, List.nil_append]
  rw [bp (by simp only [List.length_nil]; omega), bp (by omega), runI hn sz (by rw [List.length_append]; omega)]
  simp only [ats]
  by_cases g : VM a ∧ Vr a.length l
  case neg =>
    rw [res_no g, res_no fun q => g ⟨q.1, vr_app.1 q.2⟩]
    rfl
  obtain ⟨hv, hr⟩ := g
  have rl := res_len (a := a) (l := l) (by omega)
  rw [res_ok hv hr] at rl ⊢
  rw [res_ok hv (vr_app.2 hr), imp_app]
  have hm1 := hv.2.1
  obtain ⟨w1, g1, f1, e1, hf1⟩ := imp_ok hv (s := (s0 a.length, [])) hr.all (s0_wf _)
  obtain ⟨f, ef, hf⟩ := imp_ne hv (s := (s0 a.length, [])) hr.all (s0_wf _)
  generalize imp a l (s0 a.length, []) = r at rl w1 g1 e1 ef hf ⊢
  obtain ⟨w2, g2, f2, e2, hf2⟩ := imp_ok hv (s := r) hr.all w1
  have hid : r.2 = [] → imp a l r = r := fun h0 => imp_id fun k hk => by
    rw [h0] at ef
    have : f = [] := by simpa using ef.symm
    rcases hf k hk with h | h
    · exact h
    · rw [this] at h; cases h
  generalize hq : imp a l r = q at w2 g2 hid ⊢
  simp only [pkR] at rl ⊢
  have l1 := w1.st
  have l2 := w2.st
  rw [eqn (by omega)]
  obtain ⟨lw, ew, -⟩ := g2.wh
  obtain ⟨lb, eb, -⟩ := g2.bg
  have hw1 : (q.1.wh.length : Int) ≥ (r.1.wh.length : Int) := by rw [ew, List.length_append]; omega
  have hb1 : (q.1.bg.length : Int) ≥ (r.1.bg.length : Int) := by rw [eb, List.length_append]; omega
  rw [bp hw1]
  try simp only []
  rw [bp (by omega), bp (by omega), e0, ew, List.take_left, List.drop_zero, ints_eq hn rl.2.1]
  simp only [ats, ct]
  rw [bp hb1]
  try simp only []
  rw [bp (by omega), bp (by omega), e0, eb, List.take_left, List.drop_zero, ints_eq hn rl.1]
  simp only [ats, ct]
  by_cases h0 : (r.2.length : Int) > 0
  · rw [bp h0]
  · rw [bn h0, ← eb, hid (List.length_eq_zero_iff.1 (by omega))]
    simp
end Go.Proofs.Ytjfmfpnnjgfffaa.Am
