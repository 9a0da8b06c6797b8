/- Importers, plainly: lists of imports, on both sides. -/
import Derived.Test.YtjfmfpnnjgfffaaAmImrJ
namespace Go.Proofs.Ytjfmfpnnjgfffaa.Am
open Go
set_option autoImplicit false
set_option linter.unusedVariables false
set_option linter.unusedSimpArgs false
set_option maxRecDepth 10000

-- indices -----------------------------------------------------------------------------------------------------------------------------------------
theorem vr_step {m i : Nat} {l : List Int} (h : i < l.length) : (∀ j, i ≤ j → j < l.length → Rng m (l.getD j 0)) ↔ Rng m (l.getD i 0) ∧ ∀ j, i + 1 ≤ j → j < l.length → Rng m (l.getD j 0) := all_step h
theorem idI_it {R : Type} {n m : Nat} {l : List Int} {k0 : Bool → Option R} {k1 : Option R} (hl : l.length ≤ 1000) (hm : m ≤ 1000) : ∀ (fuel i : Nat), i ≤ l.length → l.length + 1 ≤ fuel + i →
    F39_0_it n k0 k1 fuel (m : Int) l l.length i = bif B (∀ j, i ≤ j → j < l.length → Rng m (l.getD j 0)) then k1 else k0 false
  | fuel, i, hi, hf => by
    obtain ⟨f, rfl⟩ : ∃ f, fuel = f + 1 := ⟨fuel - 1, by omega⟩
    simp only [F39_0_it, F39_0_step]
    by_cases h : i < l.length
    · rw [bp (by omega), bp (by omega), bp (by omega)]
      simp only [e0]
      by_cases g1 : l.getD i 0 < 0
      · rw [bp g1, B_f (fun q => by have := (q i (Nat.le_refl _) h).1; omega)]; rfl
      rw [bn g1]
      by_cases g2 : l.getD i 0 ≥ (m : Int)
      · rw [bp g2, B_f (fun q => by have := (q i (Nat.le_refl _) h).2; omega)]; rfl
      rw [bn g2, wp (by omega), e1, idI_it hl hm f (i + 1) (by omega) (by omega)]
      have e : (∀ j, i ≤ j → j < l.length → Rng m (l.getD j 0)) ↔ (∀ j, i + 1 ≤ j → j < l.length → Rng m (l.getD j 0)) := by
        rw [vr_step h]; exact ⟨fun q => q.2, fun q => ⟨⟨by omega, by omega⟩, q⟩⟩
      rw [propext e]
    · rw [bn (by omega), B_t (fun j h1 h2 => by omega)]; rfl
theorem idI {n m : Nat} (hn : 4000000 ≤ n) {l : List Int} (hl : l.length ≤ 1000) (hm : m ≤ 1000) : F39 n l (m : Int) = some (B (Vr m l), ()) := by
  unfold F39 F39_0
  have := idI_it (R := Bool × Unit) (n := n) (k0 := (fun z271 => some (z271, ()))) (k1 := some (true, ())) hl hm n 0 (by omega) (by omega)
  refine Eq.trans this ?_
  by_cases h : Vr m l
  · rw [B_t (fun j _ hj => h j hj), B_t h]; rfl
  · rw [B_f (fun q => h fun j hj => q j (Nat.zero_le _) hj), B_f h]; rfl
theorem idS_it {R : Type} {n m : Nat} {l : List Int} {k0 : Bool → Option R} {k1 : List Int → Option R} (hl : l.length ≤ 1000) (hm : m ≤ 1000) : ∀ (fuel i : Nat), i ≤ l.length → l.length + 1 ≤ fuel + i →
    F43_0_it n k0 k1 fuel l (m : Int) i = bif B (∀ j, i ≤ j → j < l.length → Rng m (l.getD j 0)) then k1 l else k0 false
  | fuel, i, hi, hf => by
    obtain ⟨f, rfl⟩ : ∃ f, fuel = f + 1 := ⟨fuel - 1, by omega⟩
    simp only [F43_0_it, F43_0_step]
    by_cases h : i < l.length
    · rw [bp (by omega), bp (by omega), bp (by omega), rangeS]
      simp only [e0, ats]
      rw [wp (by omega)]
      by_cases g : Rng m (l.getD i 0)
      · have g' : 0 ≤ l.getD i 0 ∧ l.getD i 0 ≤ (m : Int) - 1 := ⟨g.1, by have := g.2; omega⟩
        rw [decide_eq_true g']
        simp only [Bool.not_true, cf]
        rw [wp (by omega), e1, idS_it hl hm f (i + 1) (by omega) (by omega)]
        have e : (∀ j, i ≤ j → j < l.length → Rng m (l.getD j 0)) ↔ (∀ j, i + 1 ≤ j → j < l.length → Rng m (l.getD j 0)) := by
          rw [vr_step h]; exact ⟨fun q => q.2, fun q => ⟨g, q⟩⟩
        rw [propext e]
      · have g' : ¬ (0 ≤ l.getD i 0 ∧ l.getD i 0 ≤ (m : Int) - 1) := fun q => g ⟨q.1, by omega⟩
        rw [decide_eq_false g', B_f (fun q => g (q i (Nat.le_refl _) h))]
        rfl
    · rw [bn (by omega), B_t (fun j h1 h2 => by omega)]; rfl
theorem idS {n m : Nat} (hn : 4000000 ≤ n) {l : List Int} (hl : l.length ≤ 60) (hm : m ≤ 1000) : F43 n l (m : Int) = some (B (Vr m l), ()) := by
  unfold F43 F43_0
  have := idS_it (R := Bool × Unit) (n := n) (k0 := (fun z1042 =>
    some (z1042, ()))) (k1 := (fun z1043 =>
    some ((decide (((z1043.length) : Int) ≤ (60 : Int))), ()))) (l := l) (by omega) hm n 0 (by omega) (by omega)
  refine Eq.trans this ?_
  by_cases h : Vr m l
  · rw [B_t (fun j _ hj => h j hj), B_t h, decide_eq_true (by omega)]; rfl
  · rw [B_f (fun q => h fun j hj => q j (Nat.zero_le _) hj), B_f h]; rfl

-- lists of imports ------------------------------------------------------------------------------------------------------------------------------
noncomputable def imp (a : List (List Stp)) : List Int → Ab × List Int → Ab × List Int
  | [], s => s
  | k :: l, s => imp a l ((ld a 7 k s.1).2, if (ld a 7 k s.1).1 = true then s.2 else s.2 ++ [k])
def s0 (m : Nat) : Ab := ⟨List.replicate m 0, [], [], [], List.replicate m []⟩
theorem rep_get {α : Type} {m j : Nat} {d : α} : (List.replicate m d).getD j d = d := by
  simp only [List.getD, List.getElem?_replicate]; split <;> rfl
theorem s0_wf (m : Nat) : Wf m (s0 m) := ⟨by simp [s0], by simp [s0], fun j _ => rep_get, fun j p hp => by
  have hp : p ∈ (List.replicate m ([] : List (ByteArray × Int))).getD j [] := hp
  rw [rep_get] at hp; cases hp⟩
theorem CC6 : CC 6 = 337041 := rfl
theorem ld7 {a : List (List Stp)} (hv : VM a) : LdH a.length 6 (CC 6) (ld a 7) := ld_ok hv 7 6 (by omega)
theorem uz6 {a : List (List Stp)} (hv : VM a) {s : Ab} (w : Wf a.length s) : uz s.st ≤ 6 := by
  have := uz_le s.st
  have := hv.2.2
  rw [w.st] at *; omega
theorem imp_ok {a : List (List Stp)} (hv : VM a) : ∀ {l : List Int} {s : Ab × List Int}, (∀ k ∈ l, Rng a.length k) → Wf a.length s.1 → Wf a.length (imp a l s).1 ∧ Gs (l.length * CC 6) s.1 (imp a l s).1 ∧ ∃ f, (imp a l s).2 = s.2 ++ f ∧ f.length ≤ l.length
  | [], s, _, w => ⟨w, Gs.refl _ _, [], by simp [imp], by simp⟩
  | k :: l, s, hr, w => by
    have h := ld7 hv k s.1 w (uz6 hv w) (hr k List.mem_cons_self)
    simp only [imp]
    obtain ⟨w2, g2, f, e, hf⟩ := imp_ok hv (l := l) (s := ((ld a 7 k s.1).2, if (ld a 7 k s.1).1 = true then s.2 else s.2 ++ [k])) (fun j hj => hr j (List.mem_cons_of_mem _ hj)) h.wf
    refine ⟨w2, (h.gs.trans g2).le (by rw [List.length_cons, Nat.succ_mul]; omega), ?_⟩
    rw [e]
    by_cases hb : (ld a 7 k s.1).1 = true
    · exact ⟨f, by simp only [if_pos hb], by simp only [List.length_cons]; omega⟩
    · exact ⟨k :: f, by simp only [if_neg hb, List.append_assoc]; rfl, by simp only [List.length_cons]; omega⟩
theorem imp_app {a : List (List Stp)} : ∀ {l l' : List Int} {s : Ab × List Int}, imp a (l ++ l') s = imp a l' (imp a l s)
  | [], l', s => rfl
  | k :: l, l', s => by simp only [List.cons_append, imp]; exact imp_app

theorem runI_it {R : Type} {n c : Nat} (hC : c = CC 6) (hn : 4000000 ≤ n) {a : List (List Stp)} (hv : VM a) {l : List Int} (hl : l.length ≤ 8) (hr : ∀ k ∈ l, Rng a.length k) {k0 : List (List Stp) → MapT → List Int → List Int → List Int → List ByteArray → List Int → Option R} : ∀ (fuel i : Nat) (s : Ab) (f : List Int) (mp : MapT), i ≤ l.length → l.length + 1 ≤ fuel + i → f.length ≤ i → Wf a.length s → Bd ((l.length - i) * c) s → RI mp s →
    ∃ mp', F17_1_it n k0 fuel l l.length i a mp s.bg s.wh f s.rd s.st = k0 a mp' (imp a (l.drop i) (s, f)).1.bg (imp a (l.drop i) (s, f)).1.wh (imp a (l.drop i) (s, f)).2 (imp a (l.drop i) (s, f)).1.rd (imp a (l.drop i) (s, f)).1.st
  | fuel, i, s, f, mp, hi, hf, hff, w, bd, ri => by
    obtain ⟨g, rfl⟩ : ∃ g, fuel = g + 1 := ⟨fuel - 1, by omega⟩
    simp only [F17_1_it, F17_1_step]
    by_cases h : i < l.length
    · have hki := hr _ (getD_in (d := 0) h)
      have hc : (l.length - i) * c = c + (l.length - (i + 1)) * c := by
        rw [show l.length - i = (l.length - (i + 1)) + 1 by omega, Nat.succ_mul]; omega
      rw [hc] at bd
      obtain ⟨mp1, e, ri1⟩ := (hC ▸ ldI (n := n) (by omega) hv 7 n 6 (by omega) (by omega) : LI a 6 c (Q40it n n) (ld a 7)) (l.getD i 0) s mp f w (uz6 hv w) hki (bd.le (by omega)) ri
      have ok := (hC ▸ ld7 hv : LdH a.length 6 c (ld a 7)) (l.getD i 0) s w (uz6 hv w) hki
      have hd : imp a (l.drop i) (s, f) = imp a (l.drop (i + 1)) ((ld a 7 (l.getD i 0) s).2, if (ld a 7 (l.getD i 0) s).1 = true then f else f ++ [l.getD i 0]) := by rw [drop_get 0 h]; rfl
      rw [bp (by omega)]
      unfold F17_0 F40
      rw [bp (by omega), bp (by omega)]
      simp only [e0]
      rw [e]
      simp only [ats, pkI]
      generalize ld a 7 (l.getD i 0) s = q at e ri1 ok hd ⊢
      by_cases hb : q.1 = true
      · rw [if_pos hb] at hd
        rw [hb, hd]
        simp only [Bool.not_true, cf]
        rw [wp (by omega), e1]
        exact runI_it hC hn hv hl hr g (i + 1) q.2 f mp1 (by omega) (by omega) (by omega) ok.wf (bd.go ok.gs) ri1
      · rw [if_neg hb] at hd
        have hb : q.1 = false := by simpa using hb
        rw [hb, hd]
        simp only [Bool.not_false, ct]
        rw [bp (by simp only [List.length_cons, List.length_nil]; omega), wp (by omega), e1]
        exact runI_it hC hn hv hl hr g (i + 1) q.2 (f ++ [l.getD i 0]) mp1 (by omega) (by omega) (by simp; omega) ok.wf (bd.go ok.gs) ri1
    · rw [bn (by omega), List.drop_of_length_le (by omega)]
      exact ⟨mp, rfl⟩
theorem runS_it {R : Type} {n c : Nat} (hC : c = CC 6) (hn : 4000000 ≤ n) {a : List (List Stp)} (hv : VM a) {l : List Int} (hl : l.length ≤ 8) (hr : ∀ k ∈ l, Rng a.length k) {k0 : List (List Stp) → List Int → List Int → List Int → List ByteArray → List Int → VarT → Option R} : ∀ (fuel i : Nat) (s : Ab) (f : List Int) (v : VarT), i ≤ l.length → l.length + 1 ≤ fuel + i → f.length ≤ i → Wf a.length s → Bd ((l.length - i) * c) s → RS v s →
    ∃ v', F44_1_it n k0 fuel l i a s.bg s.wh f s.rd s.st v = k0 a (imp a (l.drop i) (s, f)).1.bg (imp a (l.drop i) (s, f)).1.wh (imp a (l.drop i) (s, f)).2 (imp a (l.drop i) (s, f)).1.rd (imp a (l.drop i) (s, f)).1.st v'
  | fuel, i, s, f, v, hi, hf, hff, w, bd, ri => by
    obtain ⟨g, rfl⟩ : ∃ g, fuel = g + 1 := ⟨fuel - 1, by omega⟩
    simp only [F44_1_it, F44_1_step]
    by_cases h : i < l.length
    · have hki := hr _ (getD_in (d := 0) h)
      have hc : (l.length - i) * c = c + (l.length - (i + 1)) * c := by
        rw [show l.length - i = (l.length - (i + 1)) + 1 by omega, Nat.succ_mul]; omega
      rw [hc] at bd
      obtain ⟨mp1, e, ri1⟩ := (hC ▸ ldS (n := n) hn hv 7 n 6 (by omega) (by omega) : LS a 6 c (Q60it n n) (ld a 7)) (l.getD i 0) s v f w (uz6 hv w) hki (bd.le (by omega)) ri
      have ok := (hC ▸ ld7 hv : LdH a.length 6 c (ld a 7)) (l.getD i 0) s w (uz6 hv w) hki
      have hd : imp a (l.drop i) (s, f) = imp a (l.drop (i + 1)) ((ld a 7 (l.getD i 0) s).2, if (ld a 7 (l.getD i 0) s).1 = true then f else f ++ [l.getD i 0]) := by rw [drop_get 0 h]; rfl
      rw [bp (by omega)]
      unfold F44_0 F60
      rw [bp (by omega), bp (by omega)]
      simp only [e0]
      rw [e]
      simp only [ats, pkS]
      generalize ld a 7 (l.getD i 0) s = q at e ri1 ok hd ⊢
      by_cases hb : q.1 = true
      · rw [if_pos hb] at hd
        rw [hb, hd]
        simp only [Bool.not_true, cf]
        rw [wp (by omega), e1]
        exact runS_it hC hn hv hl hr g (i + 1) q.2 f mp1 (by omega) (by omega) (by omega) ok.wf (bd.go ok.gs) ri1
      · rw [if_neg hb] at hd
        have hb : q.1 = false := by simpa using hb
        rw [hb, hd]
        simp only [Bool.not_false, ct]
        rw [bp (by omega), bp (by omega), bp (by simp only [List.length_cons, List.length_nil]; omega), wp (by omega), e1]
        exact runS_it hC hn hv hl hr g (i + 1) q.2 (f ++ [l.getD i 0]) mp1 (by omega) (by omega) (by simp; omega) ok.wf (bd.go ok.gs) ri1
    · rw [bn (by omega), List.drop_of_length_le (by omega)]
      exact ⟨v, rfl⟩
abbrev ResT : Type := (List Int × (List Int × (List Int × (List ByteArray × (List Int × Unit)))))
abbrev pkR (r : Ab × List Int) : ResT := (r.1.bg, (r.1.wh, (r.2, (r.1.rd, (r.1.st, ())))))
noncomputable def res (a : List (List Stp)) (l : List Int) : ResT := bif B (VM a) then (bif B (Vr a.length l) then pkR (imp a l (s0 a.length, [])) else ([], ([], ([], ([], ([], ())))))) else ([], ([], ([], ([], ([], ())))))
theorem Vr.all {m : Nat} {l : List Int} (h : Vr m l) : ∀ k ∈ l, Rng m k := fun k hk => h.mem hk
theorem s0_bd {m : Nat} {l : List Int} (hl : l.length ≤ 8) : Bd ((l.length - 0) * CC 6) (s0 m) := by
  have : l.length * CC 6 ≤ 8 * CC 6 := Nat.mul_le_mul_right _ hl
  rw [CC6] at this
  rw [Nat.sub_zero, CC6]
  refine ⟨by show 0 + _ ≤ _; omega, by show 0 + _ ≤ _; omega, by show 0 + _ ≤ _; omega, fun j => ?_⟩
  show ((List.replicate m []).getD j []).length + _ ≤ _
  rw [rep_get]
  show 0 + _ ≤ _
  omega
theorem runI {n : Nat} (hn : 4000000 ≤ n) {a : List (List Stp)} {l : List Int} (ha : Sz a) (hl : l.length ≤ 8) : F17 n a l = some (res a l, ()) := by
  unfold F17 res
  have ha1 := ha.1
  rw [vmI hn ha]
  simp only [ats]
  by_cases h : VM a
  case neg => rw [B_f h]; rfl
  rw [B_t h]
  have hm := h.2.2
  simp only [Bool.not_true, cf]
  rw [bn (by omega), idI hn (by omega) (by omega)]
  simp only [ats]
  by_cases h2 : Vr a.length l
  case neg => rw [B_f h2]; rfl
  rw [B_t h2]
  simp only [Bool.not_true, cf, ct]
  rw [bp (by omega), bp (by omega), bp (by omega), bp (by omega), bp (by omega), bp (by omega)]
  simp only [e0]
  unfold F17_1
  obtain ⟨mp', e⟩ := runI_it (R := ResT × Unit) rfl hn h hl h2.all (k0 := (fun z886 z887 z888 z889 z890 z891 z892 =>
    some ((z888, (z889, (z890, (z891, (z892, ()))))), ()))) n 0 (s0 a.length) [] ((0 : Nat), (List.replicate a.length none)) (by omega) (by omega) (by simp) (s0_wf _) (s0_bd hl) ⟨by simp [s0], fun j => by
      show (List.replicate a.length none).getD j none = if (List.replicate a.length (0 : Int)).getD j 0 = 0 then none else _
      rw [rep_get, rep_get, if_pos rfl]⟩
  rw [List.drop_zero] at e
  exact e
theorem runS {n : Nat} (hn : 4000000 ≤ n) {a : List (List Stp)} {l : List Int} (ha : Sz a) (hl : l.length ≤ 8) : F19 n a l = some (res a l, ()) := by
  unfold F19 res
  have ha1 := ha.1
  rw [vmS hn ha]
  simp only [ats]
  by_cases h : VM a
  case neg => rw [B_f h]; rfl
  rw [B_t h]
  have hm := h.2.2
  simp only [Bool.not_true, cf]
  rw [idS hn (by omega) (by omega)]
  simp only [ats]
  by_cases h2 : Vr a.length l
  case neg => rw [B_f h2]; rfl
  rw [B_t h2]
  simp only [Bool.not_true, cf, ct]
  unfold F44
  try simp only []
  rw [bp (by omega), bp (by omega), bp (by omega), bp (by omega), bp (by omega), bp (by omega)]
  simp only [e0]
  unfold F44_1
  obtain ⟨mp', e⟩ := runS_it (R := ResT × Unit) rfl hn h hl h2.all (k0 := (fun z1468 z1469 z1470 z1471 z1472 z1473 z1474 =>
    some ((z1469, (z1470, (z1471, (z1472, (z1473, ()))))), ()))) n 0 (s0 a.length) [] ((0 : Nat), (List.replicate a.length [])) (by omega) (by omega) (by simp) (s0_wf _) (s0_bd hl) ⟨by simp [s0], fun j => by
      show (List.replicate a.length ([] : List Vrb)).getD j [] = ((List.replicate a.length ([] : List (ByteArray × Int))).getD j []).map vr
      rw [rep_get, rep_get]; rfl⟩
  rw [List.drop_zero] at e
  have e : F44_1_it n _ n l 0 a [] [] [] [] (List.replicate a.length 0) ((0 : Nat), (List.replicate a.length [])) = _ := e
  rw [e]
  rfl
/-- lengths of what comes out -/
theorem res_len {a : List (List Stp)} {l : List Int} (hl : l.length ≤ 8) : (res a l).1.length ≤ 3900000 ∧ (res a l).2.1.length ≤ 3900000 ∧ (res a l).2.2.1.length ≤ 3900000 ∧ (res a l).2.2.2.1.length ≤ 3900000 ∧ (res a l).2.2.2.2.1.length ≤ 3900000 := by
  unfold res
  by_cases h : VM a
  case neg => rw [B_f h]; simp [cf]
  by_cases h2 : Vr a.length l
  case neg => rw [B_t h, B_f h2]; simp [cf, ct]
  rw [B_t h, B_t h2]
  simp only [ct]
  obtain ⟨w, g, f, e, hf⟩ := imp_ok h (s := (s0 a.length, [])) h2.all (s0_wf _)
  have b := (s0_bd (m := a.length) hl).go (c' := 0) (g.le (by rw [Nat.sub_zero]; exact Nat.le_refl _))
  have hm := h.2.2
  refine ⟨b.1, b.2.1, ?_, b.2.2.1, ?_⟩
  · show (imp a l (s0 a.length, [])).2.length ≤ _
    rw [e]
    show ([] ++ f).length ≤ _
    simp; omega
  · show (imp a l (s0 a.length, [])).1.st.length ≤ _
    rw [w.st]; omega

-- comparisons -------------------------------------------------------------------------------------------------------------------------------------
theorem nums_it' {R : Type} {n : Nat} {l : List Int} {k0 : Bool → Option R} {k1 : Option R} (hl : l.length ≤ 3900000) : ∀ (fuel i : Nat), i ≤ l.length → l.length + 1 ≤ fuel + i → F41_0_it n k0 k1 fuel l l i = k1
  | fuel, i, hi, hf => by
    obtain ⟨g, rfl⟩ : ∃ g, fuel = g + 1 := ⟨fuel - 1, by omega⟩
    simp only [F41_0_it, F41_0_step]
    by_cases h : i < l.length
    · rw [bp (by omega), bp (by omega), bp (by omega), bp (by omega), bp (by omega), nen rfl, wp (by omega), e1]
      exact nums_it' hl g (i + 1) (by omega) (by omega)
    · rw [bn (by omega)]
theorem nums_eq {n : Nat} (hn : 4000000 ≤ n) {l : List Int} (hl : l.length ≤ 3900000) : F41 n l l = some (true, ()) := by
  unfold F41 F41_0
  rw [nen rfl]
  exact nums_it' hl n 0 (by omega) (by omega)
theorem txts_it {R : Type} {n : Nat} {l : List ByteArray} {k0 : Bool → Option R} {k1 : Option R} (hl : l.length ≤ 3900000) : ∀ (fuel i : Nat), i ≤ l.length → l.length + 1 ≤ fuel + i → F42_0_it n k0 k1 fuel l l i = k1
  | fuel, i, hi, hf => by
    obtain ⟨g, rfl⟩ : ∃ g, fuel = g + 1 := ⟨fuel - 1, by omega⟩
    simp only [F42_0_it, F42_0_step]
    by_cases h : i < l.length
    · rw [bp (by omega), bp (by omega), bp (by omega), bp (by omega), bp (by omega), bb, wp (by omega), e1]
      exact txts_it hl g (i + 1) (by omega) (by omega)
    · rw [bn (by omega)]
theorem txts_eq {n : Nat} (hn : 4000000 ≤ n) {l : List ByteArray} (hl : l.length ≤ 3900000) : F42 n l l = some (true, ()) := by
  unfold F42 F42_0
  rw [nen rfl]
  exact txts_it hl n 0 (by omega) (by omega)
theorem same_res {n : Nat} (hn : 4000000 ≤ n) {r : ResT} (h : r.1.length ≤ 3900000 ∧ r.2.1.length ≤ 3900000 ∧ r.2.2.1.length ≤ 3900000 ∧ r.2.2.2.1.length ≤ 3900000 ∧ r.2.2.2.2.1.length ≤ 3900000) :
    F18 n r.1 r.2.1 r.2.2.1 r.2.2.2.1 r.2.2.2.2.1 r.1 r.2.1 r.2.2.1 r.2.2.2.1 r.2.2.2.2.1 = some (true, ()) := by
  unfold F18
  rw [nums_eq hn h.1]; simp only [ats, ct]
  rw [nums_eq hn h.2.1]; simp only [ats, ct]
  rw [nums_eq hn h.2.2.1]; simp only [ats, ct]
  rw [txts_eq hn h.2.2.2.1]; simp only [ats, ct]
  rw [nums_eq hn h.2.2.2.2]; simp only [ats]
end Go.Proofs.Ytjfmfpnnjgfffaa.Am
