/- Heaps, plainly: valid heaps stay valid when they are swept. -/
import Derived.Test.YtfknenaecihchaaAmHepW
namespace Go.Proofs.Ytfknenaecihchaa.Am
open Go
set_option autoImplicit false
set_option linter.unusedVariables false
set_option linter.unusedSimpArgs false
set_option maxRecDepth 10000

structure GH (h : List Obj) : Prop where
  len : h.length ≤ 600
  obj : ∀ j, j < h.length → GO (h.getD j o0)
noncomputable def t27 (n : Nat) (h : List Obj) (o : Obj) : Option (Bool × Unit) := F27 n h o.kind o.name o.at_ o.items o.keys o.names o.vals
noncomputable def t55 (n : Nat) (o : Obj) (m : Nat) : Option (Bool × Unit) := F55 n o.kind o.name o.at_ o.items o.keys o.names o.vals (m : Int)
theorem obG {n : Nat} (hn : 3000000 ≤ n) {h : List Obj} {o : Obj} (hh : h.length ≤ 1000) (g : GO o) : ∃ w, t27 n h o = some (w, ()) ∧ t55 n o h.length = some (w, ()) := obE hn hh g.i g.k g.s g.v g.gi g.gk g.gv g.gs g.nm
def AO (n : Nat) (h l : List Obj) (i : Nat) : Prop := ∀ j, i ≤ j → j < l.length → t27 n h (l.getD j o0) = some (true, ())
theorem ao_step {n : Nat} {h l : List Obj} {i : Nat} (g : i < l.length) : AO n h l i ↔ t27 n h (l.getD i o0) = some (true, ()) ∧ AO n h l (i + 1) := all_step (p := fun j => t27 n h (l.getD j o0) = some (true, ())) g
theorem hpI_it {R : Type} {n : Nat} {h l : List Obj} {k0 : Bool → Option R} {k1 : Option R} (hl : l.length ≤ 600) (hw : ∀ j, j < l.length → ∃ w, t27 n h (l.getD j o0) = some (w, ())) : ∀ (fuel i : Nat), i ≤ l.length → l.length + 1 ≤ fuel + i →
    F10_0_it n k0 k1 fuel l l.length i h = (bif B (AO n h l i) then k1 else k0 false)
  | fuel, i, hi, hf => by
    obtain ⟨f, rfl⟩ : ∃ f, fuel = f + 1 := ⟨fuel - 1, by omega⟩
    simp only [F10_0_it, F10_0_step]
    by_cases g : i < l.length
    · obtain ⟨w, w1⟩ := hw i g
      have w2 := w1
      unfold t27 at w2
      simp (disch := omega) only [bp, e0, w2, ats, wp, e1]
      cases w with
      | false =>
        rw [B_f fun q => by have := ((ao_step g).1 q).1; rw [w1] at this; cases this]; rfl
      | true =>
        simp only [Bool.not_true, cf]
        rw [hpI_it hl hw f (i + 1) (by omega) (by omega), B_congr (p := AO n h l i) (q := AO n h l (i + 1)) ⟨fun q => ((ao_step g).1 q).2, fun q => (ao_step g).2 ⟨w1, q⟩⟩]
    · rw [bn (by omega), B_t (p := AO n h l i) fun j j1 j2 => by omega]; rfl
theorem hpI {n : Nat} (hn : 3000000 ≤ n) {h : List Obj} (g : GH h) : F10 n h = some (B (AO n h h 0), ()) := by
  unfold F10 F10_0
  have hl := g.len
  rw [bn (by omega)]
  refine Eq.trans (hpI_it (R := Bool × Unit) (n := n) (h := h) (l := h) (k0 := fun z => some (z, ())) (k1 := some (true, ())) hl (fun j hj => by obtain ⟨w, w1, _⟩ := obG hn (h := h) (by omega) (g.obj j hj); exact ⟨w, w1⟩) n 0 (by omega) (by omega)) ?_
  cases B (AO n h h 0) <;> rfl
theorem hpS_it {R : Type} {n : Nat} (hn : 3000000 ≤ n) {h : List Obj} {k0 : Bool → Option R} {k1 : List Obj → Option R} (g : GH h) : ∀ (fuel i : Nat), i ≤ h.length → h.length + 1 ≤ fuel + i →
    F31_0_it n k0 k1 fuel i h = (bif B (AO n h h i) then k1 h else k0 false)
  | fuel, i, hi, hf => by
    obtain ⟨f, rfl⟩ : ∃ f, fuel = f + 1 := ⟨fuel - 1, by omega⟩
    simp only [F31_0_it, F31_0_step]
    have hl := g.len
    by_cases gi : i < h.length
    · obtain ⟨w, w1, w2⟩ := obG hn (h := h) (by omega) (g.obj i gi)
      unfold t55 at w2
      simp (disch := omega) only [bp, e0, w2, ats, wp, e1]
      cases w with
      | false =>
        rw [B_f fun q => by have := ((ao_step gi).1 q).1; rw [w1] at this; cases this]; rfl
      | true =>
        simp only [Bool.not_true, cf]
        rw [hpS_it hn g f (i + 1) (by omega) (by omega), B_congr (p := AO n h h i) (q := AO n h h (i + 1)) ⟨fun q => ((ao_step gi).1 q).2, fun q => (ao_step gi).2 ⟨w1, q⟩⟩]
    · rw [bn (by omega), B_t (p := AO n h h i) fun j j1 j2 => by omega]; rfl
theorem hpS {n : Nat} (hn : 3000000 ≤ n) {h : List Obj} (g : GH h) : F13 n h = some (B (AO n h h 0), ()) := by
  unfold F13 F31 F31_0
  have hl := g.len
  have := hpS_it (R := Bool × Unit) hn (h := h) (k0 := fun z => some (z, ())) (k1 := fun z2302 => some ((decide (((z2302.length) : Int) ≤ (600 : Int))), ())) g n 0 (by omega) (by omega)
  rw [show ((0 : Nat) : Int) = 0 from rfl] at this
  rw [this]
  cases B (AO n h h 0)
  · rfl
  · simp only [ct]; rw [decide_eq_true (by omega)]; rfl

-- copies and sweeps ---------------------------------------------------------------------------------------------------------------------------------
theorem clV {n : Nat} {a : List Val} (ha : a.length ≤ 1048576) : F96 n a = some ((), (a, ())) := by
  unfold F96
  by_cases g : a.length ≤ 0
  · have e : a = [] := List.eq_nil_of_length_eq_zero (by omega)
    subst e; rw [bp (by simp), bp (by simp)]; exact both_self _
  · rw [bn g, bp (by simp; omega)]; rfl
theorem clT {n : Nat} {a : List ByteArray} (ha : a.length ≤ 1048576) : F97 n a = some ((), (a, ())) := by
  unfold F97
  by_cases g : a.length ≤ 0
  · have e : a = [] := List.eq_nil_of_length_eq_zero (by omega)
    subst e; rw [bp (by simp), bp (by simp)]; exact both_self _
  · rw [bn g, bp (by simp; omega)]; rfl
theorem drop_get {α : Type} {l : List α} {i : Nat} (d : α) (h : i < l.length) : l.drop i = l.getD i d :: l.drop (i + 1) := by
  rw [getD_lt h]; exact List.drop_eq_getElem_cons h
theorem clH_it {R : Type} {n : Nat} {h z : List Obj} {k0 : List Obj → List Obj → Option R} (g : GH h) : ∀ (fuel i : Nat) (acc : List Obj), acc.length ≤ i → i ≤ h.length → h.length + 1 ≤ fuel + i →
    F40_0_it n k0 fuel h h.length i z acc = k0 z (acc ++ h.drop i)
  | fuel, i, acc, ha, hi, hf => by
    obtain ⟨f, rfl⟩ : ∃ f, fuel = f + 1 := ⟨fuel - 1, by omega⟩
    simp only [F40_0_it, F40_0_step, F69]
    have hl := g.len
    by_cases gi : i < h.length
    · have go := g.obj i gi
      have hi2 := go.i
      have hk2 := go.k
      have hs2 := go.s
      have hv2 := go.v
      have c1 : F96 n (h.getD i o0).items = some ((), ((h.getD i o0).items, ())) := clV (by omega)
      have c2 : F96 n (h.getD i o0).keys = some ((), ((h.getD i o0).keys, ())) := clV (by omega)
      have c3 : F97 n (h.getD i o0).names = some ((), ((h.getD i o0).names, ())) := clT (by omega)
      have c4 : F96 n (h.getD i o0).vals = some ((), ((h.getD i o0).vals, ())) := clV (by omega)
      simp (disch := omega) only [bp, e0, c1, c2, c3, c4, ats, wp, e1]
      rw [bp (by simp only [List.length_cons, List.length_nil]; omega)]
      rw [clH_it g f (i + 1) _ (by simp only [List.length_append, List.length_cons, List.length_nil]; omega) (by omega) (by omega), drop_get o0 gi]
      simp
    · rw [bn (by omega), List.drop_of_length_le (by omega)]; simp
theorem clH {n : Nat} (hn : 3000000 ≤ n) {h : List Obj} (g : GH h) : F40 n h = some (((), ()), (h, ())) := by
  unfold F40 F40_0
  have hl := g.len
  exact clH_it (R := (Unit × Unit) × (List Obj × Unit)) (n := n) (z := []) (k0 := fun z2351 z2352 => some (((), ()), (z2352, ()))) g n 0 [] (by simp) (by omega) (by omega)
theorem getD_set' {α : Type} {l : List α} {i j : Nat} {v d : α} (h : i < l.length) : (l.set i v).getD j d = if i = j then v else l.getD j d := by
  simp only [List.getD, List.getElem?_set]
  by_cases e : i = j
  · subst e; rw [if_pos rfl, if_pos rfl, if_pos h]; rfl
  · rw [if_neg e, if_neg e]
def Swp (h h' : List Obj) : Prop := h'.length = h.length ∧ ∀ j, j < h.length → h'.getD j o0 = h.getD j o0 ∨ h'.getD j o0 = o0
theorem swH_it {R : Type} {n : Nat} {h : List Obj} {s : List Bool} {k0 : List Obj → Option R} (hs : s.length = h.length) (hl : h.length ≤ 600) : ∀ (fuel i : Nat) (h' : List Obj), Swp h h' → i ≤ h.length → h.length + 1 ≤ fuel + i →
    ∃ h2, Swp h h2 ∧ F41_1_it n k0 fuel s.length i h' s = k0 h2
  | fuel, i, h', hw, hi, hf => by
    obtain ⟨f, rfl⟩ : ∃ f, fuel = f + 1 := ⟨fuel - 1, by omega⟩
    simp only [F41_1_it, F41_1_step, F41_0]
    have hw1 := hw.1
    by_cases g : i < h.length
    · have ns := swH_it (n := n) (k0 := k0) hs hl f (i + 1) h' hw (by omega) (by omega)
      have nw := swH_it (n := n) (k0 := k0) hs hl f (i + 1) (h'.set i o0) ⟨by rw [List.length_set]; exact hw1, fun j hj => by
        rw [getD_set' (by omega)]
        by_cases e : i = j
        · subst e; rw [if_pos rfl]; exact .inr rfl
        · rw [if_neg e]; exact hw.2 j hj⟩ (by omega) (by omega)
      simp (disch := omega) only [bp, e0, wp, e1]
      cases s.getD i false with
      | true => exact ns
      | false =>
        simp only [Bool.not_false, ct]
        by_cases h19 : (i : Int) ≥ 19
        · rw [bp h19]; exact nw
        · rw [bn h19]; exact ns
    · rw [bn (by omega)]; exact ⟨h', hw, rfl⟩
theorem reH {n : Nat} (hn : 3000000 ≤ n) {h : List Obj} (hl : h.length ≤ 600) : F70 n h [] = some ((), (List.replicate h.length false, ())) := by
  unfold F70 F70_0 F70_3
  obtain ⟨f, rfl⟩ : ∃ f, n = f + 1 := ⟨n - 1, by omega⟩
  rw [bp (by omega), bp (by omega), bp (by omega)]
  simp only [F70_0_it, F70_0_step, F70_3_it, F70_3_step, e0]
  rw [bn (by simp), bn (by simp)]
theorem swH {n : Nat} (hn : 3000000 ≤ n) {h : List Obj} (hl : h.length ≤ 600) : ∃ h2, Swp h h2 ∧ F41 n [] h = some ((), (h2, ())) := by
  unfold F41 F41_1
  rw [reH hn hl]
  simp only [ats]
  exact swH_it (R := Unit × (List Obj × Unit)) (n := n) (k0 := fun z => some ((), (z, ()))) (by simp) hl n 0 h ⟨rfl, fun j _ => .inl rfl⟩ (by omega) (by simp; omega)
theorem go0 : GO o0 := ⟨by decide, by decide, by decide, by decide, fun x hx => by simp at hx, fun x hx => by simp at hx, fun x hx => by simp at hx, fun x hx => by simp at hx, by decide⟩
theorem z27 {n : Nat} (hn : 3000000 ≤ n) {h : List Obj} : t27 n h o0 = some (true, ()) := by
  obtain ⟨f, rfl⟩ : ∃ f, n = f + 1 := ⟨n - 1, by omega⟩
  have h39 : F39 (f + 1) h [] = some (true, ()) := by
    unfold F39 F39_0
    simp only [F39_0_it, F39_0_step]
    rw [bn (by simp)]
  have r1 : F47 (f + 1) 0 0 10 = some (true, ()) := by rw [rangeI]; rfl
  have r2 : F47 (f + 1) 0 0 1000000 = some (true, ()) := by rw [rangeI]; rfl
  have e : decide ((({ data := #[] } : ByteArray)).size = 0) = true := by decide
  unfold t27 F27
  simp only [h39, r1, r2, ats, emp, e, F27_0, F27_0_it, F27_0_step, F27_3]
  rfl
theorem swp_gh {h h' : List Obj} (g : GH h) (w : Swp h h') : GH h' := ⟨by rw [w.1]; exact g.len, fun j hj => by
  rw [w.1] at hj
  rcases w.2 j hj with e | e
  · rw [e]; exact g.obj j hj
  · rw [e]; exact go0⟩
theorem swp_ok {n : Nat} (hn : 3000000 ≤ n) {h h' : List Obj} (g : GH h) (w : Swp h h') (ho : AO n h h 0) : AO n h' h' 0 := fun j _ hj => by
  have hj' := hj
  rw [w.1] at hj'
  have hl := g.len
  have hw1 := w.1
  rcases w.2 j hj' with e | e
  · rw [e]
    obtain ⟨a, a1, a2⟩ := obG hn (h := h) (by omega) (g.obj j hj')
    obtain ⟨b, b1, b2⟩ := obG hn (h := h') (by omega) (g.obj j hj')
    rw [hw1, a2] at b2
    have h1 := ho j (Nat.zero_le _) hj'
    rw [a1] at h1
    rw [b1, ← b2, h1]
  · rw [e]; exact z27 hn
theorem swI {n : Nat} (hn : 3000000 ≤ n) {h : List Obj} (g : GH h) (ho : AO n h h 0) : ∃ h2, Swp h h2 ∧ F21 n h [] = some ((h2, ()), ()) := by
  unfold F21
  have hl := g.len
  obtain ⟨h2, w1, w2⟩ := swH hn hl
  refine ⟨h2, w1, ?_⟩
  have h39 : F39 n h [] = some (true, ()) := by
    unfold F39 F39_0
    obtain ⟨f, rfl⟩ : ∃ f, n = f + 1 := ⟨n - 1, by omega⟩
    simp only [F39_0_it, F39_0_step]
    rw [bn (by simp)]
  rw [hpI hn g, B_t ho]
  simp only [ats, Bool.not_true, cf]
  rw [bn (by simp), h39]
  simp only [ats, Bool.not_true, cf]
  rw [clH hn g]
  simp only [ats]
  rw [w2]
  rfl
theorem law_of {n : Nat} (hn : 3000000 ≤ n) {z : List Int} {h : List Obj} (g : GH h) (hd : F20 n z = some ((h, ()), ())) : F6 n z = some (true, ()) := by
  unfold F6
  by_cases hz : (z.length : Int) > 1048576
  · rw [bp hz]
  rw [bn hz, hd]
  simp only [ats]
  rw [hpI hn g, hpS hn g]
  simp only [ats]
  have hb : ∀ b : Bool, (b == b) = true := fun b => by cases b <;> rfl
  rw [hb]
  simp only [Bool.not_true, cf]
  by_cases ho : AO n h h 0
  case neg => rw [B_f ho]; rfl
  rw [B_t ho]
  simp only [Bool.not_true, cf]
  obtain ⟨h2, w1, w2⟩ := swI hn g ho
  rw [w2]
  simp only [ats]
  rw [hpI hn (swp_gh g w1), B_t (swp_ok hn g w1 ho)]
  simp only [ats, ct]
  rw [w1.1]
  have : (((h.length : Nat) : Int) == ((h.length : Nat) : Int)) = true := beq_self_eq_true _
  rw [this]
end Go.Proofs.Ytfknenaecihchaa.Am
