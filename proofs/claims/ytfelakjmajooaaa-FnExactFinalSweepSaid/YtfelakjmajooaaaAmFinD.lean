/- Finalizers, plainly: the sweep, and the exact law. -/
import Derived.Test.YtfelakjmajooaaaAmFinC
import Derived.Test.YtfelakjmajooaaaAmOpen
namespace Go.Proofs.Ytfelakjmajooaaa.Am
open Go
set_option autoImplicit false
set_option linter.unusedVariables false
set_option linter.unusedSimpArgs false
set_option maxRecDepth 10000

-- indices -----------------------------------------------------------------------------------------------------------------------------------------
def ixl (b : Bool) : List Bool → Nat → List Int
  | [], _ => []
  | x :: l, i => bif x == b then (i : Int) :: ixl b l (i + 1) else ixl b l (i + 1)
theorem ixl_len (b : Bool) : ∀ (l : List Bool) (i : Nat), (ixl b l i).length ≤ l.length
  | [], _ => Nat.le_refl _
  | x :: l, i => by
    have := ixl_len b l (i + 1)
    simp only [ixl]
    cases x == b
    · simp only [cf, List.length_cons]; omega
    · simp only [ct, List.length_cons]; omega
theorem drop_get {α : Type} {l : List α} {i : Nat} (d : α) (h : i < l.length) : l.drop i = l.getD i d :: l.drop (i + 1) := by
  rw [getD_lt h]; exact List.drop_eq_getElem_cons h
theorem ixI_it {R : Type} {n : Nat} {b : Bool} {l : List Bool} {k0 : List Int → Option R} (hl : l.length ≤ 1048576) : ∀ (fuel i : Nat) (acc : List Int), i ≤ l.length → acc.length ≤ i → l.length + 1 ≤ fuel + i → F38_1_it n k0 fuel b l l.length i acc = k0 (acc ++ ixl b (l.drop i) i)
  | fuel, i, acc, hi, ha, hf => by
    obtain ⟨f, rfl⟩ : ∃ f, fuel = f + 1 := ⟨fuel - 1, by omega⟩
    simp only [F38_1_it, F38_1_step, F38_0]
    by_cases h : i < l.length
    · rw [bp (by omega), bp (by omega), bp (by omega)]
      simp only [e0]
      rw [drop_get false h]
      simp only [ixl]
      cases l.getD i false == b with
      | true =>
        simp only [ct]
        rw [bp (by simp; omega), wp (by omega), e1, ixI_it hl f (i + 1) _ (by omega) (by simp; omega) (by omega)]
        congr 1; simp
      | false =>
        simp only [cf]
        rw [wp (by omega), e1, ixI_it hl f (i + 1) _ (by omega) (by omega) (by omega)]
    · rw [bn (by omega)]
      rw [List.drop_of_length_le (by omega)]; simp [ixl]
theorem ixI {n : Nat} {b : Bool} {l : List Bool} (hn : 4000000 ≤ n) (hl : l.length ≤ 1048576) : F38 n l b = some ((), (ixl b l 0, ())) := by
  unfold F38 F38_1
  exact ixI_it (R := Unit × (List Int × Unit)) (n := n) (k0 := fun z => some ((), (z, ()))) hl n 0 [] (by omega) (by simp) (by omega)
theorem ixS_it {R : Type} {n : Nat} {b : Bool} {l : List Bool} {k0 : List Int → Option R} (hl : l.length ≤ 1048576) : ∀ (fuel i : Nat) (acc : List Int), i ≤ l.length → acc.length ≤ i → l.length + 1 ≤ fuel + i → F53_1_it n k0 fuel l b i acc = k0 (acc ++ ixl b (l.drop i) i)
  | fuel, i, acc, hi, ha, hf => by
    obtain ⟨f, rfl⟩ : ∃ f, fuel = f + 1 := ⟨fuel - 1, by omega⟩
    simp only [F53_1_it, F53_1_step, F53_0]
    by_cases h : i < l.length
    · rw [bp (by omega), bp (by omega), bp (by omega)]
      simp only [e0]
      rw [drop_get false h]
      simp only [ixl]
      cases l.getD i false == b with
      | true =>
        simp only [ct]
        rw [bp (by simp; omega), wp (by omega), e1, ixS_it hl f (i + 1) _ (by omega) (by simp; omega) (by omega)]
        congr 1; simp
      | false =>
        simp only [cf]
        rw [wp (by omega), e1, ixS_it hl f (i + 1) _ (by omega) (by omega) (by omega)]
    · rw [bn (by omega)]
      rw [List.drop_of_length_le (by omega)]; simp [ixl]
theorem ixS {n : Nat} {b : Bool} {l : List Bool} (hn : 4000000 ≤ n) (hl : l.length ≤ 1048576) : F53 n l b = some (ixl b l 0, ()) := by
  unfold F53 F53_1
  exact ixS_it (R := List Int × Unit) (n := n) (k0 := fun z => some (z, ())) hl n 0 [] (by omega) (by simp) (by omega)

-- the sweep -----------------------------------------------------------------------------------------------------------------------------------------
def sav (x : Fnl) (r : List Int) : List Int := bif decide (x.saves ≥ (0 : Int)) then (bif decide ((r.length : Int) < (12 : Int)) then r ++ [x.saves] else r) else r
def swp (s : List Bool) : List Fnl → List Int → List Int → List Int × List Int × List Fnl
  | [], a, r => (a, r, [])
  | x :: l, a, r => bif s.getD x.at_.toNat false || x.done then ((swp s l a r).1, (swp s l a r).2.1, x :: (swp s l a r).2.2)
    else ((swp s l (a ++ [x.at_]) (sav x r)).1, (swp s l (a ++ [x.at_]) (sav x r)).2.1, Fnl.mk x.at_ x.saves true :: (swp s l (a ++ [x.at_]) (sav x r)).2.2)
theorem sav_len {x : Fnl} {r : List Int} (h : r.length ≤ 12) : (sav x r).length ≤ 12 := by
  unfold sav
  by_cases h1 : x.saves ≥ (0 : Int)
  · rw [bp h1]
    by_cases h2 : (r.length : Int) < 12
    · rw [bp h2]; simp; omega
    · rw [bn h2]; exact h
  · rw [bn h1]; exact h
theorem sav_vr {x : Fnl} {r : List Int} {m : Nat} (h : Vr m r) (hx : x.saves < m) : Vr m (sav x r) := by
  unfold sav
  by_cases h1 : x.saves ≥ (0 : Int)
  · rw [bp h1]
    by_cases h2 : (r.length : Int) < 12
    · rw [bp h2]
      intro j hj
      by_cases h3 : j < r.length
      · rw [getD_app h3]; exact h j h3
      · simp at hj
        have : j = r.length := by omega
        subst this
        rw [show (r ++ [x.saves]).getD r.length 0 = x.saves by simp [List.getD]]
        exact ⟨h1, hx⟩
    · rw [bn h2]; exact h
  · rw [bn h1]; exact h
theorem swp_ok (s : List Bool) (m : Nat) : ∀ (l : List Fnl) (a r : List Int), (∀ x ∈ l, x.saves < m) → r.length ≤ 12 → Vr m r → (swp s l a r).1.length ≤ a.length + l.length ∧ (swp s l a r).2.1.length ≤ 12 ∧ Vr m (swp s l a r).2.1 ∧ (swp s l a r).2.2.length = l.length
  | [], a, r, hx, hr, hv => ⟨Nat.le_refl _, hr, hv, rfl⟩
  | x :: l, a, r, hx, hr, hv => by
    simp only [swp]
    cases s.getD x.at_.toNat false || x.done with
    | true =>
      obtain ⟨h1, h2, h3, h4⟩ := swp_ok s m l a r (fun y hy => hx y (List.mem_cons_of_mem _ hy)) hr hv
      simp only [ct, List.length_cons]
      exact ⟨by omega, h2, h3, by omega⟩
    | false =>
      obtain ⟨h1, h2, h3, h4⟩ := swp_ok s m l (a ++ [x.at_]) (sav x r) (fun y hy => hx y (List.mem_cons_of_mem _ hy)) (sav_len hr) (sav_vr hv (hx x (by simp)))
      simp only [cf, List.length_cons]
      simp only [List.length_append, List.length_cons, List.length_nil] at h1
      exact ⟨by omega, h2, h3, by omega⟩
theorem swS_it {R : Type} {n : Nat} {g : List (List Int)} {s : List Bool} {l : List Fnl} {k0 : List (List Int) → List Int → List Int → List Int → List Fnl → List Int → List Int → List Fnl → Option R} (hs : s.length ≤ 12) (hl : l.length ≤ 12) (hv : ∀ j, j < l.length → Rng s.length (l.getD j f0).at_) : ∀ (fuel i : Nat) (a r : List Int) (o : List Fnl), i ≤ l.length → a.length ≤ i → r.length ≤ 12 → o.length ≤ i → l.length + 1 ≤ fuel + i →
    F31_1_it n k0 fuel g l s i [] [] [] [] a r o = k0 g [] [] [] [] (swp s (l.drop i) a r).1 (swp s (l.drop i) a r).2.1 (o ++ (swp s (l.drop i) a r).2.2)
  | fuel, i, a, r, o, hi, ha, hr, ho, hf => by
    obtain ⟨f, rfl⟩ : ∃ f, fuel = f + 1 := ⟨fuel - 1, by omega⟩
    simp only [F31_1_it, F31_1_step, F31_0]
    by_cases h : i < l.length
    · have hv1 := (hv i h).1
      have hv2 := (hv i h).2
      rw [bp (by omega), bp (by omega), bp (by omega)]
      simp only [e0]
      rw [drop_get f0 h]
      simp only [swp]
      generalize hx : l.getD i f0 = x at hv1 hv2
      obtain ⟨xa, xs, xd⟩ := x
      simp only at hv1 hv2 ⊢
      rw [bp (by omega), bp (by omega)]
      cases s.getD xa.toNat false with
      | true =>
        simp only [Bool.true_or, ct]
        rw [bp (by simp; omega), wp (by omega), e1, swS_it hs hl hv f (i + 1) a r _ (by omega) (by omega) hr (by simp; omega) (by omega)]
        congr 1; simp
      | false =>
        cases xd with
        | true =>
          simp only [Bool.or_true, ct, cf]
          rw [bp (by simp; omega), wp (by omega), e1, swS_it hs hl hv f (i + 1) a r _ (by omega) (by omega) hr (by simp; omega) (by omega)]
          congr 1; simp
        | false =>
          simp only [Bool.or_false, cf]
          rw [bp (by simp; omega), bp (by simp; omega)]
          have hsl := sav_len (x := Fnl.mk xa xs false) hr
          have key := swS_it (n := n) (g := g) (k0 := k0) hs hl hv f (i + 1) (a ++ [xa]) _ (o ++ [Fnl.mk xa xs true]) (by omega) (by simp; omega) hsl (by simp; omega) (by omega)
          by_cases h1 : xs ≥ (0 : Int)
          · rw [bp h1]
            by_cases h2 : (r.length : Int) < 12
            · rw [show sav (Fnl.mk xa xs false) r = r ++ [xs] by unfold sav; rw [bp h1, bp h2]] at key ⊢
              rw [bp h2, bp (by simp; omega), wp (by omega), e1, key]; congr 1; simp
            · rw [show sav (Fnl.mk xa xs false) r = r by unfold sav; rw [bp h1, bn h2]] at key ⊢
              rw [bn h2, wp (by omega), e1, key]; congr 1; simp
          · rw [show sav (Fnl.mk xa xs false) r = r by unfold sav; rw [bn h1]] at key ⊢
            rw [bn h1, wp (by omega), e1, key]; congr 1; simp
    · rw [bn (by omega)]
      rw [List.drop_of_length_le (by omega)]; simp [swp]
theorem set_take {α : Type} {l : List α} {i : Nat} (v : α) (h : i < l.length) : (l.set i v).take (i + 1) = l.take i ++ [v] := by
  rw [← List.take_append_getElem (by rw [List.length_set]; exact h), List.take_set_of_le (Nat.le_refl _), List.getElem_set_self]
theorem set_drop {α : Type} {l : List α} {i : Nat} (v : α) : (l.set i v).drop (i + 1) = l.drop (i + 1) := List.drop_set_of_lt (by omega)
theorem swI_it {R : Type} {n : Nat} {g : List (List Int)} {s : List Bool} {k0 : List (List Int) → List Int → List Int → List Int → List Fnl → List Int → List Int → List Fnl → Option R} (hs : s.length ≤ 12) : ∀ (fuel i : Nat) (a r : List Int) (l : List Fnl), l.length ≤ 12 → (∀ j, j < l.length → Rng s.length (l.getD j f0).at_) → i ≤ l.length → a.length ≤ i → r.length ≤ 12 → l.length + 1 ≤ fuel + i →
    F11_1_it n k0 fuel g l.length i s [] [] [] [] a r l = k0 g [] [] [] [] (swp s (l.drop i) a r).1 (swp s (l.drop i) a r).2.1 (l.take i ++ (swp s (l.drop i) a r).2.2)
  | fuel, i, a, r, l, hl, hv, hi, ha, hr, hf => by
    obtain ⟨f, rfl⟩ : ∃ f, fuel = f + 1 := ⟨fuel - 1, by omega⟩
    simp only [F11_1_it, F11_1_step, F11_0]
    by_cases h : i < l.length
    · have hv1 := (hv i h).1
      have hv2 := (hv i h).2
      rw [bp (by omega), bp (by omega), bp (by omega)]
      simp only [e0, getD_set' h, if_true]
      have ht : l.take (i + 1) = l.take i ++ [l.getD i f0] := by rw [getD_lt h]; exact (List.take_append_getElem h).symm
      rw [drop_get f0 h]
      simp only [swp]
      generalize hx : l.getD i f0 = x at hv1 hv2 ht
      obtain ⟨xa, xs, xd⟩ := x
      simp only at hv1 hv2 ⊢
      have ksame := swI_it (n := n) (g := g) (k0 := k0) hs f (i + 1) a r l hl hv (by omega) (by omega) hr (by omega)
      cases xd with
      | true =>
        simp only [Bool.or_true, ct]
        rw [wp (by omega), e1, ksame, ht]
        congr 1; simp
      | false =>
        simp only [cf]
        rw [bp (by omega), bp (by omega)]
        cases s.getD xa.toNat false with
        | true =>
          simp only [Bool.true_or, ct]
          rw [wp (by omega), e1, ksame, ht]
          congr 1; simp
        | false =>
          simp only [Bool.or_false, cf]
          have hsl := sav_len (x := Fnl.mk xa xs false) hr
          have key := swI_it (n := n) (g := g) (k0 := k0) hs f (i + 1) (a ++ [xa]) _ (l.set i (Fnl.mk xa xs true)) (by simpa using hl) (fun j hj => by
            rw [getD_set' h]
            by_cases e : i = j
            · rw [if_pos e]; exact ⟨hv1, hv2⟩
            · rw [if_neg e]; exact hv j (by simpa using hj)) (by simp; omega) (by simp; omega) hsl (by simp; omega)
          rw [List.length_set, set_take _ h, set_drop] at key
          rw [bp (by simp; omega)]
          by_cases h1 : xs ≥ (0 : Int)
          · rw [bp h1]
            by_cases h2 : (r.length : Int) < 12
            · rw [show sav (Fnl.mk xa xs false) r = r ++ [xs] by unfold sav; rw [bp h1, bp h2]] at key ⊢
              rw [bp h2, bp (by simp; omega), wp (by omega), e1, key]; congr 1; simp
            · rw [show sav (Fnl.mk xa xs false) r = r by unfold sav; rw [bp h1, bn h2]] at key ⊢
              rw [bn h2, wp (by omega), e1, key]; congr 1; simp
          · rw [show sav (Fnl.mk xa xs false) r = r by unfold sav; rw [bn h1]] at key ⊢
            rw [bn h1, wp (by omega), e1, key]; congr 1; simp
    · rw [bn (by omega)]
      rw [List.drop_of_length_le (by omega), List.take_of_length_le (by omega)]; simp [swp]

-- what both answer ------------------------------------------------------------------------------------------------------------------------------------
noncomputable def out (g : List (List Int)) (r : List Int) (l : List Fnl) : List Int × List Int × List Int × List Fnl :=
  bif B ((Vg g ∧ g.length ≤ 12) ∧ (Vr g.length r ∧ r.length ≤ 12) ∧ (Vf g.length l ∧ l.length ≤ 12)) then
    ((swp (mkR g r) l [] r).1, (swp (mkR g r) l [] r).2.1, ixl false (mkR g (swp (mkR g r) l [] r).2.1) 0, (swp (mkR g r) l [] r).2.2) else ([], [], [], [])
structure Good (g : List (List Int)) (r : List Int) (l : List Fnl) : Prop where
  g1 : Vg g
  g2 : g.length ≤ 12
  r1 : Vr g.length r
  r2 : r.length ≤ 12
  l1 : Vf g.length l
  l2 : l.length ≤ 12
theorem Good.rng {g : List (List Int)} {r : List Int} {l : List Fnl} (h : Good g r l) : ∀ j, j < l.length → Rng (mkR g r).length (l.getD j f0).at_ := fun j hj => by rw [mkR_len]; exact (h.l1 j hj).1
theorem Good.sw {g : List (List Int)} {r : List Int} {l : List Fnl} (h : Good g r l) : (swp (mkR g r) l [] r).1.length ≤ 12 ∧ (swp (mkR g r) l [] r).2.1.length ≤ 12 ∧ Vr g.length (swp (mkR g r) l [] r).2.1 ∧ (swp (mkR g r) l [] r).2.2.length ≤ 12 := by
  obtain ⟨a, b, c, d⟩ := swp_ok (mkR g r) g.length l [] r (fun x hx => by
    obtain ⟨j, hj, e⟩ := List.getElem_of_mem hx
    have := (h.l1 j hj).2.1.2
    rw [getD_lt hj, e] at this; exact this) h.r2 h.r1
  have := h.l2
  simp only [List.length_nil] at a
  exact ⟨by omega, b, c, by omega⟩
theorem swS {n : Nat} {g : List (List Int)} {r : List Int} {l : List Fnl} (hn : 4000000 ≤ n) (h : Good g r l) :
    F31 n g r l = some (((swp (mkR g r) l [] r).1, ((swp (mkR g r) l [] r).2.1, (ixl false (mkR g (swp (mkR g r) l [] r).2.1) 0, ((swp (mkR g r) l [] r).2.2, ())))), ()) := by
  obtain ⟨a, b, c, d⟩ := h.sw
  have := h.r2
  have hg := h.g2
  have hl := h.l2
  unfold F31 F31_1
  simp only [List.nil_append]
  rw [bp (by simp; omega), rchS hn h.g1 h.g2 h.r1 h.r2]
  simp only [ats]
  have key := fun k0 => swS_it (R := (List Int × (List Int × (List Int × (List Fnl × Unit)))) × Unit) (n := n) (g := g) (k0 := k0) (by rw [mkR_len]; exact hg) hl h.rng n 0 [] r [] (by omega) (by simp) this (by simp) (by omega)
  simp only [List.drop_zero, List.nil_append, show ((0 : Nat) : Int) = 0 from rfl] at key
  rw [key]
  rw [rchS hn h.g1 h.g2 c b]
  simp only [ats]
  rw [ixS hn (by rw [mkR_len]; omega)]
  rfl
theorem swI {n : Nat} {g : List (List Int)} {r : List Int} {l : List Fnl} (hn : 4000000 ≤ n) (hg : g.length ≤ 1048576) (hw : ∀ j, j < g.length → (g.getD j []).length ≤ 1048576) (hr : r.length ≤ 1048576) (hl : l.length ≤ 1048576) :
    F11 n g r l = some (((), ((), ((), ((), ())))), ((out g r l).1, ((out g r l).2.1, ((out g r l).2.2.1, ((out g r l).2.2.2, ()))))) := by
  unfold F11
  rw [grI hn hg hw hr]
  simp only [ats]
  by_cases h1 : (Vg g ∧ g.length ≤ 12) ∧ (Vr g.length r ∧ r.length ≤ 12)
  · rw [B_t h1, foI hn hl]
    simp only [ats, Bool.not_true, cf]
    by_cases h2 : Vf g.length l ∧ l.length ≤ 12
    · rw [B_t h2]
      simp only [ats, Bool.not_true, cf]
      have h : Good g r l := ⟨h1.1.1, h1.1.2, h1.2.1, h1.2.2, h2.1, h2.2⟩
      obtain ⟨a, b, c, d⟩ := h.sw
      rw [show out g r l = ((swp (mkR g r) l [] r).1, (swp (mkR g r) l [] r).2.1, ixl false (mkR g (swp (mkR g r) l [] r).2.1) 0, (swp (mkR g r) l [] r).2.2) by
        unfold out; rw [B_t ⟨h1.1, h1.2, h2⟩]; rfl]
      unfold F11_1
      rw [clS hr, clF hl, rchI hn h.g1 h.g2 h.r1 h.r2]
      simp only [ats]
      have key := fun k0 => swI_it (R := (Unit × (Unit × (Unit × (Unit × Unit)))) × (List Int × (List Int × (List Int × (List Fnl × Unit))))) (n := n) (g := g) (s := mkR g r) (k0 := k0) (by rw [mkR_len]; exact h.g2) n 0 [] r l h.l2 h.rng (by omega) (by simp) h.r2 (by have := h.l2; omega)
      simp only [List.drop_zero, List.take_zero, List.nil_append, show ((0 : Nat) : Int) = 0 from rfl] at key
      rw [key]
      rw [rchI hn h.g1 h.g2 c b]
      simp only [ats]
      rw [ixI hn (by rw [mkR_len]; omega)]
      rfl
    · rw [B_f h2]
      simp only [ats, Bool.not_false, ct]
      rw [show out g r l = ([], [], [], []) by unfold out; rw [B_f fun h => h2 h.2.2]; rfl]
  · rw [B_f h1]
    simp only [ats, Bool.not_false, ct]
    rw [show out g r l = ([], [], [], []) by unfold out; rw [B_f fun h => h1 ⟨h.1, h.2.1⟩]; rfl]
theorem swB {n : Nat} {g : List (List Int)} {r : List Int} {l : List Fnl} (hn : 4000000 ≤ n) (hg : g.length ≤ 1048576) (hw : ∀ j, j < g.length → (g.getD j []).length ≤ 1048576) (hr : r.length ≤ 1048576) (hl : l.length ≤ 1048576) :
    F7 n g r l = some (((out g r l).1, ((out g r l).2.1, ((out g r l).2.2.1, ((out g r l).2.2.2, ())))), ()) := by
  unfold F7
  rw [grS hn hg hw]
  simp only [ats]
  by_cases h1 : Vg g ∧ g.length ≤ 12
  · rw [B_t h1, roS hn hg hr]
    simp only [ats, Bool.not_true, cf]
    by_cases h3 : Vr g.length r ∧ r.length ≤ 12
    · rw [B_t h3, foS hn hg hl]
      simp only [ats, Bool.not_true, cf]
      by_cases h2 : Vf g.length l ∧ l.length ≤ 12
      · rw [B_t h2]
        simp only [ats, Bool.not_true, cf]
        have h : Good g r l := ⟨h1.1, h1.2, h3.1, h3.2, h2.1, h2.2⟩
        rw [show out g r l = ((swp (mkR g r) l [] r).1, (swp (mkR g r) l [] r).2.1, ixl false (mkR g (swp (mkR g r) l [] r).2.1) 0, (swp (mkR g r) l [] r).2.2) by
          unfold out; rw [B_t ⟨h1, h3, h2⟩]; rfl]
        rw [swS hn h]
        rfl
      · rw [B_f h2]
        simp only [ats, Bool.not_false, ct]
        rw [show out g r l = ([], [], [], []) by unfold out; rw [B_f fun h => h2 h.2.2]; rfl]
    · rw [B_f h3]
      simp only [ats, Bool.not_false, ct]
      rw [show out g r l = ([], [], [], []) by unfold out; rw [B_f fun h => h3 h.2.1]; rfl]
  · rw [B_f h1]
    simp only [ats, Bool.not_false, ct]
    rw [show out g r l = ([], [], [], []) by unfold out; rw [B_f fun h => h1 h.1]; rfl]
theorem out_len (g : List (List Int)) (r : List Int) (l : List Fnl) : (out g r l).1.length ≤ 12 ∧ (out g r l).2.1.length ≤ 12 ∧ (out g r l).2.2.1.length ≤ 12 ∧ (out g r l).2.2.2.length ≤ 12 := by
  by_cases h : (Vg g ∧ g.length ≤ 12) ∧ (Vr g.length r ∧ r.length ≤ 12) ∧ (Vf g.length l ∧ l.length ≤ 12)
  · have hh : Good g r l := ⟨h.1.1, h.1.2, h.2.1.1, h.2.1.2, h.2.2.1, h.2.2.2⟩
    obtain ⟨a, b, c, d⟩ := hh.sw
    rw [show out g r l = ((swp (mkR g r) l [] r).1, (swp (mkR g r) l [] r).2.1, ixl false (mkR g (swp (mkR g r) l [] r).2.1) 0, (swp (mkR g r) l [] r).2.2) by unfold out; rw [B_t h]; rfl]
    have := ixl_len false (mkR g (swp (mkR g r) l [] r).2.1) 0
    rw [mkR_len] at this
    have := hh.g2
    exact ⟨a, b, by show (ixl false (mkR g (swp (mkR g r) l [] r).2.1) 0).length ≤ 12; omega, d⟩
  · rw [show out g r l = ([], [], [], []) by unfold out; rw [B_f h]; rfl]
    exact ⟨by simp, by simp, by simp, by simp⟩
theorem law_lists {n : Nat} (hn : 4000000 ≤ n) {g : List (List Int)} {r : List Int} {l : List Fnl} (hg1 : g.length ≤ 9223372036854775807) (hr1 : r.length ≤ 9223372036854775807) (hl1 : l.length ≤ 9223372036854775807) (hw1 : ∀ j, j < g.length → (g.getD j []).length ≤ 9223372036854775807) : F3 n g r l = some (true, ()) := by
  unfold F3
  by_cases h1 : (r.length : Int) > 1048576
  · rw [bp h1]
  rw [bn h1]
  obtain ⟨x, x1, x2, x3⟩ := szSS hn hg1 hw1
  rw [x1]
  simp only [ats]
  by_cases h2 : x < 0
  · rw [bp h2]
  rw [bn h2]
  obtain ⟨y, y1, y2⟩ := szF (n := n) (a := l) (l := x) (by omega) (by omega) hl1
  rw [y1]
  simp only [ats]
  by_cases h3 : y < 0
  · rw [bp h3]
  rw [bn h3]
  obtain ⟨hg, hw⟩ := x3 (by omega)
  have hl := y2 (by omega)
  have hr : r.length ≤ 1048576 := by omega
  obtain ⟨o1, o2, o3, o4⟩ := out_len g r l
  have E := eqW (n := n) hn (a := (out g r l).1) (b := (out g r l).2.1) (c := (out g r l).2.2.1) (d := (out g r l).2.2.2) (by omega) (by omega) (by omega) (by omega)
  obtain ⟨m, m1, m2, m3⟩ := mkJJ hn hg hw
  obtain ⟨r', r1, r2, r3⟩ := mkS (n := n) (x := m) (l := r) hn m1 (by omega) hr
  obtain ⟨l', l1, l2, l3⟩ := mkF (n := n) (x := m + (r.length : Int)) (l := l) hn (by omega) (by omega) hl
  obtain ⟨q, q1, q2, q3⟩ := mkW (n := n) hn (a := (out g r l).1) (b := (out g r l).2.1) (c := (out g r l).2.2.1) (d := (out g r l).2.2.2) (by omega) (by omega) (by omega) (by omega)
  simp only [toSS hn hg hw, toV hn hr, toF hn hl, swB hn hg hw hr hl, swI hn hg hw hr hl, E, eqSS hn hg hw, eqS hn hr, eqF hn hl, m3, r3, l3, q1, q3, ats, Bool.not_true, cf]
  rw [bn (by omega), bn (by omega), nen rfl, bn (by omega), nen rfl]
theorem law_sweep {n : Nat} (hn : 4000000 ≤ n) {g : List (G.T 2)} {r : List (G.T 0)} {l : List (G.T 4)} (hg : SmV G (.imm 2 g)) (hr : SmV G (.imm 0 r)) (hl : SmV G (.imm 4 l)) : F3 n g r l = some (true, ()) := by
  refine law_lists hn hg.len hr.len hl.len fun j hj => ?_
  have hx : (g : List (G.T 2))[j]? = some (List.getD (α := List Int) g j []) := by
    rw [getD_lt hj]; exact List.getElem?_eq_getElem hj
  have h1 := hg.elt hx (j := 0) (d := .imm 0 (List.getD (α := List Int) g j [] : List (G.T 0))) rfl
  exact h1.len
theorem law_fin {n : Nat} (hn : 4000000 ≤ n) (y0 : Cd.den G.T (.imm 2)) (s0 : SmV G (Cd.enc (.imm 2) y0)) (y1 : Cd.den G.T (.imm 0)) (s1 : SmV G (Cd.enc (.imm 0) y1)) (y2 : Cd.den G.T (.imm 4)) (s2 : SmV G (Cd.enc (.imm 4) y2)) : F3 n y0 y1 y2 = some (true, ()) := law_sweep hn s0 s1 s2
end Go.Proofs.Ytfelakjmajooaaa.Am
