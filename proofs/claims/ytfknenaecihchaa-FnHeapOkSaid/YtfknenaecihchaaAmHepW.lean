/- Heaps, plainly: both tests of objects agree. -/
import Derived.Test.YtfknenaecihchaaAmHepV
namespace Go.Proofs.Ytfknenaecihchaa.Am
open Go
set_option autoImplicit false
set_option linter.unusedVariables false
set_option linter.unusedSimpArgs false
set_option maxRecDepth 10000

set_option maxHeartbeats 4000000 in
theorem obE {n : Nat} (hn : 3000000 ≤ n) {h : List Obj} {kd at_ : Int} {nm : ByteArray} {it ks vs : List Val} {ns : List ByteArray} (hh : h.length ≤ 1000) (hi : it.length ≤ 60) (hk : ks.length ≤ 60) (hs : ns.length ≤ 60) (hv : vs.length ≤ 60)
    (gi : ∀ x ∈ it, GV x) (gk : ∀ x ∈ ks, GV x) (gv : ∀ x ∈ vs, GV x) (gs : ∀ x ∈ ns, NM x) (gn : nm.size ≤ 1000) : ∃ w, F27 n h kd nm at_ it ks ns vs = some (w, ()) ∧ F55 n kd nm at_ it ks ns vs (h.length : Int) = some (w, ()) := by
  obtain ⟨i, i1, i2⟩ := vlE hn hh hi gi
  obtain ⟨k, k1, k2⟩ := vlE hn hh hk gk
  obtain ⟨v, v1, v2⟩ := vlE hn hh hv gv
  have d1 : ∀ (k0 : Bool → Option (Bool × Unit)) (k1 : List Obj → Int → ByteArray → Int → List Val → List Val → List ByteArray → List Val → Option (Bool × Unit)), F27_0 n ns ns.length 0 h kd nm at_ it ks ns vs k0 k1 = (bif B (Dst ns 0) then k1 h kd nm at_ it ks ns vs else k0 false) := fun k0 k1 => nmI_it hn hs n 0 (by omega) (by omega)
  have d2 : F84 n ns = some (B (Dst ns 0), ()) := by
    unfold F84 F84_0
    refine Eq.trans (nmS_it (R := Bool × Unit) (k0 := fun z => some (z, ())) (k1 := some (true, ())) hn hs gs n 0 (by omega) (by omega)) ?_
    cases B (Dst ns 0) <;> rfl
  obtain ⟨q, q1, q2⟩ := keE_it (R := Bool × Unit) (R' := Bool × Unit) hn (kd := kd) (at_ := at_) (nm := nm) (it := it) (l := ks) (vs := vs) (ns := ns) hk n 0 (by omega) (by omega)
  have q1' : ∀ (k0 : Bool → Option (Bool × Unit)) (k1 : Int → ByteArray → Int → List Val → List Val → List ByteArray → List Val → Option (Bool × Unit)), F27_2 n ks ks.length 0 kd nm at_ it ks ns vs k0 k1 = (bif q then k1 kd nm at_ it ks ns vs else k0 false) := q1
  have q2' : ∀ (k0 : Bool → Option (Bool × Unit)) (k1 : Int → ByteArray → Int → List Val → List Val → List ByteArray → List Val → Option (Bool × Unit)), F55_1 n 0 kd nm at_ it ks ns vs k0 k1 = (bif q then k1 kd nm at_ it ks ns vs else k0 false) := q2
  have x1 : F49 n nm = some (B (NM nm), ()) := nameI hn
  have x2 : F85 n nm = some (B (NM nm), ()) := nameS hn (by omega)
  have l1 : decide (((it.length : Nat) : Int) > 60) = false := decide_eq_false (by omega)
  have l2 : decide (((ks.length : Nat) : Int) > 60) = false := decide_eq_false (by omega)
  have l3 : decide (((vs.length : Nat) : Int) > 60) = false := decide_eq_false (by omega)
  have ws := wsum hi hk
  unfold F27 F55
  simp only [i1, i2, k1, k2, v1, v2, d1, d2, x1, x2, l1, l2, l3, rangeI, rangeS, ats, cf, emp, F27_3, F27_1, F55_2, F55_0, q1', q2', ws]
  clear i1 i2 k1 k2 v1 v2 d1 d2 q1 q2 q1' q2' x1 x2 l1 l2 l3 ws gi gk gv gs
  generalize B (Dst ns 0) = d
  generalize B (NM nm) = x
  generalize decide (nm.size = 0) = e
  generalize (nm.toList == ({ data := #[108, 97, 109, 98, 100, 97] } : ByteArray).toList) = lam
  generalize decide (0 ≤ at_ ∧ at_ ≤ 1000000) = ar
  generalize (at_ == (0 : Int)) = az
  generalize decide (at_ < ((h.length : Nat) : Int)) = al
  generalize (((ns.length : Nat) : Int) != ((vs.length : Nat) : Int)) = nl
  generalize decide (((ns.length : Nat) : Int) > 0) = np
  generalize (((ks.length : Nat) : Int) == (0 : Int)) = ke
  generalize (((it.length : Nat) : Int) == (0 : Int)) = ie
  generalize (((ks.length : Nat) : Int) == ((it.length : Nat) : Int)) = ki
  generalize decide (((it.length : Nat) : Int) ≤ 1) = i1
  cases i
  case false =>
    cases decide (0 ≤ kd ∧ kd ≤ 10) <;> exact ⟨false, rfl, rfl⟩
  cases k
  case false =>
    cases decide (0 ≤ kd ∧ kd ≤ 10) <;> exact ⟨false, rfl, rfl⟩
  cases v
  case false =>
    cases decide (0 ≤ kd ∧ kd ≤ 10) <;> exact ⟨false, rfl, rfl⟩
  cases nl
  case true =>
    cases decide (0 ≤ kd ∧ kd ≤ 10) <;> exact ⟨false, rfl, rfl⟩
  simp only [ct, cf, Bool.not_true]
  cases d
  case false =>
    cases decide (0 ≤ kd ∧ kd ≤ 10) <;> cases ar <;> exact ⟨false, rfl, rfl⟩
  simp only [ct, cf, Bool.not_true]
  by_cases c0 : kd = 0
  · have b : decide (0 ≤ kd ∧ kd ≤ 10) = true := decide_eq_true (by omega)
    have b0 : (kd == (0 : Int)) = true := by rw [c0]; rfl
    have b1 : (kd == (1 : Int)) = false := by rw [c0]; rfl
    have a1 : (kd != (1 : Int)) = true := by rw [c0]; rfl
    have b2 : (kd == (2 : Int)) = false := by rw [c0]; rfl
    have b3 : (kd == (3 : Int)) = false := by rw [c0]; rfl
    have b4 : (kd == (4 : Int)) = false := by rw [c0]; rfl
    have b5 : (kd == (5 : Int)) = false := by rw [c0]; rfl
    have a5 : (kd != (5 : Int)) = true := by rw [c0]; rfl
    have b6 : (kd == (6 : Int)) = false := by rw [c0]; rfl
    have a6 : (kd != (6 : Int)) = true := by rw [c0]; rfl
    have b7 : (kd == (7 : Int)) = false := by rw [c0]; rfl
    have b8 : (kd == (8 : Int)) = false := by rw [c0]; rfl
    have b9 : (kd == (9 : Int)) = false := by rw [c0]; rfl
    have b10 : (kd == (10 : Int)) = false := by rw [c0]; rfl
    simp only [b, b0, b1, b2, b3, b4, b5, b6, b7, b8, b9, b10, a1, a5, a6, ct, cf, Bool.not_true, Bool.not_false]
    cases ar <;> cases np <;> cases e <;> cases x <;> cases lam <;> cases ke <;> cases ie <;> exact ⟨_, rfl, rfl⟩
  by_cases c1 : kd = 1
  · have b : decide (0 ≤ kd ∧ kd ≤ 10) = true := decide_eq_true (by omega)
    have b0 : (kd == (0 : Int)) = false := by rw [c1]; rfl
    have b1 : (kd == (1 : Int)) = true := by rw [c1]; rfl
    have a1 : (kd != (1 : Int)) = false := by rw [c1]; rfl
    have b2 : (kd == (2 : Int)) = false := by rw [c1]; rfl
    have b3 : (kd == (3 : Int)) = false := by rw [c1]; rfl
    have b4 : (kd == (4 : Int)) = false := by rw [c1]; rfl
    have b5 : (kd == (5 : Int)) = false := by rw [c1]; rfl
    have a5 : (kd != (5 : Int)) = true := by rw [c1]; rfl
    have b6 : (kd == (6 : Int)) = false := by rw [c1]; rfl
    have a6 : (kd != (6 : Int)) = true := by rw [c1]; rfl
    have b7 : (kd == (7 : Int)) = false := by rw [c1]; rfl
    have b8 : (kd == (8 : Int)) = false := by rw [c1]; rfl
    have b9 : (kd == (9 : Int)) = false := by rw [c1]; rfl
    have b10 : (kd == (10 : Int)) = false := by rw [c1]; rfl
    simp only [b, b0, b1, b2, b3, b4, b5, b6, b7, b8, b9, b10, a1, a5, a6, ct, cf, Bool.not_true, Bool.not_false]
    cases ar <;> cases np <;> cases e <;> cases x <;> cases lam <;> cases ke <;> exact ⟨_, rfl, rfl⟩
  by_cases c2 : kd = 2
  · have b : decide (0 ≤ kd ∧ kd ≤ 10) = true := decide_eq_true (by omega)
    have b0 : (kd == (0 : Int)) = false := by rw [c2]; rfl
    have b1 : (kd == (1 : Int)) = false := by rw [c2]; rfl
    have a1 : (kd != (1 : Int)) = true := by rw [c2]; rfl
    have b2 : (kd == (2 : Int)) = true := by rw [c2]; rfl
    have b3 : (kd == (3 : Int)) = false := by rw [c2]; rfl
    have b4 : (kd == (4 : Int)) = false := by rw [c2]; rfl
    have b5 : (kd == (5 : Int)) = false := by rw [c2]; rfl
    have a5 : (kd != (5 : Int)) = true := by rw [c2]; rfl
    have b6 : (kd == (6 : Int)) = false := by rw [c2]; rfl
    have a6 : (kd != (6 : Int)) = true := by rw [c2]; rfl
    have b7 : (kd == (7 : Int)) = false := by rw [c2]; rfl
    have b8 : (kd == (8 : Int)) = false := by rw [c2]; rfl
    have b9 : (kd == (9 : Int)) = false := by rw [c2]; rfl
    have b10 : (kd == (10 : Int)) = false := by rw [c2]; rfl
    simp only [b, b0, b1, b2, b3, b4, b5, b6, b7, b8, b9, b10, a1, a5, a6, ct, cf, Bool.not_true, Bool.not_false]
    cases ar <;> cases np <;> cases e <;> cases x <;> cases lam <;> cases q <;> cases ki <;> exact ⟨_, rfl, rfl⟩
  by_cases c3 : kd = 3
  · have b : decide (0 ≤ kd ∧ kd ≤ 10) = true := decide_eq_true (by omega)
    have b0 : (kd == (0 : Int)) = false := by rw [c3]; rfl
    have b1 : (kd == (1 : Int)) = false := by rw [c3]; rfl
    have a1 : (kd != (1 : Int)) = true := by rw [c3]; rfl
    have b2 : (kd == (2 : Int)) = false := by rw [c3]; rfl
    have b3 : (kd == (3 : Int)) = true := by rw [c3]; rfl
    have b4 : (kd == (4 : Int)) = false := by rw [c3]; rfl
    have b5 : (kd == (5 : Int)) = false := by rw [c3]; rfl
    have a5 : (kd != (5 : Int)) = true := by rw [c3]; rfl
    have b6 : (kd == (6 : Int)) = false := by rw [c3]; rfl
    have a6 : (kd != (6 : Int)) = true := by rw [c3]; rfl
    have b7 : (kd == (7 : Int)) = false := by rw [c3]; rfl
    have b8 : (kd == (8 : Int)) = false := by rw [c3]; rfl
    have b9 : (kd == (9 : Int)) = false := by rw [c3]; rfl
    have b10 : (kd == (10 : Int)) = false := by rw [c3]; rfl
    simp only [b, b0, b1, b2, b3, b4, b5, b6, b7, b8, b9, b10, a1, a5, a6, ct, cf, Bool.not_true, Bool.not_false]
    cases ar <;> cases np <;> cases e <;> cases x <;> cases lam <;> exact ⟨_, rfl, rfl⟩
  by_cases c4 : kd = 4
  · have b : decide (0 ≤ kd ∧ kd ≤ 10) = true := decide_eq_true (by omega)
    have b0 : (kd == (0 : Int)) = false := by rw [c4]; rfl
    have b1 : (kd == (1 : Int)) = false := by rw [c4]; rfl
    have a1 : (kd != (1 : Int)) = true := by rw [c4]; rfl
    have b2 : (kd == (2 : Int)) = false := by rw [c4]; rfl
    have b3 : (kd == (3 : Int)) = false := by rw [c4]; rfl
    have b4 : (kd == (4 : Int)) = true := by rw [c4]; rfl
    have b5 : (kd == (5 : Int)) = false := by rw [c4]; rfl
    have a5 : (kd != (5 : Int)) = true := by rw [c4]; rfl
    have b6 : (kd == (6 : Int)) = false := by rw [c4]; rfl
    have a6 : (kd != (6 : Int)) = true := by rw [c4]; rfl
    have b7 : (kd == (7 : Int)) = false := by rw [c4]; rfl
    have b8 : (kd == (8 : Int)) = false := by rw [c4]; rfl
    have b9 : (kd == (9 : Int)) = false := by rw [c4]; rfl
    have b10 : (kd == (10 : Int)) = false := by rw [c4]; rfl
    simp only [b, b0, b1, b2, b3, b4, b5, b6, b7, b8, b9, b10, a1, a5, a6, ct, cf, Bool.not_true, Bool.not_false]
    cases ar <;> cases np <;> cases e <;> cases x <;> cases lam <;> cases i1 <;> cases ke <;> exact ⟨_, rfl, rfl⟩
  by_cases c5 : kd = 5
  · have b : decide (0 ≤ kd ∧ kd ≤ 10) = true := decide_eq_true (by omega)
    have b0 : (kd == (0 : Int)) = false := by rw [c5]; rfl
    have b1 : (kd == (1 : Int)) = false := by rw [c5]; rfl
    have a1 : (kd != (1 : Int)) = true := by rw [c5]; rfl
    have b2 : (kd == (2 : Int)) = false := by rw [c5]; rfl
    have b3 : (kd == (3 : Int)) = false := by rw [c5]; rfl
    have b4 : (kd == (4 : Int)) = false := by rw [c5]; rfl
    have b5 : (kd == (5 : Int)) = true := by rw [c5]; rfl
    have a5 : (kd != (5 : Int)) = false := by rw [c5]; rfl
    have b6 : (kd == (6 : Int)) = false := by rw [c5]; rfl
    have a6 : (kd != (6 : Int)) = true := by rw [c5]; rfl
    have b7 : (kd == (7 : Int)) = false := by rw [c5]; rfl
    have b8 : (kd == (8 : Int)) = false := by rw [c5]; rfl
    have b9 : (kd == (9 : Int)) = false := by rw [c5]; rfl
    have b10 : (kd == (10 : Int)) = false := by rw [c5]; rfl
    simp only [b, b0, b1, b2, b3, b4, b5, b6, b7, b8, b9, b10, a1, a5, a6, ct, cf, Bool.not_true, Bool.not_false]
    cases ar <;> cases np <;> cases e <;> cases x <;> cases lam <;> exact ⟨_, rfl, rfl⟩
  by_cases c6 : kd = 6
  · have b : decide (0 ≤ kd ∧ kd ≤ 10) = true := decide_eq_true (by omega)
    have b0 : (kd == (0 : Int)) = false := by rw [c6]; rfl
    have b1 : (kd == (1 : Int)) = false := by rw [c6]; rfl
    have a1 : (kd != (1 : Int)) = true := by rw [c6]; rfl
    have b2 : (kd == (2 : Int)) = false := by rw [c6]; rfl
    have b3 : (kd == (3 : Int)) = false := by rw [c6]; rfl
    have b4 : (kd == (4 : Int)) = false := by rw [c6]; rfl
    have b5 : (kd == (5 : Int)) = false := by rw [c6]; rfl
    have a5 : (kd != (5 : Int)) = true := by rw [c6]; rfl
    have b6 : (kd == (6 : Int)) = true := by rw [c6]; rfl
    have a6 : (kd != (6 : Int)) = false := by rw [c6]; rfl
    have b7 : (kd == (7 : Int)) = false := by rw [c6]; rfl
    have b8 : (kd == (8 : Int)) = false := by rw [c6]; rfl
    have b9 : (kd == (9 : Int)) = false := by rw [c6]; rfl
    have b10 : (kd == (10 : Int)) = false := by rw [c6]; rfl
    simp only [b, b0, b1, b2, b3, b4, b5, b6, b7, b8, b9, b10, a1, a5, a6, ct, cf, Bool.not_true, Bool.not_false]
    cases ar <;> cases np <;> cases e <;> cases x <;> cases lam <;> cases ke <;> cases ie <;> exact ⟨_, rfl, rfl⟩
  by_cases c7 : kd = 7
  · have b : decide (0 ≤ kd ∧ kd ≤ 10) = true := decide_eq_true (by omega)
    have b0 : (kd == (0 : Int)) = false := by rw [c7]; rfl
    have b1 : (kd == (1 : Int)) = false := by rw [c7]; rfl
    have a1 : (kd != (1 : Int)) = true := by rw [c7]; rfl
    have b2 : (kd == (2 : Int)) = false := by rw [c7]; rfl
    have b3 : (kd == (3 : Int)) = false := by rw [c7]; rfl
    have b4 : (kd == (4 : Int)) = false := by rw [c7]; rfl
    have b5 : (kd == (5 : Int)) = false := by rw [c7]; rfl
    have a5 : (kd != (5 : Int)) = true := by rw [c7]; rfl
    have b6 : (kd == (6 : Int)) = false := by rw [c7]; rfl
    have a6 : (kd != (6 : Int)) = true := by rw [c7]; rfl
    have b7 : (kd == (7 : Int)) = true := by rw [c7]; rfl
    have b8 : (kd == (8 : Int)) = false := by rw [c7]; rfl
    have b9 : (kd == (9 : Int)) = false := by rw [c7]; rfl
    have b10 : (kd == (10 : Int)) = false := by rw [c7]; rfl
    simp only [b, b0, b1, b2, b3, b4, b5, b6, b7, b8, b9, b10, a1, a5, a6, ct, cf, Bool.not_true, Bool.not_false]
    cases ar <;> cases np <;> cases e <;> cases x <;> cases lam <;> cases ke <;> exact ⟨_, rfl, rfl⟩
  by_cases c8 : kd = 8
  · have b : decide (0 ≤ kd ∧ kd ≤ 10) = true := decide_eq_true (by omega)
    have b0 : (kd == (0 : Int)) = false := by rw [c8]; rfl
    have b1 : (kd == (1 : Int)) = false := by rw [c8]; rfl
    have a1 : (kd != (1 : Int)) = true := by rw [c8]; rfl
    have b2 : (kd == (2 : Int)) = false := by rw [c8]; rfl
    have b3 : (kd == (3 : Int)) = false := by rw [c8]; rfl
    have b4 : (kd == (4 : Int)) = false := by rw [c8]; rfl
    have b5 : (kd == (5 : Int)) = false := by rw [c8]; rfl
    have a5 : (kd != (5 : Int)) = true := by rw [c8]; rfl
    have b6 : (kd == (6 : Int)) = false := by rw [c8]; rfl
    have a6 : (kd != (6 : Int)) = true := by rw [c8]; rfl
    have b7 : (kd == (7 : Int)) = false := by rw [c8]; rfl
    have b8 : (kd == (8 : Int)) = true := by rw [c8]; rfl
    have b9 : (kd == (9 : Int)) = false := by rw [c8]; rfl
    have b10 : (kd == (10 : Int)) = false := by rw [c8]; rfl
    simp only [b, b0, b1, b2, b3, b4, b5, b6, b7, b8, b9, b10, a1, a5, a6, ct, cf, Bool.not_true, Bool.not_false]
    cases ar <;> cases np <;> cases e <;> cases x <;> cases lam <;> cases ke <;> exact ⟨_, rfl, rfl⟩
  by_cases c9 : kd = 9
  · have b : decide (0 ≤ kd ∧ kd ≤ 10) = true := decide_eq_true (by omega)
    have b0 : (kd == (0 : Int)) = false := by rw [c9]; rfl
    have b1 : (kd == (1 : Int)) = false := by rw [c9]; rfl
    have a1 : (kd != (1 : Int)) = true := by rw [c9]; rfl
    have b2 : (kd == (2 : Int)) = false := by rw [c9]; rfl
    have b3 : (kd == (3 : Int)) = false := by rw [c9]; rfl
    have b4 : (kd == (4 : Int)) = false := by rw [c9]; rfl
    have b5 : (kd == (5 : Int)) = false := by rw [c9]; rfl
    have a5 : (kd != (5 : Int)) = true := by rw [c9]; rfl
    have b6 : (kd == (6 : Int)) = false := by rw [c9]; rfl
    have a6 : (kd != (6 : Int)) = true := by rw [c9]; rfl
    have b7 : (kd == (7 : Int)) = false := by rw [c9]; rfl
    have b8 : (kd == (8 : Int)) = false := by rw [c9]; rfl
    have b9 : (kd == (9 : Int)) = true := by rw [c9]; rfl
    have b10 : (kd == (10 : Int)) = false := by rw [c9]; rfl
    simp only [b, b0, b1, b2, b3, b4, b5, b6, b7, b8, b9, b10, a1, a5, a6, ct, cf, Bool.not_true, Bool.not_false]
    cases ar <;> cases np <;> cases e <;> cases x <;> cases lam <;> exact ⟨_, rfl, rfl⟩
  by_cases c10 : kd = 10
  · have b : decide (0 ≤ kd ∧ kd ≤ 10) = true := decide_eq_true (by omega)
    have b0 : (kd == (0 : Int)) = false := by rw [c10]; rfl
    have b1 : (kd == (1 : Int)) = false := by rw [c10]; rfl
    have a1 : (kd != (1 : Int)) = true := by rw [c10]; rfl
    have b2 : (kd == (2 : Int)) = false := by rw [c10]; rfl
    have b3 : (kd == (3 : Int)) = false := by rw [c10]; rfl
    have b4 : (kd == (4 : Int)) = false := by rw [c10]; rfl
    have b5 : (kd == (5 : Int)) = false := by rw [c10]; rfl
    have a5 : (kd != (5 : Int)) = true := by rw [c10]; rfl
    have b6 : (kd == (6 : Int)) = false := by rw [c10]; rfl
    have a6 : (kd != (6 : Int)) = true := by rw [c10]; rfl
    have b7 : (kd == (7 : Int)) = false := by rw [c10]; rfl
    have b8 : (kd == (8 : Int)) = false := by rw [c10]; rfl
    have b9 : (kd == (9 : Int)) = false := by rw [c10]; rfl
    have b10 : (kd == (10 : Int)) = true := by rw [c10]; rfl
    simp only [b, b0, b1, b2, b3, b4, b5, b6, b7, b8, b9, b10, a1, a5, a6, ct, cf, Bool.not_true, Bool.not_false]
    cases ar <;> cases np <;> cases e <;> cases x <;> cases lam <;> exact ⟨_, rfl, rfl⟩
  have b : decide (0 ≤ kd ∧ kd ≤ 10) = false := decide_eq_false (by omega)
  have b0 : (kd == (0 : Int)) = false := beq_eq_false_iff_ne.2 c0
  have b1 : (kd == (1 : Int)) = false := beq_eq_false_iff_ne.2 c1
  have b2 : (kd == (2 : Int)) = false := beq_eq_false_iff_ne.2 c2
  have b3 : (kd == (3 : Int)) = false := beq_eq_false_iff_ne.2 c3
  have b4 : (kd == (4 : Int)) = false := beq_eq_false_iff_ne.2 c4
  have b5 : (kd == (5 : Int)) = false := beq_eq_false_iff_ne.2 c5
  have b6 : (kd == (6 : Int)) = false := beq_eq_false_iff_ne.2 c6
  have b7 : (kd == (7 : Int)) = false := beq_eq_false_iff_ne.2 c7
  have b8 : (kd == (8 : Int)) = false := beq_eq_false_iff_ne.2 c8
  have b9 : (kd == (9 : Int)) = false := beq_eq_false_iff_ne.2 c9
  have b10 : (kd == (10 : Int)) = false := beq_eq_false_iff_ne.2 c10
  simp only [b, b0, b1, b2, b3, b4, b5, b6, b7, b8, b9, b10, ct, cf, Bool.not_true, Bool.not_false]
  cases ar <;> cases np <;> cases e <;> exact ⟨_, rfl, rfl⟩
end Go.Proofs.Ytfknenaecihchaa.Am
