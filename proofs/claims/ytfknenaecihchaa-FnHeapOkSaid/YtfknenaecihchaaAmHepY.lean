/- The drawing of heaps, whole; the law. -/
import Derived.Test.YtfknenaecihchaaAmHepE
namespace Go.Proofs.Ytfknenaecihchaa.Am
open Go
set_option autoImplicit false
set_option linter.unusedVariables false
set_option linter.unusedSimpArgs false
set_option maxRecDepth 10000

def AG (h : List Obj) : Prop := ∀ o ∈ h, GO o
theorem AG.at {h : List Obj} (g : AG h) : ∀ j, j < h.length → GO (h.getD j o0) := fun j hj => g _ (getD_mem o0 hj)
theorem ag_app {h : List Obj} {o : Obj} (g : AG h) (go : GO o) : AG (h ++ [o]) := all_app g go
theorem gv_ref (x : Int) : GV (Val.mk 4 ⟨#[]⟩ x) := by show (0 : Nat) ≤ 1000; omega
-- the first objects ---------------------------------------------------------------------------------------------------------------------------------
theorem base5_it {R : Type} {n : Nat} {l : List ByteArray} {z : List Obj} {k0 : List Obj → List Obj → Option R} (hl : l.length ≤ 100) (hs : ∀ s ∈ l, s.size ≤ 1000) : ∀ (fuel i : Nat) (acc : List Obj), acc.length ≤ i → AG acc → i ≤ l.length → l.length + 1 ≤ fuel + i →
    ∃ acc', acc'.length = acc.length + (l.length - i) ∧ AG acc' ∧ F26_2_it n k0 fuel l i z acc = k0 z acc'
  | fuel, i, acc, ha, ga, hi, hf => by
    obtain ⟨f, rfl⟩ : ∃ f, fuel = f + 1 := ⟨fuel - 1, by omega⟩
    simp only [F26_2_it, F26_2_step, F26_1, F26_0, F45, ats]
    by_cases g : i < l.length
    · have hn := hs _ (getD_mem (⟨#[]⟩ : ByteArray) g)
      rw [bp (by omega), bp (by omega), bp (by omega)]
      simp only [e0]
      by_cases h0 : (i : Int) > 0
      · rw [bp h0, bp (by simp only [List.length_cons, List.length_nil]; omega), bp (by simp only [List.length_cons, List.length_nil]; omega), wp (by omega), e1]
        obtain ⟨acc', l1, g1, e⟩ := base5_it (n := n) (z := z) (k0 := k0) hl hs f (i + 1) (acc ++ [Obj.mk 5 (l.getD i ⟨#[]⟩) 0 ([Val.mk 4 ⟨#[]⟩ i] ++ [Val.mk 4 ⟨#[]⟩ 0]) [Val.mk 4 ⟨#[]⟩ 0] [] []]) (by simp only [List.length_append, List.length_cons, List.length_nil]; omega) (ag_app ga ⟨by simp, by simp, by simp, by simp, fun x hx => by
          simp only [List.cons_append, List.nil_append, List.mem_cons, List.not_mem_nil, or_false] at hx
          rcases hx with rfl | rfl <;> exact gv_ref _, fun x hx => by
          simp only [List.mem_cons, List.not_mem_nil, or_false] at hx
          subst hx; exact gv_ref _, fun x hx => by simp at hx, fun x hx => by simp at hx, hn⟩) (by omega) (by omega)
        exact ⟨acc', by rw [l1]; simp only [List.length_append, List.length_cons, List.length_nil]; omega, g1, e⟩
      · rw [bn h0, bp (by simp only [List.length_cons, List.length_nil]; omega), wp (by omega), e1]
        obtain ⟨acc', l1, g1, e⟩ := base5_it (n := n) (z := z) (k0 := k0) hl hs f (i + 1) (acc ++ [Obj.mk 5 (l.getD i ⟨#[]⟩) 0 [Val.mk 4 ⟨#[]⟩ i] [] [] []]) (by simp only [List.length_append, List.length_cons, List.length_nil]; omega) (ag_app ga ⟨by simp, by simp, by simp, by simp, fun x hx => by
          simp only [List.mem_cons, List.not_mem_nil, or_false] at hx
          subst hx; exact gv_ref _, fun x hx => by simp at hx, fun x hx => by simp at hx, fun x hx => by simp at hx, hn⟩) (by omega) (by omega)
        exact ⟨acc', by rw [l1]; simp only [List.length_append, List.length_cons, List.length_nil]; omega, g1, e⟩
    · rw [bn (by omega)]
      exact ⟨acc, by omega, ga, rfl⟩
theorem base10_it {R : Type} {n : Nat} {l : List ByteArray} {z : List Obj} {k0 : List Obj → List Obj → Option R} (hl : l.length ≤ 100) (hs : ∀ s ∈ l, s.size ≤ 1000) : ∀ (fuel i : Nat) (acc : List Obj), acc.length ≤ 100 + i → AG acc → i ≤ l.length → l.length + 1 ≤ fuel + i →
    ∃ acc', acc'.length = acc.length + (l.length - i) ∧ AG acc' ∧ F26_3_it n k0 fuel l i z acc = k0 z acc'
  | fuel, i, acc, ha, ga, hi, hf => by
    obtain ⟨f, rfl⟩ : ∃ f, fuel = f + 1 := ⟨fuel - 1, by omega⟩
    simp only [F26_3_it, F26_3_step]
    by_cases g : i < l.length
    · have hn := hs _ (getD_mem (⟨#[]⟩ : ByteArray) g)
      rw [bp (by omega), bp (by omega), bp (by omega)]
      simp only [e0]
      rw [bp (by simp only [List.length_cons, List.length_nil]; omega), wp (by omega), e1]
      obtain ⟨acc', l1, g1, e⟩ := base10_it (n := n) (z := z) (k0 := k0) hl hs f (i + 1) (acc ++ [Obj.mk 10 (l.getD i ⟨#[]⟩) 0 [] [] [] []]) (by simp only [List.length_append, List.length_cons, List.length_nil]; omega) (ag_app ga ⟨by simp, by simp, by simp, by simp, fun x hx => by simp at hx, fun x hx => by simp at hx, fun x hx => by simp at hx, fun x hx => by simp at hx, hn⟩) (by omega) (by omega)
      exact ⟨acc', by rw [l1]; simp only [List.length_append, List.length_cons, List.length_nil]; omega, g1, e⟩
    · rw [bn (by omega)]
      exact ⟨acc, by omega, ga, rfl⟩
theorem base {n : Nat} (hn : 4000000 ≤ n) : ∃ h, F26 n = some (((), ()), (h, ())) ∧ h.length = 19 ∧ AG h := by
  unfold F26 F44 F46 F26_2 F26_3
  simp only [ats]
  generalize hl : (({ data := #[69, 114, 114, 111, 114] } : ByteArray) :: _) = l
  have l1 : l.length = 13 := by rw [← hl]; rfl
  have l2 : ∀ s ∈ l, s.size ≤ 1000 := by rw [← hl]; decide
  generalize hm : (({ data := #[112, 114, 105, 110, 116] } : ByteArray) :: _) = m
  have m1 : m.length = 6 := by rw [← hm]; rfl
  have m2 : ∀ s ∈ m, s.size ≤ 1000 := by rw [← hm]; decide
  obtain ⟨a, a1, a2, a3⟩ := base5_it (R := (Unit × Unit) × (List Obj × Unit)) (n := n) (l := l) (z := []) (k0 := fun z144 z145 => F26_3_it n (fun z159 z160 => some (((), ()), (z160, ()))) n m (0 : Int) z144 z145) (by omega) l2 n 0 [] (by simp) (fun o ho => by simp at ho) (by omega) (by omega)
  rw [show ((0 : Nat) : Int) = 0 from rfl] at a3
  rw [a3]
  have a1' : a.length = 13 := by rw [a1]; simp; omega
  obtain ⟨b, b1, b2, b3⟩ := base10_it (R := (Unit × Unit) × (List Obj × Unit)) (n := n) (l := m) (z := []) (k0 := fun z159 z160 => some (((), ()), (z160, ()))) (by omega) m2 n 0 a (by omega) a2 (by omega) (by omega)
  rw [show ((0 : Nat) : Int) = 0 from rfl] at b3
  exact ⟨b, b3, by omega, b2⟩
-- the others -------------------------------------------------------------------------------------------------------------------------------------------
theorem loop0 {R : Type} {n : Nat} {c : List Int} {x1 x4 x6 : Int} {x5 : ByteArray} {w : List Obj} {k0 : Int → List Int → Int → Int → ByteArray → Int → List Obj → List Obj → Option R} (hn : 4000000 ≤ n) : ∀ (d fuel m : Nat) (a b : Int) (h : List Obj), m + d ≤ 10 → d < fuel → Inv c a b → b + d ≤ 1000 → h.length = 19 + m → AG h → (∀ j, 19 ≤ j → j < h.length → GE (h.getD j o0)) →
    ∃ a' h', Inv c a' (b + d) ∧ h'.length = 19 + m + d ∧ AG h' ∧ (∀ j, 19 ≤ j → j < h'.length → GE (h'.getD j o0)) ∧ F38_0_it n k0 fuel x1 (m + d : Nat) m c a x4 x5 x6 w h = k0 x1 c a' x4 x5 x6 w h'
  | 0, fuel, m, a, b, h, hm, hf, hv, hb, hl, ga, ge => by
    obtain ⟨f, rfl⟩ : ∃ f, fuel = f + 1 := ⟨fuel - 1, by omega⟩
    simp only [F38_0_it, F38_0_step]
    rw [bn (by omega)]
    exact ⟨a, h, hv.mono (by omega), by omega, ga, ge, rfl⟩
  | d + 1, fuel, m, a, b, h, hm, hf, hv, hb, hl, ga, ge => by
    obtain ⟨f, rfl⟩ : ∃ f, fuel = f + 1 := ⟨fuel - 1, by omega⟩
    simp only [F38_0_it, F38_0_step]
    rw [bp (by omega)]
    obtain ⟨s, a1, e, m1, h1⟩ := one_ok (n := n) (l := ((1 : Int) :: ((1 : Int) :: ((2 : Int) :: ((6 : Int) :: ((4 : Int) :: ((7 : Int) :: ((8 : Int) :: [])))))))) hv (by omega) (by simp)
    rw [e]; simp only [ats]
    rw [bp (by simp only [List.length_cons, List.length_nil]; omega), wp (by omega), e1]
    obtain ⟨a2, h2, i2, l2, g2, q2, e2⟩ := loop0 (k0 := k0) (x1 := x1) (x4 := x4) (x6 := x6) (x5 := x5) (w := w) hn d f (m + 1) a1 (b + 1) (h ++ [Obj.mk s ⟨#[]⟩ 0 [] [] [] []]) (by omega) (by omega) h1 (by omega) (by simp only [List.length_append, List.length_cons, List.length_nil]; omega) (ag_app ga ⟨by simp, by simp, by simp, by simp, fun x hx => by simp at hx, fun x hx => by simp at hx, fun x hx => by simp at hx, fun x hx => by simp at hx, by show (0 : Nat) ≤ 1000; omega⟩) (fun j j1 j2 => by
      by_cases g : j < h.length
      · have : (h ++ [Obj.mk s ⟨#[]⟩ 0 [] [] [] []]).getD j o0 = h.getD j o0 := by simp [List.getD, List.getElem?_append_left g]
        rw [this]; exact ge j j1 g
      · have hj : j = h.length := by simp only [List.length_append, List.length_cons, List.length_nil] at j2; omega
        have : (h ++ [Obj.mk s ⟨#[]⟩ 0 [] [] [] []]).getD j o0 = Obj.mk s ⟨#[]⟩ 0 [] [] [] [] := by rw [hj]; simp [List.getD]
        rw [this]; exact ⟨rfl, rfl, rfl, rfl, by show (0 : Nat) ≤ 1000; omega⟩)
    refine ⟨a2, h2, i2.mono (by omega), by omega, g2, q2, ?_⟩
    rw [← e2, show m + (d + 1) = m + 1 + d by omega]
theorem ag_set {h : List Obj} {i : Nat} {o : Obj} (g : ∀ j, j < h.length → GO (h.getD j o0)) (go : GO o) : ∀ j, j < (h.set i o).length → GO ((h.set i o).getD j o0) := fun j hj => by
  rw [List.length_set] at hj
  by_cases hi : i < h.length
  · rw [getD_set' hi]
    by_cases e : i = j
    · rw [if_pos e]; exact go
    · rw [if_neg e]; exact g j hj
  · rw [List.set_eq_of_length_le (by omega)]; exact g j hj
theorem six {R : Type} {n : Nat} {c : List Int} {a b x4 x6 : Int} {x5 : ByteArray} {w h : List Obj} {k0 : List Int → Int → Int → ByteArray → Int → List Obj → List Obj → Option R} (hv : Inv c a b) (hb : b ≤ 50000) (hl : 19 ≤ h.length) (go : ∀ j, j < h.length → GO (h.getD j o0)) :
    ∃ a' h', Inv c a' (b + 10) ∧ h'.length = h.length ∧ (∀ j, j < h'.length → GO (h'.getD j o0)) ∧ F38_6 n c a x4 x5 x6 w h k0 = k0 c a' x4 x5 x6 w h' := by
  unfold F38_6
  obtain ⟨r, a1, e, -, -, h1⟩ := pick (n := n) (m := 14) hv (by omega)
  rw [e]; simp only [ats]
  by_cases z : r = 0
  · rw [eqp z]
    obtain ⟨q, a2, e2, q1, q2, h2⟩ := pick (n := n) (m := (h.length : Int)) h1 (by omega)
    rw [e2]; simp only [ats]
    obtain ⟨s, a3, e3, h3⟩ := odd_ok (n := n) h2 (by omega)
    rw [e3]; simp only [ats]
    rw [bp q1, bp (by omega)]
    have hg := go q.toNat (by omega)
    exact ⟨a3, h.set q.toNat (Obj.mk (h.getD q.toNat o0).kind (h.getD q.toNat o0).name s (h.getD q.toNat o0).items (h.getD q.toNat o0).keys (h.getD q.toNat o0).names (h.getD q.toNat o0).vals), h3.mono (by omega), List.length_set, ag_set go ⟨hg.i, hg.k, hg.s, hg.v, hg.gi, hg.gk, hg.gv, hg.gs, hg.nm⟩, rfl⟩
  · rw [eqn z]
    exact ⟨a1, h, h1.mono (by omega), rfl, go, rfl⟩
theorem seven {R : Type} {n : Nat} {c : List Int} {a b x4 x6 : Int} {x5 : ByteArray} {w h : List Obj} {k0 : List Int → Int → Int → ByteArray → Int → List Obj → List Obj → Option R} (hv : Inv c a b) (hb : b ≤ 50000) (hl : 19 ≤ h.length) (go : ∀ j, j < h.length → GO (h.getD j o0)) :
    ∃ a' h', Inv c a' (b + 20) ∧ h'.length = h.length ∧ (∀ j, j < h'.length → GO (h'.getD j o0)) ∧ F38_7 n c a x4 x5 x6 w h k0 = k0 c a' x4 x5 x6 w h' := by
  unfold F38_7
  obtain ⟨r, a1, e, -, -, h1⟩ := pick (n := n) (m := 14) hv (by omega)
  rw [e]; simp only [ats]
  by_cases z : r = 0
  · rw [eqp z]
    obtain ⟨q, a2, e2, q1, q2, h2⟩ := pick (n := n) (m := (h.length : Int)) h1 (by omega)
    rw [e2]; simp only [ats]
    obtain ⟨p, a3, e3, -, -, h3⟩ := pick (n := n) (m := 12) h2 (by omega)
    rw [e3]; simp only [ats]
    obtain ⟨s, a4, e4, h4⟩ := often_ok (n := n) (v := p) h3 (by omega)
    rw [e4]; simp only [ats]
    rw [bp q1, bp (by omega)]
    have hg := go q.toNat (by omega)
    exact ⟨a4, h.set q.toNat (Obj.mk s (h.getD q.toNat o0).name (h.getD q.toNat o0).at_ (h.getD q.toNat o0).items (h.getD q.toNat o0).keys (h.getD q.toNat o0).names (h.getD q.toNat o0).vals), h4.mono (by omega), List.length_set, ag_set go ⟨hg.i, hg.k, hg.s, hg.v, hg.gi, hg.gk, hg.gv, hg.gs, hg.nm⟩, rfl⟩
  · rw [eqn z]
    exact ⟨a1, h, h1.mono (by omega), rfl, go, rfl⟩
theorem heap_ok {n : Nat} (hn : 4000000 ≤ n) {c : List Int} {a : Int} (hv : Inv c a 0) : ∃ h v z, F38 n c a = some (((h, ()), v), z) ∧ GH h := by
  unfold F38
  obtain ⟨h0, b1, b2, b3⟩ := base hn
  rw [b1]; simp only [ats]
  obtain ⟨r, a1, e, r1, r2, h1⟩ := pick (n := n) (m := 6) hv (by omega)
  rw [e]; simp only [ats]
  obtain ⟨d, rfl⟩ := Int.eq_ofNat_of_zero_le r1
  unfold F38_0
  obtain ⟨a2, h2, i2, l2, g2, q2, e2⟩ := loop0 (R := ((List Obj × Unit) × ((Int × (ByteArray × (Int × Unit))) × Unit)) × ((List Int × (Int × Unit)) × Unit)) (n := n) (c := c) (x1 := (h0.length : Int)) (x4 := 0) (x6 := 0) (x5 := ⟨#[]⟩) (w := [])
    (k0 := fun z915 z916 z917 z918 z919 z920 z921 z922 =>
      (F38_5 n z915 z916 z917 z918 z919 z920 z921 z922 (fun z1082 z1083 z1084 z1085 z1086 z1087 z1088 =>
      (F38_6 n z1082 z1083 z1084 z1085 z1086 z1087 z1088 (fun z1103 z1104 z1105 z1106 z1107 z1108 z1109 =>
      (F38_7 n z1103 z1104 z1105 z1106 z1107 z1108 z1109 (fun z1125 z1126 z1127 z1128 z1129 z1130 z1131 =>
      (andThen (F63 n ((z1131.length) : Int) z1125 z1126) fun r1133 =>
      some (((z1131, ()), ((r1133.1.1, (r1133.1.2.1, (r1133.1.2.2.1, ()))), ())), ((r1133.2.1.1, (r1133.2.1.2.1, ())), ())))))))))) hn d n 0 a1 1 h0 (by omega) (by omega) (h1.mono (by omega)) (by omega) (by omega) b3 (fun j j1 j2 => by omega)
  rw [Nat.zero_add] at e2
  rw [show ((0 : Nat) : Int) = 0 from rfl] at e2
  rw [e2, b2]
  unfold F38_5
  obtain ⟨a3, h3, i3, l3, g3, e3⟩ := loop5 (R := ((List Obj × Unit) × ((Int × (ByteArray × (Int × Unit))) × Unit)) × ((List Int × (Int × Unit)) × Unit)) (n := n) (c := c) (x4 := 0) (x6 := 0) (x5 := ⟨#[]⟩) (w := [])
    (k0 := fun z1082 z1083 z1084 z1085 z1086 z1087 z1088 =>
      (F38_6 n z1082 z1083 z1084 z1085 z1086 z1087 z1088 (fun z1103 z1104 z1105 z1106 z1107 z1108 z1109 =>
      (F38_7 n z1103 z1104 z1105 z1106 z1107 z1108 z1109 (fun z1125 z1126 z1127 z1128 z1129 z1130 z1131 =>
      (andThen (F63 n ((z1131.length) : Int) z1125 z1126) fun r1133 =>
      some (((z1131, ()), ((r1133.1.1, (r1133.1.2.1, (r1133.1.2.2.1, ()))), ())), ((r1133.2.1.1, (r1133.2.1.2.1, ())), ())))))))) hn d n 19 a2 (1 + d) h2 (by omega) (by omega) (by omega) (by omega) i2 (by omega) g2.at q2
  rw [e3]
  obtain ⟨a4, h4, i4, l4, g4, e4⟩ := six (R := ((List Obj × Unit) × ((Int × (ByteArray × (Int × Unit))) × Unit)) × ((List Int × (Int × Unit)) × Unit)) (n := n) (x4 := 0) (x6 := 0) (x5 := ⟨#[]⟩) (w := [])
    (k0 := fun z1103 z1104 z1105 z1106 z1107 z1108 z1109 =>
      (F38_7 n z1103 z1104 z1105 z1106 z1107 z1108 z1109 (fun z1125 z1126 z1127 z1128 z1129 z1130 z1131 =>
      (andThen (F63 n ((z1131.length) : Int) z1125 z1126) fun r1133 =>
      some (((z1131, ()), ((r1133.1.1, (r1133.1.2.1, (r1133.1.2.2.1, ()))), ())), ((r1133.2.1.1, (r1133.2.1.2.1, ())), ())))))) i3 (by omega) (by omega) g3
  rw [e4]
  obtain ⟨a5, h5, i5, l5, g5, e5⟩ := seven (R := ((List Obj × Unit) × ((Int × (ByteArray × (Int × Unit))) × Unit)) × ((List Int × (Int × Unit)) × Unit)) (n := n) (x4 := 0) (x6 := 0) (x5 := ⟨#[]⟩) (w := [])
    (k0 := fun z1125 z1126 z1127 z1128 z1129 z1130 z1131 =>
      (andThen (F63 n ((z1131.length) : Int) z1125 z1126) fun r1133 =>
      some (((z1131, ()), ((r1133.1.1, (r1133.1.2.1, (r1133.1.2.2.1, ()))), ())), ((r1133.2.1.1, (r1133.2.1.2.1, ())), ())))) i4 (by omega) (by omega) g4
  rw [e5]
  obtain ⟨k, t, u, a6, e6, t6, i6⟩ := val_ok (n := n) (m := (h5.length : Int)) (by omega) i5 (by omega)
  rw [e6]; simp only [ats]
  exact ⟨h5, _, _, rfl, ⟨by omega, g5⟩⟩
theorem draw_ok {n : Nat} (hn : 4000000 ≤ n) {z : List Int} (hz : okb z) : ∃ h, F20 n z = some ((h, ()), ()) ∧ GH h := by
  unfold F20
  obtain ⟨c, e, h1⟩ := newRnd_ok (n := n) hz
  rw [e]; simp only [ats]
  obtain ⟨h, v, q, e2, g⟩ := heap_ok hn h1
  rw [e2]
  exact ⟨h, rfl, g⟩
theorem law_heap {n : Nat} (hn : 4000000 ≤ n) {z : List Int} (hz : okb z) : F6 n z = some (true, ()) := by
  obtain ⟨h, e, g⟩ := draw_ok hn hz
  exact law_of (by omega) g e
end Go.Proofs.Ytfknenaecihchaa.Am
