/- Expressions: the drawing of arguments. -/
import Derived.Test.YtdfnlaikelijeaaAmDrawX
import Derived.Test.YtdfnlaikelijeaaAmExprC
namespace Go.Proofs.Ytdfnlaikelijeaa.Am
open Go
set_option autoImplicit false
set_option linter.unusedVariables false
set_option linter.unusedSimpArgs false

/-- drawn expressions are very small -/
def Smy : Nat → Ex → Prop
  | 0, _ => False
  | d + 1, e => e.text.size ≤ 1000 ∧ e.names.length ≤ 100 ∧ (∀ s ∈ e.names, s.size ≤ 1000) ∧ e.kids.length ≤ 100 ∧ ∀ k ∈ e.kids, Smy d k
theorem Smy.mono : ∀ {d d' : Nat} {e : Ex}, d ≤ d' → Smy d e → Smy d' e
  | 0, _, _, _, h => h.elim
  | d + 1, 0, _, hd, _ => by omega
  | d + 1, d' + 1, e, hd, ⟨a, b, c, f, g⟩ => ⟨a, b, c, f, fun k hk => (g k hk).mono (by omega)⟩
theorem Smy.x : ∀ {d : Nat} {e : Ex}, Smy d e → Smx d e
  | 0, _, h => h.elim
  | d + 1, e, ⟨a, b, c, f, g⟩ => ⟨by omega, by omega, fun s hs => by have := c s hs; omega, by omega, fun k hk => (g k hk).x⟩
abbrev V4 (e : Ex) : Int × (ByteArray × (List ByteArray × (List Ex × Unit))) := (e.kind, (e.text, (e.names, (e.kids, ()))))
abbrev W2 (c : List Int) (i : Int) : (List Int × (Int × Unit)) × Unit := ((c, (i, ())), ())
def P (d : Nat) : Int := 40 * 6 ^ d
theorem P_pos (d : Nat) : 40 ≤ P d := by
  unfold P
  have : (0 : Int) < 6 ^ d := Int.pow_pos (by omega)
  omega
theorem P_succ (d : Nat) : P (d + 1) = 6 * P d := by unfold P; rw [Int.pow_succ]; omega
theorem small_leaf {k : Int} {t : ByteArray} {nm : List ByteArray} (ht : t.size ≤ 1000) (hn : nm.length ≤ 100) (hs : ∀ s ∈ nm, s.size ≤ 1000) : Smy 1 (Ex.mk k t nm []) :=
  ⟨by show t.size ≤ _; omega, by show nm.length ≤ _; omega, fun s h => by have := hs s h; omega, by simp, fun x hx => by cases hx⟩
theorem small_node {d : Nat} {k : Int} {t : ByteArray} {nm : List ByteArray} {ks : List Ex} (ht : t.size ≤ 1000) (hn : nm.length ≤ 100) (hs : ∀ s ∈ nm, s.size ≤ 1000) (hk : ks.length ≤ 100) (h : ∀ x ∈ ks, Smy d x) : Smy (d + 1) (Ex.mk k t nm ks) :=
  ⟨by show t.size ≤ _; omega, by show nm.length ≤ _; omega, fun s h => by have := hs s h; omega, by show ks.length ≤ _; omega, h⟩
theorem nonm : ∀ s ∈ ([] : List ByteArray), s.size ≤ 1000 := fun s h => by cases h
theorem of_sz {n : Nat} {l : List ByteArray} {c : List Int} {i b : Int} (h : Inv c i b) (hb : b ≤ 1099511627776) (hl : 0 < l.length) (hs : ∀ s ∈ l, s.size ≤ 1000) : ∃ s i', F61 n l c i = some (s, W2 c i') ∧ s.size ≤ 1000 ∧ Inv c i' (b + 1) := by
  obtain ⟨s, i', e, m, h'⟩ := of_ok (n := n) h hb hl
  exact ⟨s, i', e, hs s m, h'⟩
theorem name_ok {n : Nat} {c : List Int} {i b : Int} (h : Inv c i b) (hb : b ≤ 1099511627776) : ∃ s i', F77 n c i = some (s, W2 c i') ∧ s.size ≤ 1000 ∧ Inv c i' (b + 1) := by
  unfold F77
  obtain ⟨s, i', e, m, h'⟩ := of_sz (n := n) (l := (({ data := #[97] } : ByteArray) :: (({ data := #[98] } : ByteArray) :: (({ data := #[99] } : ByteArray) :: (({ data := #[120] } : ByteArray) :: (({ data := #[120, 115] } : ByteArray) :: (({ data := #[102] } : ByteArray) :: []))))))) h hb (by simp) (by decide)
  rw [e]; exact ⟨s, i', rfl, m, h'⟩
theorem small_ok {n : Nat} {c : List Int} {i b : Int} (hn : 3000000 ≤ n) (h : Inv c i b) (hb : b ≤ 1099511627000) : ∃ s i', F76 n c i = some (s, W2 c i') ∧ s.size ≤ 1000 ∧ Inv c i' (b + 2) := by
  unfold F76
  obtain ⟨r, i1, e1, r1, r2, h1⟩ := pick (n := n) (m := 100) h (by omega)
  rw [e1]; simp only [ats]
  obtain ⟨v, i2, e2, v1, h2⟩ := one_ok (n := n) (l := ((0 : Int) :: ((1 : Int) :: ((2 : Int) :: ((3 : Int) :: ((4 : Int) :: ((5 : Int) :: ((7 : Int) :: ((10 : Int) :: (r :: [])))))))))) h1 (by omega) (by simp)
  rw [e2]; simp only [ats]
  have hv : 0 ≤ v ∧ v ≤ 100 := by
    simp only [List.mem_cons, List.not_mem_nil, or_false] at v1
    omega
  obtain ⟨s, s1, s2⟩ := decimal_ok (n := n) (x := v) (by omega) (by omega) (by omega)
  rw [s2]
  exact ⟨s, i2, rfl, by omega, h2.mono (by omega)⟩
theorem params_ok {n : Nat} {c : List Int} {i b : Int} (h : Inv c i b) (hb : b ≤ 1099511627000) : ∃ l i', F81 n c i = some (l, W2 c i') ∧ l.length ≤ 100 ∧ (∀ s ∈ l, s.size ≤ 1000) ∧ Inv c i' (b + 1) := by
  unfold F81
  obtain ⟨r, i1, e1, r1, r2, h1⟩ := pick (n := n) (m := 5) h (by omega)
  rw [e1]; simp only [ats]
  rw [bp r1, bp (by simp only [List.length_cons, List.length_nil]; omega)]
  have hr : r = 0 ∨ r = 1 ∨ r = 2 ∨ r = 3 ∨ r = 4 := by omega
  refine ⟨_, i1, rfl, ?_, ?_, h1⟩
  · rcases hr with rfl | rfl | rfl | rfl | rfl <;> decide
  · rcases hr with rfl | rfl | rfl | rfl | rfl <;> decide
theorem leaf_ok {R : Type} {n : Nat} {rc : Q57RC} {c : List Int} {i b : Int} {x : Int} {t : ByteArray} (hn : 3000000 ≤ n) (h : Inv c i b) (hb : b ≤ 1099511620000) : ∃ i', Inv c i' (b + 4) ∧ ((∃ k s, ByteArray.size s ≤ 1000 ∧ ∀ (k0 k1 : List Int → Int → Int → ByteArray → Option R), F57b_1 n rc c i x t k0 k1 = k0 c i' k s) ∨ (∀ (k0 k1 : List Int → Int → Int → ByteArray → Option R), F57b_1 n rc c i x t k0 k1 = k1 c i' x t)) := by
  unfold F57b_1
  obtain ⟨r, i1, e1, r1, r2, h1⟩ := pick (n := n) (m := 9) h (by omega)
  simp only [e1, ats]
  by_cases c0 : r = 0
  · obtain ⟨q, i2, e2, q1, q2, h2⟩ := pick (n := n) (m := 3) h1 (by omega)
    refine ⟨i2, h2.mono (by omega), .inl ⟨_, _, ?_, fun k0 k1 => by rw [eqp c0, e2]; rfl⟩⟩
    decide
  by_cases c1 : r = 1
  · obtain ⟨q, i2, e2, q2, h2⟩ := of_sz (n := n) (l := (({ data := #[] } : ByteArray) :: (({ data := #[97] } : ByteArray) :: (({ data := #[97, 98] } : ByteArray) :: (({ data := #[98, 39] } : ByteArray) :: (({ data := #[120, 32, 121] } : ByteArray) :: [])))))) h1 (by omega) (by simp) (by decide)
    exact ⟨i2, h2.mono (by omega), .inl ⟨_, _, q2, fun k0 k1 => by rw [eqn c0, eqp c1, e2]; rfl⟩⟩
  obtain ⟨v, hv⟩ : ∃ v, ∀ (k : Bool → List Int → Int → Int → ByteArray → Option R), F57b_0 n rc r c i1 x t k = k v c i1 x t := by
    unfold F57b_0
    by_cases d2 : r = 2
    · exact ⟨true, fun k => by rw [eqp d2]⟩
    by_cases d3 : r = 3
    · exact ⟨true, fun k => by rw [eqn d2, eqp d3]⟩
    · exact ⟨_, fun k => by rw [eqn d2, eqn d3]⟩
  cases v
  · exact ⟨i1, h1.mono (by omega), .inr fun k0 k1 => by rw [eqn c0, eqn c1, hv]; rfl⟩
  · obtain ⟨s, i2, e2, s2, h2⟩ := small_ok (n := n) hn h1 (by omega)
    exact ⟨i2, h2.mono (by omega), .inl ⟨_, _, s2, fun k0 k1 => by rw [eqn c0, eqn c1, hv]; simp only [ct]; rw [e2]; rfl⟩⟩
def Good (f : Int → List Int → Int → Option ((Int × (ByteArray × (List ByteArray × (List Ex × Unit)))) × ((List Int × (Int × Unit)) × Unit))) (d : Nat) : Prop :=
  ∀ (c : List Int) (i b : Int), Inv c i b → b + P d ≤ 1000000000000 → ∃ e i', f d c i = some (V4 e, W2 c i') ∧ Smy d e ∧ Inv c i' (b + P d)
theorem kids_it {R : Type} {n d : Nat} {rc : Q57RC} {c : List Int} (hg : Good rc.1 d) (k0 : List Int → Int → List Ex → Option R) : ∀ (m fuel : Nat) (i b : Int) (l : List Ex), m < fuel → d ≤ 100 → Inv c i b → b + m * P d ≤ 1000000000000 → (∀ x ∈ l, Smy d x) → l.length + m ≤ 50 →
    ∃ l' i', (∀ x ∈ l', Smy d x) ∧ l'.length ≤ l.length + m ∧ Inv c i' (b + m * P d) ∧ F78b_0_it n rc k0 fuel ((d + 1 : Nat) : Int) m c i l = k0 c i' l'
  | m, fuel, i, b, l, hf, hd, h, hb, hl, hm => by
    obtain ⟨f, rfl⟩ : ∃ f, fuel = f + 1 := ⟨fuel - 1, by omega⟩
    simp only [F78b_0_it, F78b_0_step]
    match m with
    | 0 => rw [bn (by omega)]; exact ⟨l, i, hl, by omega, h.mono (by omega), rfl⟩
    | m + 1 =>
      have hp := P_pos d
      have hmul : ((m + 1 : Nat) : Int) * P d = m * P d + P d := by rw [show ((m + 1 : Nat) : Int) = (m : Int) + 1 by omega, Int.add_mul]; omega
      have hm0 : 0 ≤ (m : Int) * P d := Int.mul_nonneg (by omega) (by omega)
      rw [hmul] at hb
      obtain ⟨e, i1, e1, e2, h1⟩ := hg c i b h (by omega)
      rw [bp (by omega), wp (x := ((d + 1 : Nat) : Int) - 1) (by omega), show ((d + 1 : Nat) : Int) - 1 = (d : Int) by omega, e1]
      simp only [ats]
      rw [bp (by simp only [List.length_cons, List.length_nil]; omega), wp (by omega), show ((m + 1 : Nat) : Int) - 1 = (m : Int) by omega]
      obtain ⟨l', i', a1, a2, a3, a4⟩ := kids_it (n := n) hg k0 m f i1 (b + P d) (l ++ [Ex.mk e.kind e.text e.names e.kids]) (by omega) hd h1 (by omega) (fun x hx => by
        rcases List.mem_append.1 hx with hx | hx
        · exact hl x hx
        · rw [List.mem_singleton] at hx; rw [hx, exEta]; exact e2) (by simp; omega)
      exact ⟨l', i', a1, by simp at a2; omega, a3.mono (by rw [hmul]; omega), a4⟩
theorem kids_ok {n d : Nat} {rc : Q57RC} {c : List Int} {i b : Int} {most : Int} (hn : 3000000 ≤ n) (hg : Good rc.1 d) (hd : d ≤ 100) (h0 : 0 ≤ most) (h3 : most ≤ 3) (h : Inv c i b) (hb : b + 1 + 3 * P d ≤ 1000000000000) :
    ∃ l i', F78b n rc ((d + 1 : Nat) : Int) most c i = some (l, W2 c i') ∧ (∀ x ∈ l, Smy d x) ∧ l.length ≤ 3 ∧ Inv c i' (b + 1 + 3 * P d) := by
  have hp := P_pos d
  unfold F78b F78b_0
  rw [wp (by omega)]
  obtain ⟨r, i1, e1, r1, r2, h1⟩ := pick (n := n) (m := most + 1) h (by omega)
  rw [e1]; simp only [ats]
  have hr : ((r.toNat : Nat) : Int) = r := by omega
  have hmul : ((r.toNat : Nat) : Int) * P d ≤ 3 * P d := Int.mul_le_mul_of_nonneg_right (by omega) (by omega)
  obtain ⟨l, i2, a1, a2, a3, a4⟩ := kids_it (R := List Ex × ((List Int × (Int × Unit)) × Unit)) (n := n) (c := c) hg (fun z861 z862 z863 => some (z863, ((z861, (z862, ())), ()))) r.toNat n i1 (b + 1) [] (by omega) hd h1 (by omega) (fun x hx => by cases hx) (by simp; omega)
  rw [hr] at a4
  exact ⟨l, i2, a4, a1, by simp at a2; omega, a3.mono (by omega)⟩
theorem pair_ok {n d : Nat} {rc : Q57RC} {c : List Int} {i b : Int} (hd1 : 1 ≤ d) (hg : Good rc.1 d) (hd : d ≤ 100) (h : Inv c i b) (hb : b + 2 + P d ≤ 1000000000000) :
    ∃ l i', F79b n rc ((d + 1 : Nat) : Int) c i = some ((), ((c, (i', ())), (l, ()))) ∧ (∀ x ∈ l, Smy d x) ∧ l.length ≤ 2 ∧ Inv c i' (b + 2 + P d) := by
  have hp := P_pos d
  unfold F79b
  obtain ⟨r, i1, e1, r1, r2, h1⟩ := pick (n := n) (m := 2) h (by omega)
  rw [e1]; simp only [ats]
  by_cases c0 : r = 0
  · rw [eqp c0]; exact ⟨[], i1, rfl, (fun x hx => by cases hx), by simp, h1.mono (by omega)⟩
  · rw [eqn c0]
    obtain ⟨s, i2, e2, s2, h2⟩ := of_sz (n := n) (l := (({ data := #[97] } : ByteArray) :: (({ data := #[98] } : ByteArray) :: []))) h1 (by omega) (by simp) (by decide)
    rw [e2]; simp only [ats]
    obtain ⟨e, i3, e3, e4, h3⟩ := hg c i2 (b + 1 + 1) h2 (by omega)
    rw [wp (by omega), show ((d + 1 : Nat) : Int) - 1 = (d : Int) by omega, e3]; simp only [ats]
    refine ⟨_, i3, rfl, ?_, by simp, h3.mono (by omega)⟩
    intro x hx
    simp only [List.mem_cons, List.not_mem_nil, or_false] at hx
    rcases hx with rfl | rfl
    · exact (small_leaf s2 (by simp) nonm).mono hd1
    · rw [exEta]; exact e4
theorem call_ok {n d : Nat} {rc : Q57RC} {c : List Int} {i b : Int} (hn : 3000000 ≤ n) (hd1 : 1 ≤ d) (hg : Good rc.1 d) (hk : ∀ (i b : Int), Inv c i b → b + 1 + 3 * P d ≤ 1000000000000 → ∃ l i', rc.2.1 ((d + 1 : Nat) : Int) 2 c i = some (l, W2 c i') ∧ (∀ x ∈ l, Smy d x) ∧ l.length ≤ 3 ∧ Inv c i' (b + 1 + 3 * P d)) (hd : d ≤ 100) (h : Inv c i b) (hb : b + 10 + 5 * P d ≤ 1000000000000) :
    ∃ e i', F82b n rc ((d + 1 : Nat) : Int) c i = some (V4 e, W2 c i') ∧ Smy (d + 1) e ∧ Inv c i' (b + 10 + 5 * P d) := by
  have hp := P_pos d
  unfold F82b
  obtain ⟨s, i1, e1, s1, h1⟩ := of_sz (n := n) (l := (({ data := #[108, 101, 110] } : ByteArray) :: (({ data := #[114, 97, 110, 103, 101] } : ByteArray) :: (({ data := #[115, 116, 114] } : ByteArray) :: (({ data := #[112, 114, 105, 110, 116] } : ByteArray) :: (({ data := #[105, 115, 97] } : ByteArray) :: (({ data := #[110, 101, 120, 116] } : ByteArray) :: (({ data := #[102] } : ByteArray) :: (({ data := #[86, 97, 108, 117, 101, 69, 114, 114, 111, 114] } : ByteArray) :: []))))))))) h (by omega) (by simp) (by decide)
  rw [e1]; simp only [ats]
  -- the last argument, with a name or without
  have last : ∀ (i b' : Int) (l : List Ex), Inv c i b' → b' + 5 + P d ≤ b + 10 + 5 * P d → (∀ x ∈ l, Smy d x) → l.length ≤ 10 → ∃ e i', F82b_1 n rc ((d + 1 : Nat) : Int) c i (0 : Int) ({ data := #[] } : ByteArray) (13 : Int) ({ data := #[] } : ByteArray) l (fun z918 z919 z920 z921 z922 z923 z924 z925 =>
      some ((z922, (z923, (z924, (z925, ())))), ((z918, (z919, ())), ()))) (fun z926 z927 z928 z929 z930 z931 z932 =>
      some ((z930, (z931, ([], (z932, ())))), ((z926, (z927, ())), ()))) = some (V4 e, W2 c i') ∧ Smy (d + 1) e ∧ Inv c i' (b + 10 + 5 * P d) := by
    intro i b' l h hb' hl hll
    unfold F82b_1
    obtain ⟨r, i2, e2, r1, r2, h2⟩ := pick (n := n) (m := 6) h (by omega)
    rw [e2]; simp only [ats]
    by_cases c0 : r = 0
    · rw [eqp c0]
      obtain ⟨e, i3, e3, e4, h3⟩ := hg c i2 (b' + 1) h2 (by omega)
      rw [wp (by omega), show ((d + 1 : Nat) : Int) - 1 = (d : Int) by omega, e3]; simp only [ats]
      rw [bp (by simp only [List.length_cons, List.length_nil]; omega)]
      obtain ⟨q, i4, e5, q2, h4⟩ := name_ok (n := n) h3 (by omega)
      rw [e5]; simp only [ats]
      refine ⟨Ex.mk 13 _ [q] (l ++ [Ex.mk e.kind e.text e.names e.kids]), i4, rfl, small_node (by decide) (by simp) (fun s hs => by rw [List.mem_singleton] at hs; rw [hs]; exact q2) (by simp; omega) (fun x hx => ?_), h4.mono (by omega)⟩
      rcases List.mem_append.1 hx with hx | hx
      · exact hl x hx
      · rw [List.mem_singleton] at hx; rw [hx, exEta]; exact e4
    · rw [eqn c0]
      exact ⟨Ex.mk 13 _ [] l, i2, rfl, small_node (by decide) (by simp) nonm (by omega) hl, h2.mono (by omega)⟩
  unfold F82b_0
  obtain ⟨r, i2, e2, r1, r2, h2⟩ := pick (n := n) (m := 5) h1 (by omega)
  rw [e2]; simp only [ats]
  by_cases c0 : r = 0
  · rw [eqp c0]
    obtain ⟨e, i3, e3, e4, h3⟩ := hg c i2 (b + 1 + 1) h2 (by omega)
    rw [wp (by omega), show ((d + 1 : Nat) : Int) - 1 = (d : Int) by omega, e3]; simp only [ats]
    obtain ⟨l, i4, l1, l2, l3, h4⟩ := hk i3 (b + 1 + 1 + P d) h3 (by omega)
    rw [l1]; simp only [ats]
    rw [bp (by simp only [List.length_cons, List.length_nil]; omega)]
    exact last i4 _ _ h4 (by omega) (fun x hx => by
      rcases List.mem_append.1 hx with hx | hx
      · rw [List.mem_singleton] at hx; rw [hx, exEta]; exact e4
      · exact l2 x hx) (by simp; omega)
  · rw [eqn c0]
    obtain ⟨l, i4, l1, l2, l3, h4⟩ := hk i2 (b + 1 + 1) h2 (by omega)
    rw [l1]; simp only [ats]
    rw [bp (by simp only [List.length_cons, List.length_nil]; omega)]
    exact last i4 _ _ h4 (by omega) (fun x hx => by
      rcases List.mem_append.1 hx with hx | hx
      · rw [List.mem_singleton] at hx; rw [hx]; exact (small_leaf s1 (by simp) nonm).mono hd1
      · exact l2 x hx) (by simp; omega)
theorem deep_ok {n d : Nat} {rc : Q57RC} {c : List Int} {i b : Int} (hn : 3000000 ≤ n) (hd1 : 1 ≤ d) (hd : d ≤ 100) (hg : Good rc.1 d)
    (hk : ∀ (most : Int) (i b : Int), 0 ≤ most → most ≤ 3 → Inv c i b → b + 1 + 3 * P d ≤ 1000000000000 → ∃ l i', rc.2.1 ((d + 1 : Nat) : Int) most c i = some (l, W2 c i') ∧ (∀ x ∈ l, Smy d x) ∧ l.length ≤ 3 ∧ Inv c i' (b + 1 + 3 * P d))
    (hp2 : ∀ (i b : Int), Inv c i b → b + 2 + P d ≤ 1000000000000 → ∃ l i', rc.2.2.1 ((d + 1 : Nat) : Int) c i = some ((), ((c, (i', ())), (l, ()))) ∧ (∀ x ∈ l, Smy d x) ∧ l.length ≤ 2 ∧ Inv c i' (b + 2 + P d))
    (hc : ∀ (i b : Int), Inv c i b → b + 10 + 5 * P d ≤ 1000000000000 → ∃ e i', rc.2.2.2.1 ((d + 1 : Nat) : Int) c i = some (V4 e, W2 c i') ∧ Smy (d + 1) e ∧ Inv c i' (b + 10 + 5 * P d))
    (h : Inv c i b) (hb : b + 12 + 5 * P d ≤ 1000000000000) :
    ∃ e i', F57b n rc ((d + 1 : Nat) : Int) c i = some (V4 e, W2 c i') ∧ Smy (d + 1) e ∧ Inv c i' (b + 12 + 5 * P d) := by
  have hp := P_pos d
  unfold F57b
  rw [bn (by omega)]
  obtain ⟨r, i1, e1, r1, r2, h1⟩ := pick (n := n) (m := 4) h (by omega)
  rw [e1]; simp only [ats]
  by_cases c0 : r = 0
  · rw [eqp c0]
    obtain ⟨i2, h2, hl⟩ := leaf_ok (R := (Int × (ByteArray × (List ByteArray × (List Ex × Unit)))) × ((List Int × (Int × Unit)) × Unit)) (n := n) (rc := rc) (x := 0) (t := ⟨#[]⟩) hn h1 (by omega)
    rcases hl with ⟨k, s, s1, hl⟩ | hl
    · rw [hl]; exact ⟨Ex.mk k s [] [], i2, rfl, (small_leaf s1 (by simp) nonm).mono (by omega), h2.mono (by omega)⟩
    · rw [hl]
      obtain ⟨q, i4, e5, q2, h4⟩ := name_ok (n := n) h2 (by omega)
      rw [e5]
      exact ⟨Ex.mk 6 q [] [], i4, rfl, (small_leaf q2 (by simp) nonm).mono (by omega), h4.mono (by omega)⟩
  rw [eqn c0]
  have one : ∀ (i b' : Int), Inv c i b' → b' + P d ≤ 1000000000000 → ∃ e i', rc.1 (IntKind.wrap .i64 (((d + 1 : Nat) : Int) - (1 : Int))) c i = some (V4 e, W2 c i') ∧ Smy d (Ex.mk e.kind e.text e.names e.kids) ∧ Inv c i' (b' + P d) := by
    intro i b' h hb
    obtain ⟨e, i', e3, e4, h'⟩ := hg c i b' h hb
    rw [wp (by omega), show ((d + 1 : Nat) : Int) - 1 = (d : Int) by omega]
    exact ⟨e, i', e3, by rw [exEta]; exact e4, h'⟩
  unfold F57b_3
  obtain ⟨r, i2, e2, r1, r2, h2⟩ := pick (n := n) (m := 13) h1 (by omega)
  rw [e2]; simp only [ats]
  by_cases k0 : r = 0
  · rw [eqp k0]
    obtain ⟨l, i3, l1, l2, l3, h3⟩ := hk 3 i2 (b + 1 + 1) (by omega) (by omega) h2 (by omega)
    rw [l1]
    exact ⟨Ex.mk 7 _ [] l, i3, rfl, small_node (by decide) (by simp) nonm (by omega) l2, h3.mono (by omega)⟩
  rw [eqn k0]
  by_cases k1 : r = 1
  · rw [eqp k1]
    obtain ⟨l, i3, l1, l2, l3, h3⟩ := hp2 i2 (b + 1 + 1) h2 (by omega)
    rw [l1]; simp only [ats]
    obtain ⟨l', i4, m1, m2, m3, h4⟩ := hp2 i3 _ h3 (by omega)
    rw [m1]; simp only [ats]
    rw [bp (by omega)]
    exact ⟨Ex.mk 8 _ [] (l ++ l'), i4, rfl, small_node (by decide) (by simp) nonm (by simp; omega) (fun x hx => (List.mem_append.1 hx).elim (l2 x) (m2 x)), h4.mono (by omega)⟩
  rw [eqn k1]
  by_cases k2 : r = 2
  · rw [eqp k2]
    obtain ⟨s, i3, e3, s1, h3⟩ := of_sz (n := n) (l := (({ data := #[45] } : ByteArray) :: (({ data := #[110, 111, 116] } : ByteArray) :: []))) h2 (by omega) (by simp) (by decide)
    rw [e3]; simp only [ats]
    obtain ⟨e, i4, e4, e5, h4⟩ := one i3 _ h3 (by omega)
    rw [e4]
    exact ⟨Ex.mk 9 s [] [Ex.mk e.kind e.text e.names e.kids], i4, rfl, small_node s1 (by simp) nonm (by simp) (fun x hx => by rw [List.mem_singleton] at hx; rw [hx]; exact e5), h4.mono (by omega)⟩
  rw [eqn k2]
  obtain ⟨v, hv⟩ : ∃ v, ∀ (k : Int → Int → Bool → List Int → Int → Int → ByteArray → Option ((Int × (ByteArray × (List ByteArray × (List Ex × Unit)))) × ((List Int × (Int × Unit)) × Unit))), F57b_2 n rc ((d + 1 : Nat) : Int) r c i2 (0 : Int) ({ data := #[] } : ByteArray) k = k ((d + 1 : Nat) : Int) r v c i2 0 ⟨#[]⟩ := by
    unfold F57b_2
    by_cases d3 : r = 3
    · exact ⟨true, fun k => by rw [eqp d3]⟩
    by_cases d4 : r = 4
    · exact ⟨true, fun k => by rw [eqn d3, eqp d4]⟩
    by_cases d5 : r = 5
    · exact ⟨true, fun k => by rw [eqn d3, eqn d4, eqp d5]⟩
    · exact ⟨_, fun k => by rw [eqn d3, eqn d4, eqn d5]⟩
  rw [hv]
  have two : ∀ {x y : Ex}, Smy d x → Smy d y → ∀ z ∈ [x, y], Smy d z := fun hx hy z hz => by
    simp only [List.mem_cons, List.not_mem_nil, or_false] at hz
    rcases hz with rfl | rfl
    · exact hx
    · exact hy
  cases v
  case true =>
    simp only [ct]
    unfold F80
    simp only [ats]
    rw [bp (by decide)]
    obtain ⟨s, i3, e3, s1, h3⟩ := of_sz (n := n) (l := ([⟨#[43]⟩, ⟨#[45]⟩, ⟨#[42]⟩, ⟨#[47, 47]⟩, ⟨#[37]⟩, ⟨#[42, 42]⟩, ⟨#[61, 61]⟩, ⟨#[33, 61]⟩, ⟨#[60]⟩, ⟨#[60, 61]⟩, ⟨#[62]⟩, ⟨#[62, 61]⟩, ⟨#[105, 110]⟩, ⟨#[105, 115]⟩] : List ByteArray) ++ [⟨#[43]⟩, ⟨#[45]⟩, ⟨#[42]⟩, ⟨#[60]⟩, ⟨#[61, 61]⟩]) h2 (by omega) (by simp) (by decide)
    rw [e3]; simp only [ats]
    obtain ⟨e, i4, e4, e5, h4⟩ := one i3 _ h3 (by omega)
    rw [e4]; simp only [ats]
    obtain ⟨e', i5, f4, f5, h5⟩ := one i4 _ h4 (by omega)
    rw [f4]
    exact ⟨Ex.mk 10 s [] [Ex.mk e.kind e.text e.names e.kids, Ex.mk e'.kind e'.text e'.names e'.kids], i5, rfl, small_node s1 (by simp) nonm (by simp) (two e5 f5), h5.mono (by omega)⟩
  simp only [cf]
  by_cases k7 : r = 7
  · rw [eqp k7]
    obtain ⟨s, i3, e3, s1, h3⟩ := of_sz (n := n) (l := (({ data := #[97, 110, 100] } : ByteArray) :: (({ data := #[111, 114] } : ByteArray) :: []))) h2 (by omega) (by simp) (by decide)
    rw [e3]; simp only [ats]
    obtain ⟨e, i4, e4, e5, h4⟩ := one i3 _ h3 (by omega)
    rw [e4]; simp only [ats]
    obtain ⟨e', i5, f4, f5, h5⟩ := one i4 _ h4 (by omega)
    rw [f4]
    exact ⟨Ex.mk 11 s [] [Ex.mk e.kind e.text e.names e.kids, Ex.mk e'.kind e'.text e'.names e'.kids], i5, rfl, small_node s1 (by simp) nonm (by simp) (two e5 f5), h5.mono (by omega)⟩
  rw [eqn k7]
  by_cases k8 : r = 8
  · rw [eqp k8]
    obtain ⟨e, i4, e4, e5, h4⟩ := one i2 _ h2 (by omega)
    rw [e4]; simp only [ats]
    obtain ⟨e', i5, f4, f5, h5⟩ := one i4 _ h4 (by omega)
    rw [f4]; simp only [ats]
    obtain ⟨e'', i6, g4, g5, h6⟩ := one i5 _ h5 (by omega)
    rw [g4]
    refine ⟨Ex.mk 12 _ [] [Ex.mk e.kind e.text e.names e.kids, Ex.mk e'.kind e'.text e'.names e'.kids, Ex.mk e''.kind e''.text e''.names e''.kids], i6, rfl, small_node (by decide) (by simp) nonm (by simp) (fun z hz => ?_), h6.mono (by omega)⟩
    simp only [List.mem_cons, List.not_mem_nil, or_false] at hz
    rcases hz with rfl | rfl | rfl
    · exact e5
    · exact f5
    · exact g5
  rw [eqn k8]
  by_cases k9 : r = 9
  · rw [eqp k9]
    obtain ⟨e, i4, e4, e5, h4⟩ := one i2 _ h2 (by omega)
    rw [e4]; simp only [ats]
    obtain ⟨e', i5, f4, f5, h5⟩ := one i4 _ h4 (by omega)
    rw [f4]
    exact ⟨Ex.mk 14 _ [] [Ex.mk e.kind e.text e.names e.kids, Ex.mk e'.kind e'.text e'.names e'.kids], i5, rfl, small_node (by decide) (by simp) nonm (by simp) (two e5 f5), h5.mono (by omega)⟩
  rw [eqn k9]
  by_cases k10 : r = 10
  · rw [eqp k10]
    obtain ⟨s, i3, e3, s1, h3⟩ := of_sz (n := n) (l := (({ data := #[97, 112, 112, 101, 110, 100] } : ByteArray) :: (({ data := #[112, 111, 112] } : ByteArray) :: (({ data := #[107, 101, 121, 115] } : ByteArray) :: (({ data := #[116, 101, 120, 116] } : ByteArray) :: (({ data := #[118] } : ByteArray) :: [])))))) h2 (by omega) (by simp) (by decide)
    rw [e3]; simp only [ats]
    obtain ⟨e, i4, e4, e5, h4⟩ := one i3 _ h3 (by omega)
    rw [e4]
    exact ⟨Ex.mk 15 s [] [Ex.mk e.kind e.text e.names e.kids], i4, rfl, small_node s1 (by simp) nonm (by simp) (fun x hx => by rw [List.mem_singleton] at hx; rw [hx]; exact e5), h4.mono (by omega)⟩
  rw [eqn k10]
  by_cases k11 : r = 11
  · rw [eqp k11]
    obtain ⟨nm, i3, e3, n1, n2, h3⟩ := params_ok (n := n) h2 (by omega)
    rw [e3]; simp only [ats]
    obtain ⟨e, i4, e4, e5, h4⟩ := one i3 _ h3 (by omega)
    rw [e4]
    exact ⟨Ex.mk 16 _ nm [Ex.mk e.kind e.text e.names e.kids], i4, rfl, small_node (by decide) n1 n2 (by simp) (fun x hx => by rw [List.mem_singleton] at hx; rw [hx]; exact e5), h4.mono (by omega)⟩
  rw [eqn k11]
  obtain ⟨e, i3, f1, f2, h3⟩ := hc i2 _ h2 (by omega)
  rw [f1]
  exact ⟨e, i3, rfl, f2, h3.mono (by omega)⟩
theorem expr_ok {n : Nat} (hn : 3000000 ≤ n) : ∀ (d k : Nat), 1 ≤ d → d ≤ 20 → 3 * d ≤ k → Good (Q57it n k).1 d
  | 1, k + 1, _, _, hk => by
    intro c i b h hb
    have hp : P 1 = 240 := by decide
    rw [hp] at hb ⊢
    show ∃ e i', F57b n (Q57it n k) ((1 : Nat) : Int) c i = some (V4 e, W2 c i') ∧ _
    unfold F57b
    rw [bp (by omega)]
    obtain ⟨i2, h2, hl⟩ := leaf_ok (R := (Int × (ByteArray × (List ByteArray × (List Ex × Unit)))) × ((List Int × (Int × Unit)) × Unit)) (n := n) (rc := Q57it n k) (x := 0) (t := ⟨#[]⟩) hn h (by omega)
    rcases hl with ⟨k, s, s1, hl⟩ | hl
    · rw [hl]; exact ⟨Ex.mk k s [] [], i2, rfl, small_leaf s1 (by simp) nonm, h2.mono (by omega)⟩
    · rw [hl]
      obtain ⟨q, i4, e5, q2, h4⟩ := name_ok (n := n) h2 (by omega)
      rw [e5]
      exact ⟨Ex.mk 6 q [] [], i4, rfl, small_leaf q2 (by simp) nonm, h4.mono (by omega)⟩
  | d + 2, k + 3, _, hd, hk => by
    intro c i b h hb
    have hp := P_pos (d + 1)
    have hs : P (d + 2) = 6 * P (d + 1) := P_succ (d + 1)
    rw [hs] at hb ⊢
    have g2 : Good (Q57it n (k + 2)).1 (d + 1) := expr_ok hn (d + 1) (k + 2) (by omega) (by omega) (by omega)
    have g1 : Good (Q57it n (k + 1)).1 (d + 1) := expr_ok hn (d + 1) (k + 1) (by omega) (by omega) (by omega)
    have g0 : Good (Q57it n k).1 (d + 1) := expr_ok hn (d + 1) k (by omega) (by omega) (by omega)
    obtain ⟨e, i', e1, e2, h'⟩ := deep_ok (n := n) (d := d + 1) (rc := Q57it n (k + 2)) (c := c) (i := i) (b := b) hn (by omega) (by omega) g2
      (fun most i b m0 m3 h hb => kids_ok hn g1 (by omega) m0 m3 h hb)
      (fun i b h hb => pair_ok (by omega) g1 (by omega) h hb)
      (fun i b h hb => call_ok hn (by omega) g1 (fun i b h hb => kids_ok hn g0 (by omega) (by omega) (by omega) h hb) (by omega) h hb) h (by omega)
    exact ⟨e, i', e1, e2, h'.mono (by omega)⟩
theorem odd_ok {n : Nat} {c : List Int} {i b : Int} (h : Inv c i b) (hb : b ≤ 1099511627776) : ∃ s i', F83 n c i = some (s, W2 c i') ∧ Inv c i' (b + 1) := by
  unfold F83
  obtain ⟨s, i', e, _, h'⟩ := one_ok (n := n) (l := ((-1 : Int) :: ((4611686018427387904 : Int) :: ((-4611686018427387904 : Int) :: ((1001 : Int) :: ((7 : Int) :: ((1000001 : Int) :: ((-9223372036854775808 : Int) :: ((9223372036854775807 : Int) :: []))))))))) h hb (by decide)
  rw [e]
  exact ⟨s, i', rfl, h'⟩
theorem often_ok {n : Nat} {v : Int} {c : List Int} {i b : Int} (h : Inv c i b) (hb : b ≤ 1099511620000) : ∃ s i', F60 n v c i = some (s, W2 c i') ∧ Inv c i' (b + 5) := by
  unfold F60
  obtain ⟨r, i1, e1, r1, r2, h1⟩ := pick (n := n) (m := 16) h (by omega)
  rw [e1]; simp only [ats]
  by_cases g : r = 0
  · rw [eqp g]
    obtain ⟨o, i5, e5, h5⟩ := odd_ok (n := n) h1 (by omega)
    rw [e5]; simp only [ats]
    exact ⟨_, _, rfl, h5.mono (by omega)⟩
  · rw [eqn g]
    exact ⟨_, _, rfl, h1.mono (by omega)⟩
theorem word_ok {n : Nat} {c : List Int} {i b : Int} (h : Inv c i b) (hb : b ≤ 1099511620000) : ∃ s i', F62 n c i = some (s, W2 c i') ∧ s.size ≤ 1000 ∧ Inv c i' (b + 1) := by
  unfold F62
  obtain ⟨s, i', e, m, h'⟩ := of_sz (n := n) (l := ([⟨#[97]⟩, ⟨#[98]⟩, ⟨#[120]⟩, ⟨#[102]⟩, ⟨#[120, 115]⟩, ⟨#[95, 49]⟩, ⟨#[78, 97, 109, 101, 57]⟩, ⟨#[105, 102]⟩, ⟨#[78, 111, 110, 101]⟩, ⟨#[108, 97, 109, 98, 100, 97]⟩, ⟨#[49, 97]⟩, ⟨#[]⟩, ⟨#[97, 45, 98]⟩, ⟨#[97, 98, 99, 100, 101, 102, 103, 104, 105, 106, 107, 108]⟩, ⟨#[97, 98, 99, 100, 101, 102, 103, 104, 105, 106, 107, 108, 109]⟩, ⟨#[105, 115]⟩, ⟨#[105, 115, 97]⟩] : List ByteArray)) h (by omega) (by simp) (by decide)
  rw [e]; exact ⟨s, i', rfl, m, h'⟩
theorem any_ok {n : Nat} {c : List Int} {i b : Int} (hn : 3000000 ≤ n) (h : Inv c i b) (hb : b ≤ 1000) : ∃ e i', F41 n c i = some (V4 e, W2 c i') ∧ Smx 8 e ∧ Inv c i' 1000000000 := by
  unfold F41
  obtain ⟨v, i1, e1, v1, h1⟩ := one_ok (n := n) (l := ((1 : Int) :: ((2 : Int) :: ((3 : Int) :: ((4 : Int) :: ((5 : Int) :: ((8 : Int) :: []))))))) h (by omega) (by decide)
  have hv : 1 ≤ v ∧ v ≤ 8 := by
    simp only [List.mem_cons, List.not_mem_nil, or_false] at v1; omega
  rw [e1]; simp only [ats]
  have hP : P v.toNat ≤ 67184640 := by
    have h8 : v = 1 ∨ v = 2 ∨ v = 3 ∨ v = 4 ∨ v = 5 ∨ v = 6 ∨ v = 7 ∨ v = 8 := by omega
    rcases h8 with rfl | rfl | rfl | rfl | rfl | rfl | rfl | rfl <;> decide
  obtain ⟨e, i2, e2, s2, h2⟩ := expr_ok hn v.toNat n (by omega) (by omega) (by omega) c i1 (b + 1) h1 (by omega)
  rw [show ((v.toNat : Nat) : Int) = v by omega] at e2
  unfold F57
  rw [e2]; simp only [ats]
  have hs := s2.mono (show v.toNat ≤ 8 by omega)
  have h2 := h2.mono (show _ ≤ 100000000 by omega)
  have t2 := hs.2.1
  obtain ⟨u1, u2, u3, u4, u5⟩ := hs.x
  unfold F41_0
  obtain ⟨r, i3, e3, r1, r2, h3⟩ := pick (n := n) (m := 14) h2 (by omega)
  rw [e3]; simp only [ats]
  by_cases k0 : r = 0
  · rw [eqp k0]
    obtain ⟨q, i4, e4, q1, q2, h4⟩ := pick (n := n) (m := 19) h3 (by omega)
    rw [e4]; simp only [ats]
    obtain ⟨o, i5, e5, h5⟩ := often_ok (n := n) (v := q) h4 (by omega)
    rw [e5]
    exact ⟨Ex.mk o e.text e.names e.kids, i5, rfl, ⟨u1, u2, u3, u4, u5⟩, h5.mono (by omega)⟩
  rw [eqn k0]
  by_cases k1 : r = 1
  · rw [eqp k1]
    obtain ⟨s, i4, e4, s1, h4⟩ := of_sz (n := n) (l := (({ data := #[] } : ByteArray) :: (({ data := #[97] } : ByteArray) :: (({ data := #[45, 49] } : ByteArray) :: (({ data := #[43] } : ByteArray) :: (({ data := #[105, 102] } : ByteArray) :: (({ data := #[48, 49] } : ByteArray) :: []))))))) h3 (by omega) (by simp) (by decide)
    rw [e4]
    exact ⟨Ex.mk e.kind s e.names e.kids, i4, rfl, ⟨Nat.le_trans s1 (by omega), u2, u3, u4, u5⟩, h4.mono (by omega)⟩
  rw [eqn k1]
  by_cases k2 : r = 2
  · rw [eqp k2]
    simp only [List.length_nil, List.nil_append]
    rw [bp (by omega)]
    obtain ⟨s, i4, e4, s1, h4⟩ := word_ok (n := n) h3 (by omega)
    rw [e4]; simp only [ats]
    rw [bp (by simp only [List.length_cons, List.length_nil]; omega)]
    refine ⟨Ex.mk e.kind e.text (e.names ++ [s]) e.kids, i4, rfl, ⟨u1, by show (e.names ++ [s]).length ≤ _; simp; omega, fun x hx => ?_, u4, u5⟩, h4.mono (by omega)⟩
    rcases List.mem_append.1 hx with hx | hx
    · exact u3 x hx
    · rw [List.mem_singleton] at hx; rw [hx]; omega
  · rw [eqn k2]
    exact ⟨e, i3, rfl, ⟨u1, u2, u3, u4, u5⟩, h3.mono (by omega)⟩
theorem drawSize {n : Nat} {z : List Int} (hn : 3000000 ≤ n) (hz : okb z) : ∃ e, F18 n z = some (V4 e, ()) ∧ Smx 8 e := by
  obtain ⟨c, e0, h⟩ := newRnd_ok (n := n) hz
  obtain ⟨e, i, e1, s, _⟩ := any_ok hn h (by omega)
  refine ⟨e, ?_, s⟩
  unfold F18
  rw [e0]; simp only [ats]; rw [e1]; rfl

-- the law ------------------------------------------------------------------------------------------------------------------------------
theorem szf_up {n : Nat} : ∀ {d : Nat} {e : Ex}, fit n d e = true → szf (d + 1) e = szf d e
  | 0, e, h => by cases h
  | d + 1, e, h => by
    have hk := fit_kids h
    show e.kids.foldl (fun a k => IntKind.wrap .i64 (a + szf (d + 1) k)) 1 = e.kids.foldl (fun a k => IntKind.wrap .i64 (a + szf d k)) 1
    have : ∀ (l : List Ex) (a : Int), (∀ k ∈ l, fit n d k = true) → l.foldl (fun a k => IntKind.wrap .i64 (a + szf (d + 1) k)) a = l.foldl (fun a k => IntKind.wrap .i64 (a + szf d k)) a := by
      intro l
      induction l with
      | nil => intro a _; rfl
      | cons x l ih =>
        intro a hl
        rw [List.foldl_cons, List.foldl_cons, szf_up (hl x (by simp))]
        exact ih _ (fun k hk => hl k (List.mem_cons_of_mem _ hk))
    exact this _ _ hk
theorem sum_it {R : Type} {n d : Nat} {l : List Ex} {o x : Int} {t : ByteArray} {nm : List ByteArray} {k0 : Int → Int → Option R} (hn : 3000000 ≤ n) (hl : l.length ≤ 1048576) (hs : ∀ e ∈ l, Smx d e) (hf : ∀ e ∈ l, fit n 6 e = true) : ∀ (fuel i : Nat), i ≤ l.length → l.length + 1 ≤ fuel + i →
    F6_0_it n k0 fuel o ((l.take i).foldl (fun a k => IntKind.wrap .i64 (a + szf 6 k)) 1) i x t nm l = k0 o (l.foldl (fun a k => IntKind.wrap .i64 (a + szf 6 k)) 1)
  | fuel, i, hi, hfu => by
    obtain ⟨f, rfl⟩ : ∃ f, fuel = f + 1 := ⟨fuel - 1, by omega⟩
    simp only [F6_0_it, F6_0_step]
    by_cases g : i < l.length
    · have ih := sum_it (R := R) (o := o) (x := x) (t := t) (nm := nm) (k0 := k0) hn hl hs hf f (i + 1) (by omega) (by omega)
      rw [fold_step g] at ih
      have hm := kid_mem g
      have hf6 := hf _ hm
      have e7 : sizeR n (l.getD i (Ex.mk 0 ⟨#[]⟩ [] [])) = szf 6 (l.getD i (Ex.mk 0 ⟨#[]⟩ [] [])) := by
        unfold sizeR; rw [fit_up hf6, ct, szf_up hf6]
      rw [bp (by omega), bp (by omega), bp (by omega), show ((i : Nat) : Int).toNat = i by omega, esizeI hn (hs _ hm), wp (x := (i : Int) + 1) (by omega)]
      simp only [ats]
      rw [e7]
      exact ih
    · have : i = l.length := by omega
      subst this
      rw [bn (by omega), List.take_length]
theorem law_size {n : Nat} {z : List Int} (hn : 4000000 ≤ n) (hz : okb z) : F6 n z = some (true, ()) := by
  unfold F6
  by_cases hl : (z.length : Int) > 1048576
  · rw [bp hl]
  have hn' : 3000000 ≤ n := by omega
  obtain ⟨e, e0, hs⟩ := drawSize (n := n) hn' hz
  rw [bn hl, e0]; simp only [ats]
  rw [esizeI hn' hs]; simp only [ats]
  rw [esizeS hn' hs]; simp only [ats, beq_self_eq_true, Bool.not_true, cf]
  by_cases g : sizeR n e = 0
  · rw [eqp g]
  rw [eqn g]
  have hf : fit n 7 e = true := by
    cases h : fit n 7 e
    · exact absurd (show sizeR n e = 0 by unfold sizeR; rw [h]; rfl) g
    · rfl
  have hsz : sizeR n e = e.kids.foldl (fun a k => IntKind.wrap .i64 (a + szf 6 k)) 1 := by unfold sizeR; rw [hf]; rfl
  unfold F6_0
  obtain ⟨s1, s2, s3, s4, s5⟩ := hs
  have t := sum_it (R := Bool × Unit) (n := n) (d := 7) (l := e.kids) (o := sizeR n e) (x := e.kind) (t := e.text) (nm := e.names) (k0 := fun z1809 z1810 => some ((z1810 == z1809), ())) hn' s4 s5 (fit_kids hf) n 0 (by omega) (by omega)
  refine Eq.trans t ?_
  rw [← hsz]; simp
theorem okb_of {l : List Int} (h : SmV G (.imm 1 (l : List (G.T 1)))) : okb l := fun x hx => by
  obtain ⟨i, hi, e⟩ := List.getElem_of_mem hx
  have hh := h.elt (i := i) (x := x) (by rw [← e]; exact List.getElem?_eq_getElem hi) (j := 0) (d := .lit (.int .u8 x)) rfl
  have w : (Lit.int .u8 x).wf = true := by cases hh with | int _ _ w => exact w
  simp only [Lit.wf, Bool.and_eq_true, decide_eq_true_eq] at w
  have e1 : IntKind.min .u8 = 0 := by decide
  have e2 : IntKind.max .u8 = 255 := by decide
  omega
theorem law_sizeV {n : Nat} (hn : 4000000 ≤ n) (y : Cd.den G.T (.imm 1)) (s : SmV G (Cd.enc (.imm 1) y)) : F6 n y = some (true, ()) := law_size hn (okb_of s)
end Go.Proofs.Ytdfnlaikelijeaa.Am
