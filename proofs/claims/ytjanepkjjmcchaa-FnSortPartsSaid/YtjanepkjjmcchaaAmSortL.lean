/- Sorting: the laws. -/
import Derived.Test.YtjanepkjjmcchaaAmSortD
import Derived.Test.YtjanepkjjmcchaaAmDrawS
import Derived.Test.YtjanepkjjmcchaaAmOpen
namespace Go.Proofs.Ytjanepkjjmcchaa.Am
open Go
set_option autoImplicit false
set_option linter.unusedVariables false
set_option linter.unusedSimpArgs false

-- the items drawn -----------------------------------------------------------------------------------------------------------------------------
theorem pick_any {n : Nat} {m : Int} {c : List Int} {i b : Int} (h : Inv c i b) (hb : b ≤ 1099511627776) : ∃ r i', F36 n m c i = some (r, ((c, (i', ())), ())) ∧ Inv c i' (b + 1) := by
  obtain ⟨r, i', h1, _, _, h4⟩ := pick (n := n) (m := m) h hb
  exact ⟨r, i', h1, h4⟩
theorem items_it {R : Type} {n : Nat} {c : List Int} {m k : Int} {k0 : List Int → Int → List Itm → Option R} (hm : m ≤ 1000) : ∀ (d fuel : Nat) (j i b : Int) (out : LI), 0 ≤ j → m - j ≤ d → d < fuel → out.length + d ≤ 1000 → Inv c i b → b + 3 * d ≤ 100000000 →
    ∃ (i' : Int) (out' : LI), out'.length ≤ out.length + d ∧ F19_3_it n k0 fuel m k j c i out = k0 c i' out'
  | d, fuel, j, i, b, out, h0, h1, h2, h3, h4, h5 => by
    obtain ⟨f, rfl⟩ : ∃ f, fuel = f + 1 := ⟨fuel - 1, by omega⟩
    simp only [F19_3_it, F19_3_step]
    by_cases g : j < m
    · obtain ⟨d, rfl⟩ : ∃ e, d = e + 1 := ⟨d - 1, by omega⟩
      rw [bp g]
      unfold F19_2
      obtain ⟨r1, i1, p1, q1⟩ := pick_any (n := n) (m := 12) h4 (by omega)
      rw [p1]; simp only [ats]
      have a0 : ∀ (x : Int) (K : Int → Int → Int → Int → List Int → Int → LI → Option R), ∃ y i2, Inv c i2 (b + 1 + 1) ∧ F19_0 n m k j x c i1 out K = K m k j y c i2 out := by
        intro x K
        unfold F19_0
        cases (k == (1 : Int)) with
        | true =>
          obtain ⟨r2, i2, p2, q2⟩ := pick_any (n := n) (m := 2) q1 (by omega)
          rw [ct, p2]; exact ⟨_, i2, q2, rfl⟩
        | false => rw [cf]; exact ⟨x, i1, q1.mono (by omega), rfl⟩
      obtain ⟨y, i2, q2, e2⟩ := a0 r1 _
      rw [e2]
      have a1 : ∀ (x : Int) (K : Int → Int → Int → Int → List Int → Int → LI → Option R), ∃ y i3, Inv c i3 (b + 1 + 1 + 1) ∧ F19_1 n m k j x c i2 out K = K m k j y c i3 out := by
        intro x K
        unfold F19_1
        cases (k == (2 : Int)) with
        | true =>
          obtain ⟨r2, i3, p3, q3⟩ := pick_any (n := n) (m := 2) q2 (by omega)
          rw [ct, p3]; exact ⟨_, i3, q3, rfl⟩
        | false => rw [cf]; exact ⟨x, i2, q2.mono (by omega), rfl⟩
      obtain ⟨z, i3, q3, e3⟩ := a1 y _
      rw [e3]
      simp (disch := first | omega | (simp; omega)) only [bp]
      rw [wp (by have := hm; omega)]
      obtain ⟨i', out', b1, b2⟩ := items_it (n := n) (k := k) (k0 := k0) hm d f (j + 1) i3 (b + 1 + 1 + 1) (out ++ [Itm.mk z j]) (by omega) (by omega) (by omega) (by simp; omega) q3 (by omega)
      exact ⟨i', out', by simp at b1; omega, b2⟩
    · rw [bn g]; exact ⟨i, out, by omega, rfl⟩
theorem drawS {n : Nat} (hn : 1000 ≤ n) {z : List Int} (hz : okb z) : ∃ l, F7 n z = some (l, ()) ∧ l.length ≤ 61 := by
  obtain ⟨c, e, h⟩ := newRnd_ok (n := n) hz
  unfold F7
  rw [e]; simp only [ats]
  unfold F19
  obtain ⟨s, i1, e1, m1, h1⟩ := one_ok (n := n) (l := [0, 1, 5, 12, 20, 40, 60, 61]) h (by omega) (by simp)
  rw [e1]; simp only [ats]
  obtain ⟨k, i2, e2, h2⟩ := pick_any (n := n) (m := 4) h1 (by omega)
  rw [e2]; simp only [ats]
  have hs : s ≤ 61 := by simp at m1; omega
  unfold F19_3
  obtain ⟨i', out, a1, a2⟩ := items_it (n := n) (c := c) (m := s) (k := k) (k0 := fun z141 z142 z143 => some (z143, ((z141, (z142, ())), ()))) (by omega) 61 n 0 i2 _ [] (by omega) (by omega) (by omega) (by simp) h2 (by omega)
  rw [a2]; simp only [ats]
  exact ⟨out, rfl, by simpa using a1⟩

-- sorted, by their places ---------------------------------------------------------------------------------------------------------------------
theorem sorted_it {R : Type} {n : Nat} {l : LI} {k0 : Bool → Option R} {k1 : Option R} (hl : l.length ≤ 1000000) (hs : Srt l) : ∀ (fuel i : Nat), 1 ≤ i → i ≤ l.length + 1 → l.length + 1 < fuel + i → F34_0_it n k0 k1 fuel l i = k1
  | fuel, i, hi, hi2, hf => by
    obtain ⟨f, rfl⟩ : ∃ f, fuel = f + 1 := ⟨fuel - 1, by omega⟩
    simp only [F34_0_it, F34_0_step]
    by_cases g : i < l.length
    · have e0 : ((i : Int)).toNat = i := by omega
      have e1 : ((i : Int) - 1).toNat = i - 1 := by omega
      have := srt_get hs (p := i - 1) (q := i) (by omega) g
      have h2 : ¬ (l.getD i d0).key < (l.getD (i - 1) d0).key := by omega
      simp (disch := omega) only [bp, wp, e0, e1]
      rw [bn h2, show ((i : Int) + 1) = ((i + 1 : Nat) : Int) by omega]
      exact sorted_it hl hs f (i + 1) (by omega) (by omega) (by omega)
    · rw [bn (by omega)]
theorem sorted {n : Nat} {l : LI} (hn : 1000002 ≤ n) (hl : l.length ≤ 1000000) (hs : Srt l) : F34 n l = some (true, ()) := by
  unfold F34 F34_0
  have e := sorted_it (n := n) (l := l) (k0 := fun z1899 => some (z1899, ())) (k1 := some (true, ())) hl hs n 1 (by omega) (by omega) (by omega)
  exact e

/-- how many items go ahead of the one at i, of the first j -/
noncomputable def ahead (l : LI) (i j : Nat) : Nat := (l.take j).countP (fun x => decide (x.key < (l.getD i d0).key)) + ((l.take (min j i)).countP fun x => x.key == (l.getD i d0).key)
theorem cp_step {l : LI} {j : Nat} {p : Itm → Bool} (h : j < l.length) : (l.take (j + 1)).countP p = (l.take j).countP p + if p (l.getD j d0) then 1 else 0 := by
  rw [List.take_succ_eq_append_getElem h, List.countP_append, getD_lt h, List.countP_singleton]
theorem ahead_step {l : LI} {i j : Nat} (h : j < l.length) : ahead l i (j + 1) = ahead l i j + (if (l.getD j d0).key < (l.getD i d0).key ∨ (l.getD j d0).key = (l.getD i d0).key ∧ j < i then 1 else 0) := by
  unfold ahead
  rw [cp_step h]
  by_cases g : j < i
  · rw [Nat.min_eq_left (by omega : j + 1 ≤ i), Nat.min_eq_left (by omega : j ≤ i), cp_step h]
    generalize l.getD j d0 = x
    generalize l.getD i d0 = y
    by_cases g1 : x.key < y.key
    · have g3 : ¬ x.key = y.key := by omega
      simp [g1, g3]; omega
    · by_cases g2 : x.key = y.key
      · simp [g, g2]; omega
      · simp [g1, g2]
  · rw [Nat.min_eq_right (by omega : i ≤ j + 1), Nat.min_eq_right (by omega : i ≤ j)]
    generalize l.getD j d0 = x
    generalize l.getD i d0 = y
    by_cases g1 : x.key < y.key
    · simp [g1]; omega
    · simp [g1, g]
theorem rank_it {R : Type} {n : Nat} {l out : LI} {i : Nat} {k0 : LI → LI → Int → Int → Option R} (hl : l.length ≤ 1000) (hi : i < l.length) : ∀ (fuel j : Nat), j ≤ l.length → l.length < fuel + j → ahead l i j ≤ 2 * j →
    F17_1_it n k0 fuel out l i (ahead l i j : Nat) j = k0 out l i (ahead l i l.length : Nat)
  | fuel, j, hj, hf, hc => by
    obtain ⟨f, rfl⟩ : ∃ f, fuel = f + 1 := ⟨fuel - 1, by omega⟩
    simp only [F17_1_it, F17_1_step]
    by_cases g : j < l.length
    · rw [bp (by omega)]
      have e0 : ((i : Int)).toNat = i := by omega
      have e1 : ((j : Int)).toNat = j := by omega
      have st := ahead_step (l := l) (i := i) g
      have hn2 : ahead l i (j + 1) ≤ 2 * (j + 1) := by rw [st]; split <;> omega
      unfold F17_0
      simp (disch := omega) only [bp, wp, e0, e1]
      by_cases g1 : (l.getD j d0).key < (l.getD i d0).key
      · rw [if_pos (Or.inl g1)] at st
        rw [bp g1, show ((ahead l i j : Int) + 1) = ((ahead l i (j + 1) : Nat) : Int) by omega, show ((j : Int) + 1) = ((j + 1 : Nat) : Int) by omega]
        exact rank_it hl hi f (j + 1) (by omega) (by omega) hn2
      · rw [bn g1]
        by_cases g2 : (l.getD j d0).key = (l.getD i d0).key
        · rw [eqp g2]
          by_cases g3 : j < i
          · rw [if_pos (Or.inr ⟨g2, g3⟩)] at st
            rw [bp (by omega), show ((ahead l i j : Int) + 1) = ((ahead l i (j + 1) : Nat) : Int) by omega, show ((j : Int) + 1) = ((j + 1 : Nat) : Int) by omega]
            exact rank_it hl hi f (j + 1) (by omega) (by omega) hn2
          · rw [if_neg (fun h => h.elim g1 fun h => g3 h.2)] at st
            rw [bn (by omega), show ((ahead l i j : Int)) = ((ahead l i (j + 1) : Nat) : Int) by omega, show ((j : Int) + 1) = ((j + 1 : Nat) : Int) by omega]
            exact rank_it hl hi f (j + 1) (by omega) (by omega) hn2
        · rw [if_neg (fun h => h.elim g1 fun h => g2 h.1)] at st
          rw [eqn g2, show ((ahead l i j : Int)) = ((ahead l i (j + 1) : Nat) : Int) by omega, show ((j : Int) + 1) = ((j + 1 : Nat) : Int) by omega]
          exact rank_it hl hi f (j + 1) (by omega) (by omega) hn2
    · have : j = l.length := by omega
      subst this
      rw [bn (by omega)]
/-- a sorted row, in three parts -/
theorem srt_three {k : Int} : ∀ {s : LI}, Srt s → s = s.filter (fun x => decide (x.key < k)) ++ fk k s ++ s.filter (fun x => decide (k < x.key))
  | [], _ => rfl
  | x :: s, h => by
    have h' := List.pairwise_cons.1 h
    have ih := srt_three (k := k) h'.2
    rcases Int.lt_trichotomy x.key k with g | g | g
    · rw [List.filter_cons_of_pos (by simpa using g), fk_cons_ne s (by omega), List.filter_cons_of_neg (by simp; omega)]
      conv => lhs; rw [ih]
      simp
    · have e1 : (x :: s).filter (fun x => decide (x.key < k)) = [] := by
        rw [List.filter_eq_nil_iff]; intro y hy
        rcases List.mem_cons.1 hy with rfl | hy
        · simp; omega
        · have := h'.1 y hy; simp; omega
      have e2 : s.filter (fun x => decide (x.key < k)) = [] := by
        rw [List.filter_eq_nil_iff]; intro y hy
        have := h'.1 y hy; simp; omega
      rw [e1, fk_cons_eq s g, List.filter_cons_of_neg (by simp; omega)]
      conv => lhs; rw [ih, e2]
      simp
    · have e1 : ∀ y ∈ x :: s, k < y.key := fun y hy => by
        rcases List.mem_cons.1 hy with rfl | hy
        · exact g
        · have := h'.1 y hy; omega
      rw [show (x :: s).filter (fun x => decide (x.key < k)) = [] by rw [List.filter_eq_nil_iff]; intro y hy; have := e1 y hy; simp; omega, fk_none (fun y hy => by have := e1 y hy; omega),
        show (x :: s).filter (fun x => decide (k < x.key)) = x :: s by rw [List.filter_eq_self]; intro y hy; simpa using e1 y hy]
      simp
theorem ahead_get {l out : LI} (h : Stb out l) {i : Nat} (hi : i < l.length) : ahead l i l.length < out.length ∧ out.getD (ahead l i l.length) d0 = l.getD i d0 := by
  generalize hk : (l.getD i d0).key = k
  have h3 := srt_three (k := k) h.srt
  have hc1 : (l.take l.length).countP (fun x => decide (x.key < (l.getD i d0).key)) = (out.filter fun x => decide (x.key < k)).length := by
    rw [List.take_length, hk, ← h.perm.countP_eq, List.countP_eq_length_filter]
  have hc2 : (l.take (min l.length i)).countP (fun x => x.key == (l.getD i d0).key) = (fk k (l.take i)).length := by
    rw [Nat.min_eq_right (by omega), hk, List.countP_eq_length_filter]; rfl
  have hf : fk k out = fk k (l.take i) ++ l.getD i d0 :: fk k (l.drop (i + 1)) := by
    rw [h.fk, ← fk_cons_eq _ hk, ← fk_app, ← dropc hi, List.take_append_drop]
  unfold ahead
  rw [hc1, hc2]
  rw [hf] at h3
  generalize out.filter (fun x => decide (x.key < k)) = A at h3
  generalize out.filter (fun x => decide (k < x.key)) = C at h3
  generalize fk k (l.take i) = B at h3
  rw [h3]
  constructor
  · simp
  · rw [getD_lt (by simp)]
    simp [List.getElem_append]
theorem byS_it {R : Type} {n : Nat} {l out : LI} {k0 : Bool → Option R} {k1 : Option R} (hn : 10000 ≤ n) (hl : l.length ≤ 1000) (h : Stb out l) : ∀ (fuel i : Nat), i ≤ l.length → l.length < fuel + i → F17_2_it n k0 k1 fuel out l i = k1
  | fuel, i, hi, hf => by
    obtain ⟨f, rfl⟩ : ∃ f, fuel = f + 1 := ⟨fuel - 1, by omega⟩
    simp only [F17_2_it, F17_2_step]
    by_cases g : i < l.length
    · rw [bp (by omega)]
      unfold F17_1
      have h0 : ahead l i 0 = 0 := by simp [ahead]
      have e := rank_it (n := n) (l := l) (out := out) (i := i) (k0 := fun z1938 z1939 z1940 z1941 =>
  (bif (decide ((0 : Int) ≤ z1941)) then
  (bif (decide (z1941 < ((z1938.length) : Int))) then
  let v1942 := (z1938.getD (z1941.toNat) (Itm.mk (0 : Int) (0 : Int)))
  (bif (decide ((0 : Int) ≤ z1940)) then
  (bif (decide (z1940 < ((z1939.length) : Int))) then
  let v1945 := (z1939.getD (z1940.toNat) (Itm.mk (0 : Int) (0 : Int)))
  (bif (!((v1942.key == v1945.key) && (v1942.tag == v1945.tag))) then
  (k0 false)
  else (F17_2_it n k0 k1 f z1938 z1939 (IntKind.wrap .i64 (z1940 + (1 : Int)))))
  else none)
  else none)
  else none)
  else none)) hl g n 0 (by omega) (by omega) (by omega)
      rw [h0, Int.natCast_zero] at e
      rw [e]
      obtain ⟨a1, a2⟩ := ahead_get h g
      have e0 : ((i : Int)).toNat = i := by omega
      have e1 : ((ahead l i l.length : Int)).toNat = ahead l i l.length := by omega
      simp (disch := omega) only [bp, wp, e0, e1, a2]
      rw [beq_self_eq_true, beq_self_eq_true, show ((i : Int) + 1) = ((i + 1 : Nat) : Int) by omega]
      exact byS_it hn hl h f (i + 1) (by omega) (by omega)
    · rw [bn (by omega)]
theorem sortedBy {n : Nat} {l out : LI} (hn : 1000002 ≤ n) (hl : l.length ≤ 1000) (h : Stb out l) : F17 n out l = some (true, ()) := by
  have hlen := h.len
  unfold F17 F17_2
  rw [nen (by omega), sorted hn (by omega) h.srt]; simp only [ats, Bool.not_true, cf]
  have e := byS_it (n := n) (l := l) (out := out) (k0 := fun z1950 => some (z1950, ())) (k1 := some (true, ())) (by omega) hl h n 0 (by omega) (by omega)
  exact e

-- the laws ------------------------------------------------------------------------------------------------------------------------------------
theorem okb_of {l : List Int} (h : SmV G (.imm 1 (l : List (G.T 1)))) : okb l := fun x hx => by
  obtain ⟨i, hi, e⟩ := List.getElem_of_mem hx
  have hh := h.elt (i := i) (x := x) (by rw [← e]; exact List.getElem?_eq_getElem hi) (j := 0) (d := .lit (.int .u8 x)) rfl
  have w : (Lit.int .u8 x).wf = true := by cases hh with | int _ _ w => exact w
  simp only [Lit.wf, Bool.and_eq_true, decide_eq_true_eq] at w
  have e1 : IntKind.min .u8 = 0 := by decide
  have e2 : IntKind.max .u8 = 255 := by decide
  omega
theorem law6 {n : Nat} (hn : 2000000 ≤ n) {z : List Int} (hz : okb z) : F6 n z = some (true, ()) := by
  unfold F6
  by_cases g : (z.length : Int) > 1048576
  · rw [bp g]
  rw [bn g]
  obtain ⟨l, e, hl⟩ := drawS (n := n) (by omega) hz
  rw [e]; simp only [ats]
  by_cases h : l.length ≤ 60
  · obtain ⟨o1, s1, e1⟩ := sortI (n := n) hn h
    obtain ⟨o2, s2, e2⟩ := sortS (n := n) hn h
    have := s2.uniq s1
    subst this
    have hol := s1.len
    rw [e1]; simp only [ats]
    rw [e2]; simp only [ats]
    rw [same (by omega) (by omega)]; simp only [ats, Bool.not_true, cf]
    by_cases h0 : o2.length = 0
    · rw [eqp (by omega)]
    · rw [eqn (by omega), sortedBy (by omega) (by omega) s1]; simp only [ats, ct]
      obtain ⟨o3, s3, e3⟩ := sortI (n := n) (l := o2) hn (by omega)
      have := s3.uniq (Stb.self s1.srt)
      subst this
      rw [e3]; simp only [ats]
      rw [same (by omega) (by omega)]; rfl
  · rw [sortLong (by omega) (by omega)]; simp only [ats]
    rw [sortSLong (by omega)]; simp only [ats]
    rw [same (by omega) (by simp)]; rfl
theorem law3 {n : Nat} (hn : 2000000 ≤ n) {z : List Int} (hz : okb z) : F3 n z = some (true, ()) := by
  unfold F3
  by_cases g : (z.length : Int) > 1048576
  · rw [bp g]
  rw [bn g]
  obtain ⟨l, e, hl⟩ := drawS (n := n) (by omega) hz
  rw [e]; simp only [ats]
  by_cases h : l.length ≤ 60
  · obtain ⟨o1, s1, e1⟩ := sortI (n := n) hn h
    obtain ⟨o2, s2, e2⟩ := sortS (n := n) hn h
    have := s2.uniq s1
    subst this
    have hol := s1.len
    rw [e1]; simp only [ats]
    rw [e2]; simp only [ats]
    rw [same (by omega) (by omega)]; simp only [ats, Bool.not_true, cf]
    by_cases h0 : o2.length = 0
    · have hz2 : o2 = [] := List.length_eq_zero_iff.1 h0
      subst hz2
      obtain ⟨Q, r1, r2, r3, r4⟩ := runsI (n := n) (l := []) (by omega) (by simp)
      have : Q = [] := List.length_eq_zero_iff.1 (by simpa using r3)
      subst this
      rw [r4]; simp only [ats]
      rfl
    · rw [runsSrt (by omega) (by omega) (by omega) s1.srt]; simp only [ats]
      rw [eqn (by omega), eqp (by simp), bp (by simp)]
      have : ([o2] : List LI).getD 0 [] = o2 := rfl
      rw [this, same (by omega) (by omega)]; rfl
  · rw [sortLong (by omega) (by omega)]; simp only [ats]
    rw [sortSLong (by omega)]; simp only [ats]
    rw [same (by omega) (by simp)]; simp only [ats, Bool.not_true, cf]
    obtain ⟨Q, r1, r2, r3, r4⟩ := runsI (n := n) (l := []) (by omega) (by simp)
    have : Q = [] := List.length_eq_zero_iff.1 (by simpa using r3)
    subst this
    rw [r4]; simp only [ats]
    rfl
theorem law4 {n : Nat} (hn : 2000000 ≤ n) {z : List Int} (hz : okb z) : F4 n z = some (true, ()) := by
  unfold F4
  by_cases g : (z.length : Int) > 1048576
  · rw [bp g]
  rw [bn g]
  obtain ⟨l, e, hl⟩ := drawS (n := n) (by omega) hz
  rw [e]; simp only [ats]
  by_cases h : l.length ≤ 60
  · obtain ⟨o1, s1, e1⟩ := sortI (n := n) hn h
    obtain ⟨o2, s2, e2⟩ := sortS (n := n) hn h
    have := s2.uniq s1
    subst this
    have hol := s1.len
    rw [e1]; simp only [ats]
    rw [e2]; simp only [ats]
    rw [same (by omega) (by omega)]; simp only [ats, Bool.not_true, cf]
    rw [bn (by omega)]
    have w1 : IntKind.wrap .i64 ((l.length : Int).tdiv 2) = ((l.length / 2 : Nat) : Int) := by rw [td (by omega), wp (by omega)]; omega
    have e1' : (((l.length / 2 : Nat) : Int)).toNat = l.length / 2 := by omega
    have e2' : ((l.length : Int)).toNat = l.length := by omega
    rw [w1]
    simp only [e1', e2', List.drop_zero, List.take_length]
    obtain ⟨p1, t1, f1⟩ := sortI (n := n) (l := l.take (l.length / 2)) hn (by simp; omega)
    obtain ⟨p2, t2, f2⟩ := sortI (n := n) (l := l.drop (l.length / 2)) hn (by simp; omega)
    have hp1 := t1.len
    have hp2 := t2.len
    simp at hp1 hp2
    obtain ⟨p3, t3, f3⟩ := sortI (n := n) (l := p1 ++ p2) hn (by simp; omega)
    have t4 := Stb.of_app t3 t1 t2
    rw [List.take_append_drop] at t4
    have := t4.uniq s1
    subst this
    simp (disch := first | omega | (simp; omega)) only [bp, f1, f2, f3, ats, List.nil_append]
    rw [same (by omega) (by omega)]; rfl
  · rw [sortLong (by omega) (by omega)]; simp only [ats]
    rw [sortSLong (by omega)]; simp only [ats]
    rw [same (by omega) (by simp)]; simp only [ats, Bool.not_true, cf]
    rw [bp (by omega)]; rfl
theorem law_6 {n : Nat} (hn : 4000000 ≤ n) (y : Cd.den G.T (.imm 1)) (s : SmV G (Cd.enc (.imm 1) y)) : F6 n y = some (true, ()) := law6 (by omega) (okb_of s)
theorem law_3 {n : Nat} (hn : 4000000 ≤ n) (y : Cd.den G.T (.imm 1)) (s : SmV G (Cd.enc (.imm 1) y)) : F3 n y = some (true, ()) := law3 (by omega) (okb_of s)
theorem law_4 {n : Nat} (hn : 4000000 ≤ n) (y : Cd.den G.T (.imm 1)) (s : SmV G (Cd.enc (.imm 1) y)) : F4 n y = some (true, ()) := law4 (by omega) (okb_of s)
end Go.Proofs.Ytjanepkjjmcchaa.Am
