/- Sorting: the program's merges. -/
import Derived.Test.YtjanepkjjmcchaaAmSortB
namespace Go.Proofs.Ytjanepkjjmcchaa.Am
open Go
set_option autoImplicit false
set_option linter.unusedVariables false
set_option linter.unusedSimpArgs false

/-- one merge on a stack of lengths -/
noncomputable def mst (s : List Int) (a : Nat) : List Int := s.take a ++ [s.getD a 0 + s.getD (a + 1) 0] ++ s.drop (a + 2)
theorem mst_len {s : List Int} {a : Nat} (h : a + 1 < s.length) : (mst s a).length = s.length - 1 := by simp [mst]; omega
theorem mst_app {s r : List Int} {a : Nat} (h : a + 1 < s.length) : mst s a ++ r = mst (s ++ r) a := by
  unfold mst
  rw [List.take_append_of_le_length (by omega), List.drop_append_of_le_length (by omega), List.append_assoc (_ ++ _)]
  simp only [List.getD, List.getElem?_append_left (show a < s.length by omega), List.getElem?_append_left (show a + 1 < s.length by omega)]
/-- lengths: not below 0, together at most 1000000 -/
structure LN (s : List Int) : Prop where
  nn : ∀ x ∈ s, (0 : Int) ≤ x
  sm : s.sum ≤ 100000000
theorem sum_nn : ∀ {s : List Int}, (∀ x ∈ s, (0 : Int) ≤ x) → 0 ≤ s.sum
  | [], _ => by simp
  | x :: s, h => by
    have := sum_nn (s := s) fun y hy => h y (List.mem_cons_of_mem _ hy)
    have := h x (by simp)
    simp; omega
theorem mst_split {s : List Int} {a : Nat} (h : a + 1 < s.length) : s = s.take a ++ [s.getD a 0, s.getD (a + 1) 0] ++ s.drop (a + 2) := by
  conv => lhs; rw [← List.take_append_drop a s]
  rw [List.append_assoc]; congr 1
  rw [getD_lt (show a < s.length by omega), getD_lt (show a + 1 < s.length by omega)]
  rw [List.drop_eq_getElem_cons (show a < s.length by omega), List.drop_eq_getElem_cons (show a + 1 < s.length by omega)]
  rfl
theorem LN.mst {s : List Int} {a : Nat} (h : LN s) (ha : a + 1 < s.length) : LN (mst s a) := by
  have e := mst_split ha
  have hx := h.nn (s.getD a 0) (by rw [getD_lt (by omega)]; exact List.getElem_mem _)
  have hy := h.nn (s.getD (a + 1) 0) (by rw [getD_lt (by omega)]; exact List.getElem_mem _)
  refine ⟨fun x hm => ?_, ?_⟩
  · rcases List.mem_append.1 hm with hm | hm
    · rcases List.mem_append.1 hm with hm | hm
      · exact h.nn _ (List.mem_of_mem_take hm)
      · rcases List.mem_singleton.1 hm with rfl; omega
    · exact h.nn _ (List.mem_of_mem_drop hm)
  · have h2 := h.sm
    rw [e] at h2
    unfold Am.mst
    simp only [List.sum_append, List.sum_cons, List.sum_nil] at h2 ⊢
    omega
theorem LN.pair {s r : List Int} {a : Nat} (h : LN (s ++ r)) (ha : a + 1 < s.length) : 0 ≤ s.getD a 0 ∧ 0 ≤ s.getD (a + 1) 0 ∧ s.getD a 0 + s.getD (a + 1) 0 ≤ 100000000 := by
  have e := mst_split ha
  have hx := h.nn (s.getD a 0) (List.mem_append_left _ (by rw [getD_lt (by omega)]; exact List.getElem_mem _))
  have hy := h.nn (s.getD (a + 1) 0) (List.mem_append_left _ (by rw [getD_lt (by omega)]; exact List.getElem_mem _))
  have h2 := h.sm
  have n1 := sum_nn (s := s.take a) fun x hx => h.nn x (List.mem_append_left _ (List.mem_of_mem_take hx))
  have n2 := sum_nn (s := s.drop (a + 2)) fun x hx => h.nn x (List.mem_append_left _ (List.mem_of_mem_drop hx))
  have n3 := sum_nn (s := r) fun x hx => h.nn x (List.mem_append_right _ hx)
  rw [e] at h2
  simp only [List.sum_append, List.sum_cons, List.sum_nil] at h2
  refine ⟨hx, hy, ?_⟩
  omega

theorem set_del {α : Type} {l : List α} {a : Nat} {v : α} (h : a + 1 < l.length) : (l.set a v).take (a + 1) ++ (l.set a v).drop (a + 2) = l.take a ++ [v] ++ l.drop (a + 2) := by
  rw [List.take_succ_eq_append_getElem (by simp; omega), List.take_set, List.set_eq_of_length_le (by simp; omega), List.getElem_set_self, List.drop_set_of_lt (by omega)]
theorem delL39 {l : List Int} {a : Nat} (h : a + 1 < l.length) (hl : l.length ≤ 1000000) : L39 ((a : Int) + 1) ((a : Int) + 2) l = some ((), ((), (l.take (a + 1) ++ l.drop (a + 2), ()))) := by
  unfold L39 delF
  have h1 : (decide (l.length ≤ maxSz)) = true := decide_eq_true (by simp only [maxSz]; omega)
  have e1 : ((a : Int) + 1).toNat = a + 1 := by omega
  have e2 : ((a : Int) + 2).toNat = a + 2 := by omega
  show (bif decide (0 ≤ (a : Int) + 1) && decide ((a : Int) + 1 < (a : Int) + 2) && decide ((a : Int) + 2 ≤ (l.length : Int)) && decide (l.length ≤ maxSz) then some ((), ((), (l.take ((a : Int) + 1).toNat ++ l.drop ((a : Int) + 2).toNat, ()))) else none) = _
  rw [decide_eq_true (by omega : (0 : Int) ≤ (a : Int) + 1), decide_eq_true (by omega : (a : Int) + 1 < (a : Int) + 2), decide_eq_true (by omega : (a : Int) + 2 ≤ (l.length : Int)), h1, e1, e2]
  rfl
theorem delL22 {l : List LI} {a : Nat} (h : a + 1 < l.length) (hl : l.length ≤ 1000000) : L22 ((a : Int) + 1) ((a : Int) + 2) l = some ((), ((), (l.take (a + 1) ++ l.drop (a + 2), ()))) := by
  unfold L22 delF
  have h1 : (decide (l.length ≤ maxSz)) = true := decide_eq_true (by simp only [maxSz]; omega)
  have e1 : ((a : Int) + 1).toNat = a + 1 := by omega
  have e2 : ((a : Int) + 2).toNat = a + 2 := by omega
  show (bif decide (0 ≤ (a : Int) + 1) && decide ((a : Int) + 1 < (a : Int) + 2) && decide ((a : Int) + 2 ≤ (l.length : Int)) && decide (l.length ≤ maxSz) then some ((), ((), (l.take ((a : Int) + 1).toNat ++ l.drop ((a : Int) + 2).toNat, ()))) else none) = _
  rw [decide_eq_true (by omega : (0 : Int) ≤ (a : Int) + 1), decide_eq_true (by omega : (a : Int) + 1 < (a : Int) + 2), decide_eq_true (by omega : (a : Int) + 2 ≤ (l.length : Int)), h1, e1, e2]
  rfl

-- the plan ------------------------------------------------------------------------------------------------------------------------------------
noncomputable abbrev ent (s : List Int) (a : Nat) : List Int := [(a : Int), s.getD a 0, s.getD (a + 1) 0]
theorem mergeI {n : Nat} {s r : List Int} {a : Nat} {plan : List (List Int)} (h : LN (s ++ r)) (ha : a + 1 < s.length) (hs : s.length ≤ 1000) (hp : plan.length ≤ 1000) :
    F38 n (a : Int) plan s = some ((), (((), ()), (((), ()), ((), ((), (plan ++ [ent s a], (mst s a, ()))))))) := by
  obtain ⟨p1, p2, p3⟩ := h.pair ha
  have e0 : ((a : Int)).toNat = a := by omega
  have e1 : ((a : Int) + 1).toNat = a + 1 := by omega
  unfold F38
  simp (disch := first | omega | (simp only [List.length_cons, List.length_nil]; omega)) only [bp, wp, e0, e1]
  rw [delL39 (by simpa using ha) (by simp; omega), set_del ha]
  rfl

theorem plan1 {R : Type} {n : Nat} {lens s r : List Int} {next : Int} {t : Bool} {c : Int} {plan : List (List Int)} {k0 : List Int → Int → List (List Int) → List Int → Option R} (h : LN (s ++ r)) (hs : s.length ≤ 1000) (hp : plan.length ≤ 1000)
    (h2 : 2 ≤ s.length) (ht : t = true → 3 ≤ s.length) : ∃ a, a + 1 < s.length ∧ F20_1 n lens next ((s.length : Int) - 1) c t plan s k0 = k0 lens next (plan ++ [ent s a]) (mst s a) := by
  have w1 : IntKind.wrap .i64 ((s.length : Int) - 1 - 1) = ((s.length - 2 : Nat) : Int) := by rw [wp (by omega)]; omega
  have m2 := mergeI (n := n) (s := s) (r := r) (a := s.length - 2) (plan := plan) h (by omega) hs hp
  unfold F20_1
  cases t with
  | false => rw [cf, w1, m2]; exact ⟨_, by omega, rfl⟩
  | true =>
    have h3 := ht rfl
    have w2 : IntKind.wrap .i64 ((s.length : Int) - 1 - 2) = ((s.length - 3 : Nat) : Int) := by rw [wp (by omega)]; omega
    have m3 := mergeI (n := n) (s := s) (r := r) (a := s.length - 3) (plan := plan) h (by omega) hs hp
    rw [ct, w1, w2]
    simp only [m2, m3, ats]
    rw [bp (by omega), bp (by omega)]
    cases hb : (decide ((s.getD (((s.length - 3 : Nat) : Int).toNat) (0 : Int)) < c)) with
    | true => exact ⟨s.length - 3, by omega, rfl⟩
    | false => exact ⟨s.length - 2, by omega, rfl⟩
/-- one of both ends -/
def Two {α : Type} (m : Nat) (f : Nat → α) (y z : α) : Prop := (∃ a, a + 1 < m ∧ z = f a) ∨ z = y
theorem Two.cnd {α : Type} {m : Nat} {f : Nat → α} {y u v : α} {b : Bool} (h1 : Two m f y u) (h2 : Two m f y v) : Two m f y (bif b then u else v) := by cases b <;> assumption
theorem plan2 {R : Type} {n : Nat} {lens s r : List Int} {next : Int} {plan : List (List Int)} {k0 : List Int → Int → List (List Int) → List Int → Option R} {k1 : List Int → Int → Int → List (List Int) → List Int → Option R} (h : LN (s ++ r)) (hs : s.length ≤ 1000) (hp : plan.length ≤ 1000) :
    Two s.length (fun a => k0 lens next (plan ++ [ent s a]) (mst s a)) (k1 lens next ((s.length : Int) - 1) plan s) (F20_2 n lens next ((s.length : Int) - 1) plan s k0 k1) := by
  obtain ⟨H, hH⟩ : ∃ H : Bool → Int → Option R, ∀ t c, F20_1 n lens next ((s.length : Int) - 1) c t plan s (fun z724 z725 z726 z727 => (k0 z724 z725 z726 z727)) = H t c := ⟨_, fun _ _ => rfl⟩
  have hk : ∀ (t : Bool) (c : Int), 2 ≤ s.length → (t = true → 3 ≤ s.length) → ∃ a, a + 1 < s.length ∧ H t c = k0 lens next (plan ++ [ent s a]) (mst s a) :=
    fun t c h2 h3 => by rw [← hH]; exact plan1 h hs hp h2 h3
  by_cases g1 : 2 ≤ s.length
  · by_cases g2 : 3 ≤ s.length
    · by_cases g3 : 4 ≤ s.length
      · unfold F20_2
        simp (disch := omega) only [bp, wp, hH]
        repeat' first | exact .inr rfl | exact .inl (hk _ _ g1 (fun _ => g2)) | apply Two.cnd
      · unfold F20_2
        simp (disch := omega) only [bp, bn (c := (s.length : Int) - 1 ≥ 3), wp, hH]
        repeat' first | exact .inr rfl | exact .inl (hk _ _ g1 (fun _ => g2)) | apply Two.cnd
    · unfold F20_2
      simp (disch := omega) only [bp, bn (c := (s.length : Int) - 1 ≥ 3), bn (c := (s.length : Int) - 1 ≥ 2), wp, hH]
      repeat' first | exact .inr rfl | exact .inl (hk _ _ g1 (fun h => by cases h)) | apply Two.cnd
  · right; unfold F20_2; rw [bn (by omega)]

theorem vp_cons {s r : List Int} {a : Nat} {rest : List (List Int)} (ha : a + 1 < s.length) (h : VP (mst s a ++ r) rest) : VP (s ++ r) (ent s a :: rest) := by
  rw [mst_app ha] at h
  have := VP.cons (s ++ r) a rest (by simp; omega) h
  simp only [List.getD, List.getElem?_append_left (show a < s.length by omega), List.getElem?_append_left (show a + 1 < s.length by omega)] at this
  exact this
theorem plan_it {R : Type} {n : Nat} {lens : List Int} {k0 : List (List Int) → Option R} (hl : lens.length ≤ 60) : ∀ (fuel next : Nat) (plan : List (List Int)) (s : List Int), next ≤ lens.length → 2 * (lens.length - next) + s.length < fuel → LN (s ++ lens.drop next) →
    s.length + (lens.length - next) + plan.length ≤ 60 → ∃ rest, VP (s ++ lens.drop next) rest ∧ F20_3_it n k0 fuel lens next plan s = k0 (plan ++ rest)
  | fuel, next, plan, s, hx, hf, h, hb => by
    obtain ⟨f, rfl⟩ : ∃ f, fuel = f + 1 := ⟨fuel - 1, by omega⟩
    have mrg1 : ∀ a, a + 1 < s.length → ∃ rest, VP (s ++ lens.drop next) rest ∧ F20_3_it n k0 f lens next (plan ++ [ent s a]) (mst s a) = k0 (plan ++ rest) := by
      intro a ha
      have hln : LN (mst s a ++ lens.drop next) := by rw [mst_app ha]; exact h.mst (by simp; omega)
      have hml := mst_len ha
      obtain ⟨rest, h1, h2⟩ := plan_it (n := n) (k0 := k0) hl f next (plan ++ [ent s a]) (mst s a) hx (by omega) hln (by simp; omega)
      exact ⟨ent s a :: rest, vp_cons ha h1, by rw [h2]; simp⟩
    have e1 : ((next : Int)).toNat = next := by omega
    simp only [F20_3_it, F20_3_step]
    rw [wp (by omega)]
    rcases plan2 (n := n) (lens := lens) (s := s) (next := next) (plan := plan) (k0 := fun z738 z739 z740 z741 => (F20_3_it n k0 f z738 z739 z740 z741)) (k1 := fun z742 z743 z744 z745 z746 =>
  (bif (decide (z743 < ((z742.length) : Int))) then
  (bif (decide ((0 : Int) ≤ z743)) then
  (bif (decide (z743 < ((z742.length) : Int))) then
  let v751 := ((z742.getD (z743.toNat) (0 : Int)) :: [])
  (bif (decide (((z746.length) + (v751.length)) ≤ (68719476736 : Nat))) then
  (F20_3_it n k0 f z742 (IntKind.wrap .i64 (z743 + (1 : Int))) z745 (z746 ++ v751))
  else none)
  else none)
  else none)
  else (bif (decide (z744 < (1 : Int))) then
  (k0 z745)
  else (bif (decide (z744 ≥ (2 : Int))) then
  let v756 := (IntKind.wrap .i64 (z744 - (2 : Int)))
  (bif (decide ((0 : Int) ≤ v756)) then
  (bif (decide (v756 < ((z746.length) : Int))) then
  (bif (decide ((0 : Int) ≤ z744)) then
  (bif (decide (z744 < ((z746.length) : Int))) then
  (bif (decide ((z746.getD (v756.toNat) (0 : Int)) < (z746.getD (z744.toNat) (0 : Int)))) then
  (andThen (F38 n (IntKind.wrap .i64 (z744 - (2 : Int))) z745 z746) fun r763 =>
  (F20_3_it n k0 f z742 z743 r763.2.2.2.2.2.1 r763.2.2.2.2.2.2.1))
  else (andThen (F38 n (IntKind.wrap .i64 (z744 - (1 : Int))) z745 z746) fun r765 =>
  (F20_3_it n k0 f z742 z743 r765.2.2.2.2.2.1 r765.2.2.2.2.2.2.1)))
  else none)
  else none)
  else none)
  else none)
  else (andThen (F38 n (IntKind.wrap .i64 (z744 - (1 : Int))) z745 z746) fun r767 =>
  (F20_3_it n k0 f z742 z743 r767.2.2.2.2.2.1 r767.2.2.2.2.2.2.1)))))) h (by omega) (by omega) with ⟨a, ha, e⟩ | e
    · rw [e]; exact mrg1 a ha
    · rw [e]
      by_cases g : next < lens.length
      · simp (disch := first | omega | (simp only [List.length_cons, List.length_nil]; omega)) only [bp, wp, e1]
        have hd : lens.drop next = lens.getD next 0 :: lens.drop (next + 1) := by rw [getD_lt g]; exact List.drop_eq_getElem_cons g
        have hassoc : s ++ lens.drop next = (s ++ [lens.getD next 0]) ++ lens.drop (next + 1) := by rw [hd]; simp
        rw [hassoc] at h
        obtain ⟨rest, h1, h2⟩ := plan_it (n := n) (k0 := k0) hl f (next + 1) plan (s ++ [lens.getD next 0]) (by omega) (by simp; omega) h (by simp; omega)
        rw [← hassoc] at h1
        exact ⟨rest, h1, h2⟩
      · have hz : lens.drop next = [] := List.drop_of_length_le (by omega)
        rw [bn (by omega)]
        by_cases g1 : s.length < 2
        · rw [bp (by omega)]
          refine ⟨[], VP.nil _ (by rw [hz]; simp; omega), by simp⟩
        · rw [bn (by omega)]
          have w1 : IntKind.wrap .i64 ((s.length : Int) - 1 - 1) = ((s.length - 2 : Nat) : Int) := by rw [wp (by omega)]; omega
          have m2 := mergeI (n := n) (s := s) (r := lens.drop next) (a := s.length - 2) (plan := plan) h (by omega) (by omega) (by omega)
          by_cases g2 : s.length < 3
          · rw [bn (by omega), w1, m2]; exact mrg1 _ (by omega)
          · have w2 : IntKind.wrap .i64 ((s.length : Int) - 1 - 2) = ((s.length - 3 : Nat) : Int) := by rw [wp (by omega)]; omega
            have m3 := mergeI (n := n) (s := s) (r := lens.drop next) (a := s.length - 3) (plan := plan) h (by omega) (by omega) (by omega)
            rw [bp (by omega), w1, w2]
            simp (disch := omega) only [bp, m2, m3, ats]
            cases (decide ((s.getD (((s.length - 3 : Nat) : Int).toNat) (0 : Int)) < (s.getD (((s.length : Int) - 1).toNat) (0 : Int)))) with
            | true => exact mrg1 _ (by omega)
            | false => exact mrg1 _ (by omega)
theorem check_it {R : Type} {n : Nat} {lens : List Int} {k0 : Option R} {k1 : List Int → Option R} (hl : lens.length ≤ 60) (hb : ∀ x ∈ lens, (1 : Int) ≤ x ∧ x ≤ 1000000) : ∀ (fuel i : Nat), i ≤ lens.length → lens.length < fuel + i →
    F20_0_it n k0 k1 fuel lens lens lens.length i = k1 lens
  | fuel, i, hi, hf => by
    obtain ⟨f, rfl⟩ : ∃ f, fuel = f + 1 := ⟨fuel - 1, by omega⟩
    simp only [F20_0_it, F20_0_step]
    by_cases g : i < lens.length
    · have e1 : ((i : Int)).toNat = i := by omega
      have hx := hb (lens.getD i 0) (by rw [getD_lt g]; exact List.getElem_mem _)
      unfold F37
      simp (disch := omega) only [bp, wp, e1, ats, nn]
      exact check_it hl hb f (i + 1) (by omega) (by omega)
    · rw [bn (by omega)]
theorem planI {n : Nat} {lens : List Int} (hn : 1000 ≤ n) (hl : lens.length ≤ 60) (hb : ∀ x ∈ lens, (1 : Int) ≤ x ∧ x ≤ 1000000) (hs : lens.sum ≤ 100000000) : ∃ plan, VP lens plan ∧ F20 n lens = some (plan, ()) := by
  unfold F20 F20_0
  rw [bn (by omega)]
  have e := check_it (n := n) (lens := lens) (k0 := some ([], ())) (k1 := fun z647 => (F20_3 n z647 (0 : Int) [] [] (fun z768 => some (z768, ())))) hl hb n 0 (by omega) (by omega)
  rw [Int.natCast_zero] at e
  rw [e]
  obtain ⟨rest, h1, h2⟩ := plan_it (n := n) (lens := lens) (k0 := fun z768 => some (z768, ())) hl n 0 [] [] (by omega) (by simp; omega) ⟨fun x hx => by have := hb x (by simpa using hx); omega, by simpa using hs⟩ (by simp; omega)
  refine ⟨rest, by simpa using h1, ?_⟩
  unfold F20_3
  simpa using h2

-- the merge of two rows -----------------------------------------------------------------------------------------------------------------------
theorem tail_drop {α : Type} {x : α} {l : List α} : ((x :: l).take (((x :: l).length : Int)).toNat).drop 1 = l := by simp
theorem mrg_it {R : Type} {n : Nat} {k0 : LI → LI → LI → Option R} : ∀ (fuel : Nat) (a b out : LI), a.length + b.length < fuel → out.length + a.length + b.length ≤ 1000000 → ∃ a' b' out', out' ++ a' ++ b' = out ++ mrg a b ∧ out'.length + a'.length + b'.length = out.length + a.length + b.length ∧ F21_0_it n k0 fuel a b out = k0 a' b' out'
  | fuel, a, b, out, hf, hl => by
    obtain ⟨f, rfl⟩ : ∃ f, fuel = f + 1 := ⟨fuel - 1, by omega⟩
    simp only [F21_0_it, F21_0_step]
    match a, b, hf, hl with
    | [], b, hf, hl => rw [bn (by simp)]; exact ⟨[], b, out, by rw [mrg_nil]; simp, rfl, rfl⟩
    | x :: a, [], hf, hl => rw [bp (by simp), bn (by simp)]; exact ⟨x :: a, [], out, by rw [mrg_nil2]; simp, rfl, rfl⟩
    | x :: a, y :: b, hf, hl =>
      simp only [List.length_cons] at hf hl
      rw [bp (by simp), bp (by simp), bp (by simp), bp (by simp)]
      have c1 : out.length + 1 ≤ 68719476736 := by omega
      by_cases g : y.key < x.key
      · have g' : ((y :: b).getD 0 d0).key < ((x :: a).getD 0 d0).key := g
        rw [bp g', bp (by simp), bp (by simpa using c1), bp (by simp; omega), bp (by simp), tail_drop, mrg_lt a b g]
        obtain ⟨a', b', o', h1, h2, h3⟩ := mrg_it (n := n) (k0 := k0) f (x :: a) b (out ++ [y]) (by simp; omega) (by simp; omega)
        exact ⟨a', b', o', by rw [h1]; simp, by simp at h2 ⊢; omega, h3⟩
      · have g' : ¬ ((y :: b).getD 0 d0).key < ((x :: a).getD 0 d0).key := g
        rw [bn g', bp (by simp), bp (by simpa using c1), bp (by simp; omega), bp (by simp), tail_drop, mrg_ge a b g]
        obtain ⟨a', b', o', h1, h2, h3⟩ := mrg_it (n := n) (k0 := k0) f a (y :: b) (out ++ [x]) (by simp; omega) (by simp; omega)
        exact ⟨a', b', o', by rw [h1]; simp, by simp at h2 ⊢; omega, h3⟩
theorem drop_cons2 {Q : List LI} {i : Nat} (h : i < Q.length) : (Q.drop i).flatten = Q.getD i [] ++ (Q.drop (i + 1)).flatten := by
  rw [getD_lt h, List.drop_eq_getElem_cons h, List.flatten_cons]
theorem csum_it {R : Type} {n : Nat} {Q : List LI} {k0 : List LI → Int → Option R} (hl : Q.length ≤ 100) : ∀ (fuel i acc : Nat), i ≤ Q.length → Q.length < fuel + i → acc + (Q.drop i).flatten.length ≤ 1000000 →
    F40_1_it n k0 fuel Q acc Q Q.length i = k0 Q ((acc + (Q.drop i).flatten.length : Nat) : Int)
  | fuel, i, acc, hi, hf, ha => by
    obtain ⟨f, rfl⟩ : ∃ f, fuel = f + 1 := ⟨fuel - 1, by omega⟩
    simp only [F40_1_it, F40_1_step, F40_0]
    by_cases g : i < Q.length
    · have e0 : ((i : Int)).toNat = i := by omega
      rw [drop_cons2 g, List.length_append] at ha ⊢
      simp (disch := omega) only [bp, e0]
      rw [wp (x := (acc : Int) + (Q.getD i []).length) (by omega), bn (by omega), wp (by omega), show ((i : Int) + 1) = ((i + 1 : Nat) : Int) by omega, show ((acc : Int) + (Q.getD i []).length) = ((acc + (Q.getD i []).length : Nat) : Int) by omega,
        csum_it hl f (i + 1) (acc + (Q.getD i []).length) (by omega) (by omega) (by omega)]
      congr 2; omega
    · rw [bn (by omega), List.drop_of_length_le (by omega)]; rfl
theorem ccat_it {R : Type} {n : Nat} {Q : List LI} {k0 : LI → Option R} (hl : Q.length ≤ 100) : ∀ (fuel i : Nat) (out : LI), i ≤ Q.length → Q.length < fuel + i → out.length + (Q.drop i).flatten.length ≤ 1000000 →
    F40_2_it n k0 fuel Q Q.length i out = k0 (out ++ (Q.drop i).flatten)
  | fuel, i, out, hi, hf, ha => by
    obtain ⟨f, rfl⟩ : ∃ f, fuel = f + 1 := ⟨fuel - 1, by omega⟩
    simp only [F40_2_it, F40_2_step]
    by_cases g : i < Q.length
    · have e0 : ((i : Int)).toNat = i := by omega
      rw [drop_cons2 g] at ha ⊢
      rw [List.length_append] at ha
      simp (disch := omega) only [bp, e0]
      rw [wp (by omega), show ((i : Int) + 1) = ((i + 1 : Nat) : Int) by omega, ccat_it hl f (i + 1) (out ++ Q.getD i []) (by omega) (by omega) (by rw [List.length_append]; omega), List.append_assoc]
    · rw [bn (by omega), List.drop_of_length_le (by omega)]; simp
theorem concat3 {n : Nat} {a b c : LI} (hn : 1000 ≤ n) (hl : a.length + b.length + c.length ≤ 1000000) : F40 n [a, b, c] = some (a ++ b ++ c, ()) := by
  have hfl : ([a, b, c] : List LI).flatten = a ++ b ++ c := by simp
  have hll : (a ++ b ++ c).length ≤ 1000000 := by simp; omega
  unfold F40 F40_1 F40_2
  have h1 := csum_it (n := n) (Q := [a, b, c]) (k0 := fun z858 z859 =>
    (andThen (F48 n z859) fun r871 =>
    (F40_2_it n (fun z882 => some (z882, ())) n z858 ((z858.length) : Int) (0 : Int) r871.2.1))) (by simp) n 0 0 (by omega) (by simp; omega) (by rw [List.drop_zero, hfl]; omega)
  rw [Int.natCast_zero] at h1
  rw [h1, List.drop_zero, hfl]
  rw [Nat.zero_add]
  have h2 : F48 n (((a ++ b ++ c).length : Nat) : Int) = some ((), ([], ())) := by
    generalize (a ++ b ++ c).length = m at hll
    unfold F48 F48_0 F48_1
    rw [bn (by omega)]
    dsimp only
    rw [wp (by simp; omega)]
    by_cases g : 0 < m
    · simp (disch := first | omega | (simp; omega)) only [bp, Int.ofNat_eq_natCast, Int.natCast_zero, Int.sub_zero, List.take_zero]
    · rw [bn (by simp; omega)]
  rw [h2]; simp only [ats]
  have h3 := ccat_it (n := n) (Q := [a, b, c]) (k0 := fun z882 => some (z882, ())) (by simp) n 0 [] (by omega) (by simp; omega) (by rw [List.drop_zero, hfl]; simp at hll ⊢; omega)
  rw [Int.natCast_zero] at h3
  rw [h3, List.drop_zero, hfl]; rfl
theorem mergeP {n : Nat} {a b : LI} (hn : 1000000 ≤ n) (hl : a.length + b.length ≤ 10000) : F21 n a b = some (mrg a b, ()) := by
  unfold F21 F21_0
  obtain ⟨a', b', o', h1, h2, h3⟩ := mrg_it (n := n) (k0 := fun z830 z831 z832 => (andThen (F40 n (z832 :: (z830 :: (z831 :: [])))) fun r883 => some (r883.1, ()))) n a b [] (by omega) (by simp; omega)
  rw [h3]
  simp at h2
  rw [concat3 (by omega) (by omega)]
  simp only [ats]
  rw [h1]; rfl

-- the items sorted ----------------------------------------------------------------------------------------------------------------------------
noncomputable abbrev lns (Q : List LI) : List Int := Q.map fun r => (r.length : Int)
theorem lns_len (Q : List LI) : (lns Q).length = Q.length := by simp
theorem lns_get {Q : List LI} {i : Nat} (h : i < Q.length) : (lns Q).getD i 0 = ((Q.getD i []).length : Int) := by rw [getD_lt (by simpa using h), getD_lt h]; simp
theorem lns_it {R : Type} {n : Nat} {Q : List LI} {k0 : List LI → List Int → Option R} (hl : Q.length ≤ 1000) : ∀ (fuel i : Nat), i ≤ Q.length → Q.length < fuel + i →
    F8_0_it n k0 fuel Q.length i Q ((lns Q).take i) = k0 Q (lns Q)
  | fuel, i, hi, hf => by
    obtain ⟨f, rfl⟩ : ∃ f, fuel = f + 1 := ⟨fuel - 1, by omega⟩
    simp only [F8_0_it, F8_0_step]
    have hk : ((lns Q).take i).length = i := by simp; omega
    by_cases g : i < Q.length
    · have e0 : ((i : Int)).toNat = i := by omega
      simp (disch := first | omega | (simp only [List.length_cons, List.length_nil, hk]; omega)) only [bp, wp, e0]
      rw [show ((i : Int) + 1) = ((i + 1 : Nat) : Int) by omega, show (lns Q).take i ++ [((Q.getD i []).length : Int)] = (lns Q).take (i + 1) by
        rw [← lns_get g, getD_lt (by simpa using g), List.take_succ_eq_append_getElem (by simpa using g)]]
      exact lns_it hl f (i + 1) (by omega) (by omega)
    · rw [bn (by omega), List.take_of_length_le (by simp; omega)]
theorem vp_inv {lens p : List Int} {rest : List (List Int)} (h : VP lens (p :: rest)) : ∃ a : Nat, a + 1 < lens.length ∧ p = ent lens a ∧ VP (mst lens a) rest := by
  generalize hq : p :: rest = q at h
  cases h with
  | nil _ h => cases hq
  | cons _ a r h t => cases hq; exact ⟨a, h, rfl, t⟩
theorem vp_nil {lens : List Int} (h : VP lens []) : lens.length ≤ 1 := by
  cases h; assumption
/-- two rows of a list of rows merged -/
noncomputable abbrev mrr (Q : List LI) (a : Nat) : List LI := Q.take a ++ [mrg (Q.getD a []) (Q.getD (a + 1) [])] ++ Q.drop (a + 2)
theorem mrg_len (a b : LI) : (mrg a b).length = a.length + b.length := by rw [(mrg_perm _ a b (Nat.le_refl _)).length_eq, List.length_append]
theorem lns_mrr {Q : List LI} {a : Nat} (h : a + 1 < Q.length) : lns (mrr Q a) = mst (lns Q) a := by
  unfold mst
  rw [lns_get (by omega), lns_get (by omega)]
  simp [mrg_len, List.map_take, List.map_drop]
theorem seg_mrr {Q : List LI} {l : LI} {a : Nat} (h : SegR Q l) (ha : a + 1 < Q.length) : SegR (mrr Q a) l :=
  h.mrg (a := Q.getD a []) (b := Q.getD (a + 1) []) (by rw [getD_lt (by omega)]; exact List.getElem?_eq_getElem _) (by rw [getD_lt (by omega)]; exact List.getElem?_eq_getElem _) fun s t h1 h2 => h1.mrg h2
theorem seg_sum {Q : List LI} {l : LI} (h : SegR Q l) : (lns Q).sum = l.length := by
  obtain ⟨ps, rfl, h1, rfl⟩ := h
  induction ps with
  | nil => rfl
  | cons p ps ih =>
    have := ih fun q hq => h1 q (List.mem_cons_of_mem _ hq)
    have hp := (h1 p (by simp)).len
    simp only [lns, List.map_cons, List.sum_cons, List.flatten_cons, List.length_append] at this ⊢
    rw [this, hp]; omega
theorem seg_pair {Q : List LI} {l : LI} {a : Nat} (h : SegR Q l) (ha : a + 1 < Q.length) : (Q.getD a []).length ≤ l.length ∧ (Q.getD (a + 1) []).length ≤ l.length := by
  constructor
  · exact h.mem_len (by rw [getD_lt (by omega)]; exact List.getElem_mem _)
  · exact h.mem_len (by rw [getD_lt (by omega)]; exact List.getElem_mem _)
theorem eat_it {R : Type} {n : Nat} {plan : List (List Int)} {l : LI} {k0 : List LI → Option R} (hn : 1000000 ≤ n) (hl : l.length ≤ 60) (hp : plan.length ≤ 1000) : ∀ (fuel i : Nat) (Q : List LI), i ≤ plan.length → plan.length < fuel + i → SegR Q l → Q.length ≤ 60 → VP (lns Q) (plan.drop i) →
    ∃ Q', SegR Q' l ∧ Q'.length ≤ 1 ∧ F8_1_it n k0 fuel plan plan.length i Q = k0 Q'
  | fuel, i, Q, hi, hf, hs, hQ, hv => by
    obtain ⟨f, rfl⟩ : ∃ f, fuel = f + 1 := ⟨fuel - 1, by omega⟩
    simp only [F8_1_it, F8_1_step]
    by_cases g : i < plan.length
    · have hd : plan.drop i = plan.getD i [] :: plan.drop (i + 1) := by rw [getD_lt g]; exact List.drop_eq_getElem_cons g
      rw [hd] at hv
      obtain ⟨a, h1, h2, h3⟩ := vp_inv hv
      rw [lns_len] at h1
      have e0 : ((i : Int)).toNat = i := by omega
      have e1 : ((a : Int)).toNat = a := by omega
      have e2 : ((a : Int) + 1).toNat = a + 1 := by omega
      rw [← lns_mrr h1] at h3
      obtain ⟨q1, q2⟩ := seg_pair hs h1
      have f0 : (ent (lns Q) a).getD 0 0 = (a : Int) := rfl
      simp (disch := first | omega | (simp only [List.length_cons, List.length_nil]; omega)) only [bp, wp, e0, e1, e2, h2, f0]
      rw [mergeP hn (by omega)]; simp only [ats]
      rw [delL22 (by simpa using h1) (by simp; omega), set_del h1]; simp only [ats]
      rw [show ((i : Int) + 1) = ((i + 1 : Nat) : Int) by omega]
      exact eat_it hn hl hp f (i + 1) (mrr Q a) (by omega) (by omega) (seg_mrr hs h1) (by simp; omega) h3
    · rw [bn (by omega)]
      rw [List.drop_of_length_le (by omega)] at hv
      have := vp_nil hv
      rw [lns_len] at this
      exact ⟨Q, hs, this, rfl⟩
theorem lns_nn (Q : List LI) : ∀ x ∈ lns Q, (0 : Int) ≤ x := fun x hx => by
  obtain ⟨r, _, rfl⟩ := List.mem_map.1 hx; omega
theorem vp_len {lens : List Int} {plan : List (List Int)} (h : VP lens plan) : plan.length ≤ lens.length := by
  induction h with
  | nil _ _ => simp
  | cons lens a rest h t ih => simp at ih ⊢; omega
theorem sortI {n : Nat} {l : LI} (hn : 2000000 ≤ n) (hl : l.length ≤ 60) : ∃ out, Stb out l ∧ F8 n l = some (out, ()) := by
  obtain ⟨Q, h1, h2, h3, h4⟩ := runsI (n := n) (l := l) hn hl
  unfold F8 F8_0
  rw [h4]; simp only [ats]
  have e := lns_it (n := n) (Q := Q) (k0 := fun z909 z910 =>
  (andThen (F20 n z910) fun r911 =>
  (F8_1 n r911.1 ((r911.1.length) : Int) (0 : Int) z909 (fun z934 =>
  (bif (((z934.length) : Int) == (0 : Int)) then
  some ([], ())
  else (bif (decide ((0 : Int) < ((z934.length) : Int))) then
  some ((z934.getD (0 : Nat) []), ())
  else none)))))) (by omega) n 0 (by omega) (by omega)
  rw [Int.natCast_zero, List.take_zero] at e
  rw [e]
  obtain ⟨plan, p1, p2⟩ := planI (n := n) (lens := lns Q) (by omega) (by simp; omega) (fun x hx => by
    obtain ⟨r, hr, rfl⟩ := List.mem_map.1 hx
    have := h2 r hr
    have h5 := h1.mem_len hr
    have : 0 < List.length r := List.length_pos_iff.2 this
    omega) (by rw [seg_sum h1]; omega)
  have hpl := vp_len p1
  rw [lns_len] at hpl
  rw [p2]; simp only [ats]
  unfold F8_1
  obtain ⟨Q', a1, a2, a3⟩ := eat_it (n := n) (plan := plan) (l := l) (k0 := fun z934 =>
  (bif (((z934.length) : Int) == (0 : Int)) then
  some ([], ())
  else (bif (decide ((0 : Int) < ((z934.length) : Int))) then
  some ((z934.getD (0 : Nat) []), ())
  else none))) (by omega) hl (by omega) n 0 Q (by omega) (by omega) h1 (by omega) (by simpa using p1)
  rw [Int.natCast_zero] at a3
  rw [a3]
  match Q', a1, a2 with
  | [], a1, _ => rw [a1.nil_of]; exact ⟨[], Stb.nil, rfl⟩
  | [r], a1, _ => exact ⟨r, a1.one, rfl⟩
theorem sortLong {n : Nat} {l : LI} (hn : 2 ≤ n) (hl : 60 < l.length) : F8 n l = some ([], ()) := by
  obtain ⟨m, rfl⟩ : ∃ m, n = m + 1 := ⟨n - 1, by omega⟩
  unfold F8 F8_0
  rw [runsLong hl]; simp only [ats]
  simp only [F8_0_it, F8_0_step]
  rw [bn (by simp)]
  unfold F20 F20_0
  rw [bn (by simp)]
  simp only [F20_0_it, F20_0_step]
  rw [bn (by simp)]
  unfold F20_3
  simp only [F20_3_it, F20_3_step, F20_2]
  rw [wp (by simp), bn (by simp)]
  rw [bn (by simp), bp (by simp)]
  simp only [ats]
  unfold F8_1
  simp only [F8_1_it, F8_1_step]
  rw [bn (by simp)]; rfl
end Go.Proofs.Ytjanepkjjmcchaa.Am
