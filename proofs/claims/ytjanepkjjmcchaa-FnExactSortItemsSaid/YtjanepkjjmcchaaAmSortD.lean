/- Sorting: the reference's functions. -/
import Derived.Test.YtjanepkjjmcchaaAmSortC
namespace Go.Proofs.Ytjanepkjjmcchaa.Am
open Go
set_option autoImplicit false
set_option linter.unusedVariables false
set_option linter.unusedSimpArgs false

theorem leastS_it {R : Type} {n : Nat} {k0 : Int → Int → Option R} : ∀ (fuel x : Nat) (r : Int), x ≤ 1000000 → x < fuel → ∃ a b, F41_0_it n k0 fuel x r = k0 a b
  | fuel, x, r, hx, hf => by
    obtain ⟨f, rfl⟩ : ∃ f, fuel = f + 1 := ⟨fuel - 1, by omega⟩
    simp only [F41_0_it, F41_0_step]
    by_cases g : 8 ≤ x
    · rw [bp (by omega), td (by omega), wp (by omega), show ((x : Int) / 2) = ((x / 2 : Nat) : Int) by omega]
      exact leastS_it f (x / 2) _ (by omega) (by omega)
    · rw [bn (by omega)]; exact ⟨_, _, rfl⟩
theorem leastS {n x : Nat} (hn : 1000001 ≤ n) (hx : x ≤ 1000000) : ∃ r, F41 n x = some (r, ()) := by
  unfold F41 F41_0
  obtain ⟨a, b, e⟩ := leastS_it (n := n) (k0 := fun z165 z166 => some ((IntKind.wrap .i64 (z165 + z166)), ())) n x 0 hx (by omega)
  exact ⟨_, e⟩

-- a natural run -------------------------------------------------------------------------------------------------------------------------------
theorem nat_it {R : Type} {n : Nat} {l : LI} {at_ : Nat} {down : Bool} {k0 : Int → Bool → Option R} (hl : l.length ≤ 1000000) : ∀ (fuel c : Nat), 1 ≤ c → at_ + c ≤ l.length → l.length + 1 ≤ fuel + (at_ + c) →
    (∀ p, at_ + 1 ≤ p → p < at_ + c → decide ((l.getD p d0).key < (l.getD (p - 1) d0).key) = down) →
    ∃ c' : Nat, 1 ≤ c' ∧ at_ + c' ≤ l.length ∧ (∀ p, at_ + 1 ≤ p → p < at_ + c' → decide ((l.getD p d0).key < (l.getD (p - 1) d0).key) = down) ∧ F42_0_it n k0 fuel l at_ c down = k0 c' down
  | fuel, c, h1, he, hf, hp => by
    obtain ⟨f, rfl⟩ : ∃ f, fuel = f + 1 := ⟨fuel - 1, by omega⟩
    simp only [F42_0_it, F42_0_step]
    by_cases g : at_ + c < l.length
    · have e1 : ((at_ : Int) + c).toNat = at_ + c := by omega
      have e2 : ((at_ : Int) + c - 1).toNat = at_ + c - 1 := by omega
      simp (disch := omega) only [bp, wp, e1, e2]
      cases hd : (decide ((l.getD (at_ + c) d0).key < (l.getD (at_ + c - 1) d0).key) == down) with
      | true =>
        rw [ct, show ((c : Int) + 1) = ((c + 1 : Nat) : Int) by omega]
        refine nat_it hl f (c + 1) (by omega) (by omega) (by omega) fun p p1 p2 => ?_
        by_cases q : p = at_ + c
        · subst q; exact beq_iff_eq.1 hd
        · exact hp p p1 (by omega)
      | false => rw [cf]; exact ⟨c, h1, he, hp, rfl⟩
    · rw [wp (by omega), bn (by omega)]; exact ⟨c, h1, he, hp, rfl⟩
theorem natS {n : Nat} {l : LI} {at_ : Nat} (hn : 1000002 ≤ n) (hl : l.length ≤ 1000000) (ha : at_ < l.length) :
    ∃ (c : Nat) (down : Bool), F42 n l at_ = some (((c : Int), (down, ())), ()) ∧ 1 ≤ c ∧ at_ + c ≤ l.length ∧ (if down then Dsc ((l.take (at_ + c)).drop at_) else Asc ((l.take (at_ + c)).drop at_)) := by
  unfold F42 F42_0
  by_cases g : at_ + 1 < l.length
  · have e1 : ((at_ : Int) + 1).toNat = at_ + 1 := by omega
    have e0 : ((at_ : Int)).toNat = at_ := by omega
    rw [wp (by omega), bn (by omega)]
    simp (disch := omega) only [bp, wp, e1, e0]
    obtain ⟨c, h1, h2, h3, h4⟩ := nat_it (n := n) (l := l) (at_ := at_) (down := decide ((l.getD (at_ + 1) d0).key < (l.getD at_ d0).key)) (k0 := fun z993 z994 => some ((z993, (z994, ())), ())) hl n 1 (by omega) (by omega) (by omega) (fun p p1 p2 => by omega)
    refine ⟨c, _, h4, h1, h2, ?_⟩
    split
    · rename_i hd
      exact dsc_of h2 fun p p1 p2 => of_decide_eq_true ((h3 p p1 p2).trans hd)
    · rename_i hd
      refine asc_of h2 fun p p1 p2 => ?_
      have := of_decide_eq_false ((h3 p p1 p2).trans (Bool.eq_false_iff.2 hd))
      omega
  · rw [wp (by omega), bp (by omega)]
    refine ⟨1, false, rfl, Nat.le_refl _, by omega, ?_⟩
    rw [if_neg (by simp)]
    intro p hp
    rw [seg_len (by omega) (by omega)] at hp; omega

-- an item more --------------------------------------------------------------------------------------------------------------------------------
theorem findS_it {R : Type} {n : Nat} {s : LI} {x y : Int} {k0 : LI → Int → Int → Int → Option R} (hs : s.length ≤ 1000000) (so : Srt s) : ∀ (fuel k : Nat), k ≤ s.length → k < fuel →
    (∀ p, k ≤ p → p < s.length → x < (s.getD p d0).key) →
    ∃ k' : Nat, k' ≤ s.length ∧ (∀ p, p < k' → (s.getD p d0).key ≤ x) ∧ (∀ p, k' ≤ p → p < s.length → x < (s.getD p d0).key) ∧ F43_0_it n k0 fuel s k x y = k0 s k' x y
  | fuel, k, hk, hf, hb => by
    obtain ⟨f, rfl⟩ : ∃ f, fuel = f + 1 := ⟨fuel - 1, by omega⟩
    simp only [F43_0_it, F43_0_step]
    by_cases g : 0 < k
    · have e2 : ((k : Int) - 1).toNat = k - 1 := by omega
      simp (disch := omega) only [bp, wp, e2]
      by_cases g2 : (s.getD (k - 1) d0).key > x
      · rw [bp g2, show ((k : Int) - 1) = ((k - 1 : Nat) : Int) by omega]
        refine findS_it (n := n) (k0 := k0) hs so f (k - 1) (by omega) (by omega) fun p p1 p2 => ?_
        by_cases q : p = k - 1
        · subst q; exact g2
        · exact hb p (by omega) p2
      · rw [bn g2]
        refine ⟨k, hk, fun p hp => ?_, hb, rfl⟩
        by_cases q : p = k - 1
        · subst q; omega
        · have := srt_get so (p := p) (q := k - 1) (by omega) (by omega); omega
    · rw [bn (by omega)]; exact ⟨k, hk, fun p hp => by omega, hb, rfl⟩
theorem insS {n : Nat} {s t : LI} {x : Itm} (hn : 1000002 ≤ n) (hs : s.length ≤ 100000) (h : Stb s t) : ∃ s', Stb s' (t ++ [x]) ∧ F43 n s x.key x.tag = some (s', ()) := by
  unfold F43 F43_0
  obtain ⟨k, k1, k2, k3, k4⟩ := findS_it (n := n) (s := s) (x := x.key) (y := x.tag) (k0 := fun z1083 z1084 z1085 z1086 =>
  let v1087 := []
  (bif (decide ((0 : Int) ≤ z1084)) then
  (bif (decide (z1084 ≤ ((z1083.length) : Int))) then
  let v1088 := ((z1083.take (z1084.toNat)).drop (0 : Nat))
  (bif (decide (((v1087.length) + (v1088.length)) ≤ (68719476736 : Nat))) then
  let v1089 := (v1087 ++ v1088)
  let v1090 := ((Itm.mk z1085 z1086) :: [])
  (bif (decide (((v1089.length) + (v1090.length)) ≤ (68719476736 : Nat))) then
  let v1091 := (v1089 ++ v1090)
  (bif (decide ((0 : Int) ≤ z1084)) then
  (bif (decide (z1084 ≤ ((z1083.length) : Int))) then
  (bif (decide (((z1083.length) : Int) ≤ ((z1083.length) : Int))) then
  let v1092 := ((z1083.take (((z1083.length) : Int).toNat)).drop (z1084.toNat))
  (bif (decide (((v1091.length) + (v1092.length)) ≤ (68719476736 : Nat))) then
  some ((v1091 ++ v1092), ())
  else none)
  else none)
  else none)
  else none)
  else none)
  else none)
  else none)
  else none)) (by omega) h.srt n s.length (Nat.le_refl _) (by omega) (fun p p1 p2 => by omega)
  rw [k4]
  have e0 : ((k : Int)).toNat = k := by omega
  have e1 : ((s.length : Int)).toNat = s.length := by omega
  refine ⟨_, put_stb (x := x) h k1 k2 k3, ?_⟩
  simp (disch := first | omega | (simp; omega)) only [bp, e0, e1, List.drop_zero, List.take_length, List.nil_append, itm_eta]

-- runs ----------------------------------------------------------------------------------------------------------------------------------------
theorem copy_it {R : Type} {n : Nat} {l : LI} {c : Int} {at_ m : Nat} {down : Bool} {Q : List LI} {s : LI} {k0 : LI → Int → Int → Int → List LI → LI → Option R} (hl : l.length ≤ 1000000) (hm : at_ + m ≤ l.length)
    (hs : s = if down then ((l.take (at_ + m)).drop at_).reverse else (l.take (at_ + m)).drop at_) : ∀ (fuel i : Nat), i ≤ m → m + 1 ≤ fuel + i →
    F25_2_it n k0 fuel l c at_ m down i Q (s.take i) = k0 l c at_ m Q s
  | fuel, i, hi, hf => by
    obtain ⟨f, rfl⟩ : ∃ f, fuel = f + 1 := ⟨fuel - 1, by omega⟩
    have hlen : s.length = m := by
      rw [hs]; split
      · rw [List.length_reverse, seg_len (by omega) hm]; omega
      · rw [seg_len (by omega) hm]; omega
    simp only [F25_2_it, F25_2_step]
    by_cases g : i < m
    · rw [bp (by omega)]
      have hget : s.getD i d0 = if down then l.getD (at_ + m - 1 - i) d0 else l.getD (at_ + i) d0 := by
        rw [hs]; split
        · have hr : i < ((l.take (at_ + m)).drop at_).reverse.length := by rw [List.length_reverse, seg_len (by omega) hm]; omega
          rw [getD_lt hr, List.getElem_reverse, ← getD_lt (d := d0), seg_get hm]
          · rw [seg_len (by omega) hm]; congr 1; omega
          · rw [seg_len (by omega) hm]; omega
        · rw [seg_get hm (by omega)]
      have htk : s.take i ++ [s.getD i d0] = s.take (i + 1) := by rw [getD_lt (by omega), List.take_succ_eq_append_getElem (by omega)]
      have hln : (s.take i).length = i := by simp; omega
      unfold F25_1 F25_0
      cases down with
      | true =>
        have e1 : ((at_ : Int) + m - 1 - i).toNat = at_ + m - 1 - i := by omega
        rw [ct]
        simp (disch := first | omega | (simp only [List.length_cons, List.length_nil, hln]; omega)) only [bp, wp, e1, itm_eta]
        rw [show l.getD (at_ + m - 1 - i) d0 = s.getD i d0 by rw [hget, if_pos rfl], htk, show ((i : Int) + 1) = ((i + 1 : Nat) : Int) by omega]
        exact copy_it hl hm hs f (i + 1) (by omega) (by omega)
      | false =>
        have e1 : ((at_ : Int) + i).toNat = at_ + i := by omega
        rw [cf]
        simp (disch := first | omega | (simp only [List.length_cons, List.length_nil, hln]; omega)) only [bp, wp, e1, itm_eta]
        rw [show l.getD (at_ + i) d0 = s.getD i d0 by rw [hget, if_neg (by simp)], htk, show ((i : Int) + 1) = ((i + 1 : Nat) : Int) by omega]
        exact copy_it hl hm hs f (i + 1) (by omega) (by omega)
    · rw [bn (by omega), List.take_of_length_le (by omega)]
theorem growS_it {R : Type} {n : Nat} {l : LI} {c : Int} {at_ : Nat} {Q : List LI} {k0 : LI → Int → Int → LI → List LI → Option R} (hn : 1000005 ≤ n) (hl : l.length ≤ 100000) : ∀ (fuel e : Nat) (s : LI), at_ < e → e ≤ l.length → l.length + 1 ≤ fuel + e → Stb s ((l.take e).drop at_) →
    ∃ (e' : Nat) (s' : LI), e ≤ e' ∧ e' ≤ l.length ∧ Stb s' ((l.take e').drop at_) ∧ F25_3_it n k0 fuel l c e s Q = k0 l c e' s' Q
  | fuel, e, s, ha, he, hf, hs => by
    obtain ⟨f, rfl⟩ : ∃ f, fuel = f + 1 := ⟨fuel - 1, by omega⟩
    simp only [F25_3_it, F25_3_step]
    have hlen := hs.len
    rw [seg_len (by omega) he] at hlen
    by_cases g : (s.length : Int) < c
    · rw [bp g]
      by_cases g2 : e < l.length
      · have e1 : ((e : Int)).toNat = e := by omega
        simp (disch := omega) only [bp, e1]
        obtain ⟨s', b1, b2⟩ := insS (n := n) (x := l.getD e d0) (by omega) (by omega) hs
        rw [b2]; simp only [ats]
        rw [wp (by omega), show ((e : Int) + 1) = ((e + 1 : Nat) : Int) by omega]
        rw [← snoc_seg (by omega) g2] at b1
        obtain ⟨e', s'', a1, a2, a3, a4⟩ := growS_it (n := n) (c := c) (Q := Q) (k0 := k0) hn hl f (e + 1) _ (by omega) (by omega) (by omega) b1
        exact ⟨e', s'', by omega, a2, a3, a4⟩
      · rw [bn (by omega)]; exact ⟨e, s, Nat.le_refl _, he, hs, rfl⟩
    · rw [bn g]; exact ⟨e, s, Nat.le_refl _, he, hs, rfl⟩
theorem runsS_it {R : Type} {n : Nat} {l : LI} {c : Int} {k0 : List LI → Option R} (hn : 2000000 ≤ n) (hl : l.length ≤ 100000) : ∀ (fuel at_ : Nat) (Q : List LI), at_ ≤ l.length → l.length + 1 ≤ fuel + at_ → Q.length ≤ at_ → SegR Q (l.take at_) → (∀ r ∈ Q, r ≠ []) →
    ∃ Q', SegR Q' l ∧ (∀ r ∈ Q', r ≠ []) ∧ Q'.length ≤ l.length ∧ F25_4_it n k0 fuel l c at_ Q = k0 Q'
  | fuel, at_, Q, ha, hf, hq, hs, hne => by
    obtain ⟨f, rfl⟩ : ∃ f, fuel = f + 1 := ⟨fuel - 1, by omega⟩
    simp only [F25_4_it, F25_4_step]
    by_cases g : at_ < l.length
    · rw [bp (by omega)]
      obtain ⟨m, down, h1, h2, h3, h4⟩ := natS (n := n) (l := l) (at_ := at_) (by omega) (by omega) g
      rw [h1]; simp only [ats]
      unfold F25_2
      have hc := copy_it (n := n) (l := l) (c := c) (at_ := at_) (m := m) (down := down) (Q := Q) (s := if down then ((l.take (at_ + m)).drop at_).reverse else (l.take (at_ + m)).drop at_) (k0 := fun z1161 z1162 z1163 z1164 z1165 z1166 =>
        (F25_3 n z1161 z1162 (IntKind.wrap .i64 (z1163 + z1164)) z1166 z1165 (fun z1182 z1183 z1184 z1185 z1186 =>
        let v1187 := (z1185 :: [])
        (bif (decide (((z1186.length) + (v1187.length)) ≤ (68719476736 : Nat))) then
        (F25_4_it n k0 f z1182 z1183 z1184 (z1186 ++ v1187))
        else none)))) (by omega) h3 rfl n 0 (by omega) (by omega)
      rw [Int.natCast_zero, List.take_zero] at hc
      rw [hc, wp (by omega)]
      have hst : Stb (if down then ((l.take (at_ + m)).drop at_).reverse else (l.take (at_ + m)).drop at_) ((l.take (at_ + m)).drop at_) := by
        cases down with
        | true => rw [if_pos rfl] at h4 ⊢; exact Stb.rev h4.pw
        | false => rw [if_neg (by simp)] at h4 ⊢; exact Stb.self h4.srt
      unfold F25_3
      rw [show ((at_ : Int) + m) = ((at_ + m : Nat) : Int) by omega]
      obtain ⟨e, s, a1, a2, a3, a4⟩ := growS_it (n := n) (l := l) (c := c) (at_ := at_) (Q := Q) (k0 := fun z1182 z1183 z1184 z1185 z1186 =>
        let v1187 := (z1185 :: [])
        (bif (decide (((z1186.length) + (v1187.length)) ≤ (68719476736 : Nat))) then
        (F25_4_it n k0 f z1182 z1183 z1184 (z1186 ++ v1187))
        else none)) (by omega) hl n (at_ + m) _ (by omega) h3 (by omega) hst
      rw [a4]
      show ∃ Q', _ ∧ _ ∧ _ ∧ (bif (decide ((Q.length + [s].length) ≤ (68719476736 : Nat))) then (F25_4_it n k0 f l c e (Q ++ [s])) else none) = k0 Q'
      rw [bp (by simp; omega)]
      refine runsS_it hn hl f e (Q ++ [s]) a2 (by omega) (by simp; omega) ?_ fun r hr => ?_
      · have := hs.snoc a3
        rwa [seg_join (by omega)] at this
      · rcases List.mem_append.1 hr with hr | hr
        · exact hne r hr
        · rcases List.mem_singleton.1 hr with rfl
          intro h0
          have := a3.len
          rw [h0, seg_len (by omega) a2] at this
          simp at this; omega
    · rw [bn (by omega)]
      rw [List.take_of_length_le (by omega)] at hs
      exact ⟨Q, hs, hne, by omega, rfl⟩
theorem runsS {n : Nat} {l : LI} (hn : 2000000 ≤ n) (hl : l.length ≤ 60) : ∃ Q, SegR Q l ∧ (∀ r ∈ Q, r ≠ []) ∧ Q.length ≤ l.length ∧ F25 n l = some (Q, ()) := by
  obtain ⟨c, hc⟩ := leastS (n := n) (x := l.length) (by omega) (by omega)
  unfold F25 F25_4
  rw [hc]; simp only [ats]
  obtain ⟨Q, h1, h2, h3, h4⟩ := runsS_it (n := n) (l := l) (c := c) (k0 := fun z446 => some (z446, ())) hn (by omega) n 0 [] (by omega) (by omega) (by simp) (by simpa using SegR.nil) (by simp)
  exact ⟨Q, h1, h2, h3, h4⟩

-- the plan ------------------------------------------------------------------------------------------------------------------------------------
def MA (m : Nat) (last : Bool) (z : Option (Int × Unit)) : Prop := (∃ a : Nat, a + 1 < m ∧ z = some ((a : Int), ())) ∨ (last = false ∨ m < 2) ∧ z = some ((-1 : Int), ())
theorem MA.cnd {m : Nat} {last b : Bool} {u v : Option (Int × Unit)} (h1 : MA m last u) (h2 : MA m last v) : MA m last (bif b then u else v) := by cases b <;> assumption
theorem mergeAtS {n : Nat} {s : List Int} {last : Bool} (hs : s.length ≤ 1000) : MA s.length last (F44 n s last) := by
  by_cases g1 : s.length < 2
  · refine .inr ⟨.inr g1, ?_⟩
    unfold F44; rw [wp (by omega), bp (by omega)]
  · have l1 : MA s.length last (some ((s.length : Int) - 2, ())) := .inl ⟨s.length - 2, by omega, by rw [show ((s.length : Int) - 2) = ((s.length - 2 : Nat) : Int) by omega]⟩
    have l2 : 3 ≤ s.length → MA s.length last (some ((s.length : Int) - 2 - 1, ())) := fun h => .inl ⟨s.length - 3, by omega, by rw [show ((s.length : Int) - 2 - 1) = ((s.length - 3 : Nat) : Int) by omega]⟩
    unfold F44
    by_cases g2 : 3 ≤ s.length
    · by_cases g3 : 4 ≤ s.length
      · cases last
        · simp (disch := omega) only [bp, bn (c := (s.length : Int) - 2 < 0), wp, cf]
          repeat' apply MA.cnd
          all_goals first | exact l1 | exact l2 g2 | exact .inr ⟨.inl rfl, rfl⟩
        · simp (disch := omega) only [bp, bn (c := (s.length : Int) - 2 < 0), wp, ct]
          repeat' apply MA.cnd
          all_goals first | exact l1 | exact l2 g2
      · cases last
        · simp (disch := omega) only [bp, bn (c := (s.length : Int) - 2 < 0), bn (c := (s.length : Int) - 2 > 1), wp, cf]
          repeat' apply MA.cnd
          all_goals first | exact l1 | exact l2 g2 | exact .inr ⟨.inl rfl, rfl⟩
        · simp (disch := omega) only [bp, bn (c := (s.length : Int) - 2 < 0), bn (c := (s.length : Int) - 2 > 1), wp, ct]
          repeat' apply MA.cnd
          all_goals first | exact l1 | exact l2 g2
    · cases last
      · simp (disch := omega) only [bp, bn (c := (s.length : Int) - 2 < 0), bn (c := (s.length : Int) - 2 > 0), bn (c := (s.length : Int) - 2 > 1), wp, cf]
        repeat' apply MA.cnd
        all_goals first | exact l1 | exact .inr ⟨.inl rfl, rfl⟩
      · simp (disch := omega) only [bp, bn (c := (s.length : Int) - 2 < 0), bn (c := (s.length : Int) - 2 > 0), bn (c := (s.length : Int) - 2 > 1), wp, ct]
        repeat' apply MA.cnd
        all_goals first | exact l1
theorem stepS {n : Nat} {s r : List Int} {a : Nat} (h : LN (s ++ r)) (ha : a + 1 < s.length) (hs : s.length ≤ 1000) : F45 n s a = some (mst s a, ()) := by
  obtain ⟨p1, p2, p3⟩ := h.pair ha
  have e0 : ((a : Int)).toNat = a := by omega
  have e1 : ((a : Int) + 1).toNat = a + 1 := by omega
  have e2 : ((a : Int) + 2).toNat = a + 2 := by omega
  have e3 : ((s.length : Int)).toNat = s.length := by omega
  unfold F45
  simp (disch := first | omega | (simp; omega)) only [bp, wp, e0, e1, e2, e3, List.drop_zero, List.take_length, List.nil_append]
  rfl
theorem mergesS_it {R : Type} {n : Nat} {lens : List Int} {next : Nat} {i : Nat} {k0 : List Int → List Int → Int → List (List Int) → Option R} (hl : lens.length ≤ 60) : ∀ (fuel : Nat) (s : List Int) (r : Int) (plan : List (List Int)), s.length < fuel → LN (s ++ lens.drop next) →
    s.length + plan.length ≤ 1000 → MA s.length ((i : Int) == (lens.length : Int)) (some (r, ())) → (∃ (s' : List Int) (rest : List (List Int)), LN (s' ++ lens.drop next) ∧ (∀ more, VP (s' ++ lens.drop next) more → VP (s ++ lens.drop next) (rest ++ more)) ∧
      s'.length + rest.length = s.length ∧ (i = lens.length → s'.length < 2) ∧ F26_1_it n k0 fuel lens s i r plan = k0 lens s' i (plan ++ rest))
  | fuel, s, r, plan, hf, h, hb, hr => by
    obtain ⟨f, rfl⟩ : ∃ f, fuel = f + 1 := ⟨fuel - 1, by omega⟩
    simp only [F26_1_it, F26_1_step]
    rcases hr with ⟨a, ha, he⟩ | ⟨h1, he⟩
    · obtain rfl : r = a := by cases he; rfl
      have e0 : ((a : Int)).toNat = a := by omega
      have e1 : ((a : Int) + 1).toNat = a + 1 := by omega
      simp (disch := first | omega | (simp only [List.length_cons, List.length_nil]; omega)) only [bp, wp, e0, e1]
      rw [stepS h ha (by omega)]; simp only [ats]
      have hln : LN (mst s a ++ lens.drop next) := by rw [mst_app ha]; exact h.mst (by simp; omega)
      have hml := mst_len ha
      have hq := mergeAtS (n := n) (s := mst s a) (last := ((i : Int) == (lens.length : Int))) (by omega)
      obtain ⟨r', hr'⟩ : ∃ r', F44 n (mst s a) ((i : Int) == (lens.length : Int)) = some (r', ()) := by
        rcases hq with ⟨a, _, e⟩ | ⟨_, e⟩ <;> exact ⟨_, e⟩
      rw [hr'] at hq ⊢; simp only [ats]
      obtain ⟨s', rest, c1, c2, c3, c4, c5⟩ := mergesS_it (n := n) (next := next) (i := i) (k0 := k0) hl f (mst s a) r' (plan ++ [ent s a]) (by omega) hln (by simp; omega) hq
      refine ⟨s', ent s a :: rest, c1, fun more hm => ?_, by simp; omega, c4, ?_⟩
      · exact vp_cons ha (c2 more hm)
      · have e3 : plan ++ ent s a :: rest = (plan ++ [ent s a]) ++ rest := by simp
        rw [e3]; exact c5
    · obtain rfl : r = -1 := by cases he; rfl
      rw [bn (by omega)]
      refine ⟨s, [], h, fun more hm => hm, rfl, fun hi => ?_, by simp⟩
      rcases h1 with h1 | h1
      · rw [hi] at h1; simp at h1
      · exact h1
theorem planS_it {R : Type} {n : Nat} {lens : List Int} {k0 : List (List Int) → Option R} (hn : 1000 ≤ n) (hl : lens.length ≤ 60) : ∀ (fuel next : Nat) (plan : List (List Int)) (s : List Int), next ≤ lens.length → lens.length + 3 ≤ fuel + next → LN (s ++ lens.drop next) →
    s.length + (lens.length - next) + plan.length ≤ 60 → ∃ rest, VP (s ++ lens.drop next) rest ∧ F26_3_it n k0 fuel lens s next plan = k0 (plan ++ rest)
  | fuel, next, plan, s, hx, hf, h, hb => by
    obtain ⟨f, rfl⟩ : ∃ f, fuel = f + 1 := ⟨fuel - 1, by omega⟩
    simp only [F26_3_it, F26_3_step]
    rw [bp (by omega)]
    have e0 : ((next : Int)).toNat = next := by omega
    unfold F26_2 F26_0 F26_1
    by_cases g : next < lens.length
    · simp (disch := first | omega | (simp only [List.length_cons, List.length_nil, List.nil_append]; omega)) only [bp, e0, List.nil_append]
      have hd : lens.drop next = lens.getD next 0 :: lens.drop (next + 1) := by rw [getD_lt g]; exact List.drop_eq_getElem_cons g
      have hassoc : s ++ lens.drop next = (s ++ [lens.getD next 0]) ++ lens.drop (next + 1) := by rw [hd]; simp
      rw [hassoc] at h ⊢
      have hq := mergeAtS (n := n) (s := s ++ [lens.getD next 0]) (last := ((next : Int) == (lens.length : Int))) (by simp; omega)
      obtain ⟨r', hr'⟩ : ∃ r', F44 n (s ++ [lens.getD next 0]) ((next : Int) == (lens.length : Int)) = some (r', ()) := by
        rcases hq with ⟨a, _, e⟩ | ⟨_, e⟩ <;> exact ⟨_, e⟩
      rw [hr'] at hq ⊢; simp only [ats]
      obtain ⟨s', rest, c1, c2, c3, c4, c5⟩ := mergesS_it (n := n) (next := next + 1) (i := next) (k0 := fun z1562 z1563 z1564 z1565 => (F26_3_it n k0 f z1562 z1563 (IntKind.wrap .i64 (z1564 + (1 : Int))) z1565)) hl n (s ++ [lens.getD next 0]) r' plan (by simp; omega) h (by simp; omega) hq
      rw [c5, wp (by omega), show ((next : Int) + 1) = ((next + 1 : Nat) : Int) by omega]
      simp at c3
      obtain ⟨more, d1, d2⟩ := planS_it (n := n) (k0 := k0) hn hl f (next + 1) (plan ++ rest) s' (by omega) (by omega) c1 (by simp; omega)
      exact ⟨rest ++ more, c2 more d1, by rw [d2]; simp⟩
    · have hz : next = lens.length := by omega
      rw [bn (by omega)]
      dsimp only
      have hq := mergeAtS (n := n) (s := s) (last := ((next : Int) == (lens.length : Int))) (by omega)
      obtain ⟨r', hr'⟩ : ∃ r', F44 n s ((next : Int) == (lens.length : Int)) = some (r', ()) := by
        rcases hq with ⟨a, _, e⟩ | ⟨_, e⟩ <;> exact ⟨_, e⟩
      rw [hr'] at hq ⊢; simp only [ats]
      obtain ⟨s', rest, c1, c2, c3, c4, c5⟩ := mergesS_it (n := n) (next := next) (i := next) (k0 := fun z1562 z1563 z1564 z1565 => (F26_3_it n k0 f z1562 z1563 (IntKind.wrap .i64 (z1564 + (1 : Int))) z1565)) hl n s r' plan (by omega) h (by omega) hq
      rw [c5, wp (by omega)]
      have hdn : lens.drop next = [] := List.drop_of_length_le (by omega)
      obtain ⟨f2, rfl⟩ : ∃ f2, f = f2 + 1 := ⟨f - 1, by omega⟩
      simp only [F26_3_it, F26_3_step]
      rw [bn (by omega)]
      refine ⟨rest, ?_, rfl⟩
      have := c2 [] (VP.nil _ (by rw [hdn]; have := c4 hz; simp; omega))
      simpa using this
theorem planS {n : Nat} {lens : List Int} (hn : 1000 ≤ n) (hl : lens.length ≤ 60) (hb : ∀ x ∈ lens, (0 : Int) ≤ x) (hs : lens.sum ≤ 100000000) : ∃ plan, VP lens plan ∧ F26 n lens = some (plan, ()) := by
  unfold F26 F26_3
  obtain ⟨rest, h1, h2⟩ := planS_it (n := n) (lens := lens) (k0 := fun z1582 => some (z1582, ())) hn hl n 0 [] [] (by omega) (by omega) ⟨fun x hx => hb x (by simpa using hx), by simpa using hs⟩ (by simp; omega)
  exact ⟨rest, by simpa using h1, by simpa using h2⟩

-- the merge of two rows -----------------------------------------------------------------------------------------------------------------------
theorem dropc {l : LI} {i : Nat} (h : i < l.length) : l.drop i = l.getD i d0 :: l.drop (i + 1) := by rw [getD_lt h]; exact List.drop_eq_getElem_cons h
theorem upto_it {R : Type} {n : Nat} {a b : LI} {k : Nat} {k0 : LI → LI → Int → Int → LI → Option R} (ha : a.length ≤ 1000) (hk : k < b.length) (hb : b.length ≤ 1000) : ∀ (fuel i : Nat) (out : LI), i ≤ a.length → a.length < fuel + i → out.length ≤ 1000000 + i →
    ∃ (i' : Nat) (out' : LI), i ≤ i' ∧ i' ≤ a.length ∧ out'.length + i = out.length + i' ∧ out' ++ [b.getD k d0] ++ mrg (a.drop i') (b.drop (k + 1)) = out ++ mrg (a.drop i) (b.drop k) ∧ F27_0_it n k0 fuel a b i k out = k0 a b i' k out'
  | fuel, i, out, hi, hf, ho => by
    obtain ⟨f, rfl⟩ : ∃ f, fuel = f + 1 := ⟨fuel - 1, by omega⟩
    simp only [F27_0_it, F27_0_step]
    by_cases g : i < a.length
    · have e0 : ((i : Int)).toNat = i := by omega
      have e1 : ((k : Int)).toNat = k := by omega
      simp (disch := first | omega | (simp only [List.length_cons, List.length_nil]; omega)) only [bp, wp, e0, e1]
      by_cases g2 : (a.getD i d0).key ≤ (b.getD k d0).key
      · rw [bp g2, itm_eta, show ((i : Int) + 1) = ((i + 1 : Nat) : Int) by omega]
        obtain ⟨i', out', a1, a2, a3, a4, a5⟩ := upto_it (n := n) (k0 := k0) ha hk hb f (i + 1) (out ++ [a.getD i d0]) (by omega) (by omega) (by simp; omega)
        refine ⟨i', out', by omega, a2, by simp at a3; omega, ?_, a5⟩
        rw [a4, dropc g, dropc hk, mrg_ge _ _ (by omega)]
        simp
      · rw [bn g2]
        refine ⟨i, out, Nat.le_refl _, hi, rfl, ?_, rfl⟩
        rw [dropc (l := b) hk, dropc g, mrg_lt _ _ (by omega)]
        simp
    · rw [bn (by omega)]
      refine ⟨i, out, Nat.le_refl _, hi, rfl, ?_, rfl⟩
      rw [List.drop_of_length_le (l := a) (by omega), mrg_nil, mrg_nil, dropc (l := b) hk]; simp
theorem mergeS_it {R : Type} {n : Nat} {a b : LI} {k0 : LI → Int → LI → Option R} (hn : 10000 ≤ n) (ha : a.length ≤ 1000) (hb : b.length ≤ 1000) : ∀ (fuel i k : Nat) (out : LI), i ≤ a.length → k ≤ b.length → b.length < fuel + k → out.length ≤ i + k →
    ∃ (i' : Nat) (out' : LI), i' ≤ a.length ∧ out'.length ≤ a.length + b.length ∧ out' ++ a.drop i' = out ++ mrg (a.drop i) (b.drop k) ∧ F27_1_it n k0 fuel a b i k out = k0 a i' out'
  | fuel, i, k, out, hi, hk, hf, ho => by
    obtain ⟨f, rfl⟩ : ∃ f, fuel = f + 1 := ⟨fuel - 1, by omega⟩
    simp only [F27_1_it, F27_1_step]
    by_cases g : k < b.length
    · rw [bp (by omega)]
      unfold F27_0
      obtain ⟨i', out', a1, a2, a3, a4, a5⟩ := upto_it (n := n) (a := a) (b := b) (k := k) (k0 := fun z1686 z1687 z1688 z1689 z1690 =>
  (bif (decide ((0 : Int) ≤ z1689)) then
  (bif (decide (z1689 < ((z1687.length) : Int))) then
  let v1691 := (z1687.getD (z1689.toNat) (Itm.mk (0 : Int) (0 : Int)))
  let v1694 := ((Itm.mk v1691.key v1691.tag) :: [])
  (bif (decide (((z1690.length) + (v1694.length)) ≤ (68719476736 : Nat))) then
  (F27_1_it n k0 f z1686 z1687 z1688 (IntKind.wrap .i64 (z1689 + (1 : Int))) (z1690 ++ v1694))
  else none)
  else none)
  else none)) ha g hb n i out hi (by omega) (by omega)
      rw [a5]
      have e1 : ((k : Int)).toNat = k := by omega
      simp (disch := first | omega | (simp only [List.length_cons, List.length_nil]; omega)) only [bp, wp, e1, itm_eta]
      rw [show ((k : Int) + 1) = ((k + 1 : Nat) : Int) by omega]
      obtain ⟨i'', out'', b1, b2, b3, b4⟩ := mergeS_it (n := n) (k0 := k0) hn ha hb f i' (k + 1) (out' ++ [b.getD k d0]) a2 (by omega) (by omega) (by simp; omega)
      exact ⟨i'', out'', b1, b2, by rw [b3, a4], b4⟩
    · rw [bn (by omega)]
      refine ⟨i, out, hi, by omega, ?_, rfl⟩
      rw [List.drop_of_length_le (l := b) (by omega), mrg_nil2]
theorem mergeQ {n : Nat} {a b : LI} (hn : 1000000 ≤ n) (ha : a.length ≤ 1000) (hb : b.length ≤ 1000) : F27 n a b = some (mrg a b, ()) := by
  unfold F27 F27_1
  obtain ⟨i, out, h1, h2, h3, h4⟩ := mergeS_it (n := n) (a := a) (b := b) (k0 := fun z1697 z1698 z1699 =>
  (bif (decide ((0 : Int) ≤ z1698)) then
  (bif (decide (z1698 ≤ ((z1697.length) : Int))) then
  (bif (decide (((z1697.length) : Int) ≤ ((z1697.length) : Int))) then
  let v1700 := ((z1697.take (((z1697.length) : Int).toNat)).drop (z1698.toNat))
  (bif (decide (((z1699.length) + (v1700.length)) ≤ (68719476736 : Nat))) then
  some ((z1699 ++ v1700), ())
  else none)
  else none)
  else none)
  else none)) (by omega) ha hb n 0 0 [] (by omega) (by omega) (by omega) (by simp)
  rw [Int.natCast_zero] at h4
  rw [h4]
  have e0 : ((i : Int)).toNat = i := by omega
  have e1 : ((a.length : Int)).toNat = a.length := by omega
  simp (disch := first | omega | (simp; omega)) only [bp, e0, e1, List.take_length]
  rw [h3]; simp

-- the items sorted ----------------------------------------------------------------------------------------------------------------------------
theorem lnsS_it {R : Type} {n : Nat} {Q : List LI} {k0 : List LI → List Int → Option R} (hl : Q.length ≤ 1000) : ∀ (fuel i : Nat), i ≤ Q.length → Q.length < fuel + i →
    F10_0_it n k0 fuel Q i ((lns Q).take i) = k0 Q (lns Q)
  | fuel, i, hi, hf => by
    obtain ⟨f, rfl⟩ : ∃ f, fuel = f + 1 := ⟨fuel - 1, by omega⟩
    simp only [F10_0_it, F10_0_step]
    have hk : ((lns Q).take i).length = i := by simp; omega
    by_cases g : i < Q.length
    · have e0 : ((i : Int)).toNat = i := by omega
      simp (disch := first | omega | (simp only [List.length_cons, List.length_nil, hk]; omega)) only [bp, wp, e0]
      rw [show ((i : Int) + 1) = ((i + 1 : Nat) : Int) by omega, show (lns Q).take i ++ [((Q.getD i []).length : Int)] = (lns Q).take (i + 1) by
        rw [← lns_get g, getD_lt (by simpa using g), List.take_succ_eq_append_getElem (by simpa using g)]]
      exact lnsS_it hl f (i + 1) (by omega) (by omega)
    · rw [bn (by omega), List.take_of_length_le (by simp; omega)]
theorem app_get {S T : List LI} {a : Nat} (h : a < S.length) : (S ++ T).getD a [] = S.getD a [] := by simp only [List.getD, List.getElem?_append_left h]
/-- rows are put on the stack until both are there -/
theorem push_it {R : Type} {n : Nat} {Q : List LI} {plan : List (List Int)} {i a : Nat} {k0 : List LI → List (List Int) → Int → Int → List LI → Option R} (hi : i < plan.length) (hp : plan.length ≤ 1000) (hQ : Q.length ≤ 1000) : ∀ (fuel next : Nat) (S : List LI), next ≤ Q.length → Q.length < fuel + next → S.length ≤ 2000 + next →
    a + 1 < (S ++ Q.drop next).length → plan.getD i [] = ent (lns (S ++ Q.drop next)) a → a ≤ 1000000 →
    ∃ (next' : Nat) (S' : List LI), next' ≤ Q.length ∧ S' ++ Q.drop next' = S ++ Q.drop next ∧ a + 1 < S'.length ∧ S'.length + next = S.length + next' ∧ F10_1_it n k0 fuel Q plan next i S = k0 Q plan next' i S'
  | fuel, next, S, hx, hf, hS, ha, he, hab => by
    obtain ⟨f, rfl⟩ : ∃ f, fuel = f + 1 := ⟨fuel - 1, by omega⟩
    simp only [F10_1_it, F10_1_step]
    have e0 : ((i : Int)).toNat = i := by omega
    have e1 : ((a : Int)).toNat = a := by omega
    have e2 : ((a : Int) + 1).toNat = a + 1 := by omega
    have e3 : ((next : Int)).toNat = next := by omega
    have l3 : (ent (lns (S ++ Q.drop next)) a).length = 3 := rfl
    have f0 : (ent (lns (S ++ Q.drop next)) a).getD 0 0 = (a : Int) := rfl
    have f1 : (ent (lns (S ++ Q.drop next)) a).getD 1 0 = (((S ++ Q.drop next).getD a []).length : Int) := lns_get (by omega)
    have f2 : (ent (lns (S ++ Q.drop next)) a).getD 2 0 = (((S ++ Q.drop next).getD (a + 1) []).length : Int) := lns_get ha
    by_cases g : a + 1 < S.length
    · rw [app_get (by omega)] at f1 f2
      simp (disch := first | omega) only [bp, wp, e0, e1, e2, he, l3, f0, f1, f2, bn (c := ((S.length : Int) < (a : Int) + 2)), nen]
      exact ⟨next, S, hx, rfl, g, rfl, rfl⟩
    · have hlt : next < Q.length := by simp at ha; omega
      simp (disch := first | omega | (simp only [List.length_cons, List.length_nil]; omega)) only [bp, wp, e0, e1, e2, e3, he, l3, f0]
      have hd : Q.drop next = Q.getD next [] :: Q.drop (next + 1) := by rw [getD_lt hlt]; exact List.drop_eq_getElem_cons hlt
      have hassoc : S ++ Q.drop next = (S ++ [Q.getD next []]) ++ Q.drop (next + 1) := by rw [hd]; simp
      rw [hassoc] at ha he ⊢
      rw [show ((next : Int) + 1) = ((next + 1 : Nat) : Int) by omega]
      obtain ⟨n', S', b1, b2, b3, b4, b5⟩ := push_it (n := n) (k0 := k0) hi hp hQ f (next + 1) (S ++ [Q.getD next []]) (by omega) (by omega) (by simp; omega) ha he hab
      exact ⟨n', S', b1, b2, b3, by simp at b4; omega, b5⟩
theorem eatS_it {R : Type} {n : Nat} {Q : List LI} {plan : List (List Int)} {l : LI} {k0 : List LI → List (List Int) → List LI → Option R} (hn : 1000000 ≤ n) (hl : l.length ≤ 60) (hp : plan.length ≤ 1000) (hQ : Q.length ≤ 1000) : ∀ (fuel i next : Nat) (S : List LI), i ≤ plan.length → plan.length < fuel + i → next ≤ Q.length →
    SegR (S ++ Q.drop next) l → (S ++ Q.drop next).length ≤ 60 → VP (lns (S ++ Q.drop next)) (plan.drop i) →
    ∃ (next' : Nat) (S' : List LI), SegR (S' ++ Q.drop next') l ∧ (S' ++ Q.drop next').length ≤ 1 ∧ (S ≠ [] ∨ i < plan.length → S' ≠ []) ∧ F10_2_it n k0 fuel Q plan next i S = k0 Q plan S'
  | fuel, i, next, S, hi, hf, hx, hs, hS, hv => by
    obtain ⟨f, rfl⟩ : ∃ f, fuel = f + 1 := ⟨fuel - 1, by omega⟩
    simp only [F10_2_it, F10_2_step]
    by_cases g : i < plan.length
    · have hd : plan.drop i = plan.getD i [] :: plan.drop (i + 1) := by rw [getD_lt g]; exact List.drop_eq_getElem_cons g
      rw [hd] at hv
      obtain ⟨a, h1, h2, h3⟩ := vp_inv hv
      rw [lns_len] at h1
      rw [bp (by omega)]
      unfold F10_1
      have hS2 : S.length ≤ 60 := by simp at hS; omega
      obtain ⟨next', S', b1, b2, b3, b4, b5⟩ := push_it (n := n) (Q := Q) (plan := plan) (i := i) (a := a) (k0 := fun z1808 z1809 z1810 z1811 z1812 =>
  (bif (decide ((0 : Int) ≤ z1811)) then
  (bif (decide (z1811 < ((z1809.length) : Int))) then
  let v1814 := (z1809.getD (z1811.toNat) [])
  (bif (decide ((0 : Int) < ((v1814.length) : Int))) then
  let v1816 := (v1814.getD (0 : Nat) (0 : Int))
  (bif (decide ((0 : Int) ≤ v1816)) then
  (bif (decide (v1816 < ((z1812.length) : Int))) then
  let v1819 := (IntKind.wrap .i64 (v1816 + (1 : Int)))
  (bif (decide ((0 : Int) ≤ v1819)) then
  (bif (decide (v1819 < ((z1812.length) : Int))) then
  (andThen (F27 n (z1812.getD (v1816.toNat) []) (z1812.getD (v1819.toNat) [])) fun r1822 =>
  let v1823 := []
  let v1824 := (IntKind.wrap .i64 (v1816 + (2 : Int)))
  (bif (decide ((0 : Int) ≤ v1824)) then
  (bif (decide (v1824 ≤ ((z1812.length) : Int))) then
  (bif (decide (((z1812.length) : Int) ≤ ((z1812.length) : Int))) then
  let v1825 := ((z1812.take (((z1812.length) : Int).toNat)).drop (v1824.toNat))
  (bif (decide (((v1823.length) + (v1825.length)) ≤ (68719476736 : Nat))) then
  let v1826 := (v1823 ++ v1825)
  let v1827 := []
  (bif (decide ((0 : Int) ≤ v1816)) then
  (bif (decide (v1816 ≤ ((z1812.length) : Int))) then
  let v1828 := (v1816.toNat)
  (bif (decide (((v1827.length) + ((z1812.take v1828).length)) ≤ (68719476736 : Nat))) then
  let v1829 := (v1827 ++ (z1812.take v1828))
  let v1830 := (r1822.1 :: [])
  (bif (decide (((v1829.length) + (v1830.length)) ≤ (68719476736 : Nat))) then
  let v1831 := (v1829 ++ v1830)
  (bif (decide (((v1831.length) + (v1826.length)) ≤ (68719476736 : Nat))) then
  (F10_2_it n k0 f z1808 z1809 z1810 (IntKind.wrap .i64 (z1811 + (1 : Int))) (v1831 ++ v1826))
  else none)
  else none)
  else none)
  else none)
  else none)
  else none)
  else none)
  else none)
  else none))
  else none)
  else none)
  else none)
  else none)
  else none)
  else none)
  else none)) g hp hQ n next S hx (by omega) (by omega) h1 h2 (by omega)
      rw [b5]
      have e0 : ((i : Int)).toNat = i := by omega
      have e1 : ((a : Int)).toNat = a := by omega
      have e2 : ((a : Int) + 1).toNat = a + 1 := by omega
      have e3 : ((a : Int) + 2).toNat = a + 2 := by omega
      have e4 : ((S'.length : Int)).toNat = S'.length := by omega
      have hle : S'.length ≤ 60 := by rw [← b2] at hS; simp at hS; omega
      rw [← b2] at h2 h3 h1 hs
      have l3 : (ent (lns (S' ++ Q.drop next')) a).length = 3 := rfl
      have f0 : (ent (lns (S' ++ Q.drop next')) a).getD 0 0 = (a : Int) := rfl
      obtain ⟨q1, q2⟩ := seg_pair hs h1
      rw [app_get (by omega)] at q1
      rw [app_get (by omega)] at q2
      have hm := mergeQ (n := n) (a := S'.getD a []) (b := S'.getD (a + 1) []) hn (by omega) (by omega)
      simp (disch := first | omega | (simp; omega)) only [bp, wp, e0, e1, e2, e3, e4, h2, l3, f0, hm, ats, List.nil_append, List.take_length]
      rw [show ((i : Int) + 1) = ((i + 1 : Nat) : Int) by omega]
      have hmr : mrr (S' ++ Q.drop next') a = mrr S' a ++ Q.drop next' := by
        unfold mrr
        rw [app_get (by omega), app_get (by omega), List.take_append_of_le_length (by omega), List.drop_append_of_le_length (by omega)]
        simp
      rw [← lns_mrr h1, hmr] at h3
      have hs2 := seg_mrr hs h1
      rw [hmr] at hs2
      have hl2 : (mrr S' a ++ Q.drop next').length ≤ 60 := by
        rw [← b2] at hS
        rw [← hmr]; simp at hS ⊢; omega
      obtain ⟨n2, S2, c1, c2, c3, c4⟩ := eatS_it (n := n) (k0 := k0) hn hl hp hQ f (i + 1) next' (mrr S' a) (by omega) (by omega) b1 hs2 hl2 h3
      exact ⟨n2, S2, c1, c2, fun _ => c3 (.inl (by simp)), c4⟩
    · rw [bn (by omega)]
      rw [List.drop_of_length_le (l := plan) (by omega)] at hv
      have := vp_nil hv
      rw [lns_len] at this
      exact ⟨next, S, hs, this, fun h => h.elim id fun h => absurd h g, rfl⟩
theorem sortS {n : Nat} {l : LI} (hn : 2000000 ≤ n) (hl : l.length ≤ 60) : ∃ out, Stb out l ∧ F10 n l = some (out, ()) := by
  obtain ⟨Q, h1, h2, h3, h4⟩ := runsS (n := n) (l := l) hn hl
  unfold F10 F24 F10_0
  simp only [ats]
  rw [nn (by omega), h4]; simp only [ats]
  have e := lnsS_it (n := n) (Q := Q) (k0 := fun z1745 z1746 =>
  (andThen (F26 n z1746) fun r1747 =>
  (F10_2 n z1745 r1747.1 (0 : Int) (0 : Int) [] (fun z1834 z1835 z1836 =>
  (F10_3 n z1834 z1835 z1836 (fun z1842 =>
  (bif (((z1842.length) : Int) == (0 : Int)) then
  some ([], ())
  else let v1845 := []
  (bif (decide ((0 : Int) < ((z1842.length) : Int))) then
  let v1847 := (z1842.getD (0 : Nat) [])
  (bif (decide (((v1845.length) + (v1847.length)) ≤ (68719476736 : Nat))) then
  some ((v1845 ++ v1847), ())
  else none)
  else none))) (fun z1849 =>
  (bif (((z1849.length) : Int) == (0 : Int)) then
  some ([], ())
  else let v1852 := []
  (bif (decide ((0 : Int) < ((z1849.length) : Int))) then
  let v1853 := (z1849.getD (0 : Nat) [])
  (bif (decide (((v1852.length) + (v1853.length)) ≤ (68719476736 : Nat))) then
  some ((v1852 ++ v1853), ())
  else none)
  else none)))))))) (by omega) n 0 (by omega) (by omega)
  rw [Int.natCast_zero, List.take_zero] at e
  rw [e]
  obtain ⟨plan, p1, p2⟩ := planS (n := n) (lens := lns Q) (by omega) (by simp; omega) (lns_nn Q) (by rw [seg_sum h1]; omega)
  have hpl := vp_len p1
  rw [lns_len] at hpl
  rw [p2]; simp only [ats]
  unfold F10_2
  obtain ⟨next, S, a1, a2, a3, a4⟩ := eatS_it (n := n) (Q := Q) (plan := plan) (l := l) (k0 := fun z1834 z1835 z1836 =>
  (F10_3 n z1834 z1835 z1836 (fun z1842 =>
  (bif (((z1842.length) : Int) == (0 : Int)) then
  some ([], ())
  else let v1845 := []
  (bif (decide ((0 : Int) < ((z1842.length) : Int))) then
  let v1847 := (z1842.getD (0 : Nat) [])
  (bif (decide (((v1845.length) + (v1847.length)) ≤ (68719476736 : Nat))) then
  some ((v1845 ++ v1847), ())
  else none)
  else none))) (fun z1849 =>
  (bif (((z1849.length) : Int) == (0 : Int)) then
  some ([], ())
  else let v1852 := []
  (bif (decide ((0 : Int) < ((z1849.length) : Int))) then
  let v1853 := (z1849.getD (0 : Nat) [])
  (bif (decide (((v1852.length) + (v1853.length)) ≤ (68719476736 : Nat))) then
  some ((v1852 ++ v1853), ())
  else none)
  else none))))) (by omega) hl (by omega) (by omega) n 0 0 [] (by omega) (by omega) (by omega) (by simpa using h1) (by simp; omega) (by simpa using p1)
  rw [Int.natCast_zero] at a4
  rw [a4]
  unfold F10_3
  have fin : ∀ (T : List LI), SegR T l → T.length ≤ 1 → ∃ out, Stb out l ∧ (bif (((T.length) : Int) == (0 : Int)) then
      some ([], ())
      else let v1845 := []
      (bif (decide ((0 : Int) < ((T.length) : Int))) then
      let v1847 := (T.getD (0 : Nat) [])
      (bif (decide (((v1845.length) + (v1847.length)) ≤ (68719476736 : Nat))) then
      some ((v1845 ++ v1847), ())
      else none)
      else none)) = some (out, ()) := by
    intro T h5 h6
    match T, h5, h6 with
    | [], h5, _ => rw [h5.nil_of]; exact ⟨[], Stb.nil, rfl⟩
    | [r], h5, _ =>
      have hb := h5.one
      have hbl := hb.len
      refine ⟨r, hb, ?_⟩
      rw [eqn (by simp)]
      simp (disch := first | omega | (simp; omega)) only [bp, List.getD_cons_zero, List.nil_append]
      rw [bp (by simp)]
  by_cases g : plan.length = 0
  · rw [eqp (by omega)]
    have hz : plan = [] := List.length_eq_zero_iff.1 g
    rw [hz] at p1
    have := vp_nil p1
    rw [lns_len] at this
    exact fin Q h1 this
  · rw [eqn (by omega)]
    have hne := a3 (.inr (by omega))
    have hr : Q.drop next = [] := by
      have : 0 < S.length := List.length_pos_iff.2 hne
      rw [List.length_append] at a2
      exact List.length_eq_zero_iff.1 (by omega)
    rw [hr, List.append_nil] at a1 a2
    exact fin S a1 a2
theorem sortSLong {n : Nat} {l : LI} (hl : 60 < l.length) : F10 n l = some ([], ()) := by
  unfold F10 F24
  simp only [ats]
  rw [np (by omega)]
end Go.Proofs.Ytjanepkjjmcchaa.Am
