/- Sorting: the program's functions, one by one. -/
import Derived.Test.YtjanepkjjmcchaaAmSortZF
import Derived.Test.YtjanepkjjmcchaaAmSortA
import Derived.Test.YtjanepkjjmcchaaAmPl
namespace Go.Proofs.Ytjanepkjjmcchaa.Am
open Go
set_option autoImplicit false
set_option linter.unusedVariables false
set_option linter.unusedSimpArgs false

abbrev d0 : Itm := Itm.mk (0 : Int) (0 : Int)
abbrev LI : Type := List Itm

theorem itm_eta (x : Itm) : Itm.mk x.key x.tag = x := rfl
theorem take_len {α : Type} (l : List α) (h : ((l.length : Int)).toNat = l.length) : l.take ((l.length : Int)).toNat = l := by rw [h, List.take_length]
theorem snoc_seg {l : LI} {a e : Nat} (h : a ≤ e) (he : e < l.length) : (l.take (e + 1)).drop a = (l.take e).drop a ++ [l.getD e d0] := by
  rw [getD_lt he, List.take_succ_eq_append_getElem he, List.drop_append_of_le_length (by simp; omega)]
theorem seg_len {l : LI} {a e : Nat} (h : a ≤ e) (he : e ≤ l.length) : ((l.take e).drop a).length = e - a := by simp; omega
theorem seg_join {l : LI} {a e : Nat} (h : a ≤ e) : l.take a ++ (l.take e).drop a = l.take e := by
  have := List.take_append_drop a (l.take e)
  rwa [List.take_take, Nat.min_eq_left h] at this
theorem seg_get {l : LI} {a e p : Nat} (he : e ≤ l.length) (hp : a + p < e) : ((l.take e).drop a).getD p d0 = l.getD (a + p) d0 := by
  rw [getD_lt (by simp; omega), getD_lt (by omega)]
  simp [List.getElem_drop, List.getElem_take]

-- the least length of a run ------------------------------------------------------------------------------------------------------------------
theorem least_it {R : Type} {n : Nat} {k0 : Int → Int → Option R} : ∀ (fuel x : Nat) (r : Int), x ≤ 1000000 → x < fuel → ∃ a b, F28_0_it n k0 fuel x r = k0 a b
  | fuel, x, r, hx, hf => by
    obtain ⟨f, rfl⟩ : ∃ f, fuel = f + 1 := ⟨fuel - 1, by omega⟩
    simp only [F28_0_it, F28_0_step]
    by_cases g : 8 ≤ x
    · rw [bp (by omega), td (by omega), wp (by omega), show ((x : Int) / 2) = ((x / 2 : Nat) : Int) by omega]
      exact least_it f (x / 2) _ (by omega) (by omega)
    · rw [bn (by omega)]; exact ⟨_, _, rfl⟩
theorem leastI {n x : Nat} (hn : 1000001 ≤ n) (hx : x ≤ 1000000) : ∃ r, F28 n x = some (r, ()) := by
  unfold F28 F37 F28_0
  simp (disch := omega) only [bp, ats, nn]
  obtain ⟨a, b, e⟩ := least_it (n := n) (k0 := fun z165 z166 => some ((IntKind.wrap .i64 (z165 + z166)), ())) n x 0 hx (by omega)
  exact ⟨_, e⟩

-- a row turned --------------------------------------------------------------------------------------------------------------------------------
theorem rev_it {R : Type} {n : Nat} {k0 : LI → Option R} : ∀ (fuel i j : Nat) (l : LI), i ≤ j + 1 → j < l.length → l.length ≤ 1000000 → j + 1 < fuel + i →
    ∃ r : LI, r.length = l.length ∧ (∀ p, p < l.length → (i ≤ p ∧ p ≤ j → r.getD p d0 = l.getD (i + j - p) d0) ∧ (¬ (i ≤ p ∧ p ≤ j) → r.getD p d0 = l.getD p d0)) ∧ F30_0_it n k0 fuel i j l = k0 r
  | fuel, i, j, l, hi, hj, hl, hf => by
    obtain ⟨f, rfl⟩ : ∃ f, fuel = f + 1 := ⟨fuel - 1, by omega⟩
    simp only [F30_0_it, F30_0_step]
    by_cases g : i < j
    · have e1 : ((i : Int)).toNat = i := by omega
      have e2 : ((j : Int)).toNat = j := by omega
      simp (disch := omega) only [bp, e1, e2, itm_eta, List.length_set, wp]
      rw [show ((i : Int) + 1) = ((i + 1 : Nat) : Int) by omega, show ((j : Int) - 1) = ((j - 1 : Nat) : Int) by omega]
      obtain ⟨r, h1, h2, h3⟩ := rev_it (n := n) (k0 := k0) f (i + 1) (j - 1) ((l.set i (l.getD j d0)).set j (l.getD i d0)) (by omega) (by simp; omega) (by simpa using hl) (by omega)
      refine ⟨r, by simpa using h1, fun p hp => ?_, h3⟩
      have hp2 := h2 p (by simpa using hp)
      have gs : ∀ q, q < l.length → ((l.set i (l.getD j d0)).set j (l.getD i d0)).getD q d0 = if q = j then l.getD i d0 else if q = i then l.getD j d0 else l.getD q d0 := by
        intro q hq
        rw [getD_lt (by simpa using hq)]
        simp only [List.getElem_set]
        by_cases q1 : q = j
        · rw [if_pos q1.symm, if_pos q1]
        · rw [if_neg (fun h => q1 h.symm), if_neg q1]
          by_cases q2 : q = i
          · rw [if_pos q2.symm, if_pos q2]
          · rw [if_neg (fun h => q2 h.symm), if_neg q2, getD_lt hq]
      by_cases c : i + 1 ≤ p ∧ p ≤ j - 1
      · have := hp2.1 c
        refine ⟨fun _ => ?_, fun hh => absurd (⟨by omega, by omega⟩ : i ≤ p ∧ p ≤ j) hh⟩
        rw [this, gs _ (by omega), if_neg (by omega), if_neg (by omega), show i + 1 + (j - 1) - p = i + j - p by omega]
      · have := hp2.2 c
        rw [this, gs _ hp]
        refine ⟨fun hh => ?_, fun hh => ?_⟩
        · by_cases q1 : p = j
          · rw [if_pos q1, q1, show i + j - j = i by omega]
          · have q2 : p = i := by omega
            rw [if_neg q1, if_pos q2, q2, show i + j - i = j by omega]
        · rw [if_neg (by omega), if_neg (by omega)]
    · rw [bn (by omega)]
      refine ⟨l, rfl, fun p hp => ⟨fun hh => ?_, fun _ => rfl⟩, rfl⟩
      rw [show i + j - p = p by omega]
theorem revI {n : Nat} {l : LI} (hn : 1000005 ≤ n) (h1 : 1 ≤ l.length) (hl : l.length ≤ 1000000) : F30 n l = some ((), (l.reverse, ())) := by
  unfold F30 F30_0
  obtain ⟨r, h1, h2, h3⟩ := rev_it (n := n) (k0 := fun z264 => some ((), (z264, ()))) n 0 (l.length - 1) l (by omega) (by omega) hl (by omega)
  rw [wp (by omega), show ((l.length : Int) - 1) = ((l.length - 1 : Nat) : Int) by omega]
  have h4 : F30_0_it n (fun z264 => some ((), (z264, ()))) n 0 ((l.length - 1 : Nat) : Int) l = some ((), (r, ())) := h3
  rw [h4]
  have e : r = l.reverse := by
    apply List.ext_getElem (by simpa using h1)
    intro p hp hp2
    have := (h2 p (by omega)).1 ⟨by omega, by omega⟩
    rw [getD_lt hp, getD_lt (by omega)] at this
    rw [this, List.getElem_reverse]
    congr 1; omega
  rw [e]

-- runs ----------------------------------------------------------------------------------------------------------------------------------------
theorem scan0 {R : Type} {n : Nat} {l : LI} {c at_ : Int} {Q : List LI} {k0 : LI → Int → Int → Int → List LI → Option R} (hl : l.length ≤ 1000000) : ∀ (fuel e : Nat), 1 ≤ e → e ≤ l.length → l.length + 1 ≤ fuel + e →
    ∃ e', e ≤ e' ∧ e' ≤ l.length ∧ (∀ p, e ≤ p → p < e' → (l.getD p d0).key < (l.getD (p - 1) d0).key) ∧ F11_0_it n k0 fuel l c at_ e Q = k0 l c at_ e' Q
  | fuel, e, h1, he, hf => by
    obtain ⟨f, rfl⟩ : ∃ f, fuel = f + 1 := ⟨fuel - 1, by omega⟩
    simp only [F11_0_it, F11_0_step]
    by_cases g : e < l.length
    · have e1 : ((e : Int)).toNat = e := by omega
      have e2 : ((e : Int) - 1).toNat = e - 1 := by omega
      simp (disch := omega) only [bp, wp, e1, e2]
      by_cases g2 : (l.getD e d0).key < (l.getD (e - 1) d0).key
      · rw [bp g2, show ((e : Int) + 1) = ((e + 1 : Nat) : Int) by omega]
        obtain ⟨e', a1, a2, a3, a4⟩ := scan0 (n := n) (c := c) (at_ := at_) (Q := Q) (k0 := k0) hl f (e + 1) (by omega) (by omega) (by omega)
        refine ⟨e', by omega, a2, fun p p1 p2 => ?_, a4⟩
        by_cases q : p = e
        · subst q; exact g2
        · exact a3 p (by omega) p2
      · rw [bn g2]; exact ⟨e, Nat.le_refl _, he, fun p p1 p2 => by omega, rfl⟩
    · rw [bn (by omega)]; exact ⟨e, Nat.le_refl _, he, fun p p1 p2 => by omega, rfl⟩
theorem scan1 {R : Type} {n : Nat} {l : LI} {c at_ : Int} {Q : List LI} {k0 : LI → Int → Int → Int → List LI → Option R} (hl : l.length ≤ 1000000) : ∀ (fuel e : Nat), 1 ≤ e → e ≤ l.length → l.length + 1 ≤ fuel + e →
    ∃ e', e ≤ e' ∧ e' ≤ l.length ∧ (∀ p, e ≤ p → p < e' → (l.getD (p - 1) d0).key ≤ (l.getD p d0).key) ∧ (e' < l.length → (l.getD e' d0).key < (l.getD (e' - 1) d0).key) ∧ F11_1_it n k0 fuel l c at_ e Q = k0 l c at_ e' Q
  | fuel, e, h1, he, hf => by
    obtain ⟨f, rfl⟩ : ∃ f, fuel = f + 1 := ⟨fuel - 1, by omega⟩
    simp only [F11_1_it, F11_1_step]
    by_cases g : e < l.length
    · have e1 : ((e : Int)).toNat = e := by omega
      have e2 : ((e : Int) - 1).toNat = e - 1 := by omega
      simp (disch := omega) only [bp, wp, e1, e2]
      by_cases g2 : (l.getD e d0).key ≥ (l.getD (e - 1) d0).key
      · rw [bp g2, show ((e : Int) + 1) = ((e + 1 : Nat) : Int) by omega]
        obtain ⟨e', a1, a2, a3, a4, a5⟩ := scan1 (n := n) (c := c) (at_ := at_) (Q := Q) (k0 := k0) hl f (e + 1) (by omega) (by omega) (by omega)
        refine ⟨e', by omega, a2, fun p p1 p2 => ?_, a4, a5⟩
        by_cases q : p = e
        · subst q; exact g2
        · exact a3 p (by omega) p2
      · rw [bn g2]; exact ⟨e, Nat.le_refl _, he, fun p p1 p2 => by omega, fun _ => by omega, rfl⟩
    · rw [bn (by omega)]; exact ⟨e, Nat.le_refl _, he, fun p p1 p2 => by omega, fun _ => by omega, rfl⟩

/-- what a run is: rising, or falling -/
def Asc (s : LI) : Prop := ∀ p, p + 1 < s.length → (s.getD p d0).key ≤ (s.getD (p + 1) d0).key
def Dsc (s : LI) : Prop := ∀ p, p + 1 < s.length → (s.getD (p + 1) d0).key < (s.getD p d0).key
theorem Asc.srt {s : LI} (h : Asc s) : Srt s := pw_adj (R := fun a b : Itm => a.key ≤ b.key) d0 (fun a b c h1 h2 => Int.le_trans h1 h2) s h
theorem Dsc.pw {s : LI} (h : Dsc s) : List.Pairwise (fun a b : Itm => b.key < a.key) s := pw_adj (R := fun a b : Itm => b.key < a.key) d0 (fun a b c h1 h2 => by omega) s h
theorem srt_get {s : LI} (h : Srt s) {p q : Nat} (hpq : p < q) (hq : q < s.length) : (s.getD p d0).key ≤ (s.getD q d0).key := by
  rw [getD_lt (by omega), getD_lt hq]
  exact List.pairwise_iff_getElem.1 h p q (by omega) hq hpq
theorem seg_adj {l : LI} {at_ e' p : Nat} (h1 : e' ≤ l.length) (h2 : p + 1 < ((l.take e').drop at_).length) : at_ + p + 1 < e' := by simp at h2; omega
theorem asc_of {l : LI} {at_ e' : Nat} (he : e' ≤ l.length) (h : ∀ p, at_ + 1 ≤ p → p < e' → (l.getD (p - 1) d0).key ≤ (l.getD p d0).key) : Asc ((l.take e').drop at_) := fun p hp => by
  have := seg_adj he hp
  rw [seg_get he (by omega), seg_get he (by omega)]
  exact h (at_ + (p + 1)) (by omega) (by omega)
theorem dsc_of {l : LI} {at_ e' : Nat} (he : e' ≤ l.length) (h : ∀ p, at_ + 1 ≤ p → p < e' → (l.getD p d0).key < (l.getD (p - 1) d0).key) : Dsc ((l.take e').drop at_) := fun p hp => by
  have := seg_adj he hp
  rw [seg_get he (by omega), seg_get he (by omega)]
  exact h (at_ + (p + 1)) (by omega) (by omega)
theorem scan {R : Type} {n : Nat} {l : LI} {c : Int} {at_ : Nat} {Q : List LI} {k0 : LI → Int → Int → Int → List LI → Option R} (hn : 1000002 ≤ n) (hl : l.length ≤ 1000000) (ha : at_ < l.length) :
    ∃ e' : Nat, at_ < e' ∧ e' ≤ l.length ∧ (Asc ((l.take e').drop at_) ∨ Dsc ((l.take e').drop at_)) ∧ (Srt l → e' = l.length) ∧ F11_2 n l c at_ ((at_ : Int) + 1) Q k0 = k0 l c at_ e' Q := by
  have e0 : ((at_ : Int)).toNat = at_ := by omega
  have e1 : ((at_ : Int) + 1).toNat = at_ + 1 := by omega
  by_cases g : at_ + 1 < l.length
  · by_cases g2 : (l.getD (at_ + 1) d0).key < (l.getD at_ d0).key
    · obtain ⟨e', a1, a2, a3, a4⟩ := scan0 (n := n) (l := l) (c := c) (at_ := at_) (Q := Q) (k0 := fun z349 z350 z351 z352 z353 => k0 z349 z350 z351 z352 z353) hl n (at_ + 1) (by omega) (by omega) (by omega)
      refine ⟨e', by omega, a2, .inr (dsc_of a2 a3), fun hs => ?_, ?_⟩
      · have := srt_get hs (p := at_) (q := at_ + 1) (by omega) g; omega
      · unfold F11_2 F11_0
        simp (disch := omega) only [bp, e0, e1]
        exact a4
    · obtain ⟨e', a1, a2, a3, a4, a5⟩ := scan1 (n := n) (l := l) (c := c) (at_ := at_) (Q := Q) (k0 := fun z349 z350 z351 z352 z353 => k0 z349 z350 z351 z352 z353) hl n (at_ + 1) (by omega) (by omega) (by omega)
      refine ⟨e', by omega, a2, .inl (asc_of a2 a3), fun hs => ?_, ?_⟩
      · by_cases q : e' < l.length
        · have := srt_get hs (p := e' - 1) (q := e') (by omega) q; have := a4 q; omega
        · omega
      · unfold F11_2 F11_1
        simp (disch := omega) only [bp, e0, e1]
        rw [bn g2]; exact a5
  · obtain ⟨e', a1, a2, a3, a4, a5⟩ := scan1 (n := n) (l := l) (c := c) (at_ := at_) (Q := Q) (k0 := fun z349 z350 z351 z352 z353 => k0 z349 z350 z351 z352 z353) hl n (at_ + 1) (by omega) (by omega) (by omega)
    refine ⟨e', by omega, a2, .inl (asc_of a2 a3), fun hs => by omega, ?_⟩
    unfold F11_2 F11_1
    rw [bn (by omega)]; exact a5

theorem turn {R : Type} {n : Nat} {l : LI} {c at_ e : Int} {Q : List LI} {s : LI} {k0 : LI → Int → Int → List LI → LI → Option R} (hn : 1000005 ≤ n) (hs : s.length ≤ 1000000) (h : Asc s ∨ Dsc s) :
    ∃ r, Stb r s ∧ F11_3 n l c e Q s k0 = k0 l c e Q r := by
  unfold F11_3
  by_cases g : 1 < s.length
  · simp (disch := omega) only [bp]
    by_cases g2 : (s.getD 1 d0).key < (s.getD 0 d0).key
    · rw [bp g2, revI hn (by omega) hs]; simp only [ats]
      refine ⟨s.reverse, ?_, rfl⟩
      rcases h with h | h
      · have := h 0 (by omega); simp only [Nat.zero_add] at this; omega
      · exact Stb.rev h.pw
    · rw [bn g2]
      refine ⟨s, ?_, rfl⟩
      rcases h with h | h
      · exact Stb.self h.srt
      · have := h 0 (by omega); simp only [Nat.zero_add] at this; omega
  · rw [bn (by omega)]
    refine ⟨s, Stb.self ?_, rfl⟩
    exact Asc.srt fun p hp => by omega

theorem find_it {R : Type} {n : Nat} {l : LI} {c e : Int} {Q : List LI} {s : LI} {x y : Int} {k0 : LI → Int → Int → Int → List LI → LI → Int → Int → Option R} (hs : s.length ≤ 1000000) (so : Srt s) : ∀ (fuel k : Nat), k ≤ s.length → k < fuel →
    (∀ p, k ≤ p → p < s.length → x < (s.getD p d0).key) →
    ∃ k', k' ≤ s.length ∧ (∀ p, p < k' → (s.getD p d0).key ≤ x) ∧ (∀ p, k' ≤ p → p < s.length → x < (s.getD p d0).key) ∧ F11_4_it n k0 fuel l c e k Q s x y = k0 l c e k' Q s x y
  | fuel, k, hk, hf, hb => by
    obtain ⟨f, rfl⟩ : ∃ f, fuel = f + 1 := ⟨fuel - 1, by omega⟩
    simp only [F11_4_it, F11_4_step]
    by_cases g : 0 < k
    · have e2 : ((k : Int) - 1).toNat = k - 1 := by omega
      simp (disch := omega) only [bp, wp, e2]
      by_cases g2 : (s.getD (k - 1) d0).key > x
      · rw [bp g2, show ((k : Int) - 1) = ((k - 1 : Nat) : Int) by omega]
        refine find_it (n := n) (k0 := k0) hs so f (k - 1) (by omega) (by omega) fun p p1 p2 => ?_
        by_cases q : p = k - 1
        · subst q; exact g2
        · exact hb p (by omega) p2
      · rw [bn g2]
        refine ⟨k, hk, fun p hp => ?_, hb, rfl⟩
        by_cases q : p = k - 1
        · subst q; omega
        · have := srt_get so (p := p) (q := k - 1) (by omega) (by omega); omega
    · rw [bn (by omega)]; exact ⟨k, hk, fun p hp => by omega, hb, rfl⟩

theorem put_stb {s t : LI} {x : Itm} {k : Nat} (h : Stb s t) (hk : k ≤ s.length) (h1 : ∀ p, p < k → (s.getD p d0).key ≤ x.key) (h2 : ∀ p, k ≤ p → p < s.length → x.key < (s.getD p d0).key) : Stb (s.take k ++ [x] ++ s.drop k) (t ++ [x]) := by
  refine h.put (List.take_append_drop k s).symm (fun y hy => ?_) (fun y hy => ?_)
  · obtain ⟨j, hj, rfl⟩ := List.getElem_of_mem hy
    have hj2 : j < k := by simp at hj; omega
    have := h1 j hj2
    rw [getD_lt (by omega)] at this
    rw [List.getElem_take]; exact this
  · obtain ⟨j, hj, rfl⟩ := List.getElem_of_mem hy
    have hj2 : k + j < s.length := by simp at hj; omega
    have := h2 (k + j) (by omega) hj2
    rw [getD_lt hj2] at this
    rw [List.getElem_drop]; exact this
theorem ins31 {s : LI} {k : Nat} {x : Itm} (hk : k ≤ s.length) (h0 : 0 < s.length) (hs : s.length ≤ 1000000) : L31 (k : Int) s [x] = some ((), ((), ([x], (s.take k ++ [x] ++ s.drop k, ())))) := by
  unfold L31 insF
  rw [decide_eq_true (by omega : (0 : Int) ≤ k), decide_eq_true (by omega : (k : Int) ≤ s.length), decide_eq_true h0, decide_eq_true (by simp only [maxSz]; omega : s.length + 1 ≤ maxSz), decide_eq_true (by simp : [x].length = 1)]
  simp
theorem grow_it {R : Type} {n : Nat} {l : LI} {c : Int} {at_ : Nat} {Q : List LI} {k0 : LI → Int → Int → List LI → LI → Option R} (hn : 1000005 ≤ n) (hl : l.length ≤ 1000000) : ∀ (fuel e : Nat) (s : LI), at_ < e → e ≤ l.length → l.length + 1 ≤ fuel + e → Stb s ((l.take e).drop at_) →
    ∃ (e' : Nat) (s' : LI), e ≤ e' ∧ e' ≤ l.length ∧ Stb s' ((l.take e').drop at_) ∧ F11_5_it n k0 fuel l c e Q s = k0 l c e' Q s'
  | fuel, e, s, ha, he, hf, hs => by
    obtain ⟨f, rfl⟩ : ∃ f, fuel = f + 1 := ⟨fuel - 1, by omega⟩
    simp only [F11_5_it, F11_5_step]
    have hlen := hs.len
    rw [seg_len (by omega) he] at hlen
    by_cases g : (s.length : Int) < c
    · rw [bp g]
      by_cases g2 : e < l.length
      · have e1 : ((e : Int)).toNat = e := by omega
        simp (disch := omega) only [bp, e1]
        unfold F11_4
        obtain ⟨k, k1, k2, k3, k4⟩ := find_it (n := n) (l := l) (c := c) (e := e) (Q := Q) (s := s) (x := (l.getD e d0).key) (y := (l.getD e d0).tag) (k0 := fun z428 z429 z430 z431 z432 z433 z434 z435 =>
          (andThen (L31 z431 z433 ((Itm.mk z434 z435) :: [])) fun r437 => (F11_5_it n k0 f z428 z429 (IntKind.wrap .i64 (z430 + (1 : Int))) z432 r437.2.2.2.1))) (by omega) hs.srt n s.length (Nat.le_refl _) (by omega) (fun p p1 p2 => by omega)
        rw [k4, itm_eta, ins31 k1 (by omega) (by omega)]
        simp only [ats]
        rw [wp (by omega), show ((e : Int) + 1) = ((e + 1 : Nat) : Int) by omega]
        have hput := put_stb (x := l.getD e d0) hs k1 k2 k3
        rw [← snoc_seg (by omega) g2] at hput
        obtain ⟨e', s', a1, a2, a3, a4⟩ := grow_it (n := n) (c := c) (Q := Q) (k0 := k0) hn hl f (e + 1) _ (by omega) (by omega) (by omega) hput
        exact ⟨e', s', by omega, a2, a3, a4⟩
      · rw [bn (by omega)]; exact ⟨e, s, Nat.le_refl _, he, hs, rfl⟩
    · rw [bn g]; exact ⟨e, s, Nat.le_refl _, he, hs, rfl⟩

theorem cloneI {n : Nat} {l : LI} (h : 0 < l.length) (hl : l.length ≤ 1000000) : F29 n l = some ((), (l, ())) := by
  unfold F29
  rw [bn (by omega)]
  simp (disch := first | omega | (simp; omega)) only [bp]
  rfl
/-- one run more -/
theorem run1 {R : Type} {n : Nat} {l : LI} {c : Int} {at_ f : Nat} {Q : List LI} {k0 : List LI → Option R} (hn : 2000000 ≤ n) (hl : l.length ≤ 1000000) (ha : at_ < l.length) (hQ : Q.length ≤ 1000000) :
    ∃ (e : Nat) (s : LI), at_ < e ∧ e ≤ l.length ∧ Stb s ((l.take e).drop at_) ∧ (Srt l → e = l.length) ∧ F11_6_it n k0 (f + 1) l c at_ Q = F11_6_it n k0 f l c e (Q ++ [s]) := by
  simp only [F11_6_it, F11_6_step]
  rw [bp (by omega), wp (by omega)]
  obtain ⟨e, a1, a2, a3, a4, a5⟩ := scan (n := n) (l := l) (c := c) (at_ := at_) (Q := Q) (k0 := fun z378 z379 z380 z381 z382 =>
  (bif (decide ((0 : Int) ≤ z380)) then
  (bif (decide (z380 ≤ z381)) then
  (bif (decide (z381 ≤ ((z378.length) : Int))) then
  (andThen (F29 n ((z378.take (z381.toNat)).drop (z380.toNat))) fun r384 =>
  (F11_3 n z378 z379 z381 z382 r384.2.1 (fun z396 z397 z398 z399 z400 =>
  (F11_5 n z396 z397 z398 z399 z400 (fun z439 z440 z441 z442 z443 =>
  let v444 := (z443 :: [])
  (bif (decide (((z442.length) + (v444.length)) ≤ (68719476736 : Nat))) then
  (F11_6_it n k0 f z439 z440 z441 (z442 ++ v444))
  else none))))))
  else none)
  else none)
  else none)) (by omega) hl ha
  rw [a5]
  have e0 : ((at_ : Int)).toNat = at_ := by omega
  have e1 : ((e : Int)).toNat = e := by omega
  simp (disch := omega) only [bp, e0, e1]
  have hsl := seg_len (l := l) (a := at_) (e := e) (by omega) a2
  rw [cloneI (by omega) (by omega)]
  simp only [ats]
  obtain ⟨r, b1, b2⟩ := turn (n := n) (l := l) (c := c) (at_ := at_) (e := e) (Q := Q) (s := (l.take e).drop at_) (k0 := fun z396 z397 z398 z399 z400 =>
  (F11_5 n z396 z397 z398 z399 z400 (fun z439 z440 z441 z442 z443 =>
  let v444 := (z443 :: [])
  (bif (decide (((z442.length) + (v444.length)) ≤ (68719476736 : Nat))) then
  (F11_6_it n k0 f z439 z440 z441 (z442 ++ v444))
  else none)))) (by omega) (by omega) a3
  rw [b2]
  unfold F11_5
  obtain ⟨e', s', c1, c2, c3, c4⟩ := grow_it (n := n) (l := l) (c := c) (at_ := at_) (Q := Q) (k0 := fun z439 z440 z441 z442 z443 =>
  let v444 := (z443 :: [])
  (bif (decide (((z442.length) + (v444.length)) ≤ (68719476736 : Nat))) then
  (F11_6_it n k0 f z439 z440 z441 (z442 ++ v444))
  else none)) (by omega) hl n e r a1 a2 (by omega) b1
  rw [c4]
  refine ⟨e', s', by omega, c2, c3, fun hs => by have := a4 hs; omega, ?_⟩
  show (bif (decide ((Q.length + [s'].length) ≤ (68719476736 : Nat))) then _ else none) = _
  rw [bp (by simp; omega)]
theorem runs_it {R : Type} {n : Nat} {l : LI} {c : Int} {k0 : List LI → Option R} (hn : 2000000 ≤ n) (hl : l.length ≤ 1000000) : ∀ (fuel at_ : Nat) (Q : List LI), at_ ≤ l.length → l.length + 1 ≤ fuel + at_ → Q.length ≤ at_ → SegR Q (l.take at_) → (∀ r ∈ Q, r ≠ []) →
    ∃ Q', SegR Q' l ∧ (∀ r ∈ Q', r ≠ []) ∧ Q'.length ≤ l.length ∧ F11_6_it n k0 fuel l c at_ Q = k0 Q'
  | fuel, at_, Q, ha, hf, hq, hs, hne => by
    obtain ⟨f, rfl⟩ : ∃ f, fuel = f + 1 := ⟨fuel - 1, by omega⟩
    by_cases g : at_ < l.length
    · obtain ⟨e, s, a1, a2, a3, -, a5⟩ := run1 (n := n) (l := l) (c := c) (at_ := at_) (f := f) (Q := Q) (k0 := k0) hn hl g (by omega)
      rw [a5]
      refine runs_it hn hl f e (Q ++ [s]) a2 (by omega) (by simp; omega) ?_ fun r hr => ?_
      · have := hs.snoc a3
        rwa [seg_join (by omega)] at this
      · rcases List.mem_append.1 hr with hr | hr
        · exact hne r hr
        · rcases List.mem_singleton.1 hr with rfl
          intro h0
          have := a3.len
          rw [h0, seg_len (by omega) a2] at this
          simp at this; omega
    · simp only [F11_6_it, F11_6_step]
      rw [bn (by omega)]
      rw [List.take_of_length_le (by omega)] at hs
      exact ⟨Q, hs, hne, by omega, rfl⟩
theorem runsI {n : Nat} {l : LI} (hn : 2000000 ≤ n) (hl : l.length ≤ 60) : ∃ Q, SegR Q l ∧ (∀ r ∈ Q, r ≠ []) ∧ Q.length ≤ l.length ∧ F11 n l = some ((), (Q, ())) := by
  obtain ⟨c, hc⟩ := leastI (n := n) (x := l.length) (by omega) (by omega)
  unfold F11 F11_6
  rw [bn (by omega), hc]; simp only [ats]
  obtain ⟨Q, h1, h2, h3, h4⟩ := runs_it (n := n) (l := l) (c := c) (k0 := fun z446 => some ((), (z446, ()))) hn (by omega) n 0 [] (by omega) (by omega) (by simp) (by simpa using SegR.nil) (by simp)
  exact ⟨Q, h1, h2, h3, h4⟩
theorem runsLong {n : Nat} {l : LI} (hl : 60 < l.length) : F11 n l = some ((), ([], ())) := by
  unfold F11
  rw [bp (by omega)]
theorem runsSrt {n : Nat} {l : LI} (hn : 2000000 ≤ n) (hl : l.length ≤ 60) (h0 : 0 < l.length) (hs : Srt l) : F11 n l = some ((), ([l], ())) := by
  obtain ⟨c, hc⟩ := leastI (n := n) (x := l.length) (by omega) (by omega)
  unfold F11 F11_6
  rw [bn (by omega), hc]; simp only [ats]
  obtain ⟨m, rfl⟩ : ∃ m, n = m + 1 + 1 := ⟨n - 2, by omega⟩
  obtain ⟨e, s, a1, a2, a3, a4, a5⟩ := run1 (n := m + 1 + 1) (l := l) (c := c) (at_ := 0) (f := m + 1) (Q := []) (k0 := fun z446 => some ((), (z446, ()))) hn (by omega) h0 (by simp)
  rw [show ((0 : Int)) = ((0 : Nat) : Int) from rfl, a5, a4 hs]
  simp only [F11_6_it, F11_6_step]
  rw [bn (by omega)]
  rw [a4 hs, List.drop_zero, List.take_length] at a3
  rw [a3.uniq (Stb.self hs)]; rfl
end Go.Proofs.Ytjanepkjjmcchaa.Am
