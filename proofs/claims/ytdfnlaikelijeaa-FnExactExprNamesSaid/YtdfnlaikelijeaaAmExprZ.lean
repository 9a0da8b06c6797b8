/- Expressions: what is marked, and the exact law of names. -/
import Derived.Test.YtdfnlaikelijeaaAmExprO
namespace Go.Proofs.Ytdfnlaikelijeaa.Am
open Go
set_option autoImplicit false
set_option linter.unusedVariables false
set_option linter.unusedSimpArgs false

-- what is counted -----------------------------------------------------------------------------------------------------------------------------
def cnt : Nat → Ex → Nat
  | 0, _ => 0
  | d + 1, e => e.names.length + e.kids.length + (e.kids.map fun x => cnt d x).sum
def mkE : Nat → Ex → Nat
  | 0, _ => 0
  | d + 1, e => e.names.length + (e.kids.map fun x => 2 + mkE d x).sum
theorem sum_le {α : Type} {f g : α → Nat} : ∀ (l : List α), (∀ x ∈ l, f x ≤ g x) → (l.map f).sum ≤ (l.map g).sum
  | [], _ => Nat.le_refl _
  | a :: l, h => by
    have h1 := h a (by simp)
    have h2 := sum_le l fun x hx => h x (List.mem_cons_of_mem _ hx)
    simp only [List.map_cons, List.sum_cons]; omega
theorem sum_mul {α : Type} {f : α → Nat} : ∀ (l : List α), (l.map fun x => 2 + 2 * f x).sum = 2 * l.length + 2 * (l.map f).sum
  | [] => rfl
  | a :: l => by have := sum_mul (f := f) l; simp only [List.map_cons, List.sum_cons, List.length_cons] at this ⊢; omega
theorem mk_cnt : ∀ (d : Nat) (e : Ex), mkE d e ≤ 2 * cnt d e
  | 0, e => by simp [mkE, cnt]
  | d + 1, e => by
    have h1 := sum_le (f := fun x => 2 + mkE d x) (g := fun x => 2 + 2 * cnt d x) e.kids fun x _ => by have := mk_cnt d x; omega
    rw [sum_mul (f := fun x => cnt d x)] at h1
    simp only [mkE, cnt]; omega
theorem kdrop {l : List Ex} {i : Nat} (h : i < l.length) : l.drop i = l.getD i (Ex.mk 0 ⟨#[]⟩ [] []) :: l.drop (i + 1) := by
  rw [getD_lt h]; exact List.drop_eq_getElem_cons h

theorem szTy {n : Nat} {a : List ByteArray} {l r : Int} (hn : 3000000 ≤ n) (h0 : 0 ≤ l) (h1 : l ≤ 1048576) (ha : a.length ≤ 1048576) (hs : ∀ s ∈ a, s.size ≤ 1048576) (h : F29 n a l = some (r, ())) (hr : 0 ≤ r) : r + a.length ≤ l := by
  unfold F29 F29_0 at h
  rw [wp (by omega)] at h
  by_cases g : l - (a.length : Int) < 0
  · rw [bp g] at h; cases h; omega
  · rw [bn g] at h
    rcases szT_it (R := Int × Unit) (n := n) (a := a) (k0 := fun z38 => some (z38, ())) (k1 := fun z39 => some (z39, ())) (fun s hs' => by have := hs s hs'; omega) (by omega) n 0 (l - (a.length : Int)) (by omega) (by omega) (by omega) (by omega) with q | ⟨q, q1, q2, q3, q4⟩
    · rw [show ((0 : Nat) : Int) = 0 from rfl] at q
      rw [q] at h; cases h; omega
    · rw [show ((0 : Nat) : Int) = 0 from rfl] at q3
      rw [q3] at h; cases h; omega
theorem szc_it {n : Nat} {rc : Q9RC} {c : Ex → Nat} {l : List Ex} (hr : ∀ e ∈ l, ∀ x r : Int, 0 ≤ x → x ≤ 1048576 → rc.1 e.kind e.text e.names e.kids x = some (r, ()) → 0 ≤ r → r + c e ≤ x) (hl : l.length ≤ 1048576) : ∀ (fuel i : Nat) (x r : Int), 0 ≤ x → x ≤ 1048576 → i ≤ l.length →
    F30b_0_it n rc (fun z => (some (z, ()) : Option (Int × Unit))) (fun z => some (z, ())) fuel l x i = some (r, ()) → 0 ≤ r → r + ((l.drop i).map c).sum ≤ x
  | 0, i, x, r, h0, h1, hi, h, h2 => by simp [F30b_0_it] at h
  | fuel + 1, i, x, r, h0, h1, hi, h, h2 => by
    simp only [F30b_0_it, F30b_0_step] at h
    by_cases g : i < l.length
    · rw [bp (by omega), bp (by omega), bp (by omega), show ((i : Nat) : Int).toNat = i by omega] at h
      cases hq : rc.1 (l.getD i (Ex.mk 0 ⟨#[]⟩ [] [])).kind (l.getD i (Ex.mk 0 ⟨#[]⟩ [] [])).text (l.getD i (Ex.mk 0 ⟨#[]⟩ [] [])).names (l.getD i (Ex.mk 0 ⟨#[]⟩ [] [])).kids x with
      | none => rw [hq] at h; cases h
      | some q =>
        obtain ⟨q, ⟨⟩⟩ := q
        rw [hq] at h; simp only [ats] at h
        by_cases hn : q < 0
        · rw [bp hn] at h; cases h; omega
        · rw [bn hn, wp (by omega), show ((i : Int) + 1) = ((i + 1 : Nat) : Int) by omega] at h
          have h3 := hr _ (kid_mem g) x q h0 h1 hq (by omega)
          have h4 := szc_it hr hl fuel (i + 1) q r (by omega) (by omega) (by omega) h h2
          rw [kdrop g, List.map_cons, List.sum_cons]
          omega
    · rw [bn (by omega)] at h
      cases h
      rw [List.drop_of_length_le (by omega)]; simp
theorem szC {n : Nat} (hn : 3000000 ≤ n) : ∀ (d k : Nat) (e : Ex) (x r : Int), Smx d e → 0 ≤ x → x ≤ 1048576 → (Q9it n k).1 e.kind e.text e.names e.kids x = some (r, ()) → 0 ≤ r → r + cnt d e ≤ x
  | d + 1, 0, e, x, r, hs, h0, h1, h, h2 => by cases h
  | d + 1, k + 1, e, x, r, ⟨s1, s2, s3, s4, s5⟩, h0, h1, h, h2 => by
    have h : F9b n (Q9it n k) e.kind e.text e.names e.kids x = some (r, ()) := h
    unfold F9b at h
    rw [wp (by omega)] at h
    by_cases c1 : x - ((e.text.size : Nat) : Int) < 0
    · rw [bp c1] at h; cases h; omega
    rw [bn c1] at h
    cases hq : F29 n e.names (x - (e.text.size : Int)) with
    | none => rw [hq] at h; cases h
    | some q =>
      obtain ⟨q, ⟨⟩⟩ := q
      rw [hq] at h; simp only [ats] at h
      by_cases c2 : q < 0
      · rw [bp c2] at h; cases h; omega
      rw [bn c2] at h
      have g1 := szTy hn (by omega) (by omega) s2 s3 hq (by omega)
      match k, h with
      | 0, h => cases h
      | k + 1, h =>
        have h : (andThen (F30b n (Q9it n k) e.kids q) fun r89 => (bif (decide (r89.1 < (0 : Int))) then some ((-1 : Int), ()) else some (r89.1, ()))) = some (r, ()) := h
        cases hp : F30b n (Q9it n k) e.kids q with
        | none => rw [hp] at h; cases h
        | some p =>
          obtain ⟨p, ⟨⟩⟩ := p
          rw [hp] at h; simp only [ats] at h
          by_cases c3 : p < 0
          · rw [bp c3] at h; cases h; omega
          rw [bn c3] at h; cases h
          unfold F30b F30b_0 at hp
          rw [wp (by omega)] at hp
          by_cases c4 : q - (e.kids.length : Int) < 0
          · rw [bp c4] at hp; cases hp; omega
          rw [bn c4] at hp
          have g2 := szc_it (c := fun x => cnt d x) (fun y hy x r hx0 hx1 hh hr => szC hn d k y x r (s5 y hy) hx0 hx1 hh hr) s4 n 0 (q - (e.kids.length : Int)) r (by omega) (by omega) (by omega) hp h2
          rw [List.drop_zero] at g2
          simp only [cnt]; omega

-- marks ---------------------------------------------------------------------------------------------------------------------------------------
theorem mt_it {R : Type} {n : Nat} {k0 : ByteArray → Option R} : ∀ (m fuel : Nat) (x : Int) (acc : ByteArray), 0 ≤ x → x < 10 ^ m → m < fuel → m ≤ 15 → acc.size + m ≤ 1000 → ∃ s, s.size ≤ acc.size + m ∧ F47_0_it n k0 fuel x acc = k0 s
  | m, fuel, x, acc, h0, h1, hf, hm, ha => by
    obtain ⟨f, rfl⟩ : ∃ f, fuel = f + 1 := ⟨fuel - 1, by omega⟩
    simp only [F47_0_it, F47_0_step]
    by_cases g : x > 0
    · rw [bp g]
      match m with
      | 0 => simp at h1; omega
      | m + 1 =>
        generalize hv : bytesOfInts (List.map (fun y => y) (IntKind.wrap .u8 (IntKind.wrap .i64 (48 + x.tmod 10)) :: [])) = v
        have hs : v.size = 1 := by rw [← hv]; rfl
        rw [bp (by omega)]
        have hp : (10 : Int) ^ (m + 1) = 10 ^ m * 10 := Int.pow_succ 10 m
        have hb : (10 : Int) ^ (m + 1) ≤ 10 ^ 15 := by
          exact_mod_cast Nat.pow_le_pow_right (by omega : 0 < 10) hm
        have hq : IntKind.wrap .i64 (x.tdiv 10) = x / 10 := by rw [td h0]; exact wp (by omega)
        rw [hq]
        have hsz : (v ++ acc).size = 1 + acc.size := by rw [ByteArray.size_append, hs]
        obtain ⟨s, h3, h4⟩ := mt_it (n := n) (k0 := k0) m f (x / 10) (v ++ acc) (by omega) (by omega) (by omega) (by omega) (by omega)
        exact ⟨s, by omega, h4⟩
    · rw [bn g]; exact ⟨acc, by omega, rfl⟩
theorem mt_ok {n : Nat} (hn : 100 ≤ n) {x : Int} (h0 : 0 ≤ x) (h1 : x < 1000000000000) : ∃ s, F47 n x = some (s, ()) := by
  unfold F47 F47_0
  by_cases g : x ≤ 0
  · rw [bp g]; exact ⟨_, rfl⟩
  · rw [bn g]
    obtain ⟨s, h2, h3⟩ := mt_it (n := n) (k0 := fun z1584 => (bif (decide (((1 : Nat) + (z1584.size)) ≤ (68719476736 : Nat))) then some ((({ data := #[109] } : ByteArray) ++ z1584), ()) else none)) 12 n x ⟨#[]⟩ h0 (by simpa using h1) (by omega) (by omega) (by decide)
    have h4 : (({ data := #[] } : ByteArray)).size = 0 := rfl
    rw [h3, bp (by omega)]; exact ⟨_, rfl⟩
theorem mkS_it {R : Type} {n : Nat} {l : List ByteArray} {k0 : Int → Unit → Option R} (hn : 100 ≤ n) (hl : l.length ≤ 3500000) : ∀ (fuel i : Nat) (x : Int), 0 ≤ x → x + (l.length - i : Nat) < 1000000000000 → i ≤ l.length → l.length < fuel + i → F23_0_it n k0 fuel l x i () = k0 (x + (l.length - i : Nat)) ()
  | fuel, i, x, h0, h1, hi, hf => by
    obtain ⟨f, rfl⟩ : ∃ f, fuel = f + 1 := ⟨fuel - 1, by omega⟩
    simp only [F23_0_it, F23_0_step]
    by_cases g : i < l.length
    · obtain ⟨s, hs⟩ := mt_ok (n := n) hn h0 (by omega)
      rw [bp (by omega), hs]; simp only [ats]
      rw [bp (by omega), bp (by omega), wp (by omega), wp (by omega), show ((i : Int) + 1) = ((i + 1 : Nat) : Int) by omega]
      rw [mkS_it hn hl f (i + 1) (x + 1) (by omega) (by omega) (by omega) (by omega)]
      congr 1; omega
    · rw [bn (by omega)]; congr 1; omega
theorem mkS {n : Nat} {l : List ByteArray} (hn : 4000000 ≤ n) (hl : l.length ≤ 3500000) {x : Int} (h0 : 0 ≤ x) (h1 : x + l.length < 1000000000000) : F23 n l x () = some (x + l.length, ((), ())) := by
  unfold F23 F23_0
  have e := mkS_it (n := n) (l := l) (k0 := fun z1590 z1591 => some (z1590, (z1591, ()))) (by omega) hl n 0 x h0 (by omega) (by omega) (by omega)
  rw [Int.natCast_zero] at e
  rw [e]; rfl
theorem mkK_it {R : Type} {n : Nat} {rc : Q46RC} {g : Ex → Nat} {l : List Ex} {k0 : Int → Unit → Option R} (hn : 4000000 ≤ n) (hl : l.length ≤ 1048576) (hs : ∀ e ∈ l, e.names.length ≤ 1048576) (hr : ∀ e ∈ l, ∀ x : Int, 0 ≤ x → x + g e < 1000000000000 → rc.1 e.kids x () = some (x + g e, ((), ()))) : ∀ (fuel i : Nat) (x : Int), 0 ≤ x → x + ((l.drop i).map fun e => 2 + (e.names.length + g e)).sum < 1000000000000 → i ≤ l.length → l.length < fuel + i →
    F46b_0_it n rc k0 fuel l x i () = k0 (x + ((l.drop i).map fun e => 2 + (e.names.length + g e)).sum) ()
  | fuel, i, x, h0, h1, hi, hf => by
    obtain ⟨f, rfl⟩ : ∃ f, fuel = f + 1 := ⟨fuel - 1, by omega⟩
    simp only [F46b_0_it, F46b_0_step]
    by_cases c : i < l.length
    · rw [kdrop c, List.map_cons, List.sum_cons] at h1 ⊢
      have hm := kid_mem c
      have e0 : ((i : Nat) : Int).toNat = i := by omega
      simp only [e0]
      generalize l.getD i (Ex.mk 0 ⟨#[]⟩ [] []) = e at h1 hm ⊢
      have hne := hs e hm
      obtain ⟨s, hs1⟩ := mt_ok (n := n) (by omega) (x := x + 1) (by omega) (by omega)
      have w1 : IntKind.wrap .i64 (x + 1) = x + 1 := wp (by omega)
      have w2 : IntKind.wrap .i64 (x + 1 + 1) = x + 2 := by rw [wp (by omega)]; omega
      have w3 : IntKind.wrap .i64 ((i : Int) + 1) = ((i + 1 : Nat) : Int) := by rw [wp (by omega)]; omega
      have m1 := mkS (n := n) (l := e.names) hn (by omega) (x := x + 2) (by omega) (by omega)
      have m2 := hr e hm (x + 2 + e.names.length) (by omega) (by omega)
      simp only [w1, w2, w3]
      rw [bp (by omega), bp (by omega), bp (by omega), hs1]; simp only [ats]
      rw [bp (by omega), bp (by omega), m1]; simp only [ats]
      rw [m2]; simp only [ats]
      simp (disch := omega) only [bp]
      rw [mkK_it hn hl hs hr f (i + 1) (x + 2 + e.names.length + g e) (by omega) (by omega) (by omega) (by omega)]
      congr 1; omega
    · rw [bn (by omega), List.drop_of_length_le (by omega)]; simp
theorem mkK {n : Nat} (hn : 4000000 ≤ n) : ∀ (d k : Nat) (l : List Ex) (x : Int), (∀ e ∈ l, Smx d e) → l.length ≤ 1048576 → d < k → 0 ≤ x → x + (l.map fun e => 2 + mkE d e).sum < 1000000000000 → (Q46it n k).1 l x () = some (x + (l.map fun e => 2 + mkE d e).sum, ((), ()))
  | 0, k + 1, l, x, hs, hl, hk, h0, h1 => by
    have hz : l = [] := by cases l with | nil => rfl | cons a l => exact (hs a (by simp)).elim
    subst hz
    obtain ⟨f, hf⟩ : ∃ f, n = f + 1 := ⟨n - 1, by omega⟩
    show F46b n (Q46it n k) [] x () = _
    unfold F46b F46b_0
    conv => lhs; arg 4; rw [hf]
    simp only [F46b_0_it, F46b_0_step]
    rw [bn (by simp)]; simp
  | d + 1, k + 1, l, x, hs, hl, hk, h0, h1 => by
    show F46b n (Q46it n k) l x () = _
    unfold F46b F46b_0
    have e := mkK_it (n := n) (rc := Q46it n k) (l := l) (g := fun e => (e.kids.map fun x => 2 + mkE d x).sum) (k0 := fun z1656 z1657 => some (z1656, (z1657, ()))) hn hl (fun e he => (hs e he).2.1) (fun e he x hx hb => mkK hn d k e.kids x (hs e he).2.2.2.2 (hs e he).2.2.2.1 (by omega) hx hb) n 0 x h0 (by rw [List.drop_zero]; exact h1) (by omega) (by omega)
    rw [Int.natCast_zero, List.drop_zero] at e
    exact e
theorem markX {n d : Nat} {e : Ex} (hn : 4000000 ≤ n) (hs : Smx d e) (hd : d < n) (hb : mkE d e < 900000000000) : ∃ r, F22 n e.kind e.text e.names e.kids 1 () = some (r, ((), ())) ∧ 0 ≤ r := by
  match d, hs with
  | d + 1, ⟨s1, s2, s3, s4, s5⟩ =>
    simp only [mkE] at hb
    unfold F22
    rw [mkS hn (by omega) (x := 1) (by omega) (by omega)]; simp only [ats]
    unfold F46
    rw [mkK hn d n e.kids _ s5 s4 (by omega) (by omega) (by omega)]; simp only [ats]
    exact ⟨_, rfl, by omega⟩

/-- the texts that mark a row -/
theorem markL_it {R : Type} {n : Nat} {k0 : Int → List ByteArray → Option R} (hn : 100 ≤ n) : ∀ (fuel i : Nat) (l : List ByteArray), l.length ≤ 3500000 → i ≤ l.length → l.length < fuel + i → (∀ j, j < i → F47 n (1 + (j : Int)) = some (l.getD j ⟨#[]⟩, ())) →
    ∃ l' : List ByteArray, l'.length = l.length ∧ (∀ j, j < l.length → F47 n (1 + (j : Int)) = some (l'.getD j ⟨#[]⟩, ())) ∧ F23v1_0_it n k0 fuel (1 + (i : Int)) i l = k0 (1 + (l.length : Int)) l'
  | fuel, i, l, hl, hi, hf, hp => by
    obtain ⟨f, rfl⟩ : ∃ f, fuel = f + 1 := ⟨fuel - 1, by omega⟩
    simp only [F23v1_0_it, F23v1_0_step]
    by_cases g : i < l.length
    · obtain ⟨s, hs⟩ := mt_ok (n := n) hn (x := 1 + (i : Int)) (by omega) (by omega)
      rw [bp (by omega), hs]; simp only [ats]
      rw [bp (by omega), bp (by omega), wp (by omega), wp (by omega), show ((i : Int)).toNat = i by omega, show (1 + (i : Int) + 1) = 1 + ((i + 1 : Nat) : Int) by omega, show ((i : Int) + 1) = ((i + 1 : Nat) : Int) by omega]
      obtain ⟨l', h1, h2, h3⟩ := markL_it (n := n) (k0 := k0) hn f (i + 1) (l.set i s) (by simpa using hl) (by simp; omega) (by simp; omega) (fun j hj => by
        rw [getD_set' g]
        by_cases e : i = j
        · subst e; rw [if_pos rfl]; exact hs
        · rw [if_neg e]; exact hp j (by omega))
      refine ⟨l', by simpa using h1, fun j hj => h2 j (by simpa using hj), ?_⟩
      rw [h3]; simp
    · have : i = l.length := by omega
      subst this
      rw [bn (by omega)]
      exact ⟨l, rfl, hp, rfl⟩
theorem markL {n : Nat} {l : List ByteArray} (hn : 4000000 ≤ n) (hl : l.length ≤ 3500000) : ∃ l' : List ByteArray, l'.length = l.length ∧ (∀ j, j < l.length → F47 n (1 + (j : Int)) = some (l'.getD j ⟨#[]⟩, ())) ∧ F23v1 n 1 l = some (1 + (l.length : Int), (l', ())) := by
  unfold F23v1 F23v1_0
  obtain ⟨l', h1, h2, h3⟩ := markL_it (n := n) (k0 := fun z1675 z1676 => some (z1675, (z1676, ()))) (by omega) n 0 l hl (by omega) (by omega) (fun j hj => by omega)
  exact ⟨l', h1, h2, h3⟩
theorem heldL_it {R : Type} {n : Nat} {l : List ByteArray} {k0 k1 : Int → Option R} (hl : l.length ≤ 3500000) (hp : ∀ j, j < l.length → F47 n (1 + (j : Int)) = some (l.getD j ⟨#[]⟩, ())) : ∀ (fuel i : Nat), i ≤ l.length → l.length < fuel + i → F24_0_it n k0 k1 fuel l (1 + (i : Int)) i = k1 (1 + (l.length : Int))
  | fuel, i, hi, hf => by
    obtain ⟨f, rfl⟩ : ∃ f, fuel = f + 1 := ⟨fuel - 1, by omega⟩
    simp only [F24_0_it, F24_0_step]
    by_cases g : i < l.length
    · rw [bp (by omega), bp (by omega), bp (by omega), hp i g]; simp only [ats]
      rw [show ((i : Int)).toNat = i by omega, keq, nn rfl, wp (by omega), wp (by omega), show (1 + (i : Int) + 1) = 1 + ((i + 1 : Nat) : Int) by omega, show ((i : Int) + 1) = ((i + 1 : Nat) : Int) by omega]
      exact heldL_it hl hp f (i + 1) (by omega) (by omega)
    · have : i = l.length := by omega
      subst this
      rw [bn (by omega)]
theorem heldL {n : Nat} {l : List ByteArray} (hn : 4000000 ≤ n) (hl : l.length ≤ 3500000) (hp : ∀ j, j < l.length → F47 n (1 + (j : Int)) = some (l.getD j ⟨#[]⟩, ())) : F24 n l 1 = some (1 + (l.length : Int), ()) := by
  unfold F24 F24_0
  have e := heldL_it (n := n) (l := l) (k0 := fun z1691 => some (z1691, ())) (k1 := fun z1692 => some (z1692, ())) hl hp n 0 (by omega) (by omega)
  exact e
theorem eqTL_it {R : Type} {n : Nat} {a : List ByteArray} {k0 : Bool → Option R} {k1 : Option R} (h : a.length ≤ 3500000) : ∀ (fuel i : Nat), i ≤ a.length → a.length + 1 ≤ fuel + i →
    F21_0_it n k0 k1 fuel a a i = k1
  | fuel, i, hi, hf => by
    obtain ⟨f, rfl⟩ : ∃ f, fuel = f + 1 := ⟨fuel - 1, by omega⟩
    simp only [F21_0_it, F21_0_step]
    by_cases g : i < a.length
    · rw [bp (by omega), bp (by omega), bp (by omega), bp (by omega), bp (by omega), keq, nn rfl, wp (by omega)]
      exact eqTL_it h f (i + 1) (by omega) (by omega)
    · rw [bn (by omega)]
theorem eqTL {n : Nat} {a : List ByteArray} (hn : 4000000 ≤ n) (h : a.length ≤ 3500000) : F21 n a a = some (true, ()) := by
  unfold F21 F21_0
  rw [nen rfl]
  exact eqTL_it (R := Bool × Unit) h n 0 (by omega) (by omega)

theorem law_xnames {n : Nat} (hn : 4000000 ≤ n) (y : denC G.T [.int .i64, .str, .imm 2, .imm 4]) (s : ∀ (j : Nat) (d : AV G.T), (encC [.int .i64, .str, .imm 2, .imm 4] y)[j]? = some d → SmV G d) : F7 n y.1 y.2.1 y.2.2.1 y.2.2.2.1 = some (true, ()) := by
  have hb := bd_of s
  generalize he : Ex.mk y.1 y.2.1 y.2.2.1 y.2.2.2.1 = e at hb
  rw [show y.1 = e.kind by rw [← he], show y.2.1 = e.text by rw [← he], show y.2.2.1 = e.names by rw [← he], show y.2.2.2.1 = e.kids by rw [← he]]
  unfold F7 F9
  have hn' : 3000000 ≤ n := by omega
  obtain ⟨r, r1, r2, r3⟩ := szE hn' 1048576 n e 1048576 hb (by omega) (by omega) (by omega) (by omega)
  rw [r1]; simp only [ats]
  by_cases h : r < 0
  · rw [bp h]
  rw [bn h]
  have hs := r3 (by omega)
  have hc := szC hn' _ n e 1048576 r hs (by omega) (by omega) r1 (by omega)
  have hm := mk_cnt (1048576 + 1) e
  have T := toE hn' _ n e hs (by omega)
  have Q := eqE hn' _ n e hs (by omega)
  obtain ⟨k, k1, k2⟩ := markX hn hs (by omega) (by omega)
  have hnl := namesR_len hn hs
  have E := eqTL hn (a := namesR n e) (by omega)
  obtain ⟨l', m1, m2, m3⟩ := markL hn (l := namesR n e) (by omega)
  have H := heldL hn (l := l') (by omega) (fun j hj => m2 j (by omega))
  unfold F11 F13
  simp only [T, Q, namesI hn hs, namesS hn hs, E, k1, m3, H, ats, Bool.not_true, cf]
  rw [bn (by omega), bn (by omega)]
  rw [show (l'.length : Int) = ((namesR n e).length : Int) by omega]
  simp only [bne_self_eq_false, cf]
  rfl
end Go.Proofs.Ytdfnlaikelijeaa.Am
