/- The names that expressions read. -/
import Derived.Test.YtdfnlaikelijeaaAmExprC
namespace Go.Proofs.Ytdfnlaikelijeaa.Am
open Go
set_option autoImplicit false
set_option linter.unusedVariables false
set_option linter.unusedSimpArgs false

-- longer lists -------------------------------------------------------------------------------------------------------------------------
theorem idx_itL {R : Type} {n : Nat} {l : List ByteArray} {s : ByteArray} {k0 : Int → Option R} {k1 : Option R} (h : l.length ≤ 3500000) : ∀ (fuel i : Nat), i ≤ l.length → l.length + 1 ≤ fuel + i →
    (∃ j : Nat, j < l.length ∧ i ≤ j ∧ l.getD j ⟨#[]⟩ = s ∧ F64_0_it n k0 k1 fuel l s l.length i = k0 j) ∨ ((∀ j, i ≤ j → j < l.length → l.getD j ⟨#[]⟩ ≠ s) ∧ F64_0_it n k0 k1 fuel l s l.length i = k1)
  | fuel, i, hi, hf => by
    obtain ⟨f, rfl⟩ : ∃ f, fuel = f + 1 := ⟨fuel - 1, by omega⟩
    simp only [F64_0_it, F64_0_step]
    by_cases g : i < l.length
    · rw [bp (by omega), bp (by omega), bp (by omega), keq, show ((i : Nat) : Int).toNat = i by omega, wp (by omega)]
      by_cases g2 : s = l.getD i ⟨#[]⟩
      · rw [bp g2]; exact .inl ⟨i, g, Nat.le_refl _, g2.symm, rfl⟩
      · rw [bn g2]
        rcases idx_itL (n := n) (s := s) (k0 := k0) (k1 := k1) h f (i + 1) (by omega) (by omega) with ⟨j, j1, j2, j3, j4⟩ | ⟨j1, j2⟩
        · exact .inl ⟨j, j1, by omega, j3, j4⟩
        · refine .inr ⟨fun j h1 h2 => ?_, j2⟩
          by_cases e : i = j
          · subst e; exact fun e => g2 e.symm
          · exact j1 j (by omega) h2
    · rw [bn (by omega)]; exact .inr ⟨fun j h1 h2 => by omega, rfl⟩
theorem contIL {n : Nat} {l : List ByteArray} {s : ByteArray} (hn : 4000000 ≤ n) (h : l.length ≤ 3500000) : F45 n l s = some (B (s ∈ l), ()) := by
  unfold F45 F64 F64_0
  rcases idx_itL (R := Int × Unit) (n := n) (l := l) (s := s) (k0 := fun z => some (z, ())) (k1 := some ((-1 : Int), ())) h n 0 (by omega) (by omega) with ⟨j, j1, j2, j3, j4⟩ | ⟨j1, j2⟩
  · rw [show ((0 : Nat) : Int) = 0 from rfl] at j4
    rw [j4]; simp only [ats]
    rw [B_t (mem_get.2 ⟨j, j1, j3⟩), decide_eq_true (by omega)]
  · rw [show ((0 : Nat) : Int) = 0 from rfl] at j2
    rw [j2]; simp only [ats]
    rw [B_f (fun hm => by
      obtain ⟨j, h1, h2⟩ := mem_get.1 hm
      exact j1 j (by omega) h1 h2)]
    rfl
theorem one_itL {R : Type} {n : Nat} {l : List ByteArray} {s : ByteArray} {k0 : Bool → Option R} {k1 : Option R} (h : l.length ≤ 3500000) : ∀ (fuel i : Nat), i ≤ l.length → l.length + 1 ≤ fuel + i →
    ((∃ j : Nat, j < l.length ∧ l.getD j ⟨#[]⟩ = s) ∧ F52_0_it n k0 k1 fuel l s i = k0 true) ∨ ((∀ j, i ≤ j → j < l.length → l.getD j ⟨#[]⟩ ≠ s) ∧ F52_0_it n k0 k1 fuel l s i = k1)
  | fuel, i, hi, hf => by
    obtain ⟨f, rfl⟩ : ∃ f, fuel = f + 1 := ⟨fuel - 1, by omega⟩
    simp only [F52_0_it, F52_0_step]
    by_cases g : i < l.length
    · rw [bp (by omega), bp (by omega), bp (by omega), keq, show ((i : Nat) : Int).toNat = i by omega, wp (by omega)]
      by_cases g2 : l.getD i ⟨#[]⟩ = s
      · rw [bp g2]; exact .inl ⟨⟨i, g, g2⟩, rfl⟩
      · rw [bn g2]
        rcases one_itL (n := n) (s := s) (k0 := k0) (k1 := k1) h f (i + 1) (by omega) (by omega) with j | ⟨j1, j2⟩
        · exact .inl j
        · refine .inr ⟨fun j h1 h2 => ?_, j2⟩
          by_cases e : i = j
          · subst e; exact g2
          · exact j1 j (by omega) h2
    · rw [bn (by omega)]; exact .inr ⟨fun j h1 h2 => by omega, rfl⟩
theorem isOneL {n : Nat} {l : List ByteArray} {s : ByteArray} (hn : 4000000 ≤ n) (h : l.length ≤ 3500000) : F52 n l s = some (B (s ∈ l), ()) := by
  unfold F52 F52_0
  rcases one_itL (R := Bool × Unit) (n := n) (l := l) (s := s) (k0 := fun z => some (z, ())) (k1 := some (false, ())) h n 0 (by omega) (by omega) with ⟨⟨j, j1, j3⟩, j4⟩ | ⟨j1, j2⟩
  · rw [show ((0 : Nat) : Int) = 0 from rfl] at j4
    rw [j4, B_t (mem_get.2 ⟨j, j1, j3⟩)]
  · rw [show ((0 : Nat) : Int) = 0 from rfl] at j2
    rw [j2, B_f (fun hm => by
      obtain ⟨j, h1, h2⟩ := mem_get.1 hm
      exact j1 j (by omega) h1 h2)]

open Classical in
open Classical in
noncomputable def rdn : Nat → List ByteArray → Ex → List ByteArray → List ByteArray
  | 0, _, _, o => o
  | d + 1, b, e, o => if e.kind = 6 then (if e.text ∈ b ∨ e.text ∈ o then o else o ++ [e.text]) else e.kids.foldl (fun o k => rdn d (if e.kind = 16 then b ++ e.names else b) k o) o
def Sx (e : Ex) : Prop := ∃ D, Smx D e
theorem Sx.kids {e : Ex} (h : Sx e) : ∀ k ∈ e.kids, Sx k := fun k hk => by
  obtain ⟨D, h⟩ := h
  match D, h with
  | D + 1, h => exact ⟨D, h.2.2.2.2 k hk⟩
theorem vfact {n d : Nat} {e : Ex} (hn : 3000000 ≤ n) (hs : Sx e) (hf : fit n (d + 1) e = true) : (e.kind = 6 → e.kids = [] ∧ NM e.text) ∧ e.kids.length ≤ 12 ∧ (e.kind = 16 → e.names.length ≤ 6) := by
  obtain ⟨D, hs⟩ := hs
  have h1 := (shp_ok hn hs).2
  have h2 : shp n e = true := by
    unfold fit at hf
    rw [Bool.and_eq_true] at hf
    exact hf.1
  rw [h2] at h1
  have ht : e.text.size ≤ 1048576 := by
    match D, hs with
    | D + 1, h => exact h.1
  obtain ⟨k, t, nm, ks⟩ := e
  simp only at h1 ht ⊢
  refine ⟨fun hk => ?_, ?_, fun hk => ?_⟩
  · subst hk
    by_cases h0 : (ks.length : Int) = 0
    · refine ⟨List.eq_nil_of_length_eq_zero (by omega), ?_⟩
      simp [F53, F53_1, F53_0, h0, nameS hn ht, ats] at h1
      by_cases hm : 0 < nm.length
      · rw [bp hm] at h1; cases h1
      · rw [bn hm] at h1
        simp at h1
        exact B_iff.1 h1
    · have e0 : ((ks.length : Int) == 0) = false := beq_eq_false_iff_ne.2 h0
      simp [F53, F53_1, F53_0, e0] at h1
  · apply Classical.byContradiction
    intro hc
    have r : F70 n (ks.length : Int) 1 7 = some (false, ()) := by
      rw [show F70 n (ks.length : Int) 1 7 = some (decide ((1 : Int) ≤ ks.length ∧ (ks.length : Int) ≤ 7), ()) from rangeS, decide_eq_false (by omega)]
    have e0 : ((ks.length : Int) == 0) = false := beq_eq_false_iff_ne.2 (by omega)
    have e1 : ((ks.length : Int) == 1) = false := beq_eq_false_iff_ne.2 (by omega)
    have e2 : ((ks.length : Int) == 2) = false := beq_eq_false_iff_ne.2 (by omega)
    have e3 : ((ks.length : Int) == 3) = false := beq_eq_false_iff_ne.2 (by omega)
    have e6 : decide ((ks.length : Int) ≤ 6) = false := decide_eq_false (by omega)
    have e12 : decide ((ks.length : Int) ≤ 12) = false := decide_eq_false (by omega)
    have j : ∀ (k0 : Bool → Option (Bool × Unit)), k0 false = some (false, ()) → F53_1 n (ks.length : Int) k t nm ks k0 (some (false, ())) = some (false, ()) := by
      intro k0 hk
      unfold F53_1 F53_0
      simp only [r, e0, e1, e2, e3, e6, e12, cf, ats, hk, Bool.cond_self]
    unfold F53 at h1
    simp only [j (fun z => some (z, ())) rfl, Bool.cond_self] at h1
    cases h1
  · subst hk
    apply Classical.byContradiction
    intro hc
    have e6 : decide ((nm.length : Int) ≤ 6) = false := decide_eq_false (by omega)
    simp [F53, F53_1, F53_0, e6] at h1
theorem fit0 {n : Nat} {e : Ex} (h : fit n 1 e = true) : e.kids = [] := by
  have := fit_kids h
  match hk : e.kids with
  | [] => rfl
  | a :: l =>
    have := this a (by rw [hk]; exact List.mem_cons_self ..)
    unfold fit at this; cases this
theorem fold_len {c : Nat} {f : List ByteArray → Ex → List ByteArray} : ∀ (l : List Ex) (o : List ByteArray), (∀ k ∈ l, ∀ o, (f o k).length ≤ o.length + c) → (l.foldl f o).length ≤ o.length + l.length * c
  | [], o, _ => by simp
  | a :: l, o, h => by
    have h1 := h a (List.mem_cons_self ..) o
    have h2 := fold_len l (f o a) (fun k hk => h k (List.mem_cons_of_mem _ hk))
    rw [List.foldl_cons, List.length_cons, Nat.add_mul]; omega
theorem rdn_len {n : Nat} (hn : 3000000 ≤ n) : ∀ (d : Nat) (e : Ex) (b o : List ByteArray), Sx e → fit n (d + 1) e = true → (rdn (d + 1) b e o).length ≤ o.length + 12 ^ d
  | d, e, b, o, hs, hf => by
    obtain ⟨v1, v2, v3⟩ := vfact hn hs hf
    rw [rdn]
    have hp : 0 < 12 ^ d := Nat.pow_pos (by omega)
    by_cases h6 : e.kind = 6
    · rw [if_pos h6]
      split
      · omega
      · rw [List.length_append, List.length_singleton]; omega
    · rw [if_neg h6]
      match d, hf with
      | 0, hf => rw [fit0 hf]; simp
      | d + 1, hf =>
        have := fold_len (c := 12 ^ d) (f := fun o k => rdn (d + 1) (if e.kind = 16 then b ++ e.names else b) k o) e.kids o (fun k hk o => rdn_len hn d k _ o (hs.kids k hk) (fit_kids hf k hk))
        have h2 : e.kids.length * 12 ^ d ≤ 12 * 12 ^ d := Nat.mul_le_mul_right _ v2
        rw [Nat.pow_succ, Nat.mul_comm (12 ^ d)]; omega
theorem fold_congr {f g : List ByteArray → Ex → List ByteArray} : ∀ (l : List Ex) (o : List ByteArray), (∀ k ∈ l, ∀ o, f o k = g o k) → l.foldl f o = l.foldl g o
  | [], o, _ => rfl
  | a :: l, o, h => by
    rw [List.foldl_cons, List.foldl_cons, h a (List.mem_cons_self ..) o]
    exact fold_congr l _ (fun k hk => h k (List.mem_cons_of_mem _ hk))
theorem rdn_up {n : Nat} : ∀ (d : Nat) (e : Ex) (b o : List ByteArray), fit n d e = true → rdn (d + 1) b e o = rdn d b e o
  | 0, e, b, o, h => by unfold fit at h; cases h
  | d + 1, e, b, o, h => by
    rw [rdn, rdn]
    by_cases h6 : e.kind = 6
    · rw [if_pos h6, if_pos h6]
    · rw [if_neg h6, if_neg h6]
      exact fold_congr _ _ fun k hk o => rdn_up d k _ o (fit_kids h k hk)
theorem fold_inv {p : List ByteArray → Prop} {f : List ByteArray → Ex → List ByteArray} : ∀ (l : List Ex) (o : List ByteArray), (∀ k ∈ l, ∀ o, p o → p (f o k)) → p o → p (l.foldl f o)
  | [], o, _, h => h
  | a :: l, o, hs, h => fold_inv l _ (fun k hk => hs k (List.mem_cons_of_mem _ hk)) (hs a (List.mem_cons_self ..) o h)
def Gd (o : List ByteArray) : Prop := o.Nodup ∧ ∀ s ∈ o, NM s
theorem rdn_gd {n : Nat} (hn : 3000000 ≤ n) : ∀ (d : Nat) (e : Ex) (b o : List ByteArray), Sx e → fit n d e = true → Gd o → Gd (rdn d b e o)
  | 0, e, b, o, _, h, _ => by unfold fit at h; cases h
  | d + 1, e, b, o, hs, h, hg => by
    obtain ⟨v1, v2, v3⟩ := vfact hn hs h
    rw [rdn]
    by_cases h6 : e.kind = 6
    · rw [if_pos h6]
      split
      · exact hg
      · rename_i hno
        refine ⟨List.nodup_append.2 ⟨hg.1, by simp, fun x hx y hy => ?_⟩, fun s hs => ?_⟩
        · rw [List.mem_singleton] at hy; subst hy
          rintro rfl
          exact hno (.inr hx)
        · rcases List.mem_append.1 hs with hs | hs
          · exact hg.2 s hs
          · rw [List.mem_singleton] at hs; subst hs; exact (v1 h6).2
    · rw [if_neg h6]
      exact fold_inv _ _ (fun k hk o ho => rdn_gd hn d k _ o (hs.kids k hk) (fit_kids h k hk) ho) hg

-- the program --------------------------------------------------------------------------------------------------------------------------
theorem concat2 {n : Nat} (hn : 100 ≤ n) {a b : List ByteArray} (ha : a.length ≤ 1000) (hb : b.length ≤ 1000) : F63 n (a :: (b :: [])) = some (a ++ b, ()) := by
  obtain ⟨k, rfl⟩ : ∃ k, n = k + 3 := ⟨n - 3, by omega⟩
  have g : ∀ z : Int, 0 ≤ z → z ≤ 10000 → F84 (k + 3) z = some ((), ([], ())) := by
    intro z h0 h1
    unfold F84 F84_0
    rw [bn (by omega)]
    unfold F84_1
    have e : IntKind.wrap .i64 (z - Int.ofNat 0) = z := by rw [show Int.ofNat 0 = 0 from rfl, Int.sub_zero]; exact wp (by omega)
    dsimp only
    rw [e]
    by_cases hz : z > 0
    · rw [bp hz, bp (by omega), bp (by omega), bp (by rw [List.length_replicate]; show (0 : Int) ≤ _; omega), List.take_zero]
    · rw [bn hz]
  unfold F63 F63_1
  rw [F63_1_it]; unfold F63_1_step F63_0
  rw [bp (by simp), bp (by omega), bp (by simp)]
  simp only [show (0 : Int).toNat = 0 from rfl, List.getD_cons_zero]
  rw [wp (by omega), bn (by omega), wp (by omega)]
  rw [F63_1_it]; unfold F63_1_step F63_0
  rw [bp (by simp), bp (by omega), bp (by simp)]
  simp only [show ((0 : Int) + 1).toNat = 1 from rfl, List.getD_cons_succ, List.getD_cons_zero]
  rw [wp (by omega), bn (by omega), wp (by omega)]
  rw [F63_1_it]; unfold F63_1_step
  rw [bn (by simp)]
  dsimp only
  rw [g _ (by omega) (by omega)]; simp only [ats]
  unfold F63_2
  rw [F63_2_it]; unfold F63_2_step
  rw [bp (by simp), bp (by omega), bp (by simp)]
  simp only [show (0 : Int).toNat = 0 from rfl, List.getD_cons_zero, List.nil_append]
  rw [bp (by simp; omega), wp (by omega)]
  rw [F63_2_it]; unfold F63_2_step
  rw [bp (by simp), bp (by omega), bp (by simp)]
  simp only [show ((0 : Int) + 1).toNat = 1 from rfl, List.getD_cons_succ, List.getD_cons_zero]
  rw [bp (by omega), wp (by omega)]
  rw [F63_2_it]; unfold F63_2_step
  rw [bn (by simp)]
theorem seeI {n : Nat} (hn : 4000000 ≤ n) {s : ByteArray} {o : List ByteArray} (ho : o.length ≤ 3500000) : F44 n s o = some ((), (((), ()), ((), ((if B (s ∈ o) = true then o else o ++ [s]), ())))) := by
  unfold F44
  rw [contIL hn ho]; simp only [ats]
  cases B (s ∈ o)
  · simp only [Bool.not_false, ct]
    rw [bp (by simp; omega)]; rfl
  · rfl
theorem loopI {R : Type} {n k d c : Nat} {b : List ByteArray} {ks : List Ex} {k0 : List ByteArray → Option R} (hl : ks.length ≤ 12) (hr : ∀ e ∈ ks, ∀ o : List ByteArray, o.length + c ≤ 3500000 → (Q43it n k).1 e.kind e.text e.names e.kids b o = some ((), (((), ()), ((), (rdn d b e o, ())))) ∧ (rdn d b e o).length ≤ o.length + c) :
    ∀ (m fuel i : Nat) (o : List ByteArray), i + m = ks.length → m < fuel → o.length + m * c ≤ 3500000 → F43b_2_it n (Q43it n k) k0 fuel b ks ks.length i o = k0 ((ks.drop i).foldl (fun o x => rdn d b x o) o)
  | m, fuel, i, o, hm, hf, ho => by
    obtain ⟨f, rfl⟩ : ∃ f, fuel = f + 1 := ⟨fuel - 1, by omega⟩
    unfold F43b_2_it F43b_2_step
    cases m with
    | zero => rw [bn (by omega), List.drop_eq_nil_of_le (by omega)]; rfl
    | succ m =>
      have hi : i < ks.length := by omega
      rw [Nat.add_mul, Nat.one_mul] at ho
      obtain ⟨h1, h2⟩ := hr _ (kid_mem hi) o (by omega)
      rw [bp (by omega), bp (by omega), bp (by omega), Int.toNat_natCast]
      dsimp only
      rw [h1]; simp only [ats]
      rw [wp (by omega), show ((i : Int) + 1) = ((i + 1 : Nat) : Int) by omega]
      rw [loopI hl hr m f (i + 1) _ (by omega) (by omega) (by omega), List.drop_eq_getElem_cons hi, List.foldl_cons, getD_lt hi]
theorem tailI {n k d : Nat} (hn : 4000000 ≤ n) {e : Ex} {b o : List ByteArray} (hc : e.kids.length ≤ 12) (h16 : e.kind = 16 → e.names.length ≤ 6) (hb : b.length ≤ 900)
    (hr : ∀ x ∈ e.kids, ∀ o : List ByteArray, o.length + 12 ^ (d - 1) ≤ 3500000 → (Q43it n k).1 x.kind x.text x.names x.kids (if e.kind = 16 then b ++ e.names else b) o = some ((), (((), ()), ((), (rdn d (if e.kind = 16 then b ++ e.names else b) x o, ())))) ∧ (rdn d (if e.kind = 16 then b ++ e.names else b) x o).length ≤ o.length + 12 ^ (d - 1))
    (ho : o.length + e.kids.length * 12 ^ (d - 1) ≤ 3500000) :
    F43b_1 n (Q43it n k) b e.kind e.text e.names e.kids o (fun z1647 z1648 z1649 z1650 z1651 z1652 => F43b_2 n (Q43it n k) z1647 z1651 ((z1651.length) : Int) (0 : Int) z1652 (fun z1667 => some ((), (((), ()), ((), (z1667, ())))))) = some ((), (((), ()), ((), (e.kids.foldl (fun o x => rdn d (if e.kind = 16 then b ++ e.names else b) x o) o, ())))) := by
  unfold F43b_1
  by_cases g : e.kind = 16
  · simp only [if_pos g] at hr ⊢
    rw [eqp g, concat2 (by omega) (by omega) (by have := h16 g; omega)]; simp only [ats]
    unfold F43b_2
    have t := loopI (n := n) (k := k) (k0 := fun z1667 => some ((), (((), ()), ((), (z1667, ()))))) hc hr e.kids.length n 0 o (by omega) (by omega) ho
    rw [Int.natCast_zero] at t
    rw [t, List.drop_zero]
  · simp only [if_neg g] at hr ⊢
    rw [eqn g]
    unfold F43b_2
    have t := loopI (n := n) (k := k) (k0 := fun z1667 => some ((), (((), ()), ((), (z1667, ()))))) hc hr e.kids.length n 0 o (by omega) (by omega) ho
    rw [Int.natCast_zero] at t
    rw [t, List.drop_zero]
theorem readI {n : Nat} (hn : 4000000 ≤ n) : ∀ (d k : Nat) (e : Ex) (b o : List ByteArray), Sx e → fit n d e = true → d < k → b.length + 6 * d ≤ 900 → o.length + 12 ^ (d - 1) ≤ 3500000 → (Q43it n k).1 e.kind e.text e.names e.kids b o = some ((), (((), ()), ((), (rdn d b e o, ()))))
  | 0, k, e, b, o, _, h, _, _, _ => by unfold fit at h; cases h
  | d + 1, k + 1, e, b, o, hs, h, hk, hb, ho => by
    obtain ⟨v1, v2, v3⟩ := vfact (by omega) hs h
    show F43b n (Q43it n k) e.kind e.text e.names e.kids b o = _
    rw [rdn]
    rw [Nat.add_sub_cancel] at ho
    unfold F43b F43b_0
    by_cases h6 : e.kind = 6
    · have hno : e.kids = [] := (v1 h6).1
      have tl : ∀ o : List ByteArray, o.length ≤ 3500000 → F43b_1 n (Q43it n k) b e.kind e.text e.names e.kids o (fun z1647 z1648 z1649 z1650 z1651 z1652 => F43b_2 n (Q43it n k) z1647 z1651 ((z1651.length) : Int) (0 : Int) z1652 (fun z1667 => some ((), (((), ()), ((), (z1667, ())))))) = some ((), (((), ()), ((), (o, ())))) := by
        intro o ho
        unfold F43b_1
        rw [eqn (by omega), hno]
        unfold F43b_2
        have t := loopI (n := n) (k := k) (d := 0) (c := 0) (b := b) (ks := []) (k0 := fun z1667 => some ((), (((), ()), ((), (z1667, ()))))) (by simp) (fun e he => by cases he) 0 n 0 o rfl (by omega) (by omega)
        exact t
      have hp : 0 < 12 ^ d := Nat.pow_pos (by omega)
      rw [eqp h6, if_pos h6, contIL hn (by omega)]; simp only [ats]
      by_cases hb2 : e.text ∈ b
      · rw [B_t hb2, if_pos (Or.inl hb2)]; simp only [Bool.not_true, cf]
        exact tl o (by omega)
      · rw [B_f hb2]; simp only [Bool.not_false, ct]
        rw [seeI hn (by omega)]; simp only [ats]
        by_cases ho2 : e.text ∈ o
        · rw [B_t ho2, if_pos rfl, if_pos (Or.inr ho2)]
          exact tl o (by omega)
        · have hno2 : ¬ (e.text ∈ b ∨ e.text ∈ o) := by rintro (h | h); exact hb2 h; exact ho2 h
          rw [B_f ho2, if_neg (show ¬ (false = true) by simp), if_neg hno2]
          exact tl _ (by rw [List.length_append, List.length_singleton]; omega)
    · rw [eqn h6, if_neg h6]
      have hm : e.kids.length * 12 ^ (d - 1) ≤ 12 ^ d := by
        match d, h with
        | 0, h => rw [fit0 h]; simp
        | d + 1, h =>
          rw [Nat.add_sub_cancel, Nat.pow_succ, Nat.mul_comm (12 ^ d)]; exact Nat.mul_le_mul_right _ v2
      refine tailI hn v2 v3 (by omega) (fun x hx o' ho' => ?_) (by omega)
      have hfx := fit_kids h x hx
      have hbl : (if e.kind = 16 then b ++ e.names else b).length + 6 * d ≤ 900 := by
        split
        · rename_i g; have := v3 g; rw [List.length_append]; omega
        · omega
      refine ⟨readI hn d k x _ o' (hs.kids x hx) hfx (by omega) hbl ho', ?_⟩
      match d, h with
      | 0, h => rw [fit0 h] at hx; cases hx
      | d + 1, h => exact rdn_len (by omega) d x _ o' (hs.kids x hx) (fit_kids h x hx)
end Go.Proofs.Ytdfnlaikelijeaa.Am
