/- The names that expressions read: the reference, and the law. -/
import Derived.Test.YtdfnlaikelijeaaAmExprN
namespace Go.Proofs.Ytdfnlaikelijeaa.Am
open Go
set_option autoImplicit false
set_option linter.unusedVariables false
set_option linter.unusedSimpArgs false

theorem loopS {R : Type} {n k d c : Nat} {b : List ByteArray} {ks : List Ex} {kd : Int} {tx : ByteArray} {nm : List ByteArray} {k0 : List ByteArray → Option R} (hl : ks.length ≤ 12) (hr : ∀ e ∈ ks, ∀ o : List ByteArray, o.length + c ≤ 3500000 → (Q42it n k).1 e.kind e.text e.names e.kids b o = some (rdn d b e o, ()) ∧ (rdn d b e o).length ≤ o.length + c) :
    ∀ (m fuel i : Nat) (o : List ByteArray), i + m = ks.length → m < fuel → o.length + m * c ≤ 3500000 → F42b_1_it n (Q42it n k) k0 fuel b o i kd tx nm ks = k0 ((ks.drop i).foldl (fun o x => rdn d b x o) o)
  | m, fuel, i, o, hm, hf, ho => by
    obtain ⟨f, rfl⟩ : ∃ f, fuel = f + 1 := ⟨fuel - 1, by omega⟩
    unfold F42b_1_it F42b_1_step
    cases m with
    | zero => rw [bn (by omega), List.drop_eq_nil_of_le (by omega)]; rfl
    | succ m =>
      have hi : i < ks.length := by omega
      rw [Nat.add_mul, Nat.one_mul] at ho
      obtain ⟨h1, h2⟩ := hr _ (kid_mem hi) o (by omega)
      rw [bp (by omega), bp (by omega), bp (by omega), Int.toNat_natCast]
      dsimp only
      rw [h1]; simp only [ats]
      rw [wp (by omega), show ((i : Int) + 1) = ((i + 1 : Nat) : Int) by omega]
      rw [loopS hl hr m f (i + 1) _ (by omega) (by omega) (by omega), List.drop_eq_getElem_cons hi, List.foldl_cons, getD_lt hi]
theorem tailS {n k d : Nat} (hn : 4000000 ≤ n) {e : Ex} {b o : List ByteArray} (hc : e.kids.length ≤ 12) (h16 : e.kind = 16 → e.names.length ≤ 6) (hb : b.length ≤ 900)
    (hr : ∀ x ∈ e.kids, ∀ o : List ByteArray, o.length + 12 ^ (d - 1) ≤ 3500000 → (Q42it n k).1 x.kind x.text x.names x.kids (if e.kind = 16 then b ++ e.names else b) o = some (rdn d (if e.kind = 16 then b ++ e.names else b) x o, ()) ∧ (rdn d (if e.kind = 16 then b ++ e.names else b) x o).length ≤ o.length + 12 ^ (d - 1))
    (ho : o.length + e.kids.length * 12 ^ (d - 1) ≤ 3500000) :
    F42b_0 n (Q42it n k) b o e.kind e.text e.names e.kids (fun z2335 z2336 z2337 z2338 z2339 z2340 => F42b_1 n (Q42it n k) z2336 z2335 (0 : Int) z2337 z2338 z2339 z2340 (fun z2357 => some (z2357, ()))) (fun z2358 z2359 z2360 z2361 z2362 z2363 => F42b_1 n (Q42it n k) z2358 z2359 (0 : Int) z2360 z2361 z2362 z2363 (fun z2364 => some (z2364, ()))) = some (e.kids.foldl (fun o x => rdn d (if e.kind = 16 then b ++ e.names else b) x o) o, ()) := by
  unfold F42b_0
  by_cases g : e.kind = 16
  · simp only [if_pos g] at hr ⊢
    have h6 := h16 g
    rw [eqp g]
    simp only [List.nil_append, List.length_nil]
    rw [bp (by omega), bp (by omega)]
    unfold F42b_1
    have t := loopS (n := n) (k := k) (kd := e.kind) (tx := e.text) (nm := e.names) (k0 := fun z2357 => some (z2357, ())) hc hr e.kids.length n 0 o (by omega) (by omega) ho
    rw [Int.natCast_zero] at t
    rw [t, List.drop_zero]
  · simp only [if_neg g] at hr ⊢
    rw [eqn g]
    unfold F42b_1
    have t := loopS (n := n) (k := k) (kd := e.kind) (tx := e.text) (nm := e.names) (k0 := fun z2357 => some (z2357, ())) hc hr e.kids.length n 0 o (by omega) (by omega) ho
    rw [Int.natCast_zero] at t
    rw [t, List.drop_zero]
theorem readS {n : Nat} (hn : 4000000 ≤ n) : ∀ (d k : Nat) (e : Ex) (b o : List ByteArray), Sx e → fit n d e = true → d < k → b.length + 6 * d ≤ 900 → o.length + 12 ^ (d - 1) ≤ 3500000 → (Q42it n k).1 e.kind e.text e.names e.kids b o = some (rdn d b e o, ())
  | 0, k, e, b, o, _, h, _, _, _ => by unfold fit at h; cases h
  | d + 1, k + 1, e, b, o, hs, h, hk, hb, ho => by
    obtain ⟨v1, v2, v3⟩ := vfact (by omega) hs h
    show F42b n (Q42it n k) e.kind e.text e.names e.kids b o = _
    rw [Nat.add_sub_cancel] at ho
    have hm : e.kids.length * 12 ^ (d - 1) ≤ 12 ^ d := by
      match d, h with
      | 0, h => rw [fit0 h]; simp
      | d + 1, h =>
        rw [Nat.add_sub_cancel, Nat.pow_succ, Nat.mul_comm (12 ^ d)]; exact Nat.mul_le_mul_right _ v2
    have tl := tailS (n := n) (k := k) (d := d) (e := e) (b := b) (o := o) hn v2 v3 (by omega) (fun x hx o' ho' => by
      have hfx := fit_kids h x hx
      have hbl : (if e.kind = 16 then b ++ e.names else b).length + 6 * d ≤ 900 := by
        split
        · rename_i g; have := v3 g; rw [List.length_append]; omega
        · omega
      refine ⟨readS hn d k x _ o' (hs.kids x hx) hfx (by omega) hbl ho', ?_⟩
      match d, h with
      | 0, h => rw [fit0 h] at hx; cases hx
      | d + 1, h => exact rdn_len (by omega) d x _ o' (hs.kids x hx) (fit_kids h x hx)) (by omega)
    rw [rdn]
    unfold F42b
    by_cases h6 : e.kind = 6
    · have hno : e.kids = [] := (v1 h6).1
      have hp : 0 < 12 ^ d := Nat.pow_pos (by omega)
      have tl0 : e.kids.foldl (fun o x => rdn d (if e.kind = 16 then b ++ e.names else b) x o) o = o := by rw [hno]; rfl
      rw [tl0] at tl
      rw [eqp h6, if_pos h6, isOneL hn (by omega)]; simp only [ats]
      by_cases hb2 : e.text ∈ b
      · rw [B_t hb2, if_pos (Or.inl hb2)]; simp only [Bool.not_true, cf]
        exact tl
      · rw [B_f hb2]; simp only [Bool.not_false, ct]
        rw [isOneL hn (by omega)]; simp only [ats]
        by_cases ho2 : e.text ∈ o
        · rw [B_t ho2, if_pos (Or.inr ho2)]; simp only [Bool.not_true, cf]
          exact tl
        · have hno2 : ¬ (e.text ∈ b ∨ e.text ∈ o) := by rintro (h | h); exact hb2 h; exact ho2 h
          rw [B_f ho2, if_neg hno2]; simp only [Bool.not_false, ct, List.nil_append, List.length_nil]
          rw [bp (by omega), bp (by simp; omega)]
    · rw [eqn h6, if_neg h6]
      exact tl

-- names, whole -------------------------------------------------------------------------------------------------------------------------
noncomputable def namesR (n : Nat) (e : Ex) : List ByteArray := if fit n 7 e = true then rdn 7 [] e [] else []
theorem namesI {n D : Nat} {e : Ex} (hn : 4000000 ≤ n) (hs : Smx D e) : F20 n e.kind e.text e.names e.kids = some ((), (namesR n e, ())) := by
  unfold F20 namesR
  rw [okI (by omega) hs]; simp only [ats]
  cases h : fit n 7 e
  · rfl
  · simp only [Bool.not_true, cf]
    unfold F43
    rw [readI hn 7 n e [] [] ⟨D, hs⟩ h (by omega) (by simp) (by simp)]; rfl
theorem namesS {n D : Nat} {e : Ex} (hn : 4000000 ≤ n) (hs : Smx D e) : F19 n e.kind e.text e.names e.kids = some (namesR n e, ()) := by
  unfold F19 namesR
  rw [fitSS (by omega) hs]; simp only [ats]
  cases h : fit n 7 e
  · rfl
  · simp only [Bool.not_true, cf]
    unfold F42
    rw [readS hn 7 n e [] [] ⟨D, hs⟩ h (by omega) (by simp) (by simp)]; rfl
theorem namesR_len {n D : Nat} {e : Ex} (hn : 4000000 ≤ n) (hs : Smx D e) : (namesR n e).length ≤ 3000000 := by
  unfold namesR
  split
  · rename_i h
    have := rdn_len (n := n) (by omega) 6 e [] [] ⟨D, hs⟩ h
    exact Nat.le_trans this (by decide)
  · simp
theorem namesR_gd {n D : Nat} {e : Ex} (hn : 4000000 ≤ n) (hs : Smx D e) : Gd (namesR n e) := by
  unfold namesR
  split
  · rename_i h
    exact rdn_gd (by omega) 7 e [] [] ⟨D, hs⟩ h ⟨List.nodup_nil, fun s h => by cases h⟩
  · exact ⟨List.nodup_nil, fun s h => by cases h⟩
end Go.Proofs.Ytdfnlaikelijeaa.Am
