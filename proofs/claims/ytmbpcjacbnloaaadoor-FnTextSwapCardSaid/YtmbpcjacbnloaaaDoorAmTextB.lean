/- The functions of the texts: what the program and the reference compute. -/
import Derived.Test.YtmbpcjacbnloaaaDoorAmPl
import Derived.Test.YtmbpcjacbnloaaaDoorAmTextF
import Derived.Test.YtmbpcjacbnloaaaDoorAmTextA
namespace Go.Proofs.YtmbpcjacbnloaaaDoor.Am
open Go Go.Lib
set_option autoImplicit false
set_option linter.unusedVariables false
set_option linter.unusedSimpArgs false
set_option maxRecDepth 100000

abbrev eb : ByteArray := { data := #[] }
theorem bq {a b : ByteArray} : (a.toList == b.toList) = decide (a = b) := by
  by_cases h : a = b
  · subst h; simp
  · rw [decide_eq_false h]; exact beq_eq_false_iff_ne.2 fun e => h (toList_inj e)
theorem bqp {α : Type} {x y : ByteArray} {a b : α} (h : x = y) : (bif x.toList == y.toList then a else b) = a := by rw [bq, bp h]
theorem bqn {α : Type} {x y : ByteArray} {a b : α} (h : x ≠ y) : (bif x.toList == y.toList then a else b) = b := by rw [bq, bn h]
theorem eb_size {p : ByteArray} (h : p ≠ eb) : 1 ≤ p.size := by
  by_cases g : p.size = 0
  · exact absurd (ba_ext (a := p) (b := eb) (by have := size_eq p; rw [g] at this; exact List.eq_nil_of_length_eq_zero this.symm)) h
  · omega

-- found --------------------------------------------------------------------------------------------------------------------------------
theorem find_it {R : Type} {n : Nat} {k0 : Int → Option R} {k1 : Option R} {s p : ByteArray} (hs : s.size ≤ 1000) (hp : p.size ≤ 1000) {t : Nat} (ht : At s p t) : ∀ (m fuel i : Nat), i + m = t → m < fuel → (∀ j, i ≤ j → j < t → ¬ At s p j) → F27_0_it n k0 k1 fuel s p i = k0 t
  | m, fuel, i, hm, hf, hn => by
    obtain ⟨f, rfl⟩ : ∃ f, fuel = f + 1 := ⟨fuel - 1, by omega⟩
    have h1 := ht.1
    simp only [F27_0_it, F27_0_step]
    rw [wp (x := (i : Int) + (p.size : Int)) (by omega), bp (by omega), bp (by omega), bp (by omega), bp (by omega)]
    have e : ((i : Int) + (p.size : Int)).toNat = i + p.size := by omega
    rw [e, Int.toNat_natCast]
    cases m with
    | zero =>
      obtain rfl : i = t := by omega
      rw [bqp ht.2]
    | succ m =>
      rw [bqn (fun h => hn i (Nat.le_refl _) (by omega) ⟨by omega, h⟩), wp (by omega), show ((i : Int) + 1) = ((i + 1 : Nat) : Int) by omega]
      exact find_it hs hp ht m f (i + 1) (by omega) (by omega) (fun j h1 h2 => hn j (by omega) h2)
theorem miss_it {R : Type} {n : Nat} {k0 : Int → Option R} {k1 : Option R} {s p : ByteArray} (hs : s.size ≤ 1000) (hp : p.size ≤ 1000) : ∀ (m fuel i : Nat), i + m = s.size + 1 → m < fuel → (∀ j, i ≤ j → ¬ At s p j) → F27_0_it n k0 k1 fuel s p i = k1
  | m, fuel, i, hm, hf, hn => by
    obtain ⟨f, rfl⟩ : ∃ f, fuel = f + 1 := ⟨fuel - 1, by omega⟩
    simp only [F27_0_it, F27_0_step]
    rw [wp (x := (i : Int) + (p.size : Int)) (by omega)]
    by_cases g : (i : Int) + (p.size : Int) ≤ (s.size : Int)
    case neg => rw [bn g]
    rw [bp g, bp (by omega), bp (by omega), bp (by omega)]
    have e : ((i : Int) + (p.size : Int)).toNat = i + p.size := by omega
    rw [e, Int.toNat_natCast]
    rw [bqn (fun h => hn i (Nat.le_refl _) ⟨by omega, h⟩), wp (by omega), show ((i : Int) + 1) = ((i + 1 : Nat) : Int) by omega]
    cases m with
    | zero => omega
    | succ m => exact miss_it hs hp m f (i + 1) (by omega) (by omega) (fun j h1 => hn j (by omega))
theorem find_hit {n : Nat} {s p : ByteArray} {f k : Nat} (hn : 3000 ≤ n) (hs : s.size ≤ 1000) (hp : p.size ≤ 1000) (hp1 : 1 ≤ p.size) (hf : f ≤ s.size) (h : indexB (s.extract f s.size) p = k) : F27 n s p f = some (((f + k : Nat) : Int), ()) := by
  obtain ⟨h1, h2⟩ := find_some hp1 h hf
  unfold F27 F27_0
  rw [find_it hs hp h1 k n f rfl (by have := h1.1; omega) (fun j a b => h2 j a b)]
theorem find_miss {n : Nat} {s p : ByteArray} {f : Nat} (hn : 3000 ≤ n) (hs : s.size ≤ 1000) (hp : p.size ≤ 1000) (hp1 : 1 ≤ p.size) (hf : f ≤ s.size) (h : indexB (s.extract f s.size) p = -1) : F27 n s p f = some (-1, ()) := by
  unfold F27 F27_0
  rw [miss_it hs hp (s.size + 1 - f) n f (by omega) (by omega) (fun j a => find_none hp1 h j a)]

-- cut ------------------------------------------------------------------------------------------------------------------------------------
theorem split_it {R : Type} {n : Nat} {k0 : List ByteArray → Option R} {s p : ByteArray} (hn : 3000 ≤ n) (hs : s.size ≤ 1000) (hp : p.size ≤ 1000) (hp1 : 1 ≤ p.size) : ∀ (m fuel f : Nat) (acc : List ByteArray), f ≤ s.size → s.size - f ≤ m → m < fuel → acc.length + m ≤ 10000 → F18_0_it n k0 fuel s p f acc = k0 (acc ++ sp (s.extract f s.size) p)
  | m, fuel, f, acc, hf, hm, hfu, ha => by
    obtain ⟨fu, rfl⟩ : ∃ f, fuel = f + 1 := ⟨fuel - 1, by omega⟩
    simp only [F18_0_it, F18_0_step]
    rcases indexB_cases (s.extract f s.size) p with hx | ⟨k, hx, hr⟩
    · rw [find_miss hn hs hp hp1 hf hx]
      simp only [ats]
      rw [bp (by omega), bp (by omega), bp (by omega), bp (by omega), bp (by simp; omega), sp_last hx, Int.toNat_natCast, Int.toNat_natCast]
    · rw [find_hit hn hs hp hp1 hf hx]
      have hr' := (find_some hp1 hx hf).1.1
      simp only [ats]
      rw [bn (by omega), bp (by omega), bp (by omega), bp (by omega), bp (by simp; omega), wp (by omega), Int.toNat_natCast, Int.toNat_natCast]
      rw [show (((f + k : Nat) : Int) + (p.size : Int)) = ((f + k + p.size : Nat) : Int) by omega]
      cases m with
      | zero => omega
      | succ m =>
        rw [split_it hn hs hp hp1 m fu (f + k + p.size) _ hr' (by omega) (by omega) (by simp; omega), sp_from hp1 hf hx, List.append_assoc]
        rfl
theorem splitS {n : Nat} {s p : ByteArray} (hn : 3000 ≤ n) (hs : s.size ≤ 1000) (hp : p.size ≤ 1000) (hp1 : 1 ≤ p.size) : F18 n s p = some (sp s p, ()) := by
  unfold F18 F18_0
  have e := split_it (k0 := fun z55 => some (z55, ())) hn hs hp hp1 s.size n 0 [] (Nat.zero_le _) (by omega) (by omega) (by simp; omega)
  rw [Int.natCast_zero] at e
  rw [e, List.nil_append, sp_all]

-- joined --------------------------------------------------------------------------------------------------------------------------------
theorem jn_snoc (y sep : List UInt8) (l : List (List UInt8)) (h : l ≠ []) : Lib.join (l ++ [y]) sep = Lib.join l sep ++ sep ++ y := by
  match l, h with
  | x :: r, _ =>
    rw [List.cons_append, join_cons, join_cons]
    simp [joinTail, List.append_assoc]
theorem joinB_eq (xs : List ByteArray) (p : ByteArray) : joinB xs p = jB xs p := rfl
theorem jB_data (xs : List ByteArray) (p : ByteArray) : (jB xs p).data.toList = Lib.join (xs.map (·.data.toList)) p.data.toList := rfl
theorem jB_take (xs : List ByteArray) (p : ByteArray) {i : Nat} (h : i < xs.length) : jB (xs.take (i + 1)) p = (if 0 < i then jB (xs.take i) p ++ p else jB (xs.take i) p) ++ xs.getD i eb := by
  rw [List.take_succ_eq_append_getElem h, getD_lt h]
  refine ba_ext ?_
  by_cases g : 0 < i
  · rw [if_pos g, jB_data, List.map_append, List.map_cons, List.map_nil, jn_snoc _ _ _ (by
      intro e
      have := congrArg List.length e
      rw [List.length_map, List.length_take, List.length_nil] at this; omega), ByteArray.data_append, ByteArray.data_append, Array.toList_append, Array.toList_append, jB_data]
  · rw [if_neg g]
    obtain rfl : i = 0 := by omega
    rw [ByteArray.data_append, Array.toList_append, jB_data, jB_data, List.take_zero, List.nil_append, List.map_cons, List.map_nil, join_one]
    rfl
theorem join_it {R : Type} {n : Nat} {k0 : ByteArray → Option R} {xs : List ByteArray} {p : ByteArray} (hx : ∀ x ∈ xs, x.size ≤ 1000) (hp : p.size ≤ 1000) (hl : xs.length ≤ 10000) : ∀ (m fuel i : Nat), i + m = xs.length → m < fuel → F17_2_it n k0 fuel xs p (jB (xs.take i) p) i = k0 (jB xs p)
  | m, fuel, i, hm, hf => by
    obtain ⟨f, rfl⟩ : ∃ f, fuel = f + 1 := ⟨fuel - 1, by omega⟩
    simp only [F17_2_it, F17_2_step]
    cases m with
    | zero => rw [bn (by omega), List.take_of_length_le (by omega)]
    | succ m =>
      have hi : i < xs.length := by omega
      have ht : (jB (xs.take i) p).size ≤ 10000 * 2000 := Nat.le_trans (jB_size _ p 1000 (fun x h => hx x (List.mem_of_mem_take h))) (Nat.mul_le_mul (by rw [List.length_take]; omega) (by omega))
      have hg : (xs.getD i ({ data := #[] } : ByteArray)).size ≤ 1000 := by rw [getD_lt hi]; exact hx _ (List.getElem_mem hi)
      have hz : (jB (xs.take i) p ++ p).size ≤ 10000 * 2000 + 1000 := by rw [ByteArray.size_append]; omega
      have ih := join_it (n := n) (k0 := k0) hx hp hl m f (i + 1) (by omega) (by omega)
      rw [jB_take xs p hi] at ih
      rw [bp (by omega)]
      unfold F17_1 F17_0
      by_cases g : 0 < i
      · rw [if_pos g] at ih
        rw [bp (by omega), bp (by omega)]
        dsimp only
        rw [bp (by omega), bp (by omega), Int.toNat_natCast]
        rw [bp (by omega), wp (by omega), show ((i : Int) + 1) = ((i + 1 : Nat) : Int) by omega]
        exact ih
      · rw [if_neg g] at ih
        rw [bn (by omega)]
        dsimp only
        rw [bp (by omega), bp (by omega), Int.toNat_natCast]
        rw [bp (by omega), wp (by omega), show ((i : Int) + 1) = ((i + 1 : Nat) : Int) by omega]
        exact ih
theorem joinS {n : Nat} {xs : List ByteArray} {p : ByteArray} (hn : 20000 ≤ n) (hx : ∀ x ∈ xs, x.size ≤ 1000) (hp : p.size ≤ 1000) (hl : xs.length ≤ 10000) : F17 n xs p = some (jB xs p, ()) := by
  unfold F17 F17_2
  have e := join_it (n := n) (k0 := fun z87 => some (z87, ())) hx hp hl xs.length n 0 (by omega) (by omega)
  rw [Int.natCast_zero] at e
  exact e

-- short ----------------------------------------------------------------------------------------------------------------------------------
theorem short_it {R : Type} {n : Nat} {k0 : Bool → Option R} {k1 : Option R} {xs : List ByteArray} (hl : xs.length ≤ 10000) : ∀ (m fuel i : Nat), i + m = xs.length → m < fuel → F19_0_it n k0 k1 fuel xs xs.length i = if ∀ x ∈ xs.drop i, x.size ≤ 400 then k1 else k0 false
  | m, fuel, i, hm, hf => by
    obtain ⟨f, rfl⟩ : ∃ f, fuel = f + 1 := ⟨fuel - 1, by omega⟩
    simp only [F19_0_it, F19_0_step]
    cases m with
    | zero => rw [bn (by omega), List.drop_eq_nil_of_le (by omega), if_pos (fun x h => by simp at h)]
    | succ m =>
      have hi : i < xs.length := by omega
      rw [bp (by omega), bp (by omega), bp (by omega), Int.toNat_natCast, getD_lt hi]
      have e : xs.drop i = xs[i] :: xs.drop (i + 1) := List.drop_eq_getElem_cons hi
      by_cases g : ((xs[i].size : Nat) : Int) > 400
      · rw [bp g, if_neg (fun h => by have := h xs[i] (by rw [e]; exact List.mem_cons_self ..); omega)]
      · rw [bn g, wp (by omega), show ((i : Int) + 1) = ((i + 1 : Nat) : Int) by omega, short_it hl m f (i + 1) (by omega) (by omega)]
        have hh : (∀ x ∈ xs.drop i, x.size ≤ 400) ↔ ∀ x ∈ xs.drop (i + 1), x.size ≤ 400 := by
          rw [e]
          constructor
          · intro h x hx; exact h x (List.mem_cons_of_mem _ hx)
          · intro h x hx
            rcases List.mem_cons.1 hx with rfl | hx
            · omega
            · exact h x hx
        simp only [hh]
theorem short {n : Nat} {xs : List ByteArray} (hn : 20000 ≤ n) (hl : xs.length ≤ 10000) : F19 n xs = some (decide (∀ x ∈ xs, x.size ≤ 400), ()) := by
  unfold F19 F19_0
  have e := short_it (n := n) (k0 := fun z108 => some (z108, ())) (k1 := some (true, ())) hl xs.length n 0 (by omega) (by omega)
  rw [Int.natCast_zero] at e
  rw [e, List.drop_zero]
  by_cases h : ∀ x ∈ xs, x.size ≤ 400
  · rw [if_pos h, decide_eq_true h]
  · rw [if_neg h, decide_eq_false h]
theorem short1 {n : Nat} {x : ByteArray} (hn : 20000 ≤ n) : F19 n (x :: []) = some (decide (x.size ≤ 400), ()) := by
  rw [short hn (by simp)]; simp
theorem short2 {n : Nat} {x y : ByteArray} (hn : 20000 ≤ n) : F19 n (x :: (y :: [])) = some (decide (x.size ≤ 400 ∧ y.size ≤ 400), ()) := by
  rw [short hn (by simp)]; simp
theorem short3 {n : Nat} {x y z : ByteArray} (hn : 20000 ≤ n) : F19 n (x :: (y :: (z :: []))) = some (decide (x.size ≤ 400 ∧ y.size ≤ 400 ∧ z.size ≤ 400), ()) := by
  rw [short hn (by simp)]; simp
theorem one_ok {n : Nat} {x : ByteArray} : F16 n x = some (decide (x.size ≤ 400), ()) := by
  unfold F16
  have : (decide ((x.size : Int) ≤ 400)) = decide (x.size ≤ 400) := by
    by_cases h : x.size ≤ 400
    · rw [decide_eq_true h, decide_eq_true (by omega)]
    · rw [decide_eq_false h, decide_eq_false (by omega)]
  rw [this]

-- swapped --------------------------------------------------------------------------------------------------------------------------------
/-- swapping does: the texts are short, the part is there, and so is what comes out -/
def swapOk (s p t : ByteArray) : Prop := p ≠ eb ∧ s.size ≤ 400 ∧ p.size ≤ 400 ∧ t.size ≤ 400 ∧ (jB (sp s p) t).size ≤ 400
open Classical in
noncomputable def swapR (s p t : ByteArray) : ByteArray × (Bool × Unit) := if swapOk s p t then (jB (sp s p) t, (true, ())) else (eb, (false, ()))
theorem splitF_ok {s p : ByteArray} (hs : s.size ≤ 1000) (hp : 1 ≤ p.size) : splitF s p = some (sp s p, ()) := by
  unfold splitF
  rw [decide_eq_true (show s.size < 4294967281 by omega), decide_eq_true hp]
  rfl
theorem joinF_ok {xs : List ByteArray} {p : ByteArray} (hx : ∀ x ∈ xs, x.size ≤ 1000) (hp : p.size ≤ 1000) (hl : xs.length ≤ 10000) : joinF xs p = some (jB xs p, ()) := by
  have h1 : (jB xs p).size ≤ 10000 * 2000 := Nat.le_trans (jB_size xs p 1000 hx) (Nat.mul_le_mul hl (by omega))
  unfold joinF
  rw [decide_eq_true (show xs.length ≤ 140737488355328 by omega), decide_eq_true (show (joinB xs p).size ≤ 140737488355328 by rw [joinB_eq]; omega)]
  rfl
theorem swapS {n : Nat} {s p t : ByteArray} (hn : 20000 ≤ n) : F7 n s p t = some (swapR s p t, ()) := by
  unfold F7 swapR
  rw [one_ok]; simp only [ats]
  by_cases h1 : s.size ≤ 400
  case neg => rw [np h1, if_neg (fun h => h1 h.2.1)]
  rw [nn h1, one_ok]; simp only [ats]
  by_cases h2 : p.size ≤ 400
  case neg => rw [np h2, if_neg (fun h => h2 h.2.2.1)]
  rw [nn h2, one_ok]; simp only [ats]
  by_cases h3 : t.size ≤ 400
  case neg => rw [np h3, if_neg (fun h => h3 h.2.2.2.1)]
  rw [nn h3]
  by_cases h4 : p = eb
  · rw [bqp h4, if_neg (fun h => h.1 h4)]
  rw [bqn h4]
  have hp := eb_size h4
  rw [splitS (by omega) (by omega) (by omega) hp]; simp only [ats]
  rw [joinS hn (fun x hx => by have := sp_le hx; omega) (by omega) (by have := sp_len (s := s) hp; omega)]; simp only [ats]
  rw [one_ok]; simp only [ats]
  by_cases h5 : (jB (sp s p) t).size ≤ 400
  · rw [nn h5, if_pos ⟨h4, h1, h2, h3, h5⟩]
  · rw [np h5, if_neg (fun h => h5 h.2.2.2.2)]
theorem swapI {n : Nat} {s p t : ByteArray} (hn : 20000 ≤ n) : F8 n s p t = some (swapR s p t, ()) := by
  unfold F8 swapR
  by_cases h4 : p = eb
  · rw [bqp h4, if_neg (fun h => h.1 h4)]
  rw [bqn h4, short3 hn]; simp only [ats]
  have hp := eb_size h4
  by_cases h1 : s.size ≤ 400 ∧ p.size ≤ 400 ∧ t.size ≤ 400
  case neg => rw [np h1, if_neg (fun h => h1 ⟨h.2.1, h.2.2.1, h.2.2.2.1⟩)]
  rw [nn h1, splitF_ok (by omega) hp]; simp only [ats]
  rw [joinF_ok (fun x hx => by have := sp_le hx; omega) (by omega) (by have := sp_len (s := s) hp; omega)]; simp only [ats]
  rw [short1 hn]; simp only [ats]
  by_cases h5 : (jB (sp s p) t).size ≤ 400
  · rw [nn h5, if_pos ⟨h4, h1.1, h1.2.1, h1.2.2, h5⟩]
  · rw [np h5, if_neg (fun h => h5 h.2.2.2.2)]
theorem law3 {n : Nat} (hn : 20000 ≤ n) (a b c : ByteArray) : F3 n a b c = some (true, ()) := by
  unfold F3
  by_cases h1 : (a.size : Int) > 1048576
  · rw [bp h1]
  by_cases h2 : (b.size : Int) > 1048576
  · rw [bn h1, bp h2]
  by_cases h3 : (c.size : Int) > 1048576
  · rw [bn h1, bn h2, bp h3]
  rw [bn h1, bn h2, bn h3, swapS hn, swapI hn]; simp only [ats]
  rw [beq_self_eq_true, beq_self_eq_true]; rfl

-- split, joined ----------------------------------------------------------------------------------------------------------------------------
def splitOk (s p : ByteArray) : Prop := p ≠ eb ∧ s.size ≤ 400 ∧ p.size ≤ 400
open Classical in
noncomputable def splitR (s p : ByteArray) : List ByteArray := if splitOk s p then sp s p else []
theorem split10 {n : Nat} {s p : ByteArray} (hn : 20000 ≤ n) : F10 n s p = some (splitR s p, ()) := by
  unfold F10 splitR
  by_cases h4 : p = eb
  · rw [bqp h4, if_neg (fun h => h.1 h4)]
  rw [bqn h4, short2 hn]; simp only [ats]
  have hp := eb_size h4
  by_cases h1 : s.size ≤ 400 ∧ p.size ≤ 400
  case neg => rw [np h1, if_neg (fun h => h1 h.2)]
  rw [nn h1, splitF_ok (by omega) hp, if_pos ⟨h4, h1⟩]; rfl
theorem split11 {n : Nat} {s p : ByteArray} (hn : 20000 ≤ n) : F11 n s p = some (splitR s p, ()) := by
  unfold F11 splitR
  rw [one_ok]; simp only [ats]
  by_cases h1 : s.size ≤ 400
  case neg => rw [np h1, if_neg (fun h => h1 h.2.1)]
  rw [nn h1, one_ok]; simp only [ats]
  by_cases h2 : p.size ≤ 400
  case neg => rw [np h2, if_neg (fun h => h2 h.2.2)]
  rw [nn h2]
  by_cases h4 : p = eb
  · rw [bqp h4, if_neg (fun h => h.1 h4)]
  rw [bqn h4, splitS (by omega) (by omega) (by omega) (eb_size h4), if_pos ⟨h4, h1, h2⟩]; rfl
theorem same_it {R : Type} {n : Nat} {k0 : Bool → Option R} {k1 : Option R} {xs : List ByteArray} (hl : xs.length ≤ 10000) : ∀ (m fuel i : Nat), i + m = xs.length → m < fuel → F25_0_it n k0 k1 fuel xs xs i = k1
  | m, fuel, i, hm, hf => by
    obtain ⟨f, rfl⟩ : ∃ f, fuel = f + 1 := ⟨fuel - 1, by omega⟩
    simp only [F25_0_it, F25_0_step]
    cases m with
    | zero => rw [bn (by omega)]
    | succ m =>
      rw [bp (by omega), bp (by omega), bp (by omega), bp (by omega), bp (by omega), beq_self_eq_true]
      simp only [Bool.not_true, cf]
      rw [wp (by omega), show ((i : Int) + 1) = ((i + 1 : Nat) : Int) by omega]
      exact same_it hl m f (i + 1) (by omega) (by omega)
theorem same12 {n : Nat} {xs : List ByteArray} (hn : 20000 ≤ n) (hl : xs.length ≤ 10000) : F12 n xs xs = some (true, ()) := by
  unfold F12 F25
  rw [nen rfl]
  unfold F25_0
  have e := same_it (n := n) (k0 := fun z285 => some (z285, ())) (k1 := some (true, ())) hl xs.length n 0 (by omega) (by omega)
  rw [Int.natCast_zero] at e
  rw [e]; rfl
theorem join13 {n : Nat} {xs : List ByteArray} {p : ByteArray} (hn : 20000 ≤ n) (hx : ∀ x ∈ xs, x.size ≤ 400) (hp : p.size ≤ 400) (hl : xs.length ≤ 401) (hj : (jB xs p).size ≤ 400) : F13 n xs p = some ((jB xs p, (true, ())), ()) := by
  unfold F13
  rw [short hn (by omega)]; simp only [ats]
  rw [nn hx, short1 hn]; simp only [ats]
  rw [nn hp, bn (by omega), joinF_ok (fun x h => by have := hx x h; omega) (by omega) (by omega)]; simp only [ats]
  rw [short1 hn]; simp only [ats]
  rw [nn hj]
theorem find14 {n : Nat} {x p : ByteArray} (hn : 20000 ≤ n) (hx : x.size ≤ 400) (hp : p.size ≤ 400) (h : index x.data.toList p.data.toList = -1) : F14 n x p = some (-1, ()) := by
  unfold F14
  rw [short2 hn]; simp only [ats]
  rw [nn ⟨hx, hp⟩]
  unfold indexF
  rw [decide_eq_true (show x.size < 4294967281 by omega), h]; rfl
theorem finds_it {R : Type} {n : Nat} {k0 : Bool → Option R} {k1 : ByteArray → ByteArray → Bool → Option R} {s p w : ByteArray} {b : Bool} {xs : List ByteArray} (hn : 20000 ≤ n) (hx : ∀ x ∈ xs, x.size ≤ 400 ∧ index x.data.toList p.data.toList = -1) (hp : p.size ≤ 400) (hl : xs.length ≤ 10000) :
    ∀ (m fuel i : Nat), i + m = xs.length → m < fuel → F4_0_it n k0 k1 fuel s p xs w b i = k1 s w b
  | m, fuel, i, hm, hf => by
    obtain ⟨f, rfl⟩ : ∃ f, fuel = f + 1 := ⟨fuel - 1, by omega⟩
    simp only [F4_0_it, F4_0_step]
    cases m with
    | zero => rw [bn (by omega)]
    | succ m =>
      have hi : i < xs.length := by omega
      have hm := hx _ (List.getElem_mem hi)
      rw [bp (by omega), bp (by omega), bp (by omega), Int.toNat_natCast, getD_lt hi, find14 hn hm.1 hp hm.2]; simp only [ats]
      rw [bn (by omega), wp (by omega), show ((i : Int) + 1) = ((i + 1 : Nat) : Int) by omega]
      exact finds_it hn hx hp hl m f (i + 1) (by omega) (by omega)
theorem sp_ne (s p : ByteArray) : sp s p ≠ [] := by
  intro e
  have := sp_data s p
  rw [e] at this
  exact splitK_ne _ _ _ _ this.symm
end Go.Proofs.YtmbpcjacbnloaaaDoor.Am
