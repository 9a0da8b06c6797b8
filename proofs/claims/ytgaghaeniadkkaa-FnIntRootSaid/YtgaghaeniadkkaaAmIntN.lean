/- Integers as texts. -/
import Derived.Test.YtgaghaeniadkkaaAmIntM
namespace Go.Proofs.Ytgaghaeniadkkaa.Am
open Go
set_option autoImplicit false
set_option linter.unusedVariables false
set_option linter.unusedSimpArgs false

def isdg (x : Int) : Prop := 48 ≤ x ∧ x ≤ 57
instance : DecidablePred isdg := fun x => by unfold isdg; infer_instance
def body : List Int → List Int
  | [] => []
  | x :: t => if x = 45 then t else x :: t
def isng : List Int → Bool
  | [] => false
  | x :: _ => x == 45
def Vi (l : List Int) : Prop := 1 ≤ (body l).length ∧ (body l).length ≤ 40 ∧ (∀ x ∈ body l, isdg x) ∧ ((body l).getD 0 0 = 48 → l = [48])
instance : DecidablePred Vi := fun l => by unfold Vi; infer_instance
def rv (l : List Int) : List Int := l.reverse.map fun x => x - 48
def bd (l : List Int) : List Int := rv (body l)
def val (l : List Int) : Int := if isng l then - nv (bd l) else nv (bd l)
def up (l : List Int) : List Int := l.reverse.map fun d => 48 + d
def toS (z : Int) : List Int := (if z < 0 then [45] else []) ++ (if z = 0 then [48] else up (dig z.natAbs))

theorem rv_okd {l : List Int} (h : ∀ x ∈ l, isdg x) : okd (rv l) := fun x hx => by
  obtain ⟨y, hy, rfl⟩ := List.mem_map.1 hx
  have := h y (by simpa using hy)
  unfold isdg at this; omega
theorem up_rv {l : List Int} : up (rv l) = l := by
  unfold up rv
  rw [← List.map_reverse, List.reverse_reverse, List.map_map]
  conv => rhs; rw [← List.map_id l]
  apply List.map_congr_left; intro x _; simp; omega
theorem rv_up {l : List Int} : rv (up l) = l := by
  unfold up rv
  rw [← List.map_reverse, List.reverse_reverse, List.map_map]
  conv => rhs; rw [← List.map_id l]
  apply List.map_congr_left; intro x _; simp; omega
theorem up_dg {l : List Int} (h : okd l) : ∀ x ∈ up l, isdg x := fun x hx => by
  obtain ⟨y, hy, rfl⟩ := List.mem_map.1 hx
  have := h y (by simpa using hy)
  unfold isdg; omega
theorem up_snoc (l : List Int) (d : Int) : up (l ++ [d]) = (48 + d) :: up l := by simp [up]
theorem up_cons (l : List Int) (d : Int) : up (d :: l) = up l ++ [48 + d] := by simp [up]
theorem up_len (l : List Int) : (up l).length = l.length := by simp [up]
theorem rv_len (l : List Int) : (rv l).length = l.length := by simp [rv]
theorem dg_okb {l : List Int} (h : ∀ x ∈ l, isdg x) : okb l := fun x hx => by have := h x hx; unfold isdg at this; omega
theorem body_dg {l : List Int} (h : ∀ x ∈ l, isdg x) : body l = l ∧ isng l = false := by
  cases l with
  | nil => exact ⟨rfl, rfl⟩
  | cons x t =>
    have := h x (by simp)
    unfold isdg at this
    have hx : x ≠ 45 := by omega
    exact ⟨by simp [body, hx], by simp [isng, hx]⟩
theorem body_ng (l : List Int) : body (45 :: l) = l ∧ isng (45 :: l) = true := ⟨by simp [body], by simp [isng]⟩
theorem head_last {l : List Int} (h : 0 < l.length) : (up l).getD 0 0 = 48 + l.getD (l.length - 1) 0 := by
  rw [getD_lt (by rw [up_len]; exact h), getD_lt (by omega)]
  simp [up]
theorem dig_top {x : Nat} (hx : x ≠ 0) : (dig x).getD ((dig x).length - 1) 0 ≠ 0 := by
  have hne : dig x ≠ [] := by rw [dig_pos hx]; simp
  have := dig_last x hne
  rw [List.getLast_eq_getElem] at this
  rw [getD_lt (by have := List.length_pos_iff.2 hne; omega)]; exact this
theorem dig_ne {x : Nat} (hx : x ≠ 0) : 0 < (dig x).length := by rw [dig_pos hx]; simp

theorem toS_okb (z : Int) : okb (toS z) := by
  unfold toS
  refine okb.app ?_ ?_
  · split
    · exact okb.nil.cons (by omega)
    · exact okb.nil
  · split
    · exact okb.nil.cons (by omega)
    · exact dg_okb (up_dg (okd_dig _))
theorem lim {z : Int} (h : z.natAbs < 10 ^ 40) : (dig z.natAbs).length ≤ 40 := dig_len_le.2 h
theorem Vi_toS {z : Int} (h : z.natAbs < 10 ^ 40) : Vi (toS z) ∧ val (toS z) = z := by
  by_cases h0 : z = 0
  · subst h0; exact ⟨by decide, by decide⟩
  · have hne : z.natAbs ≠ 0 := by omega
    have hdg := up_dg (okd_dig z.natAbs)
    have hl := lim h
    have hp := dig_ne hne
    have ht : (up (dig z.natAbs)).getD 0 0 ≠ 48 := by rw [head_last hp]; have := dig_top hne; omega
    by_cases hn : z < 0
    · have e : toS z = 45 :: up (dig z.natAbs) := by unfold toS; rw [if_pos hn, if_neg h0]; rfl
      have hb := body_ng (up (dig z.natAbs))
      rw [e]
      refine ⟨⟨?_, ?_, ?_, ?_⟩, ?_⟩
      · rw [hb.1, up_len]; exact hp
      · rw [hb.1, up_len]; exact hl
      · rw [hb.1]; exact hdg
      · rw [hb.1]; exact fun h => absurd h ht
      · unfold val bd; rw [hb.2, hb.1, rv_up, nv_dig]; simp; omega
    · have e : toS z = up (dig z.natAbs) := by unfold toS; rw [if_neg hn, if_neg h0]; rfl
      have hb := body_dg hdg
      rw [e]
      refine ⟨⟨?_, ?_, ?_, ?_⟩, ?_⟩
      · rw [hb.1, up_len]; exact hp
      · rw [hb.1, up_len]; exact hl
      · rw [hb.1]; exact hdg
      · rw [hb.1]; exact fun h => absurd h ht
      · unfold val bd; rw [hb.2, hb.1, rv_up, nv_dig]; simp; omega

theorem form {l : List Int} : (isng l = true ∧ l = 45 :: body l) ∨ (isng l = false ∧ l = body l) := by
  cases l with
  | nil => exact .inr ⟨rfl, rfl⟩
  | cons x t =>
    by_cases h : x = 45
    · subst h; exact .inl ⟨rfl, by simp [body]⟩
    · exact .inr ⟨by simp [isng, h], by simp [body, h]⟩
theorem val_abs {l : List Int} (h : Vi l) : (val l).natAbs = (nv (bd l)).toNat := by
  have h2 := nv_bd (rv_okd h.2.2.1)
  unfold val bd; split <;> omega
theorem val_D {l : List Int} (h : Vi l) : D (bd l) = dig (val l).natAbs := by unfold D; rw [val_abs h]
theorem val_lim {l : List Int} (h : Vi l) : (val l).natAbs < 10 ^ 40 := by
  rw [val_abs h]
  have h2 := nv_lt_pow (rv_okd h.2.2.1)
  have h3 : (rv (body l)).length ≤ 40 := by rw [rv_len]; exact h.2.1
  exact Nat.lt_of_lt_of_le h2 (Nat.pow_le_pow_right (by omega) h3)
theorem Vi_cases {l : List Int} (h : Vi l) : l = [48] ∨ ((nv (bd l)).toNat ≠ 0 ∧ dig (nv (bd l)).toNat = bd l) := by
  by_cases h48 : (body l).getD 0 0 = 48
  · exact .inl (h.2.2.2 h48)
  · right
    have ho := rv_okd h.2.2.1
    have hlen : 0 < (bd l).length := by unfold bd; rw [rv_len]; exact h.1
    have hlast : (bd l).getD ((bd l).length - 1) 0 ≠ 0 := by
      have h2 := head_last (l := bd l) hlen
      unfold bd at h2 ⊢
      rw [up_rv] at h2
      omega
    have hf := D_full ho hlen hlast
    unfold D at hf
    refine ⟨fun e => ?_, hf⟩
    have e' : (nv (rv (body l))).toNat = 0 := e
    rw [e', dig_zero] at hf
    have : bd l = [] := hf.symm
    rw [this] at hlen; simp at hlen
theorem val_neg {l : List Int} (h : Vi l) : isng l = decide (val l < 0) := by
  have h2 := nv_bd (rv_okd h.2.2.1)
  have h2 : 0 ≤ nv (bd l) := h2.1
  rcases Vi_cases h with rfl | ⟨h3, _⟩
  · decide
  · unfold val
    cases hn : isng l
    · simp; omega
    · simp; omega
theorem toS_val {l : List Int} (h : Vi l) : toS (val l) = l := by
  rcases Vi_cases h with rfl | ⟨h3, h4⟩
  · decide
  · have h2 : 0 ≤ nv (bd l) := (nv_bd (rv_okd h.2.2.1)).1
    have hab := val_abs h
    have hne : val l ≠ 0 := by omega
    have hu : up (dig (val l).natAbs) = body l := by rw [hab, h4]; exact up_rv
    have hng := val_neg h
    unfold toS
    rw [if_neg hne, hu]
    rcases form (l := l) with ⟨a, b⟩ | ⟨a, b⟩
    · rw [a] at hng
      rw [if_pos (of_decide_eq_true hng.symm)]; exact b.symm
    · rw [a] at hng
      rw [if_neg (of_decide_eq_false hng.symm)]; exact b.symm
theorem toS_inj {x y : Int} (hx : x.natAbs < 10 ^ 40) (hy : y.natAbs < 10 ^ 40) (h : toS x = toS y) : x = y := by
  rw [← (Vi_toS hx).2, ← (Vi_toS hy).2, h]

-- texts out of digits -----------------------------------------------------------------------------------------------------------
theorem wb {n : Nat} {c : Int} {xs : List Int} (h : xs.length ≤ 100000) : F59 n c xs = some ((), (((), ((), ())), ((), ((xs ++ [c]), ())))) := by
  unfold F59 L69
  simp only [ats]
  rw [bp (by simp; omega)]
theorem L60_ok' {xs : List Int} (h : okb xs) (h0 : 0 < xs.length) (hl : xs.length ≤ 100000) : L60 xs = some (bytesOfInts xs, ((), (), ()), (), ()) := by
  unfold L60
  have h1 : xs.isEmpty = false := by cases xs with | nil => simp at h0 | cons => rfl
  have h2 : xs.all byteOk = true := List.all_eq_true.2 fun x hx => by
    have := h x hx
    simp [byteOk]; omega
  have h3 : decide (xs.length ≤ maxSz) = true := decide_eq_true (by unfold maxSz; omega)
  rw [h1, h2, h3]; rfl
theorem text_it {R : Type} {n : Nat} {b : Bool} {l : List Int} {k0 : List Int → Option R} (ho : okd l) (hl : l.length ≤ 9000) : ∀ (fuel m : Nat) (acc : List Int), m ≤ l.length → m < fuel → acc.length + m ≤ 10000 → F35_1_it n k0 fuel ((m : Int) - 1) b l acc = k0 (acc ++ up (l.take m))
  | fuel, m, acc, hm, hf, ha => by
    obtain ⟨f, rfl⟩ : ∃ f, fuel = f + 1 := ⟨fuel - 1, by omega⟩
    simp only [F35_1_it, F35_1_step]
    cases m with
    | zero => rw [bn (by omega)]; simp [up]
    | succ m =>
      have e2 : ((m + 1 : Nat) : Int) - 1 = (m : Int) := by omega
      have e3 : (m : Int).toNat = m := by omega
      have hd := ho.getD m
      have w1 : IntKind.wrap .i64 (48 + l.getD m 0) = 48 + l.getD m 0 := wp (by omega)
      have w2 : IntKind.wrap .u8 (48 + l.getD m 0) = 48 + l.getD m 0 := wu (by omega)
      have ew : IntKind.wrap .i64 ((m : Int) - 1) = (m : Int) - 1 := wp (by omega)
      simp only [e2, e3, w1, w2]
      simp (disch := omega) only [bp, wb, ats]
      rw [ew, text_it ho hl f m _ (by omega) (by omega) (by simp; omega)]
      congr 1
      rw [List.take_succ_eq_append_getElem (by omega), up_snoc, getD_lt (by omega)]
      simp
def sgn (b : Bool) (m : Nat) : Int := if b then -(m : Int) else m
theorem sgn_zero (b : Bool) : sgn b 0 = 0 := by unfold sgn; cases b <;> simp
theorem toS_sgn {b : Bool} {m : Nat} (h0 : m ≠ 0) : toS (sgn b m) = (if b then [45] else []) ++ up (dig m) := by
  unfold toS sgn
  cases b
  · simp [h0]
  · simp [h0, Nat.pos_of_ne_zero h0]
def res (z : Int) : (ByteArray × (Bool × Unit)) × Unit := if z.natAbs < 10 ^ 40 then ((str (toS z), (true, ())), ()) else ((str [], (false, ())), ())
theorem res_yes {z : Int} (h : z.natAbs < 10 ^ 40) : res z = ((str (toS z), (true, ())), ()) := if_pos h
theorem res_no {z : Int} (h : ¬ z.natAbs < 10 ^ 40) : res z = ((str [], (false, ())), ()) := if_neg h
theorem sgn_abs (b : Bool) (m : Nat) : (sgn b m).natAbs = m := by unfold sgn; cases b <;> simp
theorem text {n m : Nat} {b : Bool} (hn : 10000 ≤ n) (hl : (dig m).length ≤ 9000) : F35 n b (dig m) = some (res (sgn b m)) := by
  unfold F35
  by_cases h : m < 10 ^ 40
  · have h40 := dig_len_le.2 h
    rw [bn (by omega), res_yes (by rw [sgn_abs]; exact h)]
    by_cases h0 : m = 0
    · rw [h0, sgn_zero, dig_zero]; rfl
    · have hp := dig_ne h0
      rw [eqn (by omega)]
      have ew : IntKind.wrap .i64 (((dig m).length : Int) - 1) = ((dig m).length : Int) - 1 := wp (by omega)
      have main : ∀ acc : List Int, okb acc → acc.length ≤ 10 → F35_1 n (IntKind.wrap .i64 (((dig m).length : Int) - 1)) b (dig m) acc (fun z594 => (andThen (L60 z594) fun r595 => some ((r595.1, (true, ())), ()))) = some ((str (acc ++ up (dig m)), (true, ())), ()) := by
        intro acc ho hla
        unfold F35_1
        rw [ew, text_it (okd_dig m) hl n (dig m).length acc (by omega) (by omega) (by omega), List.take_length, L60_ok' (ho.app (dg_okb (up_dg (okd_dig m)))) (by simp [up_len]; omega) (by simp [up_len]; omega)]
        rfl
      rw [toS_sgn h0]
      unfold F35_0
      cases b
      · exact main [] okb.nil (by simp)
      · simp only [ct, wb (n := n) (c := 45) (xs := []) (by simp), ats]
        exact main [45] (okb.nil.cons (by omega)) (by simp)
  · have h40 : ¬ (dig m).length ≤ 40 := fun hh => h (dig_len_le.1 hh)
    rw [bp (by omega), res_no (by rw [sgn_abs]; exact h)]
    rfl

-- the reference's texts ------------------------------------------------------------------------------------------------------------
theorem integer_it {R : Type} {n : Nat} {b : Bool} {l : List Int} {k0 : Bool → ByteArray → Option R} (ho : okd l) (hl : l.length ≤ 9000) : ∀ (fuel i : Nat) (acc : List Int), i ≤ l.length → l.length + 1 ≤ fuel + i → acc.length = i → F51_0_it n k0 fuel l b (str acc) i = k0 b (str (up (l.drop i) ++ acc))
  | fuel, i, acc, hi, hf, ha => by
    obtain ⟨f, rfl⟩ : ∃ f, fuel = f + 1 := ⟨fuel - 1, by omega⟩
    simp only [F51_0_it, F51_0_step]
    by_cases g : (i : Int) < (l.length : Int)
    · have e : (i : Int).toNat = i := by omega
      have hd := ho.getD i
      have w1 : IntKind.wrap .i64 (48 + l.getD i 0) = 48 + l.getD i 0 := wp (by omega)
      have w2 : IntKind.wrap .u8 (48 + l.getD i 0) = 48 + l.getD i 0 := wu (by omega)
      have ew : IntKind.wrap .i64 ((i : Int) + 1) = ((i + 1 : Nat) : Int) := by rw [wp (by omega)]; omega
      have es : bytesOfInts (List.map (fun y => y) ((48 + l.getD i 0) :: [])) = str [48 + l.getD i 0] := rfl
      simp only [e, w1, w2, es, ew, str_size, str_app]
      rw [bp g, bp (by omega), bp g, bp (by simp; omega), integer_it ho hl f (i + 1) _ (by omega) (by omega) (by simp; omega)]
      congr 2
      rw [List.drop_eq_getElem_cons (by omega : i < l.length), up_cons, getD_lt (by omega)]
      simp
    · rw [bn g, List.drop_of_length_le (by omega)]
      simp [up]
theorem integerS {n : Nat} {l : List Int} {b : Bool} (hn : 10000 ≤ n) (ho : okd l) (hl : l.length ≤ 9000) : F51 n l b = some (str (toS (sgn b (nv l).toNat)), ()) := by
  unfold F51
  rw [trimV hn ho hl, ats]
  have hb := nv_bd ho
  by_cases h0 : nv l = 0
  · have : D l = [] := by unfold D; rw [h0]; exact dig_zero
    rw [this, h0, show (0 : Int).toNat = 0 from rfl, sgn_zero]; rfl
  · have h1 : (nv l).toNat ≠ 0 := by omega
    have hp := dig_ne h1
    show (bif (((D l).length : Int) == (0 : Int)) then _ else _) = _
    unfold D
    rw [eqn (by omega)]
    unfold F51_0
    have hlen := dig_le_len ho
    rw [show (({ data := #[] } : ByteArray)) = str [] from rfl, show (0 : Int) = ((0 : Nat) : Int) from rfl, integer_it (okd_dig _) (by omega) n 0 [] (by omega) (by omega) rfl]
    rw [List.drop_zero, List.append_nil, toS_sgn h1]
    cases b
    · rfl
    · simp only [ct, str_size, up_len]
      rw [bp (by omega), show (({ data := #[45] } : ByteArray)) = str [45] from rfl, str_app]; rfl
theorem fitS {n : Nat} {l : List Int} {b : Bool} (hn : 10000 ≤ n) (ho : okd l) (hl : l.length ≤ 9000) : F62 n l b = some (res (sgn b (nv l).toNat)) := by
  unfold F62
  rw [trimV hn ho hl, ats]
  have hD : (D l) = dig (nv l).toNat := rfl
  rw [hD]
  by_cases h : (nv l).toNat < 10 ^ 40
  · have h40 := dig_len_le.2 h
    rw [bn (by show ¬ ((dig (nv l).toNat).length : Int) > 40; omega), integerS hn ho hl, ats, res_yes (by rw [sgn_abs]; exact h)]
  · have h40 : ¬ (dig (nv l).toNat).length ≤ 40 := fun hh => h (dig_len_le.1 hh)
    rw [bp (by show ((dig (nv l).toNat).length : Int) > 40; omega), res_no (by rw [sgn_abs]; exact h)]
    rfl
end Go.Proofs.Ytgaghaeniadkkaa.Am
