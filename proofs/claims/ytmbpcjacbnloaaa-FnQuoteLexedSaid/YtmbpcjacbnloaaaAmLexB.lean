/- Quoted texts are read: one token. -/
import Derived.Test.YtmbpcjacbnloaaaAmLexA
namespace Go.Proofs.Ytmbpcjacbnloaaa.Am
open Go
set_option autoImplicit false
set_option linter.unusedVariables false
set_option linter.unusedSimpArgs false
set_option maxRecDepth 100000

theorem getP {pre t : List Int} {k : Nat} : (pre ++ t).getD (pre.length + k) 0 = t.getD k 0 := by
  rw [List.getD, List.getD, List.getElem?_append_right (by omega), Nat.add_sub_cancel_left]
theorem getP0 {pre t : List Int} : (pre ++ t).getD pre.length 0 = t.getD 0 0 := getP (k := 0)
theorem read_it {R : Type} {n : Nat} {l : List Int} {k0 : ByteArray → Int → Bool → Option R} {k1 : Option R} (hn : 20000 ≤ n) (ho : okb l) (hl : l.length ≤ 400) :
    ∀ (r : List Int) (fuel : Nat) (pre acc : List Int), quo l ++ [10] = pre ++ (qs r ++ [39, 10]) → acc ++ r = l → r.length < fuel → F34_1_it n k0 k1 fuel (str (quo l ++ [10])) 0 pre.length acc = k0 (str l) (quo l).length true := by
  have hso : okb (quo l ++ [10]) := (quo_ok ho).app (okb.cons (by omega) okb.nil)
  have hql := qs_len l
  have hsl : (quo l ++ [10]).length = (qs l).length + 3 := by rw [List.length_append, quo_len]; rfl
  intro r
  induction r with
  | nil =>
    intro fuel pre acc hs ha hf
    obtain ⟨f, rfl⟩ : ∃ f, fuel = f + 1 := ⟨fuel - 1, by omega⟩
    have hp : pre.length + 2 = (quo l ++ [10]).length := by rw [hs]; simp [qs]
    have hpq : pre.length + 1 = (quo l).length := by rw [List.length_append] at hp; simp at hp; omega
    have hacc : acc = l := by simpa using ha
    have h0 : strOf (str (quo l ++ [10])) pre.length = 39 := by rw [str_of hso (by omega), hs, getP0]; simp [qs]
    unfold F34_1_it F34_1_step F34_0
    rw [bp (by rw [str_size]; omega), bp (by omega), bp (by rw [str_size]; omega), Int.toNat_natCast, h0, eqp rfl, hacc, ready ho (by omega)]
    simp only [ats]
    rw [bp (by rw [str_size]; omega), quoI hn ho (by omega)]
    simp only [ats]
    rw [wp (by omega), bp (by omega), bp (by omega), bp (by rw [str_size]; omega)]
    rw [show ((pre.length : Int) + 1) = ((quo l).length : Nat) by omega, Int.toNat_natCast, show (0 : Int).toNat = 0 from rfl]
    rw [str_ext (by rw [List.length_append]; omega)]
    have e : ((quo l ++ [10]).take (quo l).length).drop 0 = quo l := by simp
    rw [e, beq_self_eq_true]
  | cons c r ih =>
    intro fuel pre acc hs ha hf
    obtain ⟨f, rfl⟩ : ∃ f, fuel = f + 1 := ⟨fuel - 1, by simp at hf; omega⟩
    have hc : 0 ≤ c ∧ c < 256 := ho c (by rw [← ha]; simp)
    have hacc : acc.length ≤ 400 := by have := congrArg List.length ha; rw [List.length_append] at this; omega
    rw [qs_cons, List.append_assoc] at hs
    have hlen : pre.length + ((qb c).length + ((qs r).length + 2)) = (quo l ++ [10]).length := by rw [hs]; simp
    have ha' : (acc ++ [c]) ++ r = l := by simpa using ha
    have hf' : r.length < f := by simp at hf; omega
    have nxt : ∀ (k : Nat), (qb c).length = k + 1 → F34_1_it n k0 k1 f (str (quo l ++ [10])) 0 ((pre.length + k + 1 : Nat) : Int) (acc ++ [c]) = k0 (str l) (quo l).length true := by
      intro k hk
      have := ih f (pre ++ qb c) (acc ++ [c]) (by rw [hs, List.append_assoc]) ha' hf'
      rw [List.length_append, hk] at this
      rw [show pre.length + k + 1 = pre.length + (k + 1) by omega]
      exact this
    have get : ∀ k, k < (qb c).length → strOf (str (quo l ++ [10])) (pre.length + k) = (qb c).getD k 0 := by
      intro k hk
      rw [str_of hso (by omega), hs, getP]
      rw [List.getD, List.getD, List.getElem?_append_left hk]
    have w1 : IntKind.wrap .i64 ((pre.length : Int) + 1) = ((pre.length + 1 : Nat) : Int) := by rw [wp (by omega)]; omega
    have w2 : IntKind.wrap .i64 ((pre.length : Int) + 2) = ((pre.length + 2 : Nat) : Int) := by rw [wp (by omega)]; omega
    have w3 : IntKind.wrap .i64 ((pre.length : Int) + 3) = ((pre.length + 3 : Nat) : Int) := by rw [wp (by omega)]; omega
    have hsz : (str (quo l ++ [10])).size = (quo l ++ [10]).length := str_size _
    unfold F34_1_it F34_1_step F34_0
    rw [hsz, bp (by omega), bp (by omega), bp (by omega)]
    simp only [w1, w2, w3, Int.toNat_natCast]
    unfold qb at get hlen nxt
    by_cases h1 : c = 39 ∨ c = 92
    · simp only [if_pos h1, List.length_cons, List.length_nil] at get hlen nxt
      have g0 := get 0 (by omega)
      have g1 := get 1 (by omega)
      rw [Nat.add_zero] at g0
      rw [g0, g1]
      simp only [List.getD_cons_zero, List.getD_cons_succ]
      rw [eqn (by omega), bp (by omega), bp (by omega), nen rfl, bn (by omega), bp (by omega), bp (by omega), eqn (by omega), bp (by omega), bp (by omega), eqn (by omega), bp (by omega), bp (by omega), put1 (by omega)]
      simp only [ats]
      rw [wp (by omega), show (((pre.length + 1 : Nat) : Int) + 1) = ((pre.length + 1 + 1 : Nat) : Int) by omega]
      exact nxt 1 rfl
    simp only [if_neg h1] at get hlen nxt
    by_cases h2 : c = 10
    · subst h2
      simp only [if_pos, List.length_cons, List.length_nil] at get hlen nxt
      have g0 := get 0 (by omega)
      have g1 := get 1 (by omega)
      rw [Nat.add_zero] at g0
      rw [g0, g1]
      simp only [List.getD_cons_zero, List.getD_cons_succ]
      rw [eqn (by omega), bp (by omega), bp (by omega), nen rfl, bn (by omega), bp (by omega), bp (by omega), eqp rfl, put1 (by omega)]
      simp only [ats]
      rw [wp (by omega), show (((pre.length + 1 : Nat) : Int) + 1) = ((pre.length + 1 + 1 : Nat) : Int) by omega]
      exact nxt 1 rfl
    simp only [if_neg h2] at get hlen nxt
    by_cases h3 : c < 32 ∨ c > 126
    · simp only [if_pos h3, List.length_cons, List.length_nil] at get hlen nxt
      have g0 := get 0 (by omega)
      have g1 := get 1 (by omega)
      have g2 := get 2 (by omega)
      have g3 := get 3 (by omega)
      rw [Nat.add_zero] at g0
      rw [g0, g1, g2, g3]
      simp only [List.getD_cons_zero, List.getD_cons_succ]
      rw [eqn (by omega), bp (by omega), bp (by omega), nen rfl, bn (by omega), bp (by omega), bp (by omega), eqn (by omega), bp (by omega), bp (by omega), eqp rfl, bn (by omega), bp (by omega), bp (by omega)]
      rw [show ({ data := #[48, 49, 50, 51, 52, 53, 54, 55, 56, 57, 97, 98, 99, 100, 101, 102] } : ByteArray) = hexB from rfl]
      rw [hx_ix (by omega)]; simp only [ats]
      rw [bp (by omega), bp (by omega), hx_ix (by omega)]; simp only [ats]
      rw [bn (by omega), bn (by omega)]
      have e : IntKind.wrap .u8 (IntKind.wrap .i64 ((IntKind.wrap .i64 ((16 : Int) * (c / 16))) + c % 16)) = c := by
        rw [wp (x := 16 * (c / 16)) (by omega), wp (by omega), show 16 * (c / 16) + c % 16 = c by omega]; exact wu (by omega)
      rw [e, put1 (by omega)]; simp only [ats]
      rw [wp (by omega), show (((pre.length + 3 : Nat) : Int) + 1) = ((pre.length + 3 + 1 : Nat) : Int) by omega]
      exact nxt 3 rfl
    · simp only [if_neg h3, List.length_cons, List.length_nil] at get hlen nxt
      have g0 := get 0 (by omega)
      rw [Nat.add_zero] at g0
      rw [g0]
      simp only [List.getD_cons_zero]
      rw [eqn (by omega), bp (by omega), bp (by omega), nep (by omega), bp (by omega), bp (by omega), put1 (by omega)]
      simp only [ats]
      exact nxt 0 rfl
theorem readQ {n : Nat} {l : List Int} (hn : 20000 ≤ n) (ho : okb l) (hl : l.length ≤ 400) : F34 n (str (quo l ++ [10])) 0 = some ((str l, ((((quo l).length : Nat) : Int), (true, ()))), ()) := by
  unfold F34 F34_1
  have e := read_it (n := n) (k0 := fun z984 z985 z986 => some ((z984, (z985, (z986, ()))), ())) (k1 := some ((({ data := #[] } : ByteArray), ((0 : Int), (false, ()))), ())) hn ho hl l n [39] [] (by simp [quo]) rfl (by omega)
  exact e

-- the lexer ------------------------------------------------------------------------------------------------------------------------------
theorem put3 {n : Nat} {k : Int} {s T : ByteArray} {ln a b : Int} {lv : List Int} {out : List Tok} (h : out.length ≤ 100) : F24v3 n k s ln T a b 0 0 lv out = some ((), ((T, (a, (b, ((), ((), ((), (0, (0, ())))))))), (lv, ((), (out ++ [Tok.mk k s ln], ()))))) := by
  unfold F24v3 F15v3
  simp only [ats]
  rw [show (!((0 : Int) == 0 && (0 : Int) == 0)) = false from rfl, cf, eqn (by omega), bp (by simp; omega)]
theorem indent0 {n : Nat} {T : ByteArray} {a b : Int} {out : List Tok} (hn : 20000 ≤ n) : F23v1 n 0 T a b 0 0 [0] out = some ((), ((T, (a, (b, ((), ((), ((), (0, (0, ())))))))), ((), ((), ([0], (out, ())))))) := by
  obtain ⟨k, rfl⟩ : ∃ k, n = k + 2 := ⟨n - 2, by omega⟩
  rfl
theorem letter39 {n : Nat} : F29 n 39 = some (false, ()) := rfl
theorem digit39 {n : Nat} : F30 n 39 = some (false, ()) := rfl
theorem beq_ne {a b : Int} (h : a ≠ b) : (a == b) = false := beq_eq_false_iff_ne.2 h
theorem lexQ {n : Nat} {l : List Int} (hn : 20000 ≤ n) (ho : okb l) (hl : l.length ≤ 400) : F7 n (str (quo l ++ [10])) = some (([Tok.mk 4 (str l) 1, Tok.mk 6 eb 1], ((0, (0, ())), ())), ()) := by
  have hso : okb (quo l ++ [10]) := (quo_ok ho).app (okb.cons (by omega) okb.nil)
  have hql := qs_len l
  have hqn := quo_len l
  have hsl : (quo l ++ [10]).length = (quo l).length + 1 := by rw [List.length_append]; rfl
  have hsz : (str (quo l ++ [10])).size = (quo l ++ [10]).length := str_size _
  have s0 : strOf (str (quo l ++ [10])) 0 = 39 := by rw [str_of hso (by omega)]; rfl
  have s1 : strOf (str (quo l ++ [10])) (quo l).length = 10 := by rw [str_of hso (by omega), getP0]; rfl
  have hQ := readQ hn ho hl
  generalize hT : str (quo l ++ [10]) = T at hsz s0 s1 hQ ⊢
  generalize hN : (quo l).length = N at *
  obtain ⟨k, rfl⟩ : ∃ k, n = k + 5 := ⟨n - 5, by omega⟩
  unfold F7
  rw [bn (by omega)]
  unfold F14 F14_3 F14_2
  -- round 1
  have r1 : ∀ (R : Type) (k0 : Bool → ByteArray → Int → Int → Int → Int → List Int → List Tok → Option R), F14_2_it (k + 5) k0 (k + 5) true T 0 1 0 0 [0] [] = F14_2_it (k + 5) k0 (k + 4) false T 0 1 0 0 [0] [] := by
    intro R k0
    rw [F14_2_it]
    unfold F14_2_step F15v3
    rw [bp (by omega)]
    simp only [ats]
    rw [show ((0 : Int) == 0 && (0 : Int) == 0) = true from rfl, ct, ct]
    unfold F14_0
    rw [F14_0_it]
    unfold F14_0_step
    have z0 : IntKind.wrap .i64 ((0 : Int) + 0) = 0 := rfl
    rw [z0]
    dsimp only
    rw [bp (by omega), bp (by omega), bp (by omega), show (0 : Int).toNat = 0 from rfl, s0, eqn (by omega), z0, show (0 : Int).toNat = 0 from rfl, s0]
    rw [eqn (by omega), bp (by omega), bp (by omega), eqn (by omega), bp (by omega), bp (by omega), eqn (by omega), indent0 hn]
    simp only [ats]
  -- round 2
  have r2 : ∀ (R : Type) (k0 : Bool → ByteArray → Int → Int → Int → Int → List Int → List Tok → Option R), F14_2_it (k + 5) k0 (k + 4) false T 0 1 0 0 [0] [] = F14_2_it (k + 5) k0 (k + 3) false T N 1 0 0 [0] [Tok.mk 4 (str l) 1] := by
    intro R k0
    rw [F14_2_it]
    unfold F14_2_step F15v3
    rw [bp (by omega)]
    simp only [ats]
    rw [show ((0 : Int) == 0 && (0 : Int) == 0) = true from rfl, ct, cf, bp (by omega), bp (by omega), show (0 : Int).toNat = 0 from rfl, s0]
    rw [eqn (by omega), eqn (by omega), eqn (by omega)]
    unfold F25
    rw [bp (by omega), bp (by omega), show (0 : Int).toNat = 0 from rfl, s0]
    dsimp only
    rw [letter39]; simp only [ats, cf]
    rw [digit39]; simp only [ats, cf]
    rw [eqp rfl, hQ]; simp only [ats, Bool.not_true, cf]
    rw [put3 (by simp)]; simp only [ats, List.nil_append]
  -- round 3
  have r3 : ∀ (R : Type) (k0 : Bool → ByteArray → Int → Int → Int → Int → List Int → List Tok → Option R), F14_2_it (k + 5) k0 (k + 3) false T N 1 0 0 [0] [Tok.mk 4 (str l) 1] = F14_2_it (k + 5) k0 (k + 2) true T ((N + 1 : Nat) : Int) 2 0 0 [0] [Tok.mk 4 (str l) 1, Tok.mk 6 eb 1] := by
    intro R k0
    rw [F14_2_it]
    unfold F14_2_step F15v3
    rw [bp (by omega)]
    simp only [ats]
    rw [show ((0 : Int) == 0 && (0 : Int) == 0) = true from rfl, ct, cf, bp (by omega), bp (by omega), Int.toNat_natCast, s1]
    rw [eqn (by omega), eqn (by omega), eqp rfl]
    unfold F14_1
    rw [put3 (by simp)]; simp only [ats]
    rw [wp (x := (N : Int) + 1) (by omega), wp (by omega)]
    rfl
  -- round 4
  have r4 : ∀ (R : Type) (k0 : Bool → ByteArray → Int → Int → Int → Int → List Int → List Tok → Option R) (out : List Tok), F14_2_it (k + 5) k0 (k + 2) true T ((N + 1 : Nat) : Int) 2 0 0 [0] out = k0 true T ((N + 1 : Nat) : Int) 2 0 0 [0] out := by
    intro R k0 out
    rw [F14_2_it]
    unfold F14_2_step
    rw [bn (by omega)]
  rw [r1, r2, r3, r4]
  rfl
theorem short1 {n : Nat} {x : ByteArray} (hn : 20000 ≤ n) : F10 n (x :: []) = some (decide (x.size ≤ 400), ()) := by
  obtain ⟨k, rfl⟩ : ∃ k, n = k + 2 := ⟨n - 2, by omega⟩
  unfold F10 F10_0
  rw [F10_0_it]
  unfold F10_0_step
  rw [bp (by simp), bp (by omega), bp (by simp)]
  simp only [show (0 : Int).toNat = 0 from rfl, List.getD_cons_zero]
  by_cases h : (x.size : Int) > 400
  · rw [bp h, decide_eq_false (by omega)]
  · rw [bn h, F10_0_it]
    unfold F10_0_step
    rw [wp (by omega), bn (by simp), decide_eq_true (by omega)]
theorem bq {a b : ByteArray} : (a.toList == b.toList) = decide (a = b) := by
  by_cases h : a = b
  · subst h; simp
  · rw [decide_eq_false h]; exact beq_eq_false_iff_ne.2 fun e => h (toList_inj e)
theorem ba_refl (a : ByteArray) : (a == a) = true := by
  cases a; rw [show ∀ x y : ByteArray, (x == y) = (x.data == y.data) from fun x y => by cases x; cases y; rfl]; simp
theorem lawQ {n : Nat} (hn : 20000 ≤ n) {z : List Int} {s : ByteArray} (hd : F4 n z = some (s, ())) : F3 n z = some (true, ()) := by
  unfold F3
  by_cases h0 : (z.length : Int) > 1048576
  · rw [bp h0]
  rw [bn h0, hd]; simp only [ats]
  obtain ⟨l, ho, rfl⟩ := str_surj s
  unfold F5 F6 F12
  rw [short1 hn]; simp only [ats, str_size]
  have e6 : (decide ((l.length : Int) ≤ 400)) = decide (l.length ≤ 400) := by
    by_cases h : l.length ≤ 400
    · rw [decide_eq_true h, decide_eq_true (by omega)]
    · rw [decide_eq_false h, decide_eq_false (by omega)]
  rw [e6]
  by_cases h : l.length ≤ 400
  case neg =>
    rw [np h, np h]; simp [ats]
  simp only [nn h]
  rw [quoI hn ho (by omega), quoS hn ho (by omega)]; simp only [ats, beq_self_eq_true, Bool.not_true, cf]
  have hq := quo_len l
  have hql := qs_len l
  have hne : ¬ (str (quo l) = ({ data := #[] } : ByteArray)) := fun e => by
    have := congrArg ByteArray.size e
    rw [str_size] at this
    have h2 : (quo l).length = 0 := this
    omega
  rw [bq, bn hne, bp (by rw [str_size]; omega), show ({ data := #[10] } : ByteArray) = str [10] from rfl, str_app, lexQ hn ho h]
  simp only [ats]
  simp only [List.getD_cons_zero, List.getD_cons_succ, List.length_cons, List.length_nil]
  rw [ba_refl]
  rfl
end Go.Proofs.Ytmbpcjacbnloaaa.Am
