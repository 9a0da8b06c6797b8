/- Importers, plainly: the reference's. -/
import Derived.Test.YtjfmfpnnjgfffaaAmImrI
namespace Go.Proofs.Ytjfmfpnnjgfffaa.Am
open Go
set_option autoImplicit false
set_option linter.unusedVariables false
set_option linter.unusedSimpArgs false
set_option maxRecDepth 10000

-- variables ---------------------------------------------------------------------------------------------------------------------------------------
noncomputable def vr (p : ByteArray × Int) : Vrb := Vrb.mk p.1 2 (dec p.2) 0 true
abbrev v0 : Vrb := Vrb.mk ({ data := #[] } : ByteArray) (0 : Int) ({ data := #[] } : ByteArray) (0 : Int) false
abbrev p0 : ByteArray × Int := (({ data := #[] } : ByteArray), 0)
def fpos (s : ByteArray) : List (ByteArray × Int) → Option Nat
  | [] => none
  | p :: l => if p.1 = s then some 0 else (fpos s l).map (· + 1)
theorem fpos_none {s : ByteArray} {v : Int} : ∀ {l : List (ByteArray × Int)}, fpos s l = none → mget s l = none ∧ mset s v l = l ++ [(s, v)]
  | [], _ => ⟨rfl, rfl⟩
  | p :: l, h => by
    simp only [fpos] at h
    by_cases e : p.1 = s
    · rw [if_pos e] at h; cases h
    · rw [if_neg e] at h
      have h : fpos s l = none := by
        cases e2 : fpos s l with
        | none => rfl
        | some j => rw [e2] at h; cases h
      obtain ⟨h1, h2⟩ := fpos_none (v := v) h
      have e3 : (s == p.1) = false := by cases eq : s == p.1 with | false => rfl | true => exact absurd ((MapKept.bytes_beq _ _).1 eq).symm e
      simp only [mget, mset, e3, h1, h2]
      exact ⟨trivial, rfl⟩
theorem fpos_some {s : ByteArray} {v : Int} : ∀ {l : List (ByteArray × Int)} {j : Nat}, fpos s l = some j → j < l.length ∧ (l.getD j p0).1 = s ∧ mget s l = some (l.getD j p0).2 ∧ mset s v l = l.set j (s, v)
  | [], j, h => by cases h
  | p :: l, j, h => by
    simp only [fpos] at h
    by_cases e : p.1 = s
    · rw [if_pos e] at h; cases h
      have e3 : (s == p.1) = true := (MapKept.bytes_beq _ _).2 e.symm
      refine ⟨by simp, e, ?_, ?_⟩
      · simp only [mget, e3]; rfl
      · simp only [mset, e3]; rfl
    · rw [if_neg e] at h
      cases e2 : fpos s l with
      | none => rw [e2] at h; cases h
      | some i =>
        rw [e2] at h; cases h
        obtain ⟨h1, h2, h3, h4⟩ := fpos_some (v := v) e2
        have e3 : (s == p.1) = false := by cases eq : s == p.1 with | false => rfl | true => exact absurd ((MapKept.bytes_beq _ _).1 eq).symm e
        refine ⟨by simpa using h1, h2, ?_, ?_⟩
        · simp only [mget, e3]; exact h3
        · simp only [mset, e3, h4]; rfl
theorem map_getD {l : List (ByteArray × Int)} {i : Nat} (h : i < l.length) : (l.map vr).getD i v0 = vr (l.getD i p0) := by
  rw [getD_lt (by simpa using h), getD_lt h, List.getElem_map]
theorem find_it {R : Type} {n : Nat} {s : ByteArray} {l : List (ByteArray × Int)} {k0 : Int → List Vrb → Option R} {k1 : List Vrb → Option R} (hl : l.length ≤ 3900000) : ∀ (fuel i : Nat), i ≤ l.length → l.length + 1 ≤ fuel + i →
    F80_0_it n k0 k1 fuel s i (l.map vr) = match fpos s (l.drop i) with | some j => k0 ((i + j : Nat) : Int) (l.map vr) | none => k1 (l.map vr)
  | fuel, i, hi, hf => by
    obtain ⟨f, rfl⟩ : ∃ f, fuel = f + 1 := ⟨fuel - 1, by omega⟩
    simp only [F80_0_it, F80_0_step]
    have hm : (l.map vr).length = l.length := List.length_map _
    by_cases h : i < l.length
    · rw [bp (by omega), bp (by omega), bp (by omega)]
      simp only [e0]
      rw [map_getD h, drop_get p0 h, keq]
      show (bif decide ((l.getD i p0).1 = s) then _ else _) = _
      simp only [fpos]
      by_cases e : (l.getD i p0).1 = s
      · rw [bp e, if_pos e]; rfl
      · rw [bn e, if_neg e, wp (by omega), e1, find_it hl f (i + 1) (by omega) (by omega)]
        cases fpos s (l.drop (i + 1)) with
        | none => rfl
        | some j =>
          show k0 _ _ = k0 _ _
          congr 1; show ((i + 1 + j : Nat) : Int) = ((i + (j + 1) : Nat) : Int); omega
    · rw [bn (by omega), List.drop_of_length_le (by omega)]
      rfl
theorem findS {n : Nat} (hn : 4000000 ≤ n) {s : ByteArray} {l : List (ByteArray × Int)} (hl : l.length ≤ 3900000) : F80 n s (l.map vr) = some ((match fpos s l with | some j => (j : Int) | none => -1), ((l.map vr), ())) := by
  unfold F80 F80_0
  have := find_it (R := (Int × (List Vrb × Unit))) (n := n) (s := s) (k0 := (fun z1328 z1329 =>
    some (z1328, (z1329, ())))) (k1 := (fun z1330 =>
    some ((-1 : Int), (z1330, ())))) hl n 0 (by omega) (by omega)
  rw [List.drop_zero] at this
  refine Eq.trans this ?_
  cases fpos s l with
  | none => rfl
  | some j => simp
theorem putS {n : Nat} (hn : 4000000 ≤ n) {s : ByteArray} {v : Int} {l : List (ByteArray × Int)} (hl : l.length ≤ 3900000) : F77 n s 2 (dec v) 0 (l.map vr) = some ((), ((), (((mset s v l).map vr), ()))) := by
  unfold F77
  have hm : (l.map vr).length = l.length := List.length_map _
  rw [findS hn hl]
  simp only [ats]
  cases e : fpos s l with
  | none =>
    obtain ⟨-, h2⟩ := fpos_none (v := v) e
    simp only []
    rw [bp (by decide), bp (by simp only [List.length_cons, List.length_nil]; omega), h2, List.map_append]
    rfl
  | some j =>
    obtain ⟨h1, h2, -, h4⟩ := fpos_some (v := v) e
    simp only []
    rw [bn (by omega), bp (by omega), bp (by omega), bp (by omega), bp (by rw [List.length_set]; omega)]
    simp only [e0]
    rw [map_getD h1, h4]
    have hs : ∀ y : Vrb, ((l.map vr).set j y).getD j v0 = y := fun y => by rw [getD_set' (by omega), if_pos rfl]
    rw [hs]
    simp only [vr, h2]
    rw [List.set_set, List.map_set]
    rfl

abbrev VarT : Type := Nat × (List (List Vrb))
def RS (v : VarT) (s : Ab) : Prop := v.2.length = s.st.length ∧ ∀ j, v.2.getD j [] = (s.en.getD j []).map vr
def pkS (b : Bool) (a : List (List Stp)) (v : VarT) (fa : List Int) (s : Ab) : Bool × ((List (List Stp) × (Unit × (Unit × (Unit × (Unit × (Unit × (Unit × Unit))))))) × (Unit × (Unit × (List Int × (Unit × (List Int × (VarT × (List Int × (List Int × (List ByteArray × Unit)))))))))) :=
  (b, ((a, ((), ((), ((), ((), ((), ((), ()))))))), ((), ((), (fa, ((), (s.st, (v, (s.bg, (s.wh, (s.rd, ())))))))))))
def LS (a : List (List Stp)) (u c : Nat) (rc : Q60RC) (L : Int → Ab → Bool × Ab) : Prop := ∀ (k : Int) (s : Ab) (v : VarT) (fa : List Int), Wf a.length s → uz s.st ≤ u → Rng a.length k → Bd c s → RS v s →
  ∃ v' : VarT, rc.1 k a s.bg s.wh fa s.rd s.st v = some (pkS (L k s).1 a v' fa (L k s).2) ∧ RS v' (L k s).2
theorem stpS {n : Nat} (hn : 4000000 ≤ n) {a : List (List Stp)} {u c : Nat} {rc : Q60RC} {L : Int → Ab → Bool × Ab} {k : Int} {x : Stp} {s : Ab} {v : VarT} {fa : List Int} (hI : LS a u c rc L) (hx : VS a.length x) (w : Wf a.length s) (hu : uz s.st ≤ u) (hk : Rng a.length k) (h1 : s.st.getD k.toNat 0 = 1)
    (bd : Bd (c + 1) s) (ri : RS v s) :
    ∃ v' : VarT, F72b n rc k x.kind x.num x.name a s.bg s.wh fa s.rd s.st v = some (pkS (stp L k.toNat x s).1 a v' fa (stp L k.toNat x s).2) ∧ RS v' (stp L k.toNat x s).2 := by
  obtain ⟨hk0, hk1⟩ := hk
  have hml : v.2.length = a.length := by rw [ri.1, w.st]
  have hkm : k.toNat < a.length := by omega
  unfold F72b stp
  by_cases e1 : x.kind = 1
  · rw [eqp e1, if_pos e1]
    obtain ⟨mp', e, ri'⟩ := hI x.num s v fa w hu (hx.num (by omega) (by omega)) (bd.le (by omega)) ri
    rw [e]; exact ⟨mp', rfl, ri'⟩
  rw [eqn e1, if_neg e1]
  by_cases e2 : x.kind = 2
  · rw [eqp e2, if_pos e2]
    obtain ⟨mp', e, ri'⟩ := hI x.num s v fa w hu (hx.num (by omega) (by omega)) (bd.le (by omega)) ri
    rw [e]; exact ⟨mp', rfl, ri'⟩
  rw [eqn e2, if_neg e2]
  by_cases e3 : x.kind = 3
  · rw [eqp e3, if_pos e3, bp (by omega), bp (by omega)]
    have hr := hx.2.1
    unfold hiS at hr
    rw [if_pos (.inl e3)] at hr
    simp only []
    rw [decS (by omega) hr.1 hr.2]
    simp only [ats, F78, decide_true, ct]
    have hen := bd.2.2.2 k.toNat
    rw [ri.2, putS hn (by omega)]
    simp only [ats]
    rw [bp (by omega), bp (by omega)]
    refine ⟨((v.1 + 1) + 1, v.2.set k.toNat ((mset x.name x.num (s.en.getD k.toNat [])).map vr)), rfl, by simp [ri.1], fun j => ?_⟩
    show (v.2.set k.toNat _).getD j [] = ((s.en.set k.toNat _).getD j []).map vr
    rw [getD_set' (by omega), getD_set' (by rw [w.en]; exact hkm)]
    by_cases e : k.toNat = j
    · rw [if_pos e, if_pos e]
    · rw [if_neg e, if_neg e]; exact ri.2 j
  rw [eqn e3, if_neg e3]
  by_cases e4 : x.kind = 4
  · obtain ⟨q0, q1⟩ := hx.num (by omega) (by omega)
    rw [eqp e4, if_pos e4, bp (by omega), bp (by omega)]
    simp only [decide_true, ct]
    have hen := bd.2.2.2 x.num.toNat
    have hrd := bd.2.2.1
    have hset : v.2.set x.num.toNat ((s.en.getD x.num.toNat []).map vr) = v.2 := by rw [← ri.2]; exact set_get
    rw [ri.2, findS hn (by omega)]
    simp only [ats]
    rw [hset]
    cases e : fpos x.name (s.en.getD x.num.toNat []) with
    | none =>
      obtain ⟨h1, -⟩ := fpos_none (v := 0) e
      rw [h1]
      exact ⟨((v.1 + 1) + 1, v.2), rfl, ri⟩
    | some j =>
      obtain ⟨g1, -, g3, -⟩ := fpos_some (v := 0) e
      rw [g3]
      simp only []
      have hm : (v.2.getD x.num.toNat []).length = (s.en.getD x.num.toNat []).length := by rw [ri.2, List.length_map]
      rw [bn (by omega), bp (by omega), bp (by omega), bp (by omega), bp (by omega)]
      simp only [e0]
      rw [ri.2, map_getD g1]
      rw [bp (by simp only [List.length_cons, List.length_nil]; omega)]
      exact ⟨((v.1 + 1) + 1, v.2), rfl, ri⟩
  rw [eqn e4, if_neg e4]
  exact ⟨v, rfl, ri⟩
theorem stsS_it {n : Nat} (hn : 4000000 ≤ n) {a : List (List Stp)} {u c : Nat} {rc rc' : Q60RC} (hrc : rc.2.1 = F72b n rc') {L : Int → Ab → Bool × Ab} {k : Int} {fa : List Int} {R : Type}
    {k0 : Bool → List (List Stp) → List Int → List Int → VarT → List Int → List Int → List ByteArray → Option R} {k1 : Int → List (List Stp) → List Int → List Int → VarT → List Int → List Int → List ByteArray → Option R}
    (hL : LdH a.length u c L) (hI : LS a u c rc' L) {r : List Stp} (hra : a.getD k.toNat [] = r) (hr : r.length ≤ 8) (hx : ∀ x ∈ r, VS a.length x) (hk : Rng a.length k) : ∀ (fuel i : Nat) (s : Ab) (v : VarT), i ≤ r.length → r.length + 1 ≤ fuel + i → Wf a.length s → uz s.st ≤ u → s.st.getD k.toNat 0 = 1 → Bd ((r.length - i) * (c + 1)) s → RS v s →
    ∃ v' : VarT, RS v' (sts L k.toNat (r.drop i) s).2 ∧ F60b_0_it n rc k0 k1 fuel k i a fa s.st v s.bg s.wh s.rd =
      if (sts L k.toNat (r.drop i) s).1 = true then k1 k a fa (sts L k.toNat (r.drop i) s).2.st v' (sts L k.toNat (r.drop i) s).2.bg (sts L k.toNat (r.drop i) s).2.wh (sts L k.toNat (r.drop i) s).2.rd
      else k0 false a fa ((sts L k.toNat (r.drop i) s).2.st.set k.toNat 0) (v'.1 + 1, v'.2.set k.toNat []) (sts L k.toNat (r.drop i) s).2.bg (sts L k.toNat (r.drop i) s).2.wh (sts L k.toNat (r.drop i) s).2.rd
  | fuel, i, s, v, hi, hf, w, hu, h1, bd, ri => by
    obtain ⟨f, rfl⟩ : ∃ f, fuel = f + 1 := ⟨fuel - 1, by omega⟩
    simp only [F60b_0_it, F60b_0_step]
    have hkm : k.toNat < a.length := by have := hk.1; have := hk.2; omega
    have := hk.1; have := hk.2
    rw [bp (by omega), bp (by omega), hra]
    by_cases h : i < r.length
    · rw [bp (by omega), bp (by omega), bp (by omega), bp (by omega), bp (by omega)]
      simp only [e0]
      have hc : (r.length - i) * (c + 1) = (c + 1) + (r.length - (i + 1)) * (c + 1) := by
        rw [show r.length - i = (r.length - (i + 1)) + 1 by omega, Nat.succ_mul]; omega
      have hxi := hx _ (getD_in (d := t0) h)
      rw [hc] at bd
      obtain ⟨mp1, e, ri1⟩ := stpS hn (fa := fa) hI hxi w hu hk h1 (bd.le (by omega)) ri
      obtain ⟨w1, g1⟩ := stp_ok hL hxi w hu hkm h1
      have hs : sts L k.toNat (r.drop i) s = if (stp L k.toNat (r.getD i t0) s).1 = true then sts L k.toNat (r.drop (i + 1)) (stp L k.toNat (r.getD i t0) s).2 else (false, (stp L k.toNat (r.getD i t0) s).2) := by rw [drop_get t0 h]; rfl
      rw [hrc, e]
      simp only [ats, pkS]
      generalize stp L k.toNat (r.getD i t0) s = q at e ri1 w1 g1 hs ⊢
      by_cases hb : q.1 = true
      · rw [if_pos hb] at hs
        rw [hs, hb]
        simp only [Bool.not_true, cf]
        have hu1 := g1.uz w w1
        obtain ⟨mp2, ri2, e2⟩ := stsS_it hn hrc hL hI hra hr hx hk f (i + 1) q.2 mp1 (by omega) (by omega) w1 (by omega) (by rw [g1.keep _ (by omega), h1]) (bd.go g1) ri1
        refine ⟨mp2, ri2, ?_⟩
        rw [wp (by omega), e1]
        exact e2
      · rw [if_neg hb] at hs
        have hb : q.1 = false := by simpa using hb
        rw [hs, hb]
        simp only [Bool.not_false, ct]
        have l1 : q.2.st.length = a.length := w1.st
        have l2 : mp1.2.length = a.length := by rw [ri1.1, l1]
        rw [bp (by omega), bp (by omega), bp (by omega), bp (by omega)]
        exact ⟨mp1, ri1, rfl⟩
    · rw [bn (by omega), List.drop_of_length_le (by omega)]
      exact ⟨v, ri, rfl⟩
theorem ldS {n : Nat} (hn : 4000000 ≤ n) {a : List (List Stp)} (hv : VM a) : ∀ (d fuel u : Nat), u < d → 2 * d ≤ fuel → LS a u (CC u) (Q60it n fuel) (ld a d)
  | 0, fuel, u, h, _ => by omega
  | d + 1, fuel, u, hd, hf => fun k s v fa w hu hk bd ri => by
    obtain ⟨f, rfl⟩ : ∃ f, fuel = f + 2 := ⟨fuel - 2, by omega⟩
    have hk0 := hk.1
    have hk1 := hk.2
    have hkm : k.toNat < a.length := by omega
    have hml : v.2.length = a.length := by rw [ri.1, w.st]
    have hsl := w.st
    show ∃ v' : VarT, F60b n (Q60it n (f + 1)) k a s.bg s.wh fa s.rd s.st v = _ ∧ _
    unfold F60b
    rw [bp (by omega), bp (by omega)]
    simp only [ld]
    by_cases h0 : s.st.getD k.toNat 0 = 0
    case neg => rw [nep h0, if_pos h0]; exact ⟨v, rfl, ri⟩
    rw [nen h0, if_neg (fun h => h h0)]
    obtain ⟨w1, u1, b1⟩ := beg_ok w hk h0
    obtain ⟨u', rfl⟩ : ∃ u', u = u' + 1 := ⟨u - 1, by omega⟩
    obtain ⟨r1, r2⟩ := row_of hv hkm
    have hL := ld_ok hv d u' (by omega)
    have hI := ldS hn hv d f u' (by omega) (by omega)
    have bd0 := bd
    simp only [CC] at bd
    have bb := bd.1
    rw [bp (by omega), bp (by omega)]
    try simp only []
    rw [bp (by simp only [List.length_cons, List.length_nil]; omega)]
    unfold F60b_0
    have hc : (a.getD k.toNat []).length * (CC u' + 1) ≤ 8 * (CC u' + 1) := Nat.mul_le_mul_right _ r1
    have hrb : RS v (beg k s) := by
      refine ⟨by simp [beg, ri.1], fun j => ?_⟩
      show v.2.getD j [] = ((s.en.set k.toNat []).getD j []).map vr
      rw [getD_set' (by rw [w.en]; exact hkm)]
      by_cases e : k.toNat = j
      · rw [if_pos e, ri.2, ← e, w.e0 _ h0]
      · rw [if_neg e]; exact ri.2 j
    have hbb : Bd (((a.getD k.toNat []).length - 0) * (CC u' + 1)) (beg k s) := bd.beg (by rw [Nat.sub_zero]; exact hc) w hk
    obtain ⟨mp2, ri2, e2⟩ := stsS_it (R := (Bool × ((List (List Stp) × (Unit × (Unit × (Unit × (Unit × (Unit × (Unit × Unit))))))) × (Unit × (Unit × (List Int × (Unit × (List Int × (VarT × (List Int × (List Int × (List ByteArray × Unit))))))))))))
      (k0 := (fun z1396 z1397 z1398 z1399 z1400 z1401 z1402 z1403 =>
  some (z1396, ((z1397, ((), ((), ((), ((), ((), ((), ()))))))), ((), ((), (z1398, ((), (z1399, (z1400, (z1401, (z1402, (z1403, ()))))))))))))) (k1 := (fun z1404 z1405 z1406 z1407 z1408 z1409 z1410 z1411 =>
  (bif (decide ((0 : Int) ≤ z1404)) then
  (bif (decide (z1404 < ((z1407.length) : Int))) then
  let v1414 := (z1404 :: [])
  (bif (decide (((z1410.length) + (v1414.length)) ≤ (68719476736 : Nat))) then
  some (true, ((z1405, ((), ((), ((), ((), ((), ((), ()))))))), ((), ((), (z1406, ((), ((z1407.set (z1404.toNat) (2 : Int)), (z1408, (z1409, ((z1410 ++ v1414), (z1411, ())))))))))))
  else none)
  else none)
  else none))) hn (rc := Q60it n (f + 1)) (rc' := Q60it n f) (fa := fa) rfl hL hI (r := a.getD k.toNat []) rfl r1 r2 hk n 0 (beg k s) v (by omega) (by omega) w1 (by omega) b1 hbb hrb
    rw [List.drop_zero] at ri2 e2
    obtain ⟨w2, g2⟩ := sts_ok hL hkm r2 w1 (by omega) b1
    generalize hr : sts (ld a d) k.toNat (a.getD k.toNat []) (beg k s) = r at w2 g2 ri2 e2 ⊢
    have l1 : r.2.st.length = a.length := w2.st
    have l2 : mp2.2.length = a.length := by rw [ri2.1, l1]
    have lw := (hbb.go (c' := 0) (g2.le (by rw [Nat.sub_zero]; exact Nat.le_refl _)))
    unfold fin
    by_cases hb : r.1 = true
    · rw [if_pos hb] at e2
      rw [if_pos hb]
      have := lw.2.1
      rw [bp (by omega), bp (by omega)] at e2
      simp only [] at e2
      rw [bp (by simp only [List.length_cons, List.length_nil]; omega)] at e2
      exact ⟨mp2, e2, by simp [ri2.1], ri2.2⟩
    · rw [if_neg hb] at e2
      rw [if_neg hb]
      refine ⟨(mp2.1 + 1, mp2.2.set k.toNat []), e2, by simp [ri2.1], fun j => ?_⟩
      show (mp2.2.set k.toNat []).getD j [] = ((r.2.en.set k.toNat []).getD j []).map vr
      rw [getD_set' (by omega), getD_set' (by rw [w2.en]; exact hkm)]
      by_cases e : k.toNat = j
      · rw [if_pos e, if_pos e]; rfl
      · rw [if_neg e, if_neg e]; exact ri2.2 j
end Go.Proofs.Ytjfmfpnnjgfffaa.Am
