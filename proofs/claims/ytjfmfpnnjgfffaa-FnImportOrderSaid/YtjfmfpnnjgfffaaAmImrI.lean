/- Importers, plainly: the program's. -/
import Derived.Test.YtjfmfpnnjgfffaaAmImrH
namespace Go.Proofs.Ytjfmfpnnjgfffaa.Am
open Go
set_option autoImplicit false
set_option linter.unusedVariables false
set_option linter.unusedSimpArgs false
set_option maxRecDepth 10000

abbrev MapT : Type := Nat × (List (Option (List (ByteArray × Int))))
def RI (mp : MapT) (s : Ab) : Prop := mp.2.length = s.st.length ∧ ∀ j, mp.2.getD j none = if s.st.getD j 0 = 0 then none else some (s.en.getD j [])
theorem RI.get {mp : MapT} {s : Ab} {m : Nat} (h : RI mp s) (w : Wf m s) (j : Nat) : (mp.2.getD j none).getD [] = s.en.getD j [] := by
  rw [h.2 j]
  split
  · rename_i e; rw [w.e0 j e]; rfl
  · rfl
def Bd (c : Nat) (s : Ab) : Prop := s.bg.length + c ≤ 3900000 ∧ s.wh.length + c ≤ 3900000 ∧ s.rd.length + c ≤ 3900000 ∧ ∀ j, (s.en.getD j []).length + c ≤ 3900000
theorem Bd.go {c c' : Nat} {s s' : Ab} (h : Bd (c + c') s) (g : Gs c s s') : Bd c' s' := by
  obtain ⟨l, e, i⟩ := g.bg; obtain ⟨l1, e1, i1⟩ := g.wh; obtain ⟨l2, e2, i2⟩ := g.rd
  unfold Bd at *
  rw [e, e1, e2, List.length_append, List.length_append, List.length_append]
  exact ⟨by omega, by omega, by omega, fun j => by have := g.el j; have := h.2.2.2 j; omega⟩
theorem Bd.le {c c' : Nat} {s : Ab} (h : Bd c s) (hc : c' ≤ c) : Bd c' s := ⟨by have := h.1; omega, by have := h.2.1; omega, by have := h.2.2.1; omega, fun j => by have := h.2.2.2 j; omega⟩
theorem Bd.beg {c c' m : Nat} {k : Int} {s : Ab} (h : Bd (c + 1) s) (hc : c' ≤ c) (w : Wf m s) (hk : Rng m k) : Bd c' (beg k s) := by
  refine ⟨?_, ?_, ?_, fun j => ?_⟩
  · show (s.bg ++ [k]).length + _ ≤ _
    have := h.1
    rw [List.length_append]; simp only [List.length_cons, List.length_nil]; omega
  · show s.wh.length + _ ≤ _
    have := h.2.1; omega
  · show s.rd.length + _ ≤ _
    have := h.2.2.1; omega
  · show ((s.en.set k.toNat []).getD j []).length + _ ≤ _
    have h2 := h.2.2.2 j
    rw [getD_set' (by have := hk.1; have := hk.2; rw [w.en]; omega)]
    split
    · simp only [List.length_nil]; omega
    · omega
def pkI (b : Bool) (a : List (List Stp)) (mp : MapT) (fa : List Int) (s : Ab) : Bool × ((List (List Stp) × (Unit × (Unit × (Unit × (Unit × (Unit × (Unit × Unit))))))) × (MapT × (Unit × (Unit × (List Int × (Unit × (List Int × (List Int × (List Int × (List ByteArray × Unit)))))))))) :=
  (b, ((a, ((), ((), ((), ((), ((), ((), ()))))))), (mp, ((), ((), (fa, ((), (s.st, (s.bg, (s.wh, (s.rd, ())))))))))))
def LI (a : List (List Stp)) (u c : Nat) (rc : Q40RC) (L : Int → Ab → Bool × Ab) : Prop := ∀ (k : Int) (s : Ab) (mp : MapT) (fa : List Int), Wf a.length s → uz s.st ≤ u → Rng a.length k → Bd c s → RI mp s →
  ∃ mp' : MapT, rc.1 k a mp s.bg s.wh fa s.rd s.st = some (pkI (L k s).1 a mp' fa (L k s).2) ∧ RI mp' (L k s).2

theorem stpI {n : Nat} (hn : 100 ≤ n) {a : List (List Stp)} {u c : Nat} {rc : Q40RC} {L : Int → Ab → Bool × Ab} {k : Int} {x : Stp} {s : Ab} {mp : MapT} {fa : List Int} (hI : LI a u c rc L) (hx : VS a.length x) (w : Wf a.length s) (hu : uz s.st ≤ u) (hk : Rng a.length k) (h1 : s.st.getD k.toNat 0 = 1)
    (bd : Bd (c + 1) s) (ri : RI mp s) :
    ∃ mp' : MapT, F59b n rc k x.kind x.num x.name a mp s.bg s.wh fa s.rd s.st = some (pkI (stp L k.toNat x s).1 a mp' fa (stp L k.toNat x s).2) ∧ RI mp' (stp L k.toNat x s).2 := by
  obtain ⟨hk0, hk1⟩ := hk
  have hml : mp.2.length = a.length := by rw [ri.1, w.st]
  have hkm : k.toNat < a.length := by omega
  unfold F59b F59b_1 stp
  by_cases e1 : x.kind = 1
  · rw [eqp e1, if_pos e1]
    obtain ⟨mp', e, ri'⟩ := hI x.num s mp fa w hu (hx.num (by omega) (by omega)) (bd.le (by omega)) ri
    rw [e]; exact ⟨mp', rfl, ri'⟩
  rw [eqn e1, if_neg e1]
  by_cases e2 : x.kind = 2
  · rw [eqp e2, if_pos e2]
    obtain ⟨mp', e, ri'⟩ := hI x.num s mp fa w hu (hx.num (by omega) (by omega)) (bd.le (by omega)) ri
    rw [e]; exact ⟨mp', rfl, ri'⟩
  rw [eqn e2, if_neg e2]
  by_cases e3 : x.kind = 3
  · rw [eqp e3, if_pos e3, bp (by omega), bp (by omega)]
    have hg : mp.2.getD k.toNat none = some (s.en.getD k.toNat []) := by rw [ri.2, if_neg (by omega)]
    simp only [decide_true, ct]
    rw [hg]
    simp only [Option.isSome_some, ct, Option.getD_some]
    refine ⟨(mp.1, mp.2.set k.toNat (some (mset x.name x.num (s.en.getD k.toNat [])))), rfl, by simp [ri.1], fun j => ?_⟩
    show (mp.2.set k.toNat _).getD j none = if s.st.getD j 0 = 0 then none else some ((s.en.set k.toNat _).getD j [])
    rw [getD_set' (by omega), getD_set' (by rw [w.en]; exact hkm)]
    by_cases e : k.toNat = j
    · rw [if_pos e, if_pos e, ← e, if_neg (by omega)]
    · rw [if_neg e, if_neg e]; exact ri.2 j
  rw [eqn e3, if_neg e3]
  by_cases e4 : x.kind = 4
  · obtain ⟨q0, q1⟩ := hx.num (by omega) (by omega)
    rw [eqp e4, if_pos e4, bp (by omega), bp (by omega)]
    simp only [decide_true, ct]
    rw [ri.get w]
    unfold F59b_0
    cases e : mget x.name (s.en.getD x.num.toNat []) with
    | none => exact ⟨mp, rfl, ri⟩
    | some v =>
      obtain ⟨p, p1, p2⟩ := mget_mem e
      have hr := w.er _ p p1
      rw [p2] at hr
      simp only [Option.isSome_some, ct, Option.getD_some]
      rw [decI hn hr.1 hr.2]
      simp only [ats]
      have := bd.2.2.1
      rw [bp (by simp only [List.length_cons, List.length_nil]; omega)]
      exact ⟨mp, rfl, ri⟩
  rw [eqn e4, if_neg e4, eqp (by have := hx.1; omega)]
  exact ⟨mp, rfl, ri⟩
theorem stsI_it {n : Nat} (hn : 100 ≤ n) {a : List (List Stp)} {u c : Nat} {rc rc' : Q40RC} (hrc : rc.2.1 = F59b n rc') {L : Int → Ab → Bool × Ab} {k : Int} {r : List Stp} {fa : List Int} {R : Type}
    {k0 : Bool → List (List Stp) → MapT → List Int → List Int → List Int → List Int → List ByteArray → Option R} {k1 : Int → List (List Stp) → MapT → List Int → List Int → List Int → List Int → List ByteArray → Option R}
    (hL : LdH a.length u c L) (hI : LI a u c rc' L) (hr : r.length ≤ 8) (hx : ∀ x ∈ r, VS a.length x) (hk : Rng a.length k) : ∀ (fuel i : Nat) (s : Ab) (mp : MapT), i ≤ r.length → r.length + 1 ≤ fuel + i → Wf a.length s → uz s.st ≤ u → s.st.getD k.toNat 0 = 1 → Bd ((r.length - i) * (c + 1)) s → RI mp s →
    ∃ mp' : MapT, RI mp' (sts L k.toNat (r.drop i) s).2 ∧ F40b_0_it n rc k0 k1 fuel k r r.length i a mp fa s.st s.bg s.wh s.rd =
      if (sts L k.toNat (r.drop i) s).1 = true then k1 k a mp' fa (sts L k.toNat (r.drop i) s).2.st (sts L k.toNat (r.drop i) s).2.bg (sts L k.toNat (r.drop i) s).2.wh (sts L k.toNat (r.drop i) s).2.rd
      else k0 false a (mp'.1 + 1, mp'.2.set k.toNat none) fa ((sts L k.toNat (r.drop i) s).2.st.set k.toNat 0) (sts L k.toNat (r.drop i) s).2.bg (sts L k.toNat (r.drop i) s).2.wh (sts L k.toNat (r.drop i) s).2.rd
  | fuel, i, s, mp, hi, hf, w, hu, h1, bd, ri => by
    obtain ⟨f, rfl⟩ : ∃ f, fuel = f + 1 := ⟨fuel - 1, by omega⟩
    simp only [F40b_0_it, F40b_0_step]
    have hkm : k.toNat < a.length := by have := hk.1; have := hk.2; omega
    by_cases h : i < r.length
    · rw [bp (by omega), bp (by omega), bp (by omega)]
      simp only [e0]
      have hc : (r.length - i) * (c + 1) = (c + 1) + (r.length - (i + 1)) * (c + 1) := by
        rw [show r.length - i = (r.length - (i + 1)) + 1 by omega, Nat.succ_mul]; omega
      have hxi := hx _ (getD_in (d := t0) h)
      rw [hc] at bd
      obtain ⟨mp1, e, ri1⟩ := stpI hn (fa := fa) hI hxi w hu hk h1 (bd.le (by omega)) ri
      obtain ⟨w1, g1⟩ := stp_ok hL hxi w hu hkm h1
      have hs : sts L k.toNat (r.drop i) s = if (stp L k.toNat (r.getD i t0) s).1 = true then sts L k.toNat (r.drop (i + 1)) (stp L k.toNat (r.getD i t0) s).2 else (false, (stp L k.toNat (r.getD i t0) s).2) := by rw [drop_get t0 h]; rfl
      rw [hrc, e]
      simp only [ats, pkI]
      generalize stp L k.toNat (r.getD i t0) s = q at e ri1 w1 g1 hs ⊢
      by_cases hb : q.1 = true
      · rw [if_pos hb] at hs
        rw [hs, hb]
        simp only [Bool.not_true, cf]
        have hu1 := g1.uz w w1
        obtain ⟨mp2, ri2, e2⟩ := stsI_it hn hrc hL hI hr hx hk f (i + 1) q.2 mp1 (by omega) (by omega) w1 (by omega) (by rw [g1.keep _ (by omega), h1]) (bd.go g1) ri1
        refine ⟨mp2, ri2, ?_⟩
        rw [wp (by omega), e1]
        exact e2
      · rw [if_neg hb] at hs
        have hb : q.1 = false := by simpa using hb
        rw [hs, hb]
        simp only [Bool.not_false, ct]
        have := hk.1; have := hk.2
        have l1 : q.2.st.length = a.length := w1.st
        have l2 : mp1.2.length = a.length := by rw [ri1.1, l1]
        rw [bp (by omega), bp (by omega), bp (by omega), bp (by omega)]
        exact ⟨mp1, ri1, rfl⟩
    · rw [bn (by omega), List.drop_of_length_le (by omega)]
      exact ⟨mp, ri, rfl⟩
theorem ldI {n : Nat} (hn : 100 ≤ n) {a : List (List Stp)} (hv : VM a) : ∀ (d fuel u : Nat), u < d → 2 * d ≤ fuel → LI a u (CC u) (Q40it n fuel) (ld a d)
  | 0, fuel, u, h, _ => by omega
  | d + 1, fuel, u, hd, hf => fun k s mp fa w hu hk bd ri => by
    obtain ⟨f, rfl⟩ : ∃ f, fuel = f + 2 := ⟨fuel - 2, by omega⟩
    have hk0 := hk.1
    have hk1 := hk.2
    have hkm : k.toNat < a.length := by omega
    have hml : mp.2.length = a.length := by rw [ri.1, w.st]
    have hsl := w.st
    show ∃ mp' : MapT, F40b n (Q40it n (f + 1)) k a mp s.bg s.wh fa s.rd s.st = _ ∧ _
    unfold F40b
    rw [bp (by omega), bp (by omega)]
    simp only [ld]
    by_cases h0 : s.st.getD k.toNat 0 = 0
    case neg => rw [nep h0, if_pos h0]; exact ⟨mp, rfl, ri⟩
    rw [nen h0, if_neg (fun h => h h0)]
    obtain ⟨w1, u1, b1⟩ := beg_ok w hk h0
    obtain ⟨u', rfl⟩ : ∃ u', u = u' + 1 := ⟨u - 1, by omega⟩
    obtain ⟨r1, r2⟩ := row_of hv hkm
    have hL := ld_ok hv d u' (by omega)
    have hI := ldI hn hv d f u' (by omega) (by omega)
    have bd0 := bd
    simp only [CC] at bd
    have bb := bd.1
    rw [bp (by omega), bp (by omega)]
    try simp only []
    rw [bp (by simp only [List.length_cons, List.length_nil]; omega), bp (by omega), bp (by omega), bp (by omega), bp (by omega)]
    unfold F40b_0
    have hc : (a.getD k.toNat []).length * (CC u' + 1) ≤ 8 * (CC u' + 1) := Nat.mul_le_mul_right _ r1
    have hrb : RI (mp.1 + 1, mp.2.set k.toNat (some [])) (beg k s) := by
      refine ⟨by simp [beg, ri.1], fun j => ?_⟩
      show (mp.2.set k.toNat _).getD j none = if (s.st.set k.toNat 1).getD j 0 = 0 then none else some ((s.en.set k.toNat []).getD j [])
      rw [getD_set' (by omega), getD_set' (by omega), getD_set' (by rw [w.en]; exact hkm)]
      by_cases e : k.toNat = j
      · rw [if_pos e, if_pos e, if_pos e]; rfl
      · rw [if_neg e, if_neg e, if_neg e]; exact ri.2 j
    have hbb : Bd (((a.getD k.toNat []).length - 0) * (CC u' + 1)) (beg k s) := bd.beg (by rw [Nat.sub_zero]; exact hc) w hk
    obtain ⟨mp2, ri2, e2⟩ := stsI_it (R := (Bool × ((List (List Stp) × (Unit × (Unit × (Unit × (Unit × (Unit × (Unit × Unit))))))) × (MapT × (Unit × (Unit × (List Int × (Unit × (List Int × (List Int × (List Int × (List ByteArray × Unit))))))))))))
      (k0 := (fun z690 z691 z692 z693 z694 z695 z696 z697 =>
  some (z690, ((z691, ((), ((), ((), ((), ((), ((), ()))))))), (z692, ((), ((), (z693, ((), (z694, (z695, (z696, (z697, ()))))))))))))) (k1 := (fun z698 z699 z700 z701 z702 z703 z704 z705 =>
  (bif (decide ((0 : Int) ≤ z698)) then
  (bif (decide (z698 < ((z702.length) : Int))) then
  let v708 := (z698 :: [])
  (bif (decide (((z704.length) + (v708.length)) ≤ (68719476736 : Nat))) then
  some (true, ((z699, ((), ((), ((), ((), ((), ((), ()))))))), (z700, ((), ((), (z701, ((), ((z702.set (z698.toNat) (2 : Int)), (z703, ((z704 ++ v708), (z705, ())))))))))))
  else none)
  else none)
  else none))) hn (rc := Q40it n (f + 1)) (rc' := Q40it n f) (fa := fa) rfl hL hI r1 r2 hk n 0 (beg k s) (mp.1 + 1, mp.2.set k.toNat (some [])) (by omega) (by omega) w1 (by omega) b1 hbb hrb
    rw [List.drop_zero] at ri2 e2
    obtain ⟨w2, g2⟩ := sts_ok hL hkm r2 w1 (by omega) b1
    generalize hr : sts (ld a d) k.toNat (a.getD k.toNat []) (beg k s) = r at w2 g2 ri2 e2 ⊢
    have l1 : r.2.st.length = a.length := w2.st
    have l2 : mp2.2.length = a.length := by rw [ri2.1, l1]
    have lw := (hbb.go (c' := 0) (g2.le (by rw [Nat.sub_zero]; exact Nat.le_refl _)))
    unfold fin
    by_cases hb : r.1 = true
    · rw [if_pos hb] at e2
      rw [if_pos hb]
      have := lw.2.1
      rw [bp (by omega), bp (by omega)] at e2
      simp only [] at e2
      rw [bp (by simp only [List.length_cons, List.length_nil]; omega)] at e2
      refine ⟨mp2, e2, by simp [ri2.1], fun j => ?_⟩
      show mp2.2.getD j none = if (r.2.st.set k.toNat 2).getD j 0 = 0 then none else some (r.2.en.getD j [])
      rw [getD_set' (by omega), ri2.2 j]
      by_cases e : k.toNat = j
      · have b2 : r.2.st.getD k.toNat 0 = 1 := by rw [g2.keep _ (by omega), b1]
        rw [if_pos e, ← e, b2]; rfl
      · rw [if_neg e]
    · rw [if_neg hb] at e2
      rw [if_neg hb]
      refine ⟨(mp2.1 + 1, mp2.2.set k.toNat none), e2, by simp [ri2.1], fun j => ?_⟩
      show (mp2.2.set k.toNat none).getD j none = if (r.2.st.set k.toNat 0).getD j 0 = 0 then none else some ((r.2.en.set k.toNat []).getD j [])
      rw [getD_set' (by omega), getD_set' (by omega), getD_set' (by rw [w2.en]; exact hkm)]
      by_cases e : k.toNat = j
      · rw [if_pos e, if_pos e]; rfl
      · rw [if_neg e, if_neg e, if_neg e]; exact ri2.2 j
end Go.Proofs.Ytjfmfpnnjgfffaa.Am
