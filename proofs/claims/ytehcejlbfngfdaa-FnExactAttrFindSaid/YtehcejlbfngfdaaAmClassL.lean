/- Classes: the laws. -/
import Derived.Test.YtehcejlbfngfdaaAmClassI
import Derived.Test.YtehcejlbfngfdaaAmDrawC
import Derived.Test.YtehcejlbfngfdaaAmOpen
namespace Go.Proofs.Ytehcejlbfngfdaa.Am
open Go
set_option autoImplicit false
set_option linter.unusedVariables false
set_option linter.unusedSimpArgs false

-- fewer classes -----------------------------------------------------------------------------------------------------------------------
theorem mapO_congr {f g : Int → Option (List Int)} : ∀ {l : List Int}, (∀ b ∈ l, f b = g b) → mapO f l = mapO g l
  | [], _ => rfl
  | b :: l, h => by
    simp only [mapO]
    rw [h b (by simp), mapO_congr fun b hb => h b (by simp [hb])]
theorem getD_take {α : Type} {l : List α} {m i : Nat} {d : α} (h : i < m) : (l.take m).getD i d = l.getD i d := by
  simp [List.getD, List.getElem?_take, h]
theorem mro_take {bs : LL} {m : Nat} : ∀ (d : Nat) (c : Int), 0 ≤ c → c < m → mro (bs.take m) d c = mro bs d c
  | 0, _, _, _ => rfl
  | d + 1, c, h0, h1 => by
    simp only [mro]
    rw [getD_take (show c.toNat < m by omega)]
    by_cases g : (bs.getD c.toNat []).length ≤ 6 ∧ vo (bs.getD c.toNat []) c
    · rw [if_pos g, if_pos g, mapO_congr (f := mro (bs.take m) d) (g := mro bs d) fun b hb => by
        have := vo_mem g.2 b hb
        exact mro_take d b this.1 (by omega)]
    · rw [if_neg g, if_neg g]
theorem CO_take {L : List Cls} (m : Nat) (h : CO L) : CO (L.take m) := by
  refine ⟨⟨?_, fun j h0 hj => ?_⟩, fun c hc => h.2 c (List.mem_of_mem_take hc)⟩
  · have := h.1.1
    simp at this ⊢; omega
  · have e : bsOf (L.take m) = (bsOf L).take m := by simp [bsOf, List.map_take]
    rw [e] at hj ⊢
    simp at hj
    rw [mro_take 8 (j : Nat) (by omega) (by omega)]
    exact h.1.2 j h0 (by simp; omega)
theorem SZ_take {L : List Cls} (m : Nat) (h : SZ L) : SZ (L.take m) where
  len := by have := h.len; simp; omega
  bl := fun c hc => h.bl c (List.mem_of_mem_take hc)
  al := fun c hc => h.al c (List.mem_of_mem_take hc)
  nl := fun c hc => h.nl c (List.mem_of_mem_take hc)
theorem beqB (b : Bool) : (b == b) = true := by cases b <;> rfl
theorem law_ok {n : Nat} (hn : 30000000 ≤ n) {z : List Int} (hz : okb z) : F3 n z = some (true, ()) := by
  unfold F3
  by_cases g : (z.length : Int) > 1048576
  · rw [bp g]
  rw [bn g]
  obtain ⟨L, e, sz⟩ := draw10 hn hz
  have hlen := sz.len
  rw [e]; simp only [ats]
  rw [coI hn sz]; simp only [ats]
  rw [coS' hn sz]; simp only [ats, beqB, Bool.not_true, cf]
  by_cases h : CO L
  case neg => rw [nB h]
  rw [nBn h]
  by_cases g2 : (L.length : Int) = 0
  · rw [eqp g2]
  rw [eqn g2, wp (by omega), bp (by omega), bp (by omega), List.drop_zero, coI hn (SZ_take _ sz), B_t (CO_take _ h)]
  rfl

-- finding -------------------------------------------------------------------------------------------------------------------------------
theorem fr0_it {R : Type} {n : Nat} {L : List Cls} {s x : ByteArray} {d y z : Int} {o : List Int} {b : Bool} {i : Nat} {k0 : Bool → Option R} {k1 : List Cls → ByteArray → Int → List Int → Bool → Int → ByteArray → Int → Int → Option R}
    (hi : i < o.length) (h0 : 0 ≤ o.getD i 0) (h1 : o.getD i 0 < L.length) (hl : (L.getD (o.getD i 0).toNat dC).attrs.length ≤ 20000000) (hf : fresh (L.getD (o.getD i 0).toNat dC).attrs s) : ∀ (fuel q : Nat), q ≤ (L.getD (o.getD i 0).toNat dC).attrs.length → (L.getD (o.getD i 0).toNat dC).attrs.length + 1 ≤ fuel + q →
    F5_0_it n k0 k1 fuel L s d o b i q x y z = k1 L s d o b i x y z
  | fuel, q, hq, hfl => by
    obtain ⟨f, rfl⟩ : ∃ f, fuel = f + 1 := ⟨fuel - 1, by omega⟩
    simp only [F5_0_it, F5_0_step]
    rw [bp (by omega), bp (by omega), show ((i : Nat) : Int).toNat = i by omega, bp h0, bp h1]
    by_cases g : q < (L.getD (o.getD i 0).toNat dC).attrs.length
    · rw [bp (Int.ofNat_lt.2 g), bp (by omega), bp (by omega), bp h0, bp h1, bp (by omega), bp (Int.ofNat_lt.2 g), show ((q : Nat) : Int).toNat = q by omega, keq, bn (hf _ (gmem.2 ⟨q, g, rfl⟩)), wp (by omega), show ((q : Int) + 1) = ((q + 1 : Nat) : Int) by omega]
      exact fr0_it (k0 := k0) (k1 := k1) hi h0 h1 hl hf f (q + 1) (by omega) (by omega)
    · rw [bn (fun hh => g (Int.ofNat_lt.1 hh))]
theorem fr1_it {R : Type} {n : Nat} {L : List Cls} {s x : ByteArray} {a : Atr} {d y z : Int} {o : List Int} {k0 : Bool → Option R} {k1 : List Cls → ByteArray → Int → List Int → Bool → ByteArray → Int → Int → Option R}
    (hn : 30000000 ≤ n) (sz : SZ L) (ho : o.length ≤ 20000000) (hr : ∀ d ∈ o, 0 ≤ d ∧ d < L.length) : ∀ (fuel i : Nat), i ≤ o.length → o.length + 1 ≤ fuel + i → fc L s (o.drop i) = some (a, d) →
    F5_1_it n k0 k1 fuel L s d o true i x y z = k1 L s d o true x y z
  | fuel, i, hi, hfl, hf => by
    obtain ⟨f, rfl⟩ : ∃ f, fuel = f + 1 := ⟨fuel - 1, by omega⟩
    simp only [F5_1_it, F5_1_step]
    rw [ct]
    by_cases g : i < o.length
    · obtain ⟨d1, d2⟩ := hr _ (imem_get.2 ⟨i, g, rfl⟩)
      have ha := sz.al (L.getD (o.getD i 0).toNat dC) (gmem.2 ⟨_, by omega, rfl⟩)
      rw [drop_cons (d := 0) g] at hf
      rw [bp (by omega), bp (by omega), bp (by omega), show ((i : Nat) : Int).toNat = i by omega]
      by_cases g1 : o.getD i 0 = d
      · rw [nen g1]
      · rw [nep g1]
        simp only [fc] at hf
        split at hf
        · cases hf; exact absurd rfl g1
        · rename_i hno
          unfold F5_0
          have e := fr0_it (n := n) (L := L) (s := s) (x := x) (d := d) (y := y) (z := z) (o := o) (b := true) (k0 := fun z1778 => k0 z1778) (k1 := fun z1779 z1780 z1781 z1782 z1783 z1784 z1785 z1786 z1787 =>
            F5_1_it n k0 k1 f z1779 z1780 z1781 z1782 z1783 (IntKind.wrap .i64 (z1784 + (1 : Int))) z1785 z1786 z1787) g d1 d2 (Nat.le_trans ha (by omega)) (fa_none hno) n 0 (by omega) (Nat.le_trans (Nat.succ_le_succ ha) (by omega))
          rw [Int.natCast_zero] at e
          rw [e, wp (by omega), show ((i : Int) + 1) = ((i + 1 : Nat) : Int) by omega]
          exact fr1_it (k0 := k0) (k1 := k1) hn sz ho hr f (i + 1) (by omega) (by omega) hf
    · rw [List.drop_of_length_le (by omega)] at hf; cases hf
theorem law_find {n : Nat} (hn : 30000000 ≤ n) {z : List Int} (hz : okb z) : F5 n z = some (true, ()) := by
  unfold F5
  by_cases g : (z.length : Int) > 1048576
  · rw [bp g]
  rw [bn g]
  obtain ⟨L, c, s, e, sz⟩ := draw16 hn hz
  have hlen := sz.len
  rw [e]; simp only [ats]
  rw [afI hn sz]; simp only [ats]
  rw [afS hn sz]; simp only [ats, babeq, beqB, decide_true, beq_self_eq_true, Bool.and_self, ct, Bool.not_true, cf]
  cases hf : AF L c s with
  | none => rfl
  | some p =>
    obtain ⟨a, d⟩ := p
    obtain ⟨hc, ⟨c0, c1⟩, hd, ⟨d0, d1⟩, ha⟩ := AF_rng hf
    have hf' := hf
    unfold AF at hf'
    rw [if_pos ⟨hc, c0, c1⟩] at hf'
    obtain ⟨o1, o2, o3⟩ := ord_ok hc c0 c1
    obtain ⟨am, an⟩ := fa_mem ha
    simp only [Bool.not_true, cf]
    unfold F20
    rw [bsS hn (by omega)]; simp only [ats]
    rw [ofI hn hc c0 c1]; simp only [ats]
    unfold F5_1
    have e1 := fr1_it (n := n) (L := L) (s := s) (x := a.name) (a := a) (d := d) (y := a.kind) (z := a.val) (o := ord L c) (k0 := fun z1789 => some (z1789, ())) (k1 := fun z1790 z1791 z1792 z1793 z1794 z1795 z1796 z1797 =>
      (bif z1794 then
      (andThen (F21 n z1793 z1792) fun r1801 =>
      (bif r1801.1 then
      (bif ((z1795.toList) == (z1791.toList)) then
      (bif (decide ((0 : Int) ≤ z1792)) then
      (bif (decide (z1792 < ((z1790.length) : Int))) then
      (andThen (F22 n (z1790.getD (z1792.toNat) (Cls.mk [] [])).attrs z1795 z1796 z1797) fun r1823 =>
      some (r1823.1, ()))
      else none)
      else none)
      else some (false, ()))
      else some (false, ())))
      else some (false, ()))) hn sz o2 o3 n 0 (by omega) (by omega) (by simpa using hf')
    rw [Int.natCast_zero] at e1
    rw [e1, ct]
    unfold F21
    rw [inlS hn o2]; simp only [ats]
    rw [B_t hd, ct, keq, bp an, bp d0, bp d1, hasA hn (Nat.le_trans (sz.al _ ((gmem (d := dC)).2 ⟨d.toNat, by omega, rfl⟩)) (by omega)) am]
    rfl
theorem okb_of {l : List Int} (h : SmV G (.imm 1 (l : List (G.T 1)))) : okb l := fun x hx => by
  obtain ⟨i, hi, e⟩ := List.getElem_of_mem hx
  have hh := h.elt (i := i) (x := x) (by rw [← e]; exact List.getElem?_eq_getElem hi) (j := 0) (d := .lit (.int .u8 x)) rfl
  have w : (Lit.int .u8 x).wf = true := by cases hh with | int _ _ w => exact w
  simp only [Lit.wf, Bool.and_eq_true, decide_eq_true_eq] at w
  have e1 : IntKind.min .u8 = 0 := by decide
  have e2 : IntKind.max .u8 = 255 := by decide
  omega
theorem law_okV {n : Nat} (hn : 30000000 ≤ n) (y : Cd.den G.T (.imm 1)) (s : SmV G (Cd.enc (.imm 1) y)) : F3 n y = some (true, ()) := law_ok hn (okb_of s)
theorem law_findV {n : Nat} (hn : 30000000 ≤ n) (y : Cd.den G.T (.imm 1)) (s : SmV G (Cd.enc (.imm 1) y)) : F5 n y = some (true, ()) := law_find hn (okb_of s)
end Go.Proofs.Ytehcejlbfngfdaa.Am
