/- Classes: attributes are found, read and set. -/
import Derived.Test.YtehcejlbfngfdaaAmClassG
namespace Go.Proofs.Ytehcejlbfngfdaa.Am
open Go
set_option autoImplicit false
set_option linter.unusedVariables false
set_option linter.unusedSimpArgs false

-- by name ------------------------------------------------------------------------------------------------------------------------
open Classical in
noncomputable def fa (s : ByteArray) : List Atr → Option Atr
  | [] => none
  | a :: r => if a.name = s then some a else fa s r
theorem fa_hit {s : ByteArray} {a : Atr} {r : List Atr} (h : a.name = s) : fa s (a :: r) = some a := by simp only [fa]; rw [if_pos h]
theorem fa_miss {s : ByteArray} {a : Atr} {r : List Atr} (h : ¬ a.name = s) : fa s (a :: r) = fa s r := by simp only [fa]; rw [if_neg h]
theorem fa_mem {s : ByteArray} {a : Atr} : ∀ {l : List Atr}, fa s l = some a → a ∈ l ∧ a.name = s
  | b :: r, h => by
    by_cases g : b.name = s
    · rw [fa_hit g] at h; cases h; exact ⟨by simp, g⟩
    · rw [fa_miss g] at h; have := fa_mem h; exact ⟨by simp [this.1], this.2⟩
theorem fa_none {s : ByteArray} : ∀ {l : List Atr}, fa s l = none → fresh l s
  | [], h => fun b hb => by simp at hb
  | a :: r, h => by
    by_cases g : a.name = s
    · rw [fa_hit g] at h; cases h
    · rw [fa_miss g] at h
      intro b hb
      rcases List.mem_cons.1 hb with rfl | hb
      · exact g
      · exact fa_none h b hb
abbrev enA (a : Atr) : ByteArray × (Int × (Int × Unit)) := (a.name, (a.kind, (a.val, ())))
theorem nmI_it {R : Type} {n : Nat} {l : List Atr} {s x : ByteArray} {y z : Int} {k0 : Bool → ByteArray → Int → Int → Option R} {k1 : ByteArray → Int → Int → Option R} (h : l.length ≤ 20000000) : ∀ (fuel i : Nat), i ≤ l.length → l.length + 1 ≤ fuel + i →
    F46_0_it n k0 k1 fuel s l l.length i x y z = match fa s (l.drop i) with | some a => k0 true a.name a.kind a.val | none => k1 x y z
  | fuel, i, hi, hfl => by
    obtain ⟨f, rfl⟩ : ∃ f, fuel = f + 1 := ⟨fuel - 1, by omega⟩
    simp only [F46_0_it, F46_0_step]
    by_cases g : i < l.length
    · rw [bp (by omega), bp (by omega), bp (by omega), show ((i : Nat) : Int).toNat = i by omega, keq, drop_cons (d := dA) g]
      by_cases g1 : (l.getD i dA).name = s
      · rw [bp g1, fa_hit g1]
      · rw [bn g1, fa_miss g1, wp (by omega), show ((i : Int) + 1) = ((i + 1 : Nat) : Int) by omega, nmI_it (k0 := k0) (k1 := k1) h f (i + 1) (by omega) (by omega)]
    · rw [bn (by omega), List.drop_of_length_le (by omega)]; rfl
theorem nmI {n : Nat} {l : List Atr} {s : ByteArray} (hn : 30000000 ≤ n) (h : l.length ≤ 20000000) : F46 n l s = some ((enA ((fa s l).getD dA), ((fa s l).isSome, ())), ()) := by
  unfold F46 F46_0
  have e := nmI_it (n := n) (s := s) (x := ({ data := #[] } : ByteArray)) (y := 0) (z := 0) (k0 := fun z1565 z1566 z1567 z1568 => some (((z1566, (z1567, (z1568, ()))), (z1565, ())), ())) (k1 := fun z1569 z1570 z1571 =>
    some (((({ data := #[] } : ByteArray), ((0 : Int), ((0 : Int), ()))), (false, ())), ())) h n 0 (by omega) (by omega)
  rw [Int.natCast_zero] at e
  rw [e, List.drop_zero]
  cases fa s l <;> rfl
theorem ixS_it {R : Type} {n : Nat} {l : List Atr} {s : ByteArray} {k0 : Int → Option R} {k1 : Option R} (h : l.length ≤ 20000000) : ∀ (fuel i : Nat), i ≤ l.length → l.length + 1 ≤ fuel + i →
    (∃ j : Nat, j < l.length ∧ i ≤ j ∧ fa s (l.drop i) = some (l.getD j dA) ∧ (∀ q, i ≤ q → q < j → (l.getD q dA).name ≠ s) ∧ F54_0_it n k0 k1 fuel l s i = k0 j) ∨ (fa s (l.drop i) = none ∧ F54_0_it n k0 k1 fuel l s i = k1)
  | fuel, i, hi, hfl => by
    obtain ⟨f, rfl⟩ : ∃ f, fuel = f + 1 := ⟨fuel - 1, by omega⟩
    simp only [F54_0_it, F54_0_step]
    by_cases g : i < l.length
    · rw [bp (by omega), bp (by omega), bp (by omega), show ((i : Nat) : Int).toNat = i by omega, keq, drop_cons (d := dA) g]
      by_cases g1 : (l.getD i dA).name = s
      · rw [bp g1, fa_hit g1]; exact .inl ⟨i, g, Nat.le_refl _, rfl, fun q h1 h2 => by omega, rfl⟩
      · rw [bn g1, fa_miss g1, wp (by omega), show ((i : Int) + 1) = ((i + 1 : Nat) : Int) by omega]
        rcases ixS_it (n := n) (s := s) (k0 := k0) (k1 := k1) h f (i + 1) (by omega) (by omega) with ⟨j, j1, j2, j3, j4, j5⟩ | ⟨j1, j2⟩
        · refine .inl ⟨j, j1, by omega, j3, fun q h1 h2 => ?_, j5⟩
          by_cases e : i = q
          · subst e; exact g1
          · exact j4 q (by omega) h2
        · exact .inr ⟨j1, j2⟩
    · rw [bn (by omega), List.drop_of_length_le (by omega)]; exact .inr ⟨rfl, rfl⟩
theorem ixS {n : Nat} {l : List Atr} {s : ByteArray} (hn : 30000000 ≤ n) (h : l.length ≤ 20000000) :
    (∃ j : Nat, j < l.length ∧ fa s l = some (l.getD j dA) ∧ (∀ q, q < j → (l.getD q dA).name ≠ s) ∧ F54 n l s = some ((j : Int), ())) ∨ (fa s l = none ∧ F54 n l s = some (-1, ())) := by
  unfold F54 F54_0
  rcases ixS_it (n := n) (l := l) (s := s) (k0 := fun z1621 => some (z1621, ())) (k1 := some ((-1 : Int), ())) h n 0 (by omega) (by omega) with ⟨j, j1, j2, j3, j4, j5⟩ | ⟨j1, j2⟩
  · exact .inl ⟨j, j1, j3, fun q hq => j4 q (by omega) hq, j5⟩
  · exact .inr ⟨j1, j2⟩

-- in the order ------------------------------------------------------------------------------------------------------------------------
noncomputable def fc (L : List Cls) (s : ByteArray) : List Int → Option (Atr × Int)
  | [] => none
  | d :: r => match fa s (L.getD d.toNat dC).attrs with | some a => some (a, d) | none => fc L s r
theorem fcI_it {R : Type} {n : Nat} {L : List Cls} {s x : ByteArray} {y z : Int} {o : List Int} {k0 : Int → Bool → ByteArray → Int → Int → Option R} {k1 : ByteArray → Int → Int → Option R} (hn : 30000000 ≤ n) (sz : SZ L) (ho : o.length ≤ 20000000) (hr : ∀ d ∈ o, 0 ≤ d ∧ d < L.length) : ∀ (fuel i : Nat), i ≤ o.length → o.length + 1 ≤ fuel + i →
    F17_0_it n k0 k1 fuel L s o o.length i x y z = match fc L s (o.drop i) with | some (a, d) => k0 d true a.name a.kind a.val | none => k1 x y z
  | fuel, i, hi, hfl => by
    obtain ⟨f, rfl⟩ : ∃ f, fuel = f + 1 := ⟨fuel - 1, by omega⟩
    simp only [F17_0_it, F17_0_step]
    by_cases g : i < o.length
    · obtain ⟨d1, d2⟩ := hr _ (imem_get.2 ⟨i, g, rfl⟩)
      have ha := sz.al (L.getD (o.getD i 0).toNat dC) (gmem.2 ⟨_, by omega, rfl⟩)
      rw [bp (by omega), bp (by omega), bp (by omega), show ((i : Nat) : Int).toNat = i by omega, bp d1, bp d2, nmI hn (Nat.le_trans ha (by omega)), drop_cons (d := 0) g]
      simp only [ats, fc]
      cases h : fa s (L.getD (o.getD i 0).toNat dC).attrs with
      | some a => rfl
      | none =>
        simp only [Option.isSome_none, cf]
        rw [wp (by omega), show ((i : Int) + 1) = ((i + 1 : Nat) : Int) by omega, fcI_it (k0 := k0) (k1 := k1) hn sz ho hr f (i + 1) (by omega) (by omega)]
    · rw [bn (by omega), List.drop_of_length_le (by omega)]; rfl
theorem fcS_it {R : Type} {n : Nat} {L : List Cls} {s x : ByteArray} {y z : Int} {o : List Int} {k0 : Int → ByteArray → Int → Int → Option R} {k1 : ByteArray → Int → Int → Option R} (hn : 30000000 ≤ n) (sz : SZ L) (ho : o.length ≤ 20000000) (hr : ∀ d ∈ o, 0 ≤ d ∧ d < L.length) : ∀ (fuel i : Nat), i ≤ o.length → o.length + 1 ≤ fuel + i →
    F48_0_it n k0 k1 fuel L s o i x y z = match fc L s (o.drop i) with | some (a, d) => k0 d a.name a.kind a.val | none => k1 x y z
  | fuel, i, hi, hfl => by
    obtain ⟨f, rfl⟩ : ∃ f, fuel = f + 1 := ⟨fuel - 1, by omega⟩
    simp only [F48_0_it, F48_0_step]
    by_cases g : i < o.length
    · obtain ⟨d1, d2⟩ := hr _ (imem_get.2 ⟨i, g, rfl⟩)
      have ha := sz.al (L.getD (o.getD i 0).toNat dC) (gmem.2 ⟨_, by omega, rfl⟩)
      rw [bp (by omega), bp (by omega), bp (by omega), show ((i : Nat) : Int).toNat = i by omega, bp d1, bp d2, drop_cons (d := 0) g]
      simp only [fc]
      rcases ixS (n := n) (l := (L.getD (o.getD i 0).toNat dC).attrs) (s := s) hn (by omega) with ⟨j, j1, j2, j3, j4⟩ | ⟨j1, j2⟩
      · rw [j4, j2]
        simp only [ats]
        rw [bp (by omega), bp (by omega), bp (by omega), bp d1, bp d2, bp (by omega), bp (Int.ofNat_lt.2 j1), bp (by omega), bp (by omega)]
        rfl
      · rw [j2, j1]
        simp only [ats]
        rw [bn (by omega), wp (by omega), show ((i : Int) + 1) = ((i + 1 : Nat) : Int) by omega, fcS_it (k0 := k0) (k1 := k1) hn sz ho hr f (i + 1) (by omega) (by omega)]
    · rw [bn (by omega), List.drop_of_length_le (by omega)]; rfl
noncomputable def ord (L : List Cls) (c : Int) : List Int := (mro (bsOf L) 8 c).getD []
open Classical in
noncomputable def AF (L : List Cls) (c : Int) (s : ByteArray) : Option (Atr × Int) := if CO L ∧ 0 ≤ c ∧ c < L.length then fc L s (ord L c) else none
theorem BO_some {bs : LL} (h : BO bs) {c : Int} (h0 : 0 ≤ c) (h1 : c < bs.length) : ∃ l, mro bs 8 c = some l := by
  have := h.2 c.toNat (by omega) (by omega)
  rw [show ((c.toNat : Nat) : Int) = c by omega] at this
  exact Option.isSome_iff_exists.1 this
theorem ord_ok {L : List Cls} {c : Int} (hc : CO L) (h0 : 0 ≤ c) (h1 : c < L.length) : mro (bsOf L) 8 c = some (ord L c) ∧ (ord L c).length ≤ 20000000 ∧ ∀ d ∈ ord L c, 0 ≤ d ∧ d < L.length := by
  obtain ⟨l, hl⟩ := BO_some hc.1 h0 (by simpa using h1)
  have e : ord L c = l := by unfold ord; rw [hl]; rfl
  rw [e]
  obtain ⟨h2, h3⟩ := mro_some 8 c l hl h0
  exact ⟨hl, by omega, fun d hd => by have := h3 d hd; exact ⟨this.1, by omega⟩⟩
abbrev enF (o : Option (Atr × Int)) : (ByteArray × (Int × (Int × Unit))) × (Int × (Bool × Unit)) := match o with | some (a, d) => (enA a, (d, (true, ()))) | none => (enA dA, (0, (false, ())))
theorem afI {n : Nat} {L : List Cls} {c : Int} {s : ByteArray} (hn : 30000000 ≤ n) (sz : SZ L) : F17 n L c s = some (enF (AF L c s), ()) := by
  have hlen := sz.len
  unfold F17
  rw [coI hn sz]
  simp only [ats]
  unfold AF
  by_cases h : CO L
  case neg => rw [nB h, if_neg (fun hh => h hh.1)]
  rw [nBn h, bsI hn (by omega)]
  simp only [ats]
  have h8 : (bsOf L).length ≤ 8 := h.1.1
  by_cases hr : 0 ≤ c ∧ c < L.length
  case neg =>
    rw [if_neg (fun hh => hr hh.2), mroIx hn (by simp; omega)]; rfl
  obtain ⟨o1, o2, o3⟩ := ord_ok h hr.1 hr.2
  rw [if_pos ⟨h, hr⟩, mroI8 hn h8 hr.1 (by simpa using hr.2), o1]
  simp only [ats, enR, Option.isSome_some, Option.getD_some, Bool.not_true, cf]
  unfold F17_0
  have e := fcI_it (n := n) (L := L) (s := s) (x := ({ data := #[] } : ByteArray)) (y := 0) (z := 0) (k0 := fun z1574 z1575 z1576 z1577 z1578 =>
    some (((z1576, (z1577, (z1578, ()))), (z1574, (z1575, ()))), ())) (k1 := fun z1579 z1580 z1581 => some (((({ data := #[] } : ByteArray), ((0 : Int), ((0 : Int), ()))), ((0 : Int), (false, ()))), ())) hn sz o2 o3 n 0 (by omega) (by omega)
  rw [Int.natCast_zero] at e
  rw [e, List.drop_zero]
  cases fc L s (ord L c) with
  | none => rfl
  | some p => rfl
theorem fc_mem {L : List Cls} {s : ByteArray} {a : Atr} {d : Int} : ∀ {o : List Int}, fc L s o = some (a, d) → d ∈ o ∧ fa s (L.getD d.toNat dC).attrs = some a
  | b :: r, h => by
    simp only [fc] at h
    split at h
    · rename_i a' ha; cases h; exact ⟨by simp, ha⟩
    · have := fc_mem h; exact ⟨by simp [this.1], this.2⟩
abbrev enG (o : Option (Atr × Int)) : (ByteArray × (Int × (Int × Unit))) × (Int × Unit) := match o with | some (a, d) => (enA a, (d, ())) | none => (enA dA, (-1, ()))
theorem ffS {n : Nat} {L : List Cls} {c : Int} {s : ByteArray} (hn : 30000000 ≤ n) (sz : SZ L) (h : CO L) (h0 : 0 ≤ c) (h1 : c < L.length) : F48 n L c s = some (enG (AF L c s), ()) := by
  have hlen := sz.len
  unfold F48
  rw [bsS hn (by omega)]
  simp only [ats]
  obtain ⟨o1, o2, o3⟩ := ord_ok h h0 h1
  rw [mroS8 hn h.1.1 (BO_vb h.1) h0 (by simpa using h1), o1]
  simp only [ats, enR, Option.isSome_some, Option.getD_some]
  unfold F48_0
  have e := fcS_it (n := n) (L := L) (s := s) (x := ({ data := #[] } : ByteArray)) (y := 0) (z := 0) (k0 := fun z1635 z1636 z1637 z1638 =>
    some (((z1636, (z1637, (z1638, ()))), (z1635, ())), ())) (k1 := fun z1639 z1640 z1641 => some (((({ data := #[] } : ByteArray), ((0 : Int), ((0 : Int), ()))), ((-1 : Int), ())), ())) hn sz o2 o3 n 0 (by omega) (by omega)
  rw [Int.natCast_zero] at e
  rw [e, List.drop_zero]
  unfold AF
  rw [if_pos ⟨h, h0, h1⟩]
  cases fc L s (ord L c) with
  | none => rfl
  | some p => rfl
theorem AF_rng {L : List Cls} {c d : Int} {s : ByteArray} {a : Atr} (h : AF L c s = some (a, d)) : CO L ∧ (0 ≤ c ∧ c < L.length) ∧ d ∈ ord L c ∧ (0 ≤ d ∧ d < L.length) ∧ fa s (L.getD d.toNat dC).attrs = some a := by
  unfold AF at h
  split at h
  · rename_i g
    obtain ⟨h1, h2⟩ := fc_mem h
    exact ⟨g.1, g.2, h1, (ord_ok g.1 g.2.1 g.2.2).2.2 d h1, h2⟩
  · cases h
theorem afS {n : Nat} {L : List Cls} {c : Int} {s : ByteArray} (hn : 30000000 ≤ n) (sz : SZ L) : F18 n L c s = some (enF (AF L c s), ()) := by
  have hlen := sz.len
  unfold F18
  rw [coS hn sz]
  simp only [ats]
  by_cases h : CO L
  case neg => rw [nB h]; unfold AF; rw [if_neg (fun hh => h hh.1)]
  rw [nBn h, rangeS, wp (by omega)]
  simp only [ats]
  by_cases hr : 0 ≤ c ∧ c ≤ (L.length : Int) - 1
  case neg => rw [np hr]; unfold AF; rw [if_neg (fun hh => hr ⟨hh.2.1, by have := hh.2.2; omega⟩)]
  rw [nn hr, ffS hn sz h hr.1 (by omega)]
  simp only [ats]
  cases hf : AF L c s with
  | none => simp only [enG]; rw [bp (by omega)]
  | some p =>
    obtain ⟨a, d⟩ := p
    have := (AF_rng hf).2.2.2.1
    simp only [enG]; rw [bn (by omega)]

-- reading ---------------------------------------------------------------------------------------------------------------------------------
open Classical in
noncomputable def AG (L : List Cls) (c : Int) (own : List Atr) (s : ByteArray) : Option (Int × Int) :=
  if CO L ∧ PL own ∧ 0 ≤ c ∧ c < L.length then
    match AF L c s, fa s own with
    | some (a, _), o => if a.kind = 3 then some (3, a.val) else match o with
      | some b => some (1, b.val)
      | none => if a.kind = 2 then some (2, a.val) else some (4, a.val)
    | none, some b => some (1, b.val)
    | none, none => none
  else none
abbrev en2 (o : Option (Int × Int)) : (Int × (Int × Unit)) × (Bool × Unit) := match o with | some (k, v) => ((k, (v, ())), (true, ())) | none => ((0, (0, ())), (false, ()))
structure SO (l : List Atr) : Prop where
  len : l.length ≤ 1048576
  nl : ∀ a ∈ l, a.name.size ≤ 1048576
theorem agI {n : Nat} {L : List Cls} {c : Int} {own : List Atr} {s : ByteArray} (hn : 30000000 ≤ n) (sz : SZ L) (so : SO own) : F24 n L c own s = some (en2 (AG L c own s), ()) := by
  have hlen := sz.len
  have hol := so.len
  unfold F24
  rw [coI hn sz]
  simp only [ats]
  by_cases h : CO L
  case neg => rw [nB h]; unfold AG; rw [if_neg (fun hh => h hh.1)]
  rw [nBn h, plI hn so.len]
  simp only [ats]
  by_cases hp : PL own
  case neg => rw [nB hp]; unfold AG; rw [if_neg (fun hh => hp hh.2.1)]
  rw [nBn hp]
  by_cases h0 : c < 0
  · rw [bp h0]; unfold AG; rw [if_neg (fun hh => by have := hh.2.2.1; omega)]
  rw [bn h0]
  by_cases h1 : c ≥ L.length
  · rw [bp h1]; unfold AG; rw [if_neg (fun hh => by have := hh.2.2.2; omega)]
  rw [bn h1, afI hn sz]
  simp only [ats]
  unfold AG
  rw [if_pos ⟨h, hp, by omega, by omega⟩]
  cases hf : AF L c s with
  | none =>
    simp only [enF, cf]
    rw [nmI hn (by omega)]
    simp only [ats]
    cases fa s own with
    | none => rfl
    | some b => rfl
  | some p =>
    obtain ⟨a, d⟩ := p
    simp only [enF, ct, Bool.not_true, cf]
    by_cases hk : a.kind = 3
    · rw [eqp hk, if_pos hk]
    · rw [eqn hk, if_neg hk, nmI hn (by omega)]
      simp only [ats]
      cases fa s own with
      | some b => rfl
      | none =>
        simp only [Option.isSome_none, cf]
        by_cases hk2 : a.kind = 2
        · rw [eqp hk2, if_pos hk2]
        · rw [eqn hk2, if_neg hk2]
theorem agS {n : Nat} {L : List Cls} {c : Int} {own : List Atr} {s : ByteArray} (hn : 30000000 ≤ n) (sz : SZ L) (so : SO own) : F25 n L c own s = some (en2 (AG L c own s), ()) := by
  have hlen := sz.len
  have hol := so.len
  unfold F25
  rw [coS hn sz]
  simp only [ats]
  by_cases h : CO L
  case neg => rw [nB h]; unfold AG; rw [if_neg (fun hh => h hh.1)]
  rw [nBn h, rangeS, wp (by omega)]
  simp only [ats]
  by_cases hr : 0 ≤ c ∧ c ≤ (L.length : Int) - 1
  case neg => rw [np hr]; unfold AG; rw [if_neg (fun hh => hr ⟨hh.2.2.1, by have := hh.2.2.2; omega⟩)]
  rw [nn hr, plS hn so.len so.nl]
  simp only [ats]
  by_cases hp : PL own
  case neg => rw [nB hp]; unfold AG; rw [if_neg (fun hh => hp hh.2.1)]
  rw [nBn hp, ffS hn sz h hr.1 (by omega)]
  simp only [ats]
  unfold AG
  rw [if_pos ⟨h, hp, by omega, by omega⟩]
  rcases ixS (n := n) (l := own) (s := s) hn (by omega) with ⟨j, j1, j2, j3, j4⟩ | ⟨j1, j2⟩
  · rw [j4, j2]
    simp only [ats]
    cases hf : AF L c s with
    | none =>
      simp only [enG]
      rw [bn (by omega), bp (by omega), bp (by omega), bp (by omega)]; rfl
    | some p =>
      obtain ⟨a, d⟩ := p
      have hd := (AF_rng hf).2.2.2.1
      simp only [enG]
      rw [bp (by omega)]
      by_cases hk : a.kind = 3
      · rw [eqp hk, if_pos hk]
      · rw [eqn hk, if_neg hk, bp (by omega), bp (by omega), bp (by omega)]; rfl
  · rw [j2, j1]
    simp only [ats]
    cases hf : AF L c s with
    | none =>
      simp only [enG]
      rw [bn (by omega), bn (by omega), bn (by omega), bn (by omega)]
    | some p =>
      obtain ⟨a, d⟩ := p
      have hd := (AF_rng hf).2.2.2.1
      simp only [enG]
      rw [bp (by omega)]
      by_cases hk : a.kind = 3
      · rw [eqp hk, if_pos hk]
      · rw [eqn hk, if_neg hk, bn (by omega), bp (by omega)]
        by_cases hk2 : a.kind = 2
        · rw [eqp hk2, if_pos hk2]
        · rw [eqn hk2, if_neg hk2, bp (by omega)]
end Go.Proofs.Ytehcejlbfngfdaa.Am
