/- Classes: valid attributes, valid classes. -/
import Derived.Test.YtehcejlbfngfdaaAmClassD
namespace Go.Proofs.Ytehcejlbfngfdaa.Am
open Go
set_option autoImplicit false
set_option linter.unusedVariables false
set_option linter.unusedSimpArgs false

abbrev dA : Atr := Atr.mk ({ data := #[] } : ByteArray) (0 : Int) (0 : Int)
abbrev dC : Cls := Cls.mk [] []
def AT (a : Atr) : Prop := NM a.name ∧ (1 ≤ a.kind ∧ a.kind ≤ 3) ∧ (-1000000 ≤ a.val ∧ a.val ≤ 1000000)
def fresh (l : List Atr) (s : ByteArray) : Prop := ∀ b ∈ l, b.name ≠ s
def aj (l : List Atr) (j : Nat) : Prop := AT (l.getD j dA) ∧ fresh (l.take j) (l.getD j dA).name
def AOK (l : List Atr) : Prop := (∀ j, 0 ≤ j → j < l.length → aj l j) ∧ l.length ≤ 60
def PL (l : List Atr) : Prop := AOK l ∧ ∀ a ∈ l, a.kind = 1

theorem gmem {α : Type} {A : List α} {m d : α} : m ∈ A ↔ ∃ j, j < A.length ∧ A.getD j d = m := by
  constructor
  · intro hm
    obtain ⟨j, hj, e⟩ := List.getElem_of_mem hm
    exact ⟨j, hj, by rw [getD_lt hj]; exact e⟩
  · rintro ⟨j, h2, h3⟩
    rw [getD_lt h2] at h3; rw [← h3]; exact List.getElem_mem _
theorem withI {n : Nat} {v a b : Int} : F56 n v a b = some (decide (a ≤ v ∧ v ≤ b), ()) := by
  unfold F56
  by_cases h : v ≥ a
  · rw [bp h]
    by_cases h2 : v ≤ b
    · rw [decide_eq_true h2, decide_eq_true ⟨h, h2⟩]
    · rw [decide_eq_false h2, decide_eq_false (fun hh => h2 hh.2)]
  · rw [bn h, decide_eq_false (fun hh => h hh.1)]
theorem ai_it {R : Type} {n : Nat} {l : List Atr} {s : ByteArray} {kd vl : Int} {k0 : Int → ByteArray → Int → Int → Option R} {k1 : ByteArray → Int → Int → Option R} (h : l.length ≤ 20000000) : ∀ (fuel i : Nat), i ≤ l.length → l.length + 1 ≤ fuel + i →
    (∃ j : Nat, j < l.length ∧ i ≤ j ∧ (l.getD j dA).name = s ∧ F83_0_it n k0 k1 fuel l l.length i s kd vl = k0 j s kd vl) ∨ ((∀ j, i ≤ j → j < l.length → (l.getD j dA).name ≠ s) ∧ F83_0_it n k0 k1 fuel l l.length i s kd vl = k1 s kd vl)
  | fuel, i, hi, hfl => by
    obtain ⟨f, rfl⟩ : ∃ f, fuel = f + 1 := ⟨fuel - 1, by omega⟩
    simp only [F83_0_it, F83_0_step, F62]
    by_cases g : i < l.length
    · rw [bp (by omega), bp (by omega), bp (by omega), show ((i : Nat) : Int).toNat = i by omega, wp (by omega)]
      simp only [ats]
      rw [keq]
      by_cases g2 : (l.getD i dA).name = s
      · rw [bp g2]; exact .inl ⟨i, g, Nat.le_refl _, g2, rfl⟩
      · rw [bn g2]
        rcases ai_it (n := n) (s := s) (kd := kd) (vl := vl) (k0 := k0) (k1 := k1) h f (i + 1) (by omega) (by omega) with ⟨j, j1, j2, j3, j4⟩ | ⟨j1, j2⟩
        · exact .inl ⟨j, j1, by omega, j3, j4⟩
        · refine .inr ⟨fun j h1 h2 => ?_, j2⟩
          by_cases e : i = j
          · subst e; exact g2
          · exact j1 j (by omega) h2
    · rw [bn (by omega)]; exact .inr ⟨fun j h1 h2 => by omega, rfl⟩
theorem asI {n : Nat} {l : List Atr} {s : ByteArray} {kd vl : Int} (hn : 30000000 ≤ n) (h : l.length ≤ 20000000) : F61 n l s kd vl = some (B (¬ fresh l s), ((s, (kd, (vl, ()))), ())) := by
  unfold F61 F83 F83_0
  rcases ai_it (n := n) (s := s) (kd := kd) (vl := vl) (k0 := fun z825 z826 z827 z828 => some (z825, ((z826, (z827, (z828, ()))), ()))) (k1 := fun z829 z830 z831 => some ((-1 : Int), ((z829, (z830, (z831, ()))), ()))) h n 0 (by omega) (by omega) with ⟨j, j1, j2, j3, j4⟩ | ⟨j1, j2⟩
  · rw [show ((0 : Int)) = ((0 : Nat) : Int) from rfl, j4]
    simp only [ats]
    rw [B_t (fun hh => hh _ (gmem.2 ⟨j, j1, rfl⟩) j3), decide_eq_true (by omega)]
  · rw [show ((0 : Int)) = ((0 : Nat) : Int) from rfl, j2]
    simp only [ats]
    rw [B_f (fun hh => hh fun b hb => by obtain ⟨j, h1, h2⟩ := (gmem (d := dA)).1 hb; rw [← h2]; exact j1 j (by omega) h1)]
    rfl
theorem cB {α : Type} {p : Prop} {a b : α} (h : p) : (bif B p then a else b) = a := by rw [B_t h]; rfl
theorem cBn {α : Type} {p : Prop} {a b : α} (h : ¬ p) : (bif B p then a else b) = b := by rw [B_f h]; rfl
theorem nB {α : Type} {p : Prop} {a b : α} (h : ¬ p) : (bif !(B p) then a else b) = a := by rw [B_f h]; rfl
theorem nBn {α : Type} {p : Prop} {a b : α} (h : p) : (bif !(B p) then a else b) = b := by rw [B_t h]; rfl

open Classical in
theorem aoI_it {R : Type} {n : Nat} {l : List Atr} {p : Bool} {k0 : Bool → Option R} {k1 : Option R} (hn : 30000000 ≤ n) (h : l.length ≤ 60) : ∀ (fuel i : Nat), i ≤ l.length → l.length + 1 ≤ fuel + i →
    F37_0_it n k0 k1 fuel l p l l.length i = if ∀ j, i ≤ j → j < l.length → (aj l j ∧ (p = true → (l.getD j dA).kind = 1)) then k1 else k0 false
  | fuel, i, hi, hfl => by
    obtain ⟨f, rfl⟩ : ∃ f, fuel = f + 1 := ⟨fuel - 1, by omega⟩
    simp only [F37_0_it, F37_0_step]
    by_cases g : i < l.length
    · rw [bp (by omega), bp (by omega), bp (by omega), show ((i : Nat) : Int).toNat = i by omega, nameI (by omega), propext (all_step g)]
      simp only [ats]
      by_cases g1 : NM (l.getD i dA).name
      case neg => rw [nB g1, if_neg (fun hh => g1 hh.1.1.1.1)]
      rw [nBn g1, withI]
      simp only [ats]
      by_cases g2 : 1 ≤ (l.getD i dA).kind ∧ (l.getD i dA).kind ≤ 3
      case neg => rw [np g2, if_neg (fun hh => g2 hh.1.1.1.2.1)]
      rw [nn g2]
      have last : ∀ (hk : p = true → (l.getD i dA).kind = 1), (andThen (F56 n (l.getD i dA).val (-1000000) 1000000) fun r793 =>
          (bif (!r793.1) then (k0 false) else (bif (decide ((0 : Int) ≤ i)) then (bif (decide ((i : Int) ≤ ((l.length) : Int))) then
          (andThen (F61 n ((l.take i).drop 0) (l.getD i dA).name (l.getD i dA).kind (l.getD i dA).val) fun r834 =>
          (bif r834.1 then (k0 false) else (F37_0_it n k0 k1 f l p l l.length (IntKind.wrap .i64 ((i : Int) + 1))))) else none) else none))) =
          @ite _ ((aj l i ∧ (p = true → (l.getD i dA).kind = 1)) ∧ ∀ j, i + 1 ≤ j → j < l.length → (aj l j ∧ (p = true → (l.getD j dA).kind = 1))) (Classical.propDecidable _) k1 (k0 false) := by
        intro hk
        rw [withI]
        simp only [ats]
        by_cases g3 : -1000000 ≤ (l.getD i dA).val ∧ (l.getD i dA).val ≤ 1000000
        case neg => rw [np g3, if_neg (fun hh => g3 hh.1.1.1.2.2)]
        rw [nn g3, bp (by omega), bp (by omega), List.drop_zero, asI hn (by simp; omega)]
        simp only [ats]
        by_cases g4 : fresh (l.take i) (l.getD i dA).name
        case neg => rw [cB g4, if_neg (fun hh => g4 hh.1.1.2)]
        rw [cBn (fun hh => hh g4), wp (by omega), show ((i : Int) + 1) = ((i + 1 : Nat) : Int) by omega, aoI_it (k0 := k0) (k1 := k1) hn h f (i + 1) (by omega) (by omega)]
        by_cases ga : ∀ j, i + 1 ≤ j → j < l.length → (aj l j ∧ (p = true → (l.getD j dA).kind = 1))
        · rw [if_pos ga, if_pos ⟨⟨⟨⟨g1, g2, g3⟩, g4⟩, hk⟩, ga⟩]
        · rw [if_neg ga, if_neg (fun hh => ga hh.2)]
      cases p with
      | true =>
        rw [ct]
        by_cases g5 : (l.getD i dA).kind = 1
        · rw [nen g5]; exact last fun _ => g5
        · rw [nep g5, if_neg (fun hh => g5 (hh.1.2 rfl))]
      | false =>
        rw [cf]
        exact last fun h => by cases h
    · rw [bn (by omega), if_pos (fun j h1 h2 => by omega)]
theorem aoI {n : Nat} {l : List Atr} {p : Bool} (hn : 30000000 ≤ n) (hl : l.length ≤ 1048576) : F37 n l p = some (B (AOK l ∧ (p = true → ∀ a ∈ l, a.kind = 1)), ()) := by
  unfold F37 F37_0
  by_cases h : l.length ≤ 60
  · rw [bn (by omega), show ((0 : Int)) = ((0 : Nat) : Int) from rfl, aoI_it (n := n) hn h n 0 (by omega) (by omega)]
    split
    · rename_i g
      rw [B_t (p := AOK l ∧ (p = true → ∀ a ∈ l, a.kind = 1)) ⟨⟨fun j h0 h1 => (g j h0 h1).1, h⟩, fun hp a ha => by
        obtain ⟨j, h1, h2⟩ := (gmem (d := dA)).1 ha
        rw [← h2]; exact (g j (by omega) h1).2 hp⟩]
    · rename_i g
      rw [B_f (p := AOK l ∧ (p = true → ∀ a ∈ l, a.kind = 1)) (fun hh => g fun j h0 h1 => ⟨hh.1.1 j h0 h1, fun hp => hh.2 hp _ (gmem.2 ⟨j, h1, rfl⟩)⟩)]
  · rw [bp (by omega), B_f (p := AOK l ∧ (p = true → ∀ a ∈ l, a.kind = 1)) (fun hh => h hh.1.2)]
theorem fresh_take {l : List Atr} {i : Nat} {s : ByteArray} (hi : i ≤ l.length) : (∀ q, 0 ≤ q → q < i → (l.getD q dA).name ≠ s) ↔ fresh (l.take i) s := by
  constructor
  · intro h b hb
    obtain ⟨j, h1, h2⟩ := (gmem (d := dA)).1 hb
    simp at h1
    have e : (l.take i).getD j dA = l.getD j dA := by rw [getD_lt (by simp; omega), getD_lt (by omega)]; simp
    rw [← h2, e]
    exact h j (by omega) (by omega)
  · intro h q h0 h1
    refine h _ ((gmem (d := dA)).2 ⟨q, by simp; omega, ?_⟩)
    rw [getD_lt (by simp; omega), getD_lt (by omega)]; simp
open Classical in
theorem frS_it {R : Type} {n : Nat} {l : List Atr} {s : ByteArray} {kd vl : Int} {i : Nat} {k0 : Bool → Option R} {k1 : List Atr → Int → Option R} (h : l.length ≤ 20000000) (hi : i ≤ l.length) : ∀ (fuel q : Nat), q ≤ i → i + 1 ≤ fuel + q →
    F64_0_it n k0 k1 fuel l i q s kd vl = if ∀ j, q ≤ j → j < i → (l.getD j dA).name ≠ s then k1 l i else k0 false
  | fuel, q, hq, hfl => by
    obtain ⟨f, rfl⟩ : ∃ f, fuel = f + 1 := ⟨fuel - 1, by omega⟩
    simp only [F64_0_it, F64_0_step]
    by_cases g : q < i
    · rw [bp (by omega), bp (by omega), bp (by omega), show ((q : Nat) : Int).toNat = q by omega, keq, propext (all_step g)]
      by_cases g1 : (l.getD q dA).name = s
      · rw [bp g1, if_neg (fun hh => hh.1 g1)]
      · rw [bn g1, wp (by omega), show ((q : Int) + 1) = ((q + 1 : Nat) : Int) by omega, frS_it (k0 := k0) (k1 := k1) h hi f (q + 1) (by omega) (by omega)]
        by_cases ga : ∀ j, q + 1 ≤ j → j < i → (l.getD j dA).name ≠ s
        · rw [if_pos ga, if_pos ⟨g1, ga⟩]
        · rw [if_neg ga, if_neg (fun hh => ga hh.2)]
    · rw [bn (by omega), if_pos (fun j h1 h2 => by omega)]
open Classical in
theorem aoS_it {R : Type} {n : Nat} {l : List Atr} {k0 : Bool → Option R} {k1 : List Atr → Option R} (hn : 30000000 ≤ n) (h : l.length ≤ 20000000) (hs : ∀ a ∈ l, a.name.size ≤ 1048576) : ∀ (fuel i : Nat), i ≤ l.length → l.length + 1 ≤ fuel + i →
    F64_1_it n k0 k1 fuel l i = if ∀ j, i ≤ j → j < l.length → aj l j then k1 l else k0 false
  | fuel, i, hi, hfl => by
    obtain ⟨f, rfl⟩ : ∃ f, fuel = f + 1 := ⟨fuel - 1, by omega⟩
    simp only [F64_1_it, F64_1_step]
    by_cases g : i < l.length
    · rw [bp (by omega), bp (by omega), bp (by omega), show ((i : Nat) : Int).toNat = i by omega, nameS (by omega) (hs _ (gmem.2 ⟨i, g, rfl⟩)), propext (all_step g)]
      simp only [ats]
      by_cases g1 : NM (l.getD i dA).name
      case neg => rw [nB g1, if_neg (fun hh => g1 hh.1.1.1)]
      rw [nBn g1, rangeS]
      simp only [ats]
      by_cases g2 : 1 ≤ (l.getD i dA).kind ∧ (l.getD i dA).kind ≤ 3
      case neg => rw [np g2, if_neg (fun hh => g2 hh.1.1.2.1)]
      rw [nn g2, rangeS]
      simp only [ats]
      by_cases g3 : -1000000 ≤ (l.getD i dA).val ∧ (l.getD i dA).val ≤ 1000000
      case neg => rw [np g3, if_neg (fun hh => g3 hh.1.1.2.2)]
      unfold F64_0
      have e0 := frS_it (n := n) (s := (l.getD i dA).name) (kd := (l.getD i dA).kind) (vl := (l.getD i dA).val) (k0 := fun z1286 => k0 z1286) (k1 := fun z1287 z1288 => F64_1_it n k0 k1 f z1287 (IntKind.wrap .i64 (z1288 + (1 : Int)))) h (show i ≤ l.length by omega) n 0 (by omega) (by omega)
      rw [Int.natCast_zero] at e0
      rw [nn g3, e0]
      by_cases g4 : fresh (l.take i) (l.getD i dA).name
      case neg => rw [if_neg (fun hh => g4 ((fresh_take (by omega)).1 hh)), if_neg (fun hh => g4 hh.1.2)]
      rw [if_pos ((fresh_take (by omega)).2 g4), wp (by omega), show ((i : Int) + 1) = ((i + 1 : Nat) : Int) by omega, aoS_it (k0 := k0) (k1 := k1) hn h hs f (i + 1) (by omega) (by omega)]
      by_cases ga : ∀ j, i + 1 ≤ j → j < l.length → aj l j
      · rw [if_pos ga, if_pos ⟨⟨⟨g1, g2, g3⟩, g4⟩, ga⟩]
      · rw [if_neg ga, if_neg (fun hh => ga hh.2)]
    · rw [bn (by omega), if_pos (fun j h1 h2 => by omega)]
theorem aoS {n : Nat} {l : List Atr} (hn : 30000000 ≤ n) (h : l.length ≤ 1048576) (hs : ∀ a ∈ l, a.name.size ≤ 1048576) : F64 n l = some (B (AOK l), ()) := by
  unfold F64 F64_1
  rw [show ((0 : Int)) = ((0 : Nat) : Int) from rfl, aoS_it (n := n) hn (by omega) hs n 0 (by omega) (by omega)]
  split
  · rename_i g
    by_cases h6 : l.length ≤ 60
    · rw [decide_eq_true (by omega), B_t (p := AOK l) ⟨g, h6⟩]
    · rw [decide_eq_false (by omega), B_f (p := AOK l) (fun hh => h6 hh.2)]
  · rename_i g; rw [B_f (p := AOK l) (fun hh => g hh.1)]
open Classical in
theorem plS_it {R : Type} {n : Nat} {l : List Atr} {k0 : Bool → Option R} {k1 : List Atr → Option R} (h : l.length ≤ 20000000) : ∀ (fuel i : Nat), i ≤ l.length → l.length + 1 ≤ fuel + i →
    F53_0_it n k0 k1 fuel l i = if ∀ j, i ≤ j → j < l.length → (l.getD j dA).kind = 1 then k1 l else k0 false
  | fuel, i, hi, hfl => by
    obtain ⟨f, rfl⟩ : ∃ f, fuel = f + 1 := ⟨fuel - 1, by omega⟩
    simp only [F53_0_it, F53_0_step]
    by_cases g : i < l.length
    · rw [bp (by omega), bp (by omega), bp (by omega), show ((i : Nat) : Int).toNat = i by omega, propext (all_step g)]
      by_cases g1 : (l.getD i dA).kind = 1
      · rw [nen g1, wp (by omega), show ((i : Int) + 1) = ((i + 1 : Nat) : Int) by omega, plS_it (k0 := k0) (k1 := k1) h f (i + 1) (by omega) (by omega)]
        by_cases ga : ∀ j, i + 1 ≤ j → j < l.length → (l.getD j dA).kind = 1
        · rw [if_pos ga, if_pos ⟨g1, ga⟩]
        · rw [if_neg ga, if_neg (fun hh => ga hh.2)]
      · rw [nep g1, if_neg (fun hh => g1 hh.1)]
    · rw [bn (by omega), if_pos (fun j h1 h2 => by omega)]
theorem plS {n : Nat} {l : List Atr} (hn : 30000000 ≤ n) (h : l.length ≤ 1048576) (hs : ∀ a ∈ l, a.name.size ≤ 1048576) : F53 n l = some (B (PL l), ()) := by
  unfold F53 F53_0
  rw [show ((0 : Int)) = ((0 : Nat) : Int) from rfl, plS_it (n := n) (by omega) n 0 (by omega) (by omega)]
  split
  · rename_i g
    rw [aoS hn h hs]
    simp only [ats]
    have : AOK l ↔ PL l := ⟨fun hh => ⟨hh, fun a ha => by obtain ⟨j, h1, h2⟩ := (gmem (d := dA)).1 ha; rw [← h2]; exact g j (by omega) h1⟩, fun hh => hh.1⟩
    rw [B_congr this]
  · rename_i g; rw [B_f (p := PL l) (fun hh => g fun j _ h1 => hh.2 _ (gmem.2 ⟨j, h1, rfl⟩))]
theorem plI {n : Nat} {l : List Atr} (hn : 30000000 ≤ n) (hl : l.length ≤ 1048576) : F37 n l true = some (B (PL l), ()) := by
  rw [aoI hn hl]
  have : (AOK l ∧ (true = true → ∀ a ∈ l, a.kind = 1)) ↔ PL l := ⟨fun h => ⟨h.1, h.2 rfl⟩, fun h => ⟨h.1, fun _ => h.2⟩⟩
  rw [B_congr this]

-- classes ---------------------------------------------------------------------------------------------------------------------------
structure SZ (L : List Cls) : Prop where
  len : L.length ≤ 1048576
  bl : ∀ c ∈ L, c.bases.length ≤ 1048576
  al : ∀ c ∈ L, c.attrs.length ≤ 1048576
  nl : ∀ c ∈ L, ∀ a ∈ c.attrs, a.name.size ≤ 1048576
abbrev bsOf (L : List Cls) : LL := L.map Cls.bases
def CO (L : List Cls) : Prop := BO (bsOf L) ∧ ∀ c ∈ L, AOK c.attrs

theorem bsI_it {R : Type} {n : Nat} {L : List Cls} {k0 : LL → Option R} (h : L.length ≤ 20000000) : ∀ (fuel i : Nat) (acc : LL), i ≤ L.length → L.length + 1 ≤ fuel + i → acc.length ≤ i →
    F34_0_it n k0 fuel L L.length i acc = k0 (acc ++ bsOf (L.drop i))
  | fuel, i, acc, hi, hfl, ha => by
    obtain ⟨f, rfl⟩ : ∃ f, fuel = f + 1 := ⟨fuel - 1, by omega⟩
    simp only [F34_0_it, F34_0_step]
    by_cases g : i < L.length
    · rw [bp (by omega), bp (by omega), bp (by omega), bp (by simp; omega), show ((i : Nat) : Int).toNat = i by omega, wp (by omega), show ((i : Int) + 1) = ((i + 1 : Nat) : Int) by omega, bsI_it (k0 := k0) h f (i + 1) _ (by omega) (by omega) (by simp; omega), drop_cons (d := dC) g]
      simp
    · rw [bn (by omega), List.drop_of_length_le (by omega)]; simp
theorem bsI {n : Nat} {L : List Cls} (hn : 30000000 ≤ n) (h : L.length ≤ 20000000) : F34 n L = some (bsOf L, ()) := by
  unfold F34 F34_0
  rw [show ((0 : Int)) = ((0 : Nat) : Int) from rfl, bsI_it (n := n) h n 0 [] (by omega) (by omega) (by simp)]; simp
theorem bsS_it {R : Type} {n : Nat} {L : List Cls} {k0 : LL → Option R} (h : L.length ≤ 20000000) : ∀ (fuel i : Nat) (acc : LL), i ≤ L.length → L.length + 1 ≤ fuel + i → acc.length ≤ i →
    F50_0_it n k0 fuel L i acc = k0 (acc ++ bsOf (L.drop i))
  | fuel, i, acc, hi, hfl, ha => by
    obtain ⟨f, rfl⟩ : ∃ f, fuel = f + 1 := ⟨fuel - 1, by omega⟩
    simp only [F50_0_it, F50_0_step]
    by_cases g : i < L.length
    · rw [bp (by omega), bp (by omega), bp (by omega), bp (by simp; omega), show ((i : Nat) : Int).toNat = i by omega, wp (by omega), show ((i : Int) + 1) = ((i + 1 : Nat) : Int) by omega, bsS_it (k0 := k0) h f (i + 1) _ (by omega) (by omega) (by simp; omega), drop_cons (d := dC) g]
      simp
    · rw [bn (by omega), List.drop_of_length_le (by omega)]; simp
theorem bsS {n : Nat} {L : List Cls} (hn : 30000000 ≤ n) (h : L.length ≤ 20000000) : F50 n L = some (bsOf L, ()) := by
  unfold F50 F50_0
  rw [show ((0 : Int)) = ((0 : Nat) : Int) from rfl, bsS_it (n := n) h n 0 [] (by omega) (by omega) (by simp)]; simp
theorem coI_it {R : Type} {n : Nat} {L : List Cls} {k0 : Int → Option R} {k1 : Option R} (hn : 30000000 ≤ n) (sz : SZ L) : ∀ (fuel i : Nat), i ≤ L.length → L.length + 1 ≤ fuel + i →
    (∃ j : Nat, j < L.length ∧ i ≤ j ∧ ¬ AOK (L.getD j dC).attrs ∧ F60_0_it n k0 k1 fuel L L.length i = k0 j) ∨ ((∀ j, i ≤ j → j < L.length → AOK (L.getD j dC).attrs) ∧ F60_0_it n k0 k1 fuel L L.length i = k1)
  | fuel, i, hi, hfl => by
    obtain ⟨f, rfl⟩ : ∃ f, fuel = f + 1 := ⟨fuel - 1, by omega⟩
    have hlen := sz.len
    simp only [F60_0_it, F60_0_step, F36]
    by_cases g : i < L.length
    · rw [bp (by omega), bp (by omega), bp (by omega), show ((i : Nat) : Int).toNat = i by omega, wp (by omega), aoI hn (sz.al _ (gmem.2 ⟨i, g, rfl⟩))]
      simp only [ats]
      have e : (AOK (L.getD i dC).attrs ∧ (false = true → ∀ a ∈ (L.getD i dC).attrs, a.kind = 1)) ↔ AOK (L.getD i dC).attrs := ⟨fun h => h.1, fun h => ⟨h, fun h => by cases h⟩⟩
      rw [B_congr e]
      by_cases g2 : AOK (L.getD i dC).attrs
      · rw [nBn g2]
        rcases coI_it (n := n) (k0 := k0) (k1 := k1) hn sz f (i + 1) (by omega) (by omega) with ⟨j, j1, j2, j3, j4⟩ | ⟨j1, j2⟩
        · exact .inl ⟨j, j1, by omega, j3, j4⟩
        · refine .inr ⟨fun j h1 h2 => ?_, j2⟩
          by_cases e : i = j
          · subst e; exact g2
          · exact j1 j (by omega) h2
      · rw [nB g2]; exact .inl ⟨i, g, Nat.le_refl _, g2, rfl⟩
    · rw [bn (by omega)]; exact .inr ⟨fun j h1 h2 => by omega, rfl⟩
theorem coI {n : Nat} {L : List Cls} (hn : 30000000 ≤ n) (sz : SZ L) : F11 n L = some (B (CO L), ()) := by
  have hlen := sz.len
  unfold F11
  rw [bsI hn (by omega)]
  simp only [ats]
  rw [boI hn]
  simp only [ats]
  by_cases h : BO (bsOf L)
  · rw [nBn h]
    unfold F35 F60 F60_0
    rcases coI_it (n := n) (k0 := fun z846 => some (z846, ())) (k1 := some ((-1 : Int), ())) hn sz n 0 (by omega) (by omega) with ⟨j, j1, j2, j3, j4⟩ | ⟨j1, j2⟩
    · rw [show ((0 : Int)) = ((0 : Nat) : Int) from rfl, j4]
      simp only [ats]
      rw [decide_eq_true (by omega), B_f (p := CO L) (fun hh => j3 (hh.2 _ (gmem.2 ⟨j, j1, rfl⟩)))]; rfl
    · rw [show ((0 : Int)) = ((0 : Nat) : Int) from rfl, j2]
      simp only [ats]
      rw [B_t (p := CO L) ⟨h, fun c hc => by obtain ⟨j, h1, h2⟩ := (gmem (d := dC)).1 hc; rw [← h2]; exact j1 j (by omega) h1⟩]; rfl
  · rw [nB h, B_f (p := CO L) (fun hh => h hh.1)]
open Classical in
theorem coS_it {R : Type} {n : Nat} {L : List Cls} {k0 : Bool → Option R} {k1 : Option R} (hn : 30000000 ≤ n) (sz : SZ L) : ∀ (fuel i : Nat), i ≤ L.length → L.length + 1 ≤ fuel + i →
    F38_0_it n k0 k1 fuel L i = if ∀ j, i ≤ j → j < L.length → AOK (L.getD j dC).attrs then k1 else k0 false
  | fuel, i, hi, hfl => by
    obtain ⟨f, rfl⟩ : ∃ f, fuel = f + 1 := ⟨fuel - 1, by omega⟩
    have hlen := sz.len
    simp only [F38_0_it, F38_0_step]
    by_cases g : i < L.length
    · have hm := (gmem (d := dC)).2 ⟨i, g, rfl⟩
      rw [bp (by omega), bp (by omega), bp (by omega), show ((i : Nat) : Int).toNat = i by omega, aoS hn (sz.al _ hm) (sz.nl _ hm), propext (all_step g)]
      simp only [ats]
      by_cases g2 : AOK (L.getD i dC).attrs
      · rw [nBn g2, wp (by omega), show ((i : Int) + 1) = ((i + 1 : Nat) : Int) by omega, coS_it (k0 := k0) (k1 := k1) hn sz f (i + 1) (by omega) (by omega)]
        by_cases ga : ∀ j, i + 1 ≤ j → j < L.length → AOK (L.getD j dC).attrs
        · rw [if_pos ga, if_pos ⟨g2, ga⟩]
        · rw [if_neg ga, if_neg (fun hh => ga hh.2)]
      · rw [nB g2, if_neg (fun hh => g2 hh.1)]
    · rw [bn (by omega), if_pos (fun j h1 h2 => by omega)]
theorem coS {n : Nat} {L : List Cls} (hn : 30000000 ≤ n) (sz : SZ L) : F38 n L = some (B (CO L), ()) := by
  have hlen := sz.len
  unfold F38
  rw [bsS hn (by omega)]
  simp only [ats]
  rw [boS hn (by simp; omega) (fun l hl => by obtain ⟨c, hc, rfl⟩ := List.mem_map.1 hl; have := sz.bl c hc; omega)]
  simp only [ats]
  by_cases h : BO (bsOf L)
  · rw [nBn h]
    unfold F38_0
    rw [show ((0 : Int)) = ((0 : Nat) : Int) from rfl, coS_it (n := n) hn sz n 0 (by omega) (by omega)]
    split
    · rename_i g
      rw [B_t (p := CO L) ⟨h, fun c hc => by obtain ⟨j, h1, h2⟩ := (gmem (d := dC)).1 hc; rw [← h2]; exact g j (by omega) h1⟩]
    · rename_i g
      rw [B_f (p := CO L) (fun hh => g fun j _ h1 => hh.2 _ (gmem.2 ⟨j, h1, rfl⟩))]
  · rw [nB h, B_f (p := CO L) (fun hh => h hh.1)]
theorem coS' {n : Nat} {L : List Cls} (hn : 30000000 ≤ n) (sz : SZ L) : F12 n L = some (B (CO L), ()) := by
  unfold F12; rw [coS hn sz]; rfl
end Go.Proofs.Ytehcejlbfngfdaa.Am
