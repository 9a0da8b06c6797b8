/- Heaps, plainly: both tests of heaps agree. -/
import Derived.Test.YtfknenaecihchaaAmHepN
namespace Go.Proofs.Ytfknenaecihchaa.Am
open Go
set_option autoImplicit false
set_option linter.unusedVariables false
set_option linter.unusedSimpArgs false
set_option maxRecDepth 10000

abbrev v0 : Val := Val.mk (0 : Int) ({ data := #[] } : ByteArray) (0 : Int)
abbrev o0 : Obj := Obj.mk (0 : Int) ({ data := #[] } : ByteArray) (0 : Int) [] [] [] []
theorem e0 {i : Nat} : ((i : Nat) : Int).toNat = i := by omega
theorem e1 {i : Nat} : ((i : Int) + 1) = ((i + 1 : Nat) : Int) := by omega
theorem emd {s : ByteArray} : decide (s = ({ data := #[] } : ByteArray)) = decide (s.size = 0) := by
  apply decide_eq_decide.2
  constructor
  · intro h; rw [h]; rfl
  · intro h
    apply ByteArray.ext
    apply Array.toList_inj.1
    have : s.data.size = 0 := h
    rw [Array.size_eq_zero_iff.1 this]
theorem emp {s : ByteArray} : (s.toList == (({ data := #[] } : ByteArray).toList)) = decide (s.size = 0) := by rw [keq, emd]
theorem bbeq (s t : ByteArray) : (s == t) = decide (s = t) := by
  cases s; cases t
  rename_i a b
  show ByteArray.beq _ _ = _
  unfold ByteArray.beq
  by_cases h : a = b
  · subst h; simp
  · simp [h]
theorem emq {s : ByteArray} : (s == ({ data := #[] } : ByteArray)) = decide (s.size = 0) := by rw [← emd, bbeq]
theorem rangeI {n : Nat} {v a b : Int} : F47 n v a b = some (decide (a ≤ v ∧ v ≤ b), ()) := by
  unfold F47
  by_cases h : v ≥ a
  · rw [bp h, decide_eq_decide.2 (show v ≤ b ↔ (a ≤ v ∧ v ≤ b) by omega)]
  · rw [bn h, decide_eq_false (by omega)]

def GV (v : Val) : Prop := v.text.size ≤ 1000
structure GO (o : Obj) : Prop where
  i : o.items.length ≤ 60
  k : o.keys.length ≤ 60
  s : o.names.length ≤ 60
  v : o.vals.length ≤ 60
  gi : ∀ x ∈ o.items, GV x
  gk : ∀ x ∈ o.keys, GV x
  gv : ∀ x ∈ o.vals, GV x
  gs : ∀ x ∈ o.names, NM x
  nm : o.name.size ≤ 1000
theorem getD_mem {α : Type} {l : List α} {i : Nat} (d : α) (h : i < l.length) : l.getD i d ∈ l := by rw [getD_lt h]; exact List.getElem_mem h

-- values ----------------------------------------------------------------------------------------------------------------------------------------
theorem vaE {n : Nat} (hn : 3000000 ≤ n) {h : List Obj} {k r : Int} {t : ByteArray} (ht : t.size ≤ 1000) (hh : h.length ≤ 1000) : ∃ w : Bool, F28 n h k t r = some (w, ()) ∧ F34 n k t r (h.length : Int) = some (w, ()) := by
  unfold F28 F34 F60
  simp only [rangeI, rangeS, intI hn (show t.size ≤ 1048576 by omega), intS hn (show t.size ≤ 1048576 by omega), emp, emq, ats]
  by_cases c0 : k = 0
  · have b0 : (k == (0 : Int)) = true := by simp [c0]
    simp only [b0, ct, Bool.true_and]
    cases decide (t.size = 0) <;> exact ⟨_, rfl, rfl⟩
  have b0 : (k == (0 : Int)) = false := by simp [c0]
  simp only [b0, cf]
  by_cases c1 : k = 1
  · have b1 : (k == (1 : Int)) = true := by simp [c1]
    simp only [b1, ct]
    cases decide (t.size = 0) <;> exact ⟨_, rfl, rfl⟩
  have b1 : (k == (1 : Int)) = false := by simp [c1]
  simp only [b1, cf]
  by_cases c2 : k = 2
  · have b2 : (k == (2 : Int)) = true := by simp [c2]
    simp only [b2, ct]
    cases B (VI t) <;> exact ⟨_, rfl, rfl⟩
  have b2 : (k == (2 : Int)) = false := by simp [c2]
  simp only [b2, cf]
  by_cases c3 : k = 3
  · have b3 : (k == (3 : Int)) = true := by simp [c3]
    simp only [b3, ct]
    cases decide (((t.size : Nat) : Int) ≤ 400) <;> exact ⟨_, rfl, rfl⟩
  have b3 : (k == (3 : Int)) = false := by simp [c3]
  simp only [b3, cf]
  cases (k == (4 : Int))
  · exact ⟨_, rfl, rfl⟩
  · simp only [ct]
    cases decide (t.size = 0) <;> exact ⟨_, rfl, rfl⟩
theorem vlE_it {R R' : Type} {n : Nat} (hn : 3000000 ≤ n) {h : List Obj} {l : List Val} {k0 : Bool → Option R} {k1 : Option R} {q0 : Bool → Option R'} {q1 : List Val → Option R'} (hh : h.length ≤ 1000) (hl : l.length ≤ 60) (hv : ∀ x ∈ l, GV x) : ∀ (fuel i : Nat), i ≤ l.length → l.length + 1 ≤ fuel + i →
    ∃ b : Bool, F39_0_it n k0 k1 fuel l l.length i h = (bif b then k1 else k0 false) ∧ F83_0_it n q0 q1 fuel l h.length i = (bif b then q1 l else q0 false)
  | fuel, i, hi, hf => by
    obtain ⟨f, rfl⟩ : ∃ f, fuel = f + 1 := ⟨fuel - 1, by omega⟩
    simp only [F39_0_it, F39_0_step, F83_0_it, F83_0_step]
    by_cases g : i < l.length
    · obtain ⟨w, w1, w2⟩ := vaE (n := n) (h := h) (k := (l.getD i v0).kind) (r := (l.getD i v0).ref) hn (hv _ (getD_mem v0 g)) hh
      simp (disch := omega) only [bp, e0, w1, w2, ats, wp, e1]
      cases w with
      | false => exact ⟨false, rfl, rfl⟩
      | true => exact vlE_it hn hh hl hv f (i + 1) (by omega) (by omega)
    · refine ⟨true, ?_, ?_⟩ <;> rw [bn (by omega)] <;> rfl
theorem vlE {n : Nat} (hn : 3000000 ≤ n) {h : List Obj} {l : List Val} (hh : h.length ≤ 1000) (hl : l.length ≤ 60) (hv : ∀ x ∈ l, GV x) : ∃ b : Bool, F39 n h l = some (b, ()) ∧ F83 n l h.length = some (b, ()) := by
  unfold F39 F39_0 F83 F83_0
  obtain ⟨b, b1, b2⟩ := vlE_it (R := Bool × Unit) (R' := Bool × Unit) (n := n) hn (h := h) (l := l) (k0 := fun z => some (z, ())) (k1 := some (true, ())) (q0 := fun z => some (z, ())) (q1 := fun z1824 => some ((decide (((z1824.length) : Int) ≤ (60 : Int))), ())) hh hl hv n 0 (by omega) (by omega)
  refine ⟨b, ?_, ?_⟩
  · refine Eq.trans b1 ?_
    cases b <;> rfl
  · refine Eq.trans b2 ?_
    cases b
    · rfl
    · simp only [ct]; rw [decide_eq_true (by omega)]

-- names ------------------------------------------------------------------------------------------------------------------------------------------
def Dst (l : List ByteArray) (i : Nat) : Prop := ∀ j, i ≤ j → j < l.length → l.getD j ⟨#[]⟩ ∉ l.take j
theorem dst_step {l : List ByteArray} {i : Nat} (h : i < l.length) : Dst l i ↔ l.getD i ⟨#[]⟩ ∉ l.take i ∧ Dst l (i + 1) := all_step (p := fun j => l.getD j ⟨#[]⟩ ∉ l.take j) h
theorem nmI_it {R : Type} {n : Nat} (hn : 3000000 ≤ n) {h : List Obj} {kd at_ : Int} {nm : ByteArray} {it ks vs : List Val} {l : List ByteArray} {k0 : Bool → Option R} {k1 : List Obj → Int → ByteArray → Int → List Val → List Val → List ByteArray → List Val → Option R} (hl : l.length ≤ 60) : ∀ (fuel i : Nat), i ≤ l.length → l.length + 1 ≤ fuel + i →
    F27_0_it n k0 k1 fuel l l.length i h kd nm at_ it ks l vs = (bif B (Dst l i) then k1 h kd nm at_ it ks l vs else k0 false)
  | fuel, i, hi, hf => by
    obtain ⟨f, rfl⟩ : ∃ f, fuel = f + 1 := ⟨fuel - 1, by omega⟩
    simp only [F27_0_it, F27_0_step]
    by_cases g : i < l.length
    · have hc := contI (n := n) (l := l.take i) (s := l.getD i ⟨#[]⟩) hn (by simp; omega)
      simp (disch := omega) only [bp, e0, List.drop_zero, hc, ats, wp, e1]
      by_cases h1 : l.getD i ⟨#[]⟩ ∈ l.take i
      · rw [B_t h1, B_f fun q => ((dst_step g).1 q).1 h1]; rfl
      · rw [B_f h1]
        simp only [cf]
        rw [nmI_it hn hl f (i + 1) (by omega) (by omega), B_congr (p := Dst l i) (q := Dst l (i + 1)) ⟨fun q => ((dst_step g).1 q).2, fun q => (dst_step g).2 ⟨h1, q⟩⟩]
    · rw [bn (by omega), B_t (p := Dst l i) fun j j1 j2 => by omega]; rfl
theorem nmS_it {R : Type} {n : Nat} (hn : 3000000 ≤ n) {l : List ByteArray} {k0 : Bool → Option R} {k1 : Option R} (hl : l.length ≤ 60) (hv : ∀ x ∈ l, NM x) : ∀ (fuel i : Nat), i ≤ l.length → l.length + 1 ≤ fuel + i →
    F84_0_it n k0 k1 fuel l i = (bif B (Dst l i) then k1 else k0 false)
  | fuel, i, hi, hf => by
    obtain ⟨f, rfl⟩ : ∃ f, fuel = f + 1 := ⟨fuel - 1, by omega⟩
    simp only [F84_0_it, F84_0_step]
    by_cases g : i < l.length
    · have hm := hv _ (getD_mem (⟨#[]⟩ : ByteArray) g)
      have hs := nameS (n := n) (s := l.getD i ⟨#[]⟩) hn (by have := hm.2.1; omega)
      rw [B_t hm] at hs
      have hc := isOnev (n := n) (l := l.take i) (s := l.getD i ⟨#[]⟩) hn (by simp; omega)
      simp (disch := omega) only [bp, e0, List.drop_zero, hs, hc, ats, wp, e1, Bool.not_true, cf]
      by_cases h1 : l.getD i ⟨#[]⟩ ∈ l.take i
      · rw [B_t h1, B_f fun q => ((dst_step g).1 q).1 h1]; rfl
      · rw [B_f h1]
        simp only [cf]
        rw [nmS_it hn hl hv f (i + 1) (by omega) (by omega), B_congr (p := Dst l i) (q := Dst l (i + 1)) ⟨fun q => ((dst_step g).1 q).2, fun q => (dst_step g).2 ⟨h1, q⟩⟩]
    · rw [bn (by omega), B_t (p := Dst l i) fun j j1 j2 => by omega]; rfl

-- keys -------------------------------------------------------------------------------------------------------------------------------------------
theorem fiE_it {R R' : Type} {n : Nat} {l : List Val} {k r : Int} {t : ByteArray} {k0 : Int → Option R} {k1 : Option R} {q0 : Int → Option R'} {q1 : Option R'} (hl : l.length ≤ 60) : ∀ (fuel i : Nat), i ≤ l.length → l.length + 1 ≤ fuel + i →
    (F75_0_it n k0 k1 fuel l l.length i k t r = k1 ∧ F64v1_0_it n q0 q1 fuel l i k t r = q1) ∨ ∃ j : Nat, F75_0_it n k0 k1 fuel l l.length i k t r = k0 j ∧ F64v1_0_it n q0 q1 fuel l i k t r = q0 j
  | fuel, i, hi, hf => by
    obtain ⟨f, rfl⟩ : ∃ f, fuel = f + 1 := ⟨fuel - 1, by omega⟩
    simp only [F75_0_it, F75_0_step, F64v1_0_it, F64v1_0_step]
    by_cases g : i < l.length
    · have hb : ((k == (l.getD i v0).kind) && ((t == (l.getD i v0).text) && (r == (l.getD i v0).ref))) = (((l.getD i v0).kind == k) && (((l.getD i v0).text == t) && ((l.getD i v0).ref == r))) := by
        rw [Bool.beq_comm (a := k), Bool.beq_comm (a := r), bbeq, bbeq, decide_eq_decide.2 (show t = (l.getD i v0).text ↔ (l.getD i v0).text = t from ⟨Eq.symm, Eq.symm⟩)]
      simp (disch := omega) only [bp, e0, hb, wp, e1]
      cases (((l.getD i v0).kind == k) && (((l.getD i v0).text == t) && ((l.getD i v0).ref == r))) with
      | true => exact .inr ⟨i, rfl, rfl⟩
      | false => exact fiE_it hl f (i + 1) (by omega) (by omega)
    · rw [bn (by omega), bn (by omega)]; exact .inl ⟨rfl, rfl⟩
theorem fiE {n : Nat} (hn : 3000000 ≤ n) {l : List Val} {k r : Int} {t : ByteArray} (hl : l.length ≤ 60) : ∃ b : Bool, ∃ j : Int, F50 n l k t r = some (b, ()) ∧ F64v1 n l k t r = some (j, ()) ∧ decide (j ≥ 0) = b := by
  unfold F50 F75 F75_0 F64v1 F64v1_0
  rcases fiE_it (R := Int × Unit) (R' := Int × Unit) (n := n) (l := l) (k := k) (r := r) (t := t) (k0 := fun z => some (z, ())) (k1 := some ((-1 : Int), ())) (q0 := fun z => some (z, ())) (q1 := some ((-1 : Int), ())) hl n 0 (by omega) (by omega) with ⟨a, b⟩ | ⟨j, a, b⟩
  · rw [show ((0 : Nat) : Int) = 0 from rfl] at a b
    exact ⟨false, -1, by rw [a]; rfl, b, rfl⟩
  · rw [show ((0 : Nat) : Int) = 0 from rfl] at a b
    exact ⟨true, j, by rw [a]; simp only [ats]; rw [decide_eq_true (by omega)], b, decide_eq_true (by omega)⟩
theorem keE_it {R R' : Type} {n : Nat} (hn : 3000000 ≤ n) {kd at_ : Int} {nm : ByteArray} {it l vs : List Val} {ns : List ByteArray} (hl : l.length ≤ 60) : ∀ (fuel i : Nat), i ≤ l.length → l.length + 1 ≤ fuel + i → ∃ b : Bool,
    (∀ (k0 : Bool → Option R) (k1 : Int → ByteArray → Int → List Val → List Val → List ByteArray → List Val → Option R), F27_2_it n k0 k1 fuel l l.length i kd nm at_ it l ns vs = (bif b then k1 kd nm at_ it l ns vs else k0 false)) ∧
    (∀ (q0 : Bool → Option R') (q1 : Int → ByteArray → Int → List Val → List Val → List ByteArray → List Val → Option R'), F55_1_it n q0 q1 fuel i kd nm at_ it l ns vs = (bif b then q1 kd nm at_ it l ns vs else q0 false))
  | fuel, i, hi, hf => by
    obtain ⟨f, rfl⟩ : ∃ f, fuel = f + 1 := ⟨fuel - 1, by omega⟩
    simp only [F27_2_it, F27_2_step, F55_1_it, F55_1_step, F86]
    by_cases g : i < l.length
    · obtain ⟨b, j, w1, w2, w3⟩ := fiE (n := n) (l := l.take i) (k := (l.getD i v0).kind) (r := (l.getD i v0).ref) (t := (l.getD i v0).text) hn (by simp; omega)
      simp (disch := omega) only [bp, e0, List.drop_zero, w1, w2, w3, ats, wp, e1]
      by_cases c4 : (l.getD i v0).kind = 4
      · have b4 : ((l.getD i v0).kind == (4 : Int)) = true := by rw [c4]; rfl
        have b5 : ((l.getD i v0).kind != (4 : Int)) = false := by rw [c4]; rfl
        simp only [b4, b5, ct, Bool.not_false]
        exact ⟨false, fun _ _ => rfl, fun _ _ => rfl⟩
      have b4 : ((l.getD i v0).kind == (4 : Int)) = false := beq_eq_false_iff_ne.2 c4
      have b5 : ((l.getD i v0).kind != (4 : Int)) = true := bne_iff_ne.2 c4
      simp only [b4, b5, cf, Bool.not_true]
      cases b with
      | true => exact ⟨false, fun _ _ => rfl, fun _ _ => rfl⟩
      | false => simp only [cf]; exact keE_it hn hl f (i + 1) (by omega) (by omega)
    · refine ⟨true, fun _ _ => ?_, fun _ _ => ?_⟩ <;> rw [bn (by omega)] <;> rfl

-- objects ------------------------------------------------------------------------------------------------------------------------------------------
theorem wsum {a b : Nat} (ha : a ≤ 60) (hb : b ≤ 60) : (IntKind.wrap .i64 ((a : Int) + (b : Int)) == (0 : Int)) = (((a : Int) == 0) && ((b : Int) == 0)) := by
  rw [wp (by omega)]
  by_cases h1 : a = 0
  · subst h1
    simp
  · have : ((a : Int) == 0) = false := by simp; omega
    rw [this]
    simp only [Bool.false_and]
    rw [beq_eq_false_iff_ne]; omega
end Go.Proofs.Ytfknenaecihchaa.Am
