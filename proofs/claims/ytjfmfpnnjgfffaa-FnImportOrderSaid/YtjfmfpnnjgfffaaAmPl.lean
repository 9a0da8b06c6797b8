/- Plain lemmas: tests, whole numbers of Go, texts as lists of bytes. -/
import Derived.Test.YtjfmfpnnjgfffaaAmGlue
import Derived.Laws.Strings
namespace Go.Proofs.Ytjfmfpnnjgfffaa.Am
open Go
set_option autoImplicit false
set_option linter.unusedVariables false
set_option linter.unusedSimpArgs false

theorem bp {α : Type} {c : Prop} [Decidable c] {a b : α} (h : c) : (bif decide c then a else b) = a := by rw [decide_eq_true h]; rfl
theorem bn {α : Type} {c : Prop} [Decidable c] {a b : α} (h : ¬ c) : (bif decide c then a else b) = b := by rw [decide_eq_false h]; rfl
theorem eqp {α : Type} {x y : Int} {a b : α} (h : x = y) : (bif x == y then a else b) = a := by rw [beq_iff_eq.2 h]; rfl
theorem eqn {α : Type} {x y : Int} {a b : α} (h : ¬ x = y) : (bif x == y then a else b) = b := by rw [beq_eq_false_iff_ne.2 h]; rfl
theorem nep {α : Type} {x y : Int} {a b : α} (h : ¬ x = y) : (bif x != y then a else b) = a := by rw [bne_iff_ne.2 h]; rfl
theorem nen {α : Type} {x y : Int} {a b : α} (h : x = y) : (bif x != y then a else b) = b := by subst h; simp
theorem np {α : Type} {c : Prop} [Decidable c] {a b : α} (h : ¬ c) : (bif !(decide c) then a else b) = a := by rw [decide_eq_false h]; rfl
theorem nn {α : Type} {c : Prop} [Decidable c] {a b : α} (h : c) : (bif !(decide c) then a else b) = b := by rw [decide_eq_true h]; rfl
theorem ct {α : Type} {a b : α} : (bif true then a else b) = a := rfl
theorem cf {α : Type} {a b : α} : (bif false then a else b) = b := rfl
theorem ats {α β : Type} {x : α} {k : α → Option β} : andThen (some x) k = k x := rfl
theorem atn {α β : Type} {k : α → Option β} : andThen (none : Option α) k = none := rfl
theorem wp {x : Int} (h : -9223372036854775808 ≤ x ∧ x ≤ 9223372036854775807) : IntKind.wrap .i64 x = x := by
  unfold IntKind.wrap IntKind.signed IntKind.bits; simp; split <;> omega
theorem wu {x : Int} (h : 0 ≤ x ∧ x ≤ 255) : IntKind.wrap .u8 x = x := by
  unfold IntKind.wrap IntKind.signed IntKind.bits; simp; omega
theorem tm {a b : Int} (h : 0 ≤ a) : a.tmod b = a % b := Int.tmod_eq_emod_of_nonneg h
theorem td {a b : Int} (h : 0 ≤ a) : a.tdiv b = a / b := Int.tdiv_eq_ediv_of_nonneg h

theorem bxor_ok {a b : Int} (ha : 0 ≤ a) (ha2 : a < 9223372036854775808) (hb : 0 ≤ b) (hb2 : b < 9223372036854775808) : 0 ≤ IntKind.wrap .i64 ((((BitVec.ofInt 64 a) ^^^ (BitVec.ofInt 64 b)).toNat : Nat) : Int) := by
  obtain ⟨x, rfl⟩ := Int.eq_ofNat_of_zero_le ha
  obtain ⟨y, rfl⟩ := Int.eq_ofNat_of_zero_le hb
  have hx : x < 2 ^ 63 := by omega
  have hy : y < 2 ^ 63 := by omega
  have h : ((BitVec.ofInt 64 (x : Int)) ^^^ (BitVec.ofInt 64 (y : Int))).toNat = x ^^^ y := by
    rw [BitVec.toNat_xor, BitVec.ofInt_natCast, BitVec.ofInt_natCast, BitVec.toNat_ofNat, BitVec.toNat_ofNat, Nat.mod_eq_of_lt (by omega), Nat.mod_eq_of_lt (by omega)]
  have hxy : x ^^^ y < 2 ^ 63 := Nat.xor_lt_two_pow hx hy
  rw [h, wp (by omega)]
  omega

-- lists --------------------------------------------------------------------------------------------------------------------------
theorem getD_lt {α : Type} {l : List α} {i : Nat} {d : α} (h : i < l.length) : l.getD i d = l[i] := by simp [List.getD, h]
theorem getD_ge {α : Type} {l : List α} {i : Nat} {d : α} (h : l.length ≤ i) : l.getD i d = d := by simp [List.getD, List.getElem?_eq_none h]

-- texts --------------------------------------------------------------------------------------------------------------------------
def okb (l : List Int) : Prop := ∀ x ∈ l, 0 ≤ x ∧ x < 256
theorem okb.nil : okb [] := fun x h => by simp at h
theorem okb.cons {a : Int} {l : List Int} (h : 0 ≤ a ∧ a < 256) (t : okb l) : okb (a :: l) := fun x hx => by
  rcases List.mem_cons.1 hx with rfl | hx
  · exact h
  · exact t x hx
theorem okb.app {a b : List Int} (h : okb a) (t : okb b) : okb (a ++ b) := fun x hx => by
  rcases List.mem_append.1 hx with hx | hx
  · exact h x hx
  · exact t x hx
theorem okb.take {a : List Int} (h : okb a) (n : Nat) : okb (a.take n) := fun x hx => h x (List.mem_of_mem_take hx)
theorem okb.drop {a : List Int} (h : okb a) (n : Nat) : okb (a.drop n) := fun x hx => h x (List.mem_of_mem_drop hx)
theorem okb.get {a : List Int} (h : okb a) {i : Nat} (hi : i < a.length) : 0 ≤ a.getD i 0 ∧ a.getD i 0 < 256 := by
  rw [getD_lt hi]; exact h _ (List.getElem_mem hi)
theorem okb.getD {a : List Int} (h : okb a) (i : Nat) : 0 ≤ a.getD i 0 ∧ a.getD i 0 < 256 := by
  by_cases hi : i < a.length
  · exact h.get hi
  · rw [getD_ge (by omega)]; omega

abbrev str (l : List Int) : ByteArray := bytesOfInts l
theorem str_size (l : List Int) : (str l).size = l.length := by simp [str, bytesOfInts, ByteArray.size]
theorem str_data (l : List Int) : (str l).data.toList = l.map fun n => UInt8.ofNat n.toNat := by simp [str, bytesOfInts]
theorem ofNat_back {x : Int} (h : 0 ≤ x ∧ x < 256) : ((UInt8.ofNat x.toNat).toNat : Int) = x := by simp [UInt8.toNat_ofNat']; omega
theorem str_of {l : List Int} (hl : okb l) {i : Nat} (hi : i < l.length) : strOf (str l) i = l.getD i 0 := by
  unfold strOf
  have h : i < (str l).size := by rw [str_size]; exact hi
  rw [dif_pos h, getD_lt hi]
  have e : (str l)[i] = UInt8.ofNat (l[i]).toNat := by
    simp [str, bytesOfInts, ByteArray.getElem_eq_getElem_data]
  rw [e]; exact ofNat_back (hl _ (List.getElem_mem hi))
theorem str_surj (s : ByteArray) : ∃ l, okb l ∧ s = str l := by
  refine ⟨s.data.toList.map fun b => (b.toNat : Int), ?_, ?_⟩
  · intro x hx
    obtain ⟨b, _, rfl⟩ := List.mem_map.1 hx
    have := b.toNat_lt; omega
  · obtain ⟨⟨l⟩⟩ := s
    simp [str, bytesOfInts, Function.comp_def]
theorem str_app (a b : List Int) : str a ++ str b = str (a ++ b) := by
  apply ByteArray.ext
  simp [str, bytesOfInts, ByteArray.data_append]
theorem str_ext {l : List Int} {a b : Nat} (h : b ≤ l.length) : (str l).extract a b = str ((l.take b).drop a) := by
  apply ByteArray.ext
  simp only [ByteArray.data_extract]
  apply Array.toList_inj.1
  simp [str, bytesOfInts, List.map_take, List.map_drop, List.drop_take, List.extract_eq_take_drop]
theorem map_inj {a b : List Int} (ha : okb a) (hb : okb b) (h : (a.map fun n => UInt8.ofNat n.toNat) = b.map fun n => UInt8.ofNat n.toNat) : a = b := by
  induction a generalizing b with
  | nil => cases b with | nil => rfl | cons y b => simp at h
  | cons x a ih =>
    cases b with
    | nil => simp at h
    | cons y b =>
      simp only [List.map_cons, List.cons.injEq] at h
      have h1 := congrArg (fun u : UInt8 => (u.toNat : Int)) h.1
      rw [ofNat_back (ha x (by simp)), ofNat_back (hb y (by simp))] at h1
      rw [h1, ih (fun z hz => ha z (List.mem_cons_of_mem _ hz)) (fun z hz => hb z (List.mem_cons_of_mem _ hz)) h.2]
theorem str_inj {a b : List Int} (ha : okb a) (hb : okb b) (h : str a = str b) : a = b := by
  have := congrArg (fun s : ByteArray => s.data.toList) h
  simp only [str_data] at this
  exact map_inj ha hb this
theorem toList_inj {a b : ByteArray} (h : a.toList = b.toList) : a = b := by
  have h1 := congrArg ByteArray.mk (congrArg List.toArray h)
  have e : ∀ s : ByteArray, ByteArray.mk s.toList.toArray = s := fun s => by
    have : s.toList = s.data.toList := by
      first | exact ByteArray.toList_eq_data_toList | exact ByteArray.toList_data.symm | exact ByteArray.toList_eq _ | rfl
    rw [this]
  rw [e, e] at h1; exact h1
theorem seq_eq {a b : List Int} (ha : okb a) (hb : okb b) : ((str a).toList == (str b).toList) = decide (a = b) := by
  by_cases h : a = b
  · subst h; simp
  · rw [decide_eq_false h, beq_eq_false_iff_ne]
    exact fun e => h (str_inj ha hb (toList_inj e))
end Go.Proofs.Ytjfmfpnnjgfffaa.Am
