/- Quoted texts: what the program and the reference write; what is read. -/
import Derived.Test.YtmbpcjacbnloaaaAmPl
import Derived.Test.YtmbpcjacbnloaaaAmLexF
namespace Go.Proofs.Ytmbpcjacbnloaaa.Am
open Go
set_option autoImplicit false
set_option linter.unusedVariables false
set_option linter.unusedSimpArgs false
set_option maxRecDepth 100000

abbrev hexB : ByteArray := { data := #[48, 49, 50, 51, 52, 53, 54, 55, 56, 57, 97, 98, 99, 100, 101, 102] }
abbrev eb : ByteArray := { data := #[] }
/-- a hexadecimal digit -/
def hx (d : Int) : Int := strOf hexB d.toNat
theorem hx_all : ∀ k < 16, 0 ≤ hx (k : Nat) ∧ hx (k : Nat) < 256 ∧ hexB.extract k (k + 1) = str [hx (k : Nat)] ∧ Lib.indexByte hexB.data.toList (hx (k : Nat)).toNat.toUInt8 = k := by
  decide +kernel
theorem hx_ok {d : Int} (h : 0 ≤ d ∧ d < 16) : 0 ≤ hx d ∧ hx d < 256 := by
  obtain ⟨k, rfl⟩ := Int.eq_ofNat_of_zero_le h.1
  have := hx_all k (by omega)
  exact ⟨this.1, this.2.1⟩
theorem hx_ext {d : Int} (h : 0 ≤ d ∧ d < 16) : hexB.extract d.toNat (d + 1).toNat = str [hx d] := by
  obtain ⟨k, rfl⟩ := Int.eq_ofNat_of_zero_le h.1
  have := (hx_all k (by omega)).2.2.1
  rw [Int.toNat_natCast, show ((k : Int) + 1).toNat = k + 1 by omega]
  exact this
theorem hx_ix {d : Int} (h : 0 ≤ d ∧ d < 16) : indexByteF hexB (hx d) = some (d, ()) := by
  obtain ⟨k, rfl⟩ := Int.eq_ofNat_of_zero_le h.1
  have := (hx_all k (by omega)).2.2.2
  unfold indexByteF
  rw [this]
/-- a byte, as it is written -/
def qb (c : Int) : List Int := if c = 39 ∨ c = 92 then [92, c] else if c = 10 then [92, 110] else if c < 32 ∨ c > 126 then [92, 120, hx (c / 16), hx (c % 16)] else [c]
def qs (l : List Int) : List Int := l.flatMap qb
def quo (l : List Int) : List Int := 39 :: (qs l ++ [39])
theorem qb_len (c : Int) : (qb c).length ≤ 4 := by unfold qb; split <;> (try split) <;> (try split) <;> simp
theorem qs_cons (c : Int) (l : List Int) : qs (c :: l) = qb c ++ qs l := by simp [qs]
theorem qs_len (l : List Int) : (qs l).length ≤ 4 * l.length := by
  induction l with
  | nil => simp [qs]
  | cons c l ih => rw [qs_cons, List.length_append, List.length_cons]; have := qb_len c; omega
theorem qb_ok {c : Int} (h : 0 ≤ c ∧ c < 256) : okb (qb c) := by
  unfold qb
  split
  · exact okb.cons (by omega) (okb.cons h okb.nil)
  split
  · exact okb.cons (by omega) (okb.cons (by omega) okb.nil)
  split
  · exact okb.cons (by omega) (okb.cons (by omega) (okb.cons (hx_ok (by omega)) (okb.cons (hx_ok (by omega)) okb.nil)))
  · exact okb.cons h okb.nil
theorem qs_ok {l : List Int} (h : okb l) : okb (qs l) := fun x hx => by
  unfold qs at hx
  obtain ⟨c, hc, hx⟩ := List.mem_flatMap.1 hx
  exact qb_ok (h c hc) x hx
theorem quo_ok {l : List Int} (h : okb l) : okb (quo l) := okb.cons (by omega) ((qs_ok h).app (okb.cons (by omega) okb.nil))
theorem quo_len (l : List Int) : (quo l).length = (qs l).length + 2 := by simp [quo]

-- bytes written -----------------------------------------------------------------------------------------------------------------------
theorem put1 {n : Nat} {c : Int} {xs : List Int} (h : xs.length ≤ 100000) : F18 n c xs = some ((), (((), ((), ())), ((), ((xs ++ [c]), ())))) := by
  unfold F18 L27
  simp only [ats]
  rw [bp (by show xs.length + 1 ≤ 68719476736; omega)]
theorem putS {n : Nat} {s : ByteArray} {l xs : List Int} (hs : List.map (fun y => y) (intsOfBytes s) = l) (hl : l.length ≤ 100) (h : xs.length ≤ 100000) : F19 n s xs = some ((((s.size) : Int), ((), ())), (((), ((), ())), ((), ((xs ++ l), ())))) := by
  unfold F19 L27
  simp only [ats, hs]
  rw [bp (by omega)]
theorem strA {l : List Int} {i : Nat} (ho : okb l) (hi : i < l.length) : strOf (str l) i = l.getD i 0 := str_of ho hi

/-- the program writes a byte -/
theorem q11_0 {R : Type} {n : Nat} {l acc : List Int} {N : Int} {i : Nat} {k0 : ByteArray → Int → Int → List Int → Option R} (ho : okb l) (hi : i < l.length) (ha : acc.length ≤ 10000) : F11_0 n (str l) N i acc k0 = k0 (str l) N i (acc ++ qb (l.getD i 0)) := by
  have hc := ho.get hi
  unfold F11_0
  rw [bp (by omega), bp (by rw [str_size]; omega), Int.toNat_natCast, strA ho hi]
  generalize l.getD i 0 = c at hc
  dsimp only
  unfold qb
  by_cases h1 : c = 39
  · rw [eqp h1, if_pos (.inl h1), put1 (by omega)]; simp only [ats]
    rw [put1 (by simp; omega)]; simp only [ats, List.append_assoc]; rfl
  rw [eqn h1]
  by_cases h2 : c = 92
  · rw [eqp h2, if_pos (.inr h2), put1 (by omega)]; simp only [ats]
    rw [put1 (by simp; omega)]; simp only [ats, List.append_assoc]; rfl
  rw [eqn h2, if_neg (by omega)]
  by_cases h3 : c = 10
  · rw [eqp h3, if_pos h3, putS (l := [92, 110]) (by decide +kernel) (by simp) (by omega)]; simp only [ats]
  rw [eqn h3, if_neg h3]
  have w1 : IntKind.wrap .u8 (c.tdiv 16) = c / 16 := by rw [td hc.1]; exact wu (by omega)
  have w2 : c.tmod 16 = c % 16 := tm hc.1
  by_cases h4 : c < 32
  · rw [bp h4, if_pos (.inl h4), putS (l := [92, 120]) (by decide +kernel) (by simp) (by omega)]; simp only [ats, w1, w2]
    rw [bp (by omega), bp (by omega), put1 (by simp; omega)]; simp only [ats]
    rw [bp (by omega), bp (by omega), put1 (by simp; omega)]; simp only [ats, List.append_assoc]; rfl
  rw [bn h4]
  by_cases h5 : c > 126
  · rw [bp h5, if_pos (.inr h5), putS (l := [92, 120]) (by decide +kernel) (by simp) (by omega)]; simp only [ats, w1, w2]
    rw [bp (by omega), bp (by omega), put1 (by simp; omega)]; simp only [ats]
    rw [bp (by omega), bp (by omega), put1 (by simp; omega)]; simp only [ats, List.append_assoc]; rfl
  rw [bn h5, if_neg (by omega), put1 (by omega)]; simp only [ats]
theorem drop_qs {l : List Int} {i : Nat} (hi : i < l.length) : qs (l.drop i) = qb (l.getD i 0) ++ qs (l.drop (i + 1)) := by
  rw [List.drop_eq_getElem_cons hi, qs_cons, getD_lt hi]
theorem q11_it {R : Type} {n : Nat} {l : List Int} {k0 : List Int → Option R} (ho : okb l) (hl : l.length ≤ 1000) : ∀ (m fuel i : Nat) (acc : List Int), i + m = l.length → m < fuel → acc.length + 4 * m ≤ 10000 → F11_1_it n k0 fuel (str l) l.length i acc = k0 (acc ++ qs (l.drop i))
  | m, fuel, i, acc, hm, hf, ha => by
    obtain ⟨f, rfl⟩ : ∃ f, fuel = f + 1 := ⟨fuel - 1, by omega⟩
    unfold F11_1_it F11_1_step
    cases m with
    | zero => rw [bn (by omega), List.drop_eq_nil_of_le (by omega)]; simp [qs]
    | succ m =>
      have hi : i < l.length := by omega
      have := qb_len (l.getD i 0)
      rw [bp (by omega), q11_0 ho hi (by omega), wp (by omega), show ((i : Int) + 1) = ((i + 1 : Nat) : Int) by omega]
      rw [q11_it ho hl m f (i + 1) _ (by omega) (by omega) (by rw [List.length_append]; omega), drop_qs hi, List.append_assoc]
theorem ready {xs : List Int} (ho : okb xs) (h : xs.length ≤ 100000) : L20 xs = some (str xs, ((), (), ()), (), ()) := by
  unfold L20
  rw [decide_eq_true (show xs.length ≤ maxSz by unfold maxSz; omega), List.all_eq_true.2 (fun x hx => by have := ho x hx; simp [byteOk]; omega)]
  rfl
theorem quoI {n : Nat} {l : List Int} (hn : 20000 ≤ n) (ho : okb l) (hl : l.length ≤ 1000) : F11 n (str l) = some (str (quo l), ()) := by
  unfold F11
  rw [put1 (by simp)]; simp only [ats, List.nil_append]
  unfold F11_1
  have e := q11_it (n := n) (k0 := fun z184 => (andThen (F18 n (39 : Int) z184) fun r185 => (andThen (L20 r185.2.2.2.1) fun r186 => some (r186.1, ())))) ho hl l.length n 0 [39] (by omega) (by omega) (by simp; omega)
  rw [Int.natCast_zero] at e
  rw [str_size, e, List.drop_zero]
  have hq := qs_len l
  rw [put1 (by simp; omega)]; simp only [ats]
  have e2 : [39] ++ qs l ++ [39] = quo l := by simp [quo]
  rw [e2, ready (quo_ok ho) (by rw [quo_len]; omega)]; rfl

/-- the reference writes a byte -/
theorem hexD {n : Nat} {d : Int} (h : 0 ≤ d ∧ d < 16) : F21 n d = some (str [hx d], ()) := by
  unfold F21
  rw [wp (by omega), bp (by omega), bp (by omega), bp (by omega)]
  rw [show ({ data := #[48, 49, 50, 51, 52, 53, 54, 55, 56, 57, 97, 98, 99, 100, 101, 102] } : ByteArray) = hexB from rfl, hx_ext h]
theorem mapid (l : List Int) : bytesOfInts (List.map (fun y => y) l) = str l := by rw [List.map_id']
theorem q13_0 {R : Type} {n : Nat} {l acc : List Int} {i : Nat} {k0 : ByteArray → ByteArray → Int → Option R} (ho : okb l) (hi : i < l.length) (hl : l.length ≤ 1000) (ha : acc.length ≤ 10000) : F13_0 n (str l) (str acc) i k0 = k0 (str l) (str (acc ++ qb (l.getD i 0))) i := by
  have hc := ho.get hi
  have he : (str l).extract i (i + 1) = str [l.getD i 0] := by
    rw [str_ext (by omega)]
    congr 1
    have e0 : i - min i l.length = 0 := by omega
    rw [List.take_succ_eq_append_getElem hi, getD_lt hi, List.drop_append]
    simp [e0]
  unfold F13_0
  rw [bp (by omega), bp (by rw [str_size]; omega), Int.toNat_natCast, strA ho hi]
  simp only [mapid, str_app, str_size]
  generalize l.getD i 0 = c at hc he
  unfold qb
  by_cases h1 : c = 39
  · rw [eqp h1, if_pos (.inl h1), bp (by simp; omega)]
  rw [eqn h1]
  by_cases h2 : c = 92
  · rw [eqp h2, if_pos (.inr h2), bp (by simp; omega)]
  rw [eqn h2, if_neg (by omega)]
  by_cases h3 : c = 10
  · rw [eqp h3, if_pos h3, bp (by simp; omega)]
  rw [eqn h3, if_neg h3]
  have w0 : IntKind.wrap .i64 c = c := wp (by omega)
  have w1 : IntKind.wrap .i64 (c.tdiv 16) = c / 16 := by rw [td hc.1]; exact wp (by omega)
  have w2 : c.tmod 16 = c % 16 := tm hc.1
  by_cases h4 : c < 32
  · rw [bp h4, if_pos (.inl h4), bp (by simp; omega)]; simp only [w0, w1, w2]
    rw [hexD (by omega)]; simp only [ats, str_app, str_size]
    rw [bp (by simp; omega), hexD (by omega)]; simp only [ats, str_app, str_size]
    rw [bp (by simp; omega)]; simp only [List.append_assoc]; rfl
  rw [bn h4]
  by_cases h5 : c > 126
  · rw [bp h5, if_pos (.inr h5), bp (by simp; omega)]; simp only [w0, w1, w2]
    rw [hexD (by omega)]; simp only [ats, str_app, str_size]
    rw [bp (by simp; omega), hexD (by omega)]; simp only [ats, str_app, str_size]
    rw [bp (by simp; omega)]; simp only [List.append_assoc]; rfl
  rw [bn h5, if_neg (by omega), wp (by omega), bp (by omega), bp (by omega), bp (by omega), show ((i : Int) + 1).toNat = i + 1 by omega, he]
  rw [bp (by rw [str_size]; simp; omega), str_app]
theorem q13_it {R : Type} {n : Nat} {l : List Int} {k0 : ByteArray → Option R} (ho : okb l) (hl : l.length ≤ 1000) : ∀ (m fuel i : Nat) (acc : List Int), i + m = l.length → m < fuel → acc.length + 4 * m ≤ 10000 → F13_1_it n k0 fuel (str l) (str acc) i = k0 (str (acc ++ qs (l.drop i)))
  | m, fuel, i, acc, hm, hf, ha => by
    obtain ⟨f, rfl⟩ : ∃ f, fuel = f + 1 := ⟨fuel - 1, by omega⟩
    unfold F13_1_it F13_1_step
    cases m with
    | zero => rw [bn (by rw [str_size]; omega), List.drop_eq_nil_of_le (by omega)]; simp [qs]
    | succ m =>
      have hi : i < l.length := by omega
      have := qb_len (l.getD i 0)
      rw [bp (by rw [str_size]; omega), q13_0 ho hi hl (by omega), wp (by omega), show ((i : Int) + 1) = ((i + 1 : Nat) : Int) by omega]
      rw [q13_it ho hl m f (i + 1) _ (by omega) (by omega) (by rw [List.length_append]; omega), drop_qs hi, List.append_assoc]
theorem quoS {n : Nat} {l : List Int} (hn : 20000 ≤ n) (ho : okb l) (hl : l.length ≤ 1000) : F13 n (str l) = some (str (quo l), ()) := by
  unfold F13 F13_1
  have e := q13_it (n := n) (k0 := fun z256 => (bif (decide (((z256.size) + (1 : Nat)) ≤ (68719476736 : Nat))) then some ((z256 ++ ({ data := #[39] } : ByteArray)), ()) else none)) ho hl l.length n 0 [39] (by omega) (by omega) (by simp; omega)
  rw [Int.natCast_zero] at e
  rw [show ({ data := #[39] } : ByteArray) = str [39] from rfl] at e ⊢
  have hq := qs_len l
  rw [e, List.drop_zero, str_size, bp (by simp; omega), str_app]
  have e2 : [39] ++ qs l ++ [39] = quo l := by simp [quo]
  rw [e2]
end Go.Proofs.Ytmbpcjacbnloaaa.Am
