/- Plain lemmas on texts: found, cut, joined. -/
import Derived.Lib.SplitLaws
import Derived.Lib.Join
namespace Go.Proofs.YtmbpcjacbnloaaaDoor.Am
open Go Go.Lib
set_option autoImplicit false
set_option linter.unusedVariables false

theorem jn_cons (x sep : List UInt8) (l : List (List UInt8)) (h : l ≠ []) : Lib.join (x :: l) sep = x ++ sep ++ Lib.join l sep := by
  match l, h with
  | y :: r, _ =>
    rw [join_cons, join_cons]
    simp [joinTail]
theorem splitK_ne (sep : List UInt8) (save k : Nat) (s : List UInt8) : splitK sep save k s ≠ [] := by
  cases k with
  | zero => simp [splitK]
  | succ k => unfold splitK; split <;> simp
theorem occ_parts {s sub : List UInt8} {i : Nat} (h : occAt s sub i = true) : s = s.take i ++ (sub ++ s.drop (i + sub.length)) := by
  unfold occAt at h
  obtain ⟨t, ht⟩ := List.isPrefixOf_iff_prefix.1 h
  have e : s.drop (i + sub.length) = t := by rw [← List.drop_drop, ← ht]; simp
  rw [e, ht, List.take_append_drop]
theorem joinK (sep : List UInt8) : ∀ (k : Nat) (s : List UInt8), Lib.join (splitK sep 0 k s) sep = s
  | 0, s => join_one s sep
  | k + 1, s => by
    unfold splitK
    split
    · exact join_one s sep
    · rename_i hm
      rcases index_spec s sep with ⟨h1, _⟩ | ⟨i, h1, h2, h3, _⟩
      · exact absurd (beq_iff_eq.2 h1) hm
      · have e : (index s sep).toNat = i := by omega
        rw [jn_cons _ _ _ (splitK_ne _ _ _ _), joinK sep k, e, Nat.add_zero, List.append_assoc]
        exact (occ_parts h3).symm
theorem occ_take {s sub : List UInt8} {i j : Nat} (h : occAt (s.take i) sub j = true) : occAt s sub j = true := by
  unfold occAt at *
  obtain ⟨t, ht⟩ := List.isPrefixOf_iff_prefix.1 h
  refine List.isPrefixOf_iff_prefix.2 ⟨t ++ (s.drop (max i j)), ?_⟩
  rw [← List.append_assoc, ht]
  by_cases hij : j ≤ i
  · rw [Nat.max_eq_left hij]
    have := congrArg (List.drop j) (List.take_append_drop i s)
    rw [List.drop_append] at this
    rw [List.length_take] at this
    by_cases hi : i ≤ s.length
    · rw [Nat.min_eq_left hi, Nat.sub_eq_zero_of_le hij, List.drop_zero] at this
      exact this
    · rw [show s.drop i = [] from List.drop_eq_nil_of_le (by omega), List.append_nil, List.take_of_length_le (by omega)]
  · rw [Nat.max_eq_right (by omega), List.drop_eq_nil_of_le (by rw [List.length_take]; omega)]; rfl
/-- no piece has the part -/
theorem pieceK (sep : List UInt8) (h0 : sep ≠ []) : ∀ (k : Nat) (s x : List UInt8), count s sep = k → x ∈ splitK sep 0 k s → index x sep = -1
  | 0, s, x, hk, hx => by
    have hx' : x = s := by simpa [splitK] using hx
    subst hx'
    rcases index_spec x sep with ⟨h1, _⟩ | ⟨i, h1, h2, h3, _⟩
    · exact h1
    · rw [count_hit h0 h1] at hk; omega
  | k + 1, s, x, hk, hx => by
    unfold splitK at hx
    rcases index_spec s sep with ⟨h1, _⟩ | ⟨i, h1, h2, h3, h4⟩
    · rw [count_miss h1] at hk; omega
    · have hm : ¬ (index s sep == -1) = true := fun e => by have := beq_iff_eq.1 e; omega
      have e : (index s sep).toNat = i := by omega
      rw [if_neg hm, e, Nat.add_zero] at hx
      rcases List.mem_cons.1 hx with hx | hx
      · subst hx
        refine index_none fun j hj => ?_
        cases hc : occAt (s.take i) sep j with
        | false => rfl
        | true =>
          have hs := occ_take hc
          have hr := occAt_room hc
          rcases hr with hr | hr
          · rw [List.length_take] at hr
            have hl : 0 < sep.length := List.length_pos_iff.2 h0
            rw [h4 j (by omega)] at hs
            cases hs
          · exact absurd hr h0
      · exact pieceK sep h0 k _ x (by have := count_hit h0 h1; omega) hx
theorem pieceK_le (sep : List UInt8) : ∀ (k : Nat) (s x : List UInt8), x ∈ splitK sep 0 k s → x.length ≤ s.length
  | 0, s, x, hx => by
    have hx' : x = s := by simpa [splitK] using hx
    rw [hx']; exact Nat.le_refl _
  | k + 1, s, x, hx => by
    unfold splitK at hx
    split at hx
    · have hx' : x = s := by simpa using hx
      rw [hx']; exact Nat.le_refl _
    · rcases List.mem_cons.1 hx with hx | hx
      · subst hx; rw [List.length_take]; omega
      · have := pieceK_le sep k _ x hx
        rw [List.length_drop] at this; omega

-- bytes ---------------------------------------------------------------------------------------------------------------------------
/-- the pieces of a text -/
def sp (s p : ByteArray) : List ByteArray := splitB p 0 (countB s p) s
def jB (xs : List ByteArray) (sep : ByteArray) : ByteArray := ⟨(Lib.join (xs.map (·.data.toList)) sep.data.toList).toArray⟩
theorem ba_ext {a b : ByteArray} (h : a.data.toList = b.data.toList) : a = b := by
  obtain ⟨⟨x⟩⟩ := a; obtain ⟨⟨y⟩⟩ := b
  simp only at h
  rw [h]
theorem ba_ne {p : ByteArray} (h : 1 ≤ p.size) : p.data.toList ≠ [] := fun e => by
  have : p.size = 0 := by rw [size_eq, e]; rfl
  omega
theorem jB_sp (s p : ByteArray) : jB (sp s p) p = s := by
  refine ba_ext ?_
  show Lib.join ((sp s p).map (·.data.toList)) p.data.toList = _
  unfold sp
  rw [splitB_data]
  exact joinK _ _ _
theorem sp_data (s p : ByteArray) : (sp s p).map (·.data.toList) = splitK p.data.toList 0 (countB s p) s.data.toList := splitB_data _ _ _ _
theorem sp_no {s p x : ByteArray} (hp : 1 ≤ p.size) (h : x ∈ sp s p) : index x.data.toList p.data.toList = -1 := by
  have h' : x.data.toList ∈ splitK p.data.toList 0 (countB s p) s.data.toList := by rw [← sp_data]; exact List.mem_map_of_mem h
  exact pieceK _ (ba_ne hp) _ _ _ rfl h'
theorem sp_le {s p x : ByteArray} (h : x ∈ sp s p) : x.size ≤ s.size := by
  have h' : x.data.toList ∈ splitK p.data.toList 0 (countB s p) s.data.toList := by rw [← sp_data]; exact List.mem_map_of_mem h
  have := pieceK_le _ _ _ _ h'
  rw [size_eq, size_eq]; exact this
theorem sp_len {s p : ByteArray} (hp : 1 ≤ p.size) : (sp s p).length ≤ s.size + 1 := by
  have h1 := splitB_length_le p 0 (countB s p) s
  have h2 := countB_le p hp s.size s (Nat.le_refl _)
  show (splitB p 0 (countB s p) s).length ≤ _
  omega
theorem lens_le (n : Nat) : ∀ (l : List (List UInt8)), (∀ x ∈ l, x.length ≤ n) → lens l ≤ l.length * n
  | [], _ => by simp [lens]
  | x :: r, h => by
    have h1 := h x (List.mem_cons_self ..)
    have h2 := lens_le n r (fun y hy => h y (List.mem_cons_of_mem _ hy))
    simp only [lens, List.map_cons, List.sum_cons, List.length_cons] at *
    rw [Nat.add_mul, Nat.one_mul]; omega
theorem jB_size (xs : List ByteArray) (p : ByteArray) (n : Nat) (h : ∀ x ∈ xs, x.size ≤ n) : (jB xs p).size ≤ xs.length * (n + p.size) := by
  match xs, h with
  | [], _ => exact Nat.zero_le _
  | x :: r, h =>
    show (⟨(Lib.join ((x :: r).map (·.data.toList)) p.data.toList).toArray⟩ : ByteArray).size ≤ _
    rw [size_eq]
    simp only [List.map_cons]
    rw [join_length]
    have hl := lens_le n (x.data.toList :: r.map (·.data.toList)) (by
      intro y hy
      rcases List.mem_cons.1 hy with rfl | hy
      · rw [← size_eq]; exact h _ (List.mem_cons_self ..)
      · obtain ⟨z, hz, rfl⟩ := List.mem_map.1 hy
        rw [← size_eq]; exact h _ (List.mem_cons_of_mem _ hz))
    rw [List.length_map, ← size_eq]
    simp only [List.length_cons, List.length_map] at hl ⊢
    rw [Nat.mul_add]
    have : p.size * r.length ≤ (r.length + 1) * p.size := by rw [Nat.mul_comm, Nat.add_mul]; omega
    omega
theorem join_size {s p t : ByteArray} (hp : 1 ≤ p.size) (hs : s.size ≤ 400) (ht : t.size ≤ 400) : (jB (sp s p) t).size ≤ 401 * 800 := by
  have h1 := jB_size (sp s p) t 400 (fun x hx => Nat.le_trans (sp_le hx) hs)
  have h2 := sp_len (s := s) hp
  refine Nat.le_trans h1 (Nat.mul_le_mul ?_ ?_) <;> omega

-- the first place from a place on
/-- is the part at this place -/
def At (s p : ByteArray) (i : Nat) : Prop := i + p.size ≤ s.size ∧ s.extract i (i + p.size) = p
theorem at_iff {s p : ByteArray} {i : Nat} (hi : i + p.size ≤ s.size) : occAt s.data.toList p.data.toList i = true ↔ s.extract i (i + p.size) = p := by
  rw [occAt_iff_take _ _ _ (by rw [← size_eq, ← size_eq]; exact hi), beq_iff_eq, ← size_eq p]
  have e : (s.extract i (i + p.size)).data.toList = (s.data.toList.drop i).take p.size := by rw [extract_data, Nat.add_sub_cancel_left]
  rw [← e]
  exact ⟨fun h => ba_ext h, fun h => by rw [h]⟩
theorem occ_drop {s p : List UInt8} {f j : Nat} : occAt (s.drop f) p j = occAt s p (f + j) := by
  unfold occAt; rw [List.drop_drop]
/-- what is found from a place on -/
theorem find_none {s p : ByteArray} {f : Nat} (hp : 1 ≤ p.size) (h : indexB (s.extract f s.size) p = -1) (i : Nat) (hi : f ≤ i) : ¬ At s p i := by
  intro ⟨h1, h2⟩
  have h3 := (at_iff h1).2 h2
  rcases index_spec (s.extract f s.size).data.toList p.data.toList with ⟨_, g⟩ | ⟨j, g, _⟩
  · rw [extract_to_end] at g
    have := g (i - f) (by rw [List.length_drop, ← size_eq]; omega)
    rw [occ_drop, Nat.add_sub_cancel' hi, h3] at this
    cases this
  · have h' : index (s.extract f s.size).data.toList p.data.toList = -1 := h
    omega
theorem find_some {s p : ByteArray} {f k : Nat} (hp : 1 ≤ p.size) (h : indexB (s.extract f s.size) p = k) (hf : f ≤ s.size) : At s p (f + k) ∧ ∀ i, f ≤ i → i < f + k → ¬ At s p i := by
  have h' : index (s.extract f s.size).data.toList p.data.toList = k := h
  rcases index_spec (s.extract f s.size).data.toList p.data.toList with ⟨g, _⟩ | ⟨j, g, gl, go, gn⟩
  · omega
  · have hj : j = k := by omega
    subst hj
    rw [extract_to_end] at go gn gl
    rw [occ_drop] at go
    have hr : f + j + p.size ≤ s.size := by
      rcases occAt_room go with hr | hr
      · rw [← size_eq, ← size_eq] at hr; exact hr
      · exact absurd hr (ba_ne hp)
    refine ⟨⟨hr, (at_iff hr).1 go⟩, fun i hi hlt ⟨h1, h2⟩ => ?_⟩
    have h3 := (at_iff h1).2 h2
    have := gn (i - f) (by omega)
    rw [occ_drop, Nat.add_sub_cancel' hi, h3] at this
    cases this
theorem sp_from {s p : ByteArray} {f k : Nat} (hp : 1 ≤ p.size) (hf : f ≤ s.size) (h : indexB (s.extract f s.size) p = k) : sp (s.extract f s.size) p = s.extract f (f + k) :: sp (s.extract (f + k + p.size) s.size) p := by
  have hr := (find_some hp h hf).1.1
  show splitB _ _ _ _ = _ :: splitB _ _ _ _
  rw [countB_hit _ p k hp h, Nat.add_comm 1, splitB_hit p 0 _ _ k h]
  have e : (s.extract f s.size).extract (k + p.size) (s.extract f s.size).size = s.extract (f + k + p.size) s.size := by
    refine ba_ext ?_
    rw [extract_to_end, extract_to_end, extract_to_end, List.drop_drop, Nat.add_assoc]
  have e2 : (s.extract f s.size).extract 0 (k + 0) = s.extract f (f + k) := by
    refine ba_ext ?_
    rw [extract_data, extract_to_end, extract_data]
    simp
  rw [e, e2]
theorem sp_last {s p : ByteArray} {f : Nat} (h : indexB (s.extract f s.size) p = -1) : sp (s.extract f s.size) p = [s.extract f s.size] := by
  show splitB _ _ _ _ = _
  rw [splitB_miss _ _ _ _ h]
theorem sp_all (s p : ByteArray) : sp (s.extract 0 s.size) p = sp s p := by
  rw [ba_ext (a := s.extract 0 s.size) (b := s) (by rw [extract_to_end]; rfl)]
end Go.Proofs.YtmbpcjacbnloaaaDoor.Am
