/- slices.Insert of one item, slices.Delete: what they do to rows. -/
import Derived.Test.YtjanepkjjmcchaaAmDel
namespace Go.Proofs.Ytjanepkjjmcchaa.Am
open Go Go.Proofs Go.RowKit
set_option autoImplicit false
set_option linter.unusedVariables false
set_option linter.unusedSimpArgs false
section
variable {P : Program} {G : Sig} {F N : Nat → Prop} {c c' : Cf G}

theorem heap_cell {w : World} {b : Nat} {cs : Array Value} {te : TypeId} (h : w.heap[b]? = some (.cells cs te (0, 0))) (j : Nat) : w.cell? ⟨b, j, none⟩ = cs[j]? := by
  simp only [World.cell?, h, Option.isSome_none, Bool.false_eq_true, if_false]

theorem first_raw {w : World} {b off m sz l cap : Nat} {cs : Array Value} {te : TypeId} (h : w.heap[b]? = some (.cells cs te (0, 0))) (hfit : off + m * sz ≤ cs.size) :
    (Builtin.firstCells sz m (.slice (some ⟨b, off, none⟩) l cap)).run P w = .ok (cs.extract off (off + m * sz)) w := by
  have e : (cs.extract off (off + m * sz)).toList.length = m * sz := by simp; omega
  have := run_loadCells_list (P := P) w ⟨b, off, none⟩ (cs.extract off (off + m * sz)).toList (fun j v hj => by
    rw [add_plain, heap_cell h]
    rw [Array.getElem?_toList, Array.getElem?_extract] at hj
    split at hj
    · exact hj
    · cases hj)
  rw [e, Array.toArray_toList] at this
  exact this

theorem first_none {w : World} {a : Addr} {sz l cap : Nat} : (Builtin.firstCells sz 0 (.slice (some a) l cap)).run P w = .ok #[] w := by
  have := run_loadCells_list (P := P) w a [] (by simp)
  simpa [Builtin.firstCells] using this

theorem copy_raw {t t' ty e : TypeId} {i : TypeInfo} {w : World} {b off dLen dCap n sl : Nat} {src : Value} {news cs : Array Value} {te : TypeId} (ht : P.underlying t = some (.slice e)) (hi : P.info? e = some i)
    (hl : (Builtin.lenOf src).run P w = .ok sl w) (hn : Nat.min sl dLen = n) (hf : (Builtin.firstCells i.size n src).run P w = .ok news w) (hh : w.heap[b]? = some (.cells cs te (0, 0))) (hle : off + news.size ≤ cs.size) (h1 : ∀ v ∈ news.toList, v.oneCell' = true) :
    (Builtin.copy_ #[t, t'] ty #[.slice (some ⟨b, off, none⟩) dLen dCap, src]).run P w = .ok (goInt n) (w.setRow b (splice cs.toList off news.toList).toArray) := by
  have hst := Go.run_storeCells_at P b off te news.toList 0 cs w hh (by simpa using hle) h1
  unfold Builtin.copy_
  simp only [List.getElem?_toArray, List.getElem?_cons_zero, List.getElem?_cons_succ, Sem.run_bind, run_underlying' ht, run_sizeOf' hi, Result.andThen_ok, hl, hn, hf]
  simp only [Sem.run_bind, Sem.run_pure, hst, Result.andThen_ok]
  simp [splice]

theorem clear_raw {t ty e : TypeId} {i : TypeInfo} {z : Value} {w : World} {b off n cap : Nat} {cs : Array Value} {te : TypeId} (ht : P.underlying t = some (.slice e)) (hi : P.info? e = some i) (hz : i.zero = some z) (hn : 0 < n)
    (hh : w.heap[b]? = some (.cells cs te (0, 0))) (hle : off + n * z.cells.size ≤ cs.size) (h1 : ∀ v ∈ (Builtin.zeroCells z.cells n).toList, v.oneCell' = true) :
    (Builtin.clear_ #[t] ty #[.slice (some ⟨b, off, none⟩) n cap]).run P w = .ok (.tuple #[]) (w.setRow b (splice cs.toList off (Builtin.zeroCells z.cells n).toList).toArray) := by
  have hs : (Builtin.zeroCells z.cells n).toList.length = n * z.cells.size := by simp [Builtin.zeroCells]
  have hst := Go.run_storeCells_at P b off te (Builtin.zeroCells z.cells n).toList 0 cs w hh (by rw [hs]; simpa using hle) h1
  obtain ⟨n, rfl⟩ : ∃ m, n = m + 1 := ⟨n - 1, by omega⟩
  unfold Builtin.clear_
  simp only [List.getElem?_toArray, List.getElem?_cons_zero, List.getElem?_cons_succ, Sem.run_bind, run_underlying' ht, Result.andThen_ok, zeroValue, run_typeInfo' hi, hz, Sem.run_pure, hst]
  simp [splice]

theorem zero_one {k n : Nat} {z : Value} (L : Laws P G) (hk : k < G.n) (hz : (P.info? (G.E k)).bind (·.zero) = some z) : ∀ v ∈ (Builtin.zeroCells z.cells n).toList, v.oneCell' = true := by
  obtain ⟨hzs, hzr⟩ := zero_row (F := fun _ => False) (c := ⟨default, [], []⟩) L hk hz
  intro v hv
  obtain ⟨p, hp⟩ := List.getElem?_of_mem hv
  have hpos := L.pos k hk
  have hp : (Builtin.zeroCells z.cells n)[p]? = some v := by simpa using hp
  unfold Builtin.zeroCells at hp
  rw [Array.getElem?_map, Option.map_eq_some_iff] at hp
  obtain ⟨q, hq, rfl⟩ := hp
  have hlt : q % z.cells.size < z.cells.size := Nat.mod_lt _ (by rw [hzs]; exact hpos)
  have hlt' : q % z.cells.size < esz P G k := by rw [← hzs]; exact hlt
  have hd : (G.op k (G.df k))[q % z.cells.size]? = some ((G.op k (G.df k))[q % z.cells.size]'(by rw [L.len k hk]; exact hlt')) := by simp [L.len k hk, hlt']
  refine leaf_one L hk hd (hzr _ _ _ ?_ hd)
  simp [hlt]

theorem Cells.app {k : Nat} {xs ys : List (G.T k)} {A B : Array Value} (L : Laws P G) (hk : k < G.n) (h1 : Cells P G F c k xs A) (h2 : Cells P G F c k ys B) : Cells P G F c k (xs ++ ys) (A ++ B) := by
  refine ⟨by simp [h1.1, h2.1, Nat.add_mul], fun v hv => ?_, fun i x hx => ?_⟩
  · simp only [Array.toList_append, List.mem_append] at hv
    rcases hv with hv | hv
    · exact h1.2.1 v hv
    · exact h2.2.1 v hv
  · have := row_append (rest := #[]) L hk h1 h2 i x hx
    simpa using this

/-- the cells of a part of a row -/
theorem cells_part {o k b i j : Nat} {xs : List (G.T k)} {wr : Bool} {β : Blk} {cs : Array Value} (L : Laws P G) (ok : OK P G F N c) (ho : c.os[o]? = some (.arr k xs wr)) (hm : c.m[o]? = some β) (hb : β.b = some b)
    (hh : c.w.heap[b]? = some (.cells cs (G.E k) (0, 0))) (hij : i ≤ j) (hj : j ≤ xs.length) (hle : xs.length * esz P G k ≤ cs.size) : Cells P G F c k ((xs.take j).drop i) (cs.extract (i * esz P G k) (j * esz P G k)) := by
  obtain ⟨hk, -⟩ := ok.obj _ _ _ ho hm
  have hjm : j * esz P G k ≤ xs.length * esz P G k := Nat.mul_le_mul_right _ hj
  have him : i * esz P G k ≤ j * esz P G k := Nat.mul_le_mul_right _ hij
  have hl : ((xs.take j).drop i).length = j - i := by simp; omega
  have hH : Holds P G F c (some ⟨b, i * esz P G k, none⟩) k ((xs.take j).drop i) := by
    intro q x hx p d hd
    rw [List.getElem?_drop, List.getElem?_take] at hx
    split at hx
    case isFalse => cases hx
    obtain ⟨ad, u, e, h1, h2⟩ := arr_holds ok ho hm hb (i + q) x hx p d hd
    cases e
    refine ⟨_, u, rfl, ?_, h2⟩
    rw [add_plain] at h1 ⊢
    rw [← h1]
    congr 2
    rw [Nat.add_mul]; omega
  obtain ⟨news, hn, hf⟩ := holds_cells L hk hH
  have h1 := hf 0 c.w rfl
  rw [hl, first_raw (P := P) hh (by rw [← Nat.add_mul, show i + (j - i) = j by omega]; omega), ← Nat.add_mul, show i + (j - i) = j by omega] at h1
  cases h1
  exact hn

theorem cells_drop {o k b i : Nat} {xs : List (G.T k)} {wr : Bool} {β : Blk} {cs : Array Value} (L : Laws P G) (ok : OK P G F N c) (ho : c.os[o]? = some (.arr k xs wr)) (hm : c.m[o]? = some β) (hb : β.b = some b)
    (hh : c.w.heap[b]? = some (.cells cs (G.E k) (0, 0))) (hi : i ≤ xs.length) (hle : xs.length * esz P G k ≤ cs.size) : Cells P G F c k (xs.drop i) (cs.extract (i * esz P G k) (xs.length * esz P G k)) := by
  have := cells_part L ok ho hm hb hh hi (Nat.le_refl _) hle
  rw [List.take_of_length_le (Nat.le_refl _)] at this
  exact this
theorem cells_take {o k b j : Nat} {xs : List (G.T k)} {wr : Bool} {β : Blk} {cs : Array Value} (L : Laws P G) (ok : OK P G F N c) (ho : c.os[o]? = some (.arr k xs wr)) (hm : c.m[o]? = some β) (hb : β.b = some b)
    (hh : c.w.heap[b]? = some (.cells cs (G.E k) (0, 0))) (hj : j ≤ xs.length) (hle : xs.length * esz P G k ≤ cs.size) : Cells P G F c k (xs.take j) (cs.extract 0 (j * esz P G k)) := by
  have := cells_part L ok ho hm hb hh (Nat.zero_le _) hj hle
  rw [List.drop_zero, Nat.zero_mul] at this
  exact this
theorem cells_all {o k b : Nat} {xs : List (G.T k)} {wr : Bool} {β : Blk} {cs : Array Value} (L : Laws P G) (ok : OK P G F N c) (ho : c.os[o]? = some (.arr k xs wr)) (hm : c.m[o]? = some β) (hb : β.b = some b)
    (hh : c.w.heap[b]? = some (.cells cs (G.E k) (0, 0))) (hle : xs.length * esz P G k ≤ cs.size) : Cells P G F c k xs (cs.extract 0 (xs.length * esz P G k)) := by
  have := cells_drop L ok ho hm hb hh (Nat.zero_le _) hle
  rw [List.drop_zero, Nat.zero_mul] at this
  exact this

/-- a row in its own block, changed, under a new name -/
theorem fin_mov {o nb k b cap : Nat} {xs ys : List (G.T k)} {β : Blk} {R A rest : Array Value} {w' : World} (L : Laws P G) (ok : OK P G F N c) (ho : c.os[o]? = some (.arr k xs true)) (hm : c.m[o]? = some β) (hb : β.b = some b)
    (hnb : c.os[nb]? = some .free) (sys : w'.os = c.w.os ∧ w'.tape = c.w.tape ∧ w'.output = c.w.output) (size : w'.heap.size = c.w.heap.size) (keep : ∀ b2, b2 ≠ b → w'.heap[b2]? = c.w.heap[b2]?)
    (hh : w'.heap[b]? = some (.cells R (G.E k) (0, 0))) (hR : R.size = β.n) (hA : R = A ++ rest) (hc : Cells P G F c k ys A) (hcap : ys.length ≤ cap) (hn : cap * esz P G k ≤ β.n) :
    ∃ m', Tr G F c ⟨w', m', setObj (setObj c.os o .dead) nb (.arr k ys true)⟩ ∧ OK P G F N ⟨w', m', setObj (setObj c.os o .dead) nb (.arr k ys true)⟩ ∧
      VR P G F ⟨w', m', setObj (setObj c.os o .dead) nb (.arr k ys true)⟩ (.own nb) (.slice (some ⟨b, 0, none⟩) ys.length cap) := by
  obtain ⟨hk, hob⟩ := ok.obj _ _ _ ho hm
  rcases hob with ⟨hb', -, -⟩ | ⟨b', cs', hb', hfp, hheap, hcs, hle, hrow⟩
  · rw [hb] at hb'; cases hb'
  rw [hb] at hb'; cases hb'
  have mv : Mov c o nb β (.arr k xs true) (.arr k ys true) w' := {
    ho := ho, hm := hm, mu := rfl, nb := hnb, sys := sys, size := size,
    keep := fun b2 hb2 => keep b2 (by rintro rfl; exact hb2 (by simp [hfp])),
    fz := fun a h => by
      by_cases e : a.block = b
      · exact frozen_zero (by rw [e]; exact hh)
      · exact frozen_block (keep _ e) h }
  have tr := mv.tr ok
  have hob : ObjR P G F (movCf c o nb β (.arr k ys true) w') β (.arr k ys true) := by
    refine ⟨hk, .inr ⟨b, R, hb, hfp, hh, hR, ?_, ?_⟩⟩
    · exact Nat.le_trans (Nat.mul_le_mul_right _ hcap) hn
    · intro q y hy j d hd
      obtain ⟨v, hv, hvr⟩ := hc.2.2 q y hy j d hd
      refine ⟨v, ?_, hvr.mono tr⟩
      have hlt := (Array.getElem?_eq_some_iff.1 hv).1
      rw [hA, Array.getElem?_append_left hlt]; exact hv
  obtain ⟨a1, a2⟩ := mv.at_nb ok.len
  exact ⟨_, tr, mv.ok ok hob, .own nb k ys true β b cap a1 a2 hb hcap hn⟩

theorem splice2 {α : Type} (A1 A3 T V : List α) (s : Nat) (hV : V.length = s) (hT : s ≤ T.length) :
    splice (splice (A1 ++ A3 ++ T) (A1.length + s) A3) A1.length V = A1 ++ V ++ A3 ++ T.drop s := by
  have h1 : (A1 ++ A3 ++ T).take (A1.length + s) = A1 ++ (A3 ++ T).take s := by
    rw [List.append_assoc, List.take_append]; simp [List.take_of_length_le]
  have h2 : (A1 ++ A3 ++ T).drop (A1.length + s + A3.length) = T.drop s := by
    rw [show A1.length + s + A3.length = (A1 ++ A3).length + s by simp; omega, List.drop_append]; simp
  have hl : ((A3 ++ T).take s).length = s := by simp; omega
  have e1 : splice (A1 ++ A3 ++ T) (A1.length + s) A3 = A1 ++ ((A3 ++ T).take s ++ (A3 ++ T.drop s)) := by
    unfold splice; rw [h1, h2]; simp
  rw [e1]
  unfold splice
  rw [List.take_left' rfl, ← List.append_assoc A1, hV, List.drop_left' (by rw [List.length_append, hl])]
  simp
theorem splice3 {α : Type} (A1 A3 Z V : List α) (s q : Nat) (hV : V.length = s) (hA : A3.length = q) (hZ : s + q ≤ Z.length) :
    splice (splice (A1 ++ Z) A1.length V) (A1.length + s) A3 = A1 ++ V ++ A3 ++ Z.drop (s + q) := by
  have e1 : splice (A1 ++ Z) A1.length V = A1 ++ V ++ Z.drop s := by
    unfold splice
    rw [List.take_left' rfl, hV, List.drop_append]
    simp [List.drop_eq_nil_of_le]
  rw [e1]
  unfold splice
  rw [List.take_left' (by simp [hV]), hA, show A1.length + s + q = (A1 ++ V).length + q by simp [hV], List.drop_append]
  simp [List.drop_eq_nil_of_le, List.drop_drop]
theorem splice4 {α : Type} (A1 A3 T Z : List α) :
    splice (splice (A1 ++ T) A1.length A3) (A1.length + A3.length) Z = A1 ++ A3 ++ (Z ++ T.drop (A3.length + Z.length)) := by
  have e1 : splice (A1 ++ T) A1.length A3 = A1 ++ A3 ++ T.drop A3.length := by
    unfold splice
    rw [List.take_left' rfl, List.drop_append]
    simp [List.drop_eq_nil_of_le]
  rw [e1]
  unfold splice
  rw [List.take_left' (by simp), show A1.length + A3.length + Z.length = (A1 ++ A3).length + Z.length by simp, List.drop_append]
  simp [List.drop_eq_nil_of_le, List.drop_drop]
theorem cut3 {α : Type} (C : List α) (p q : Nat) (h : p ≤ q) : C = C.take p ++ (C.take q).drop p ++ C.drop q := by
  conv => lhs; rw [← List.take_append_drop q C, ← List.take_append_drop p (C.take q)]
  rw [List.take_take, Nat.min_eq_left h]
end
end Go.Proofs.Ytjanepkjjmcchaa.Am
