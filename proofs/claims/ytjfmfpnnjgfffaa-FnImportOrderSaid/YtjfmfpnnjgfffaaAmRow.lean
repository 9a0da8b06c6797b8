/- The abstract machine: literals of structs and slices. -/
import Derived.Test.YtjfmfpnnjgfffaaAmChg
namespace Go.Proofs.Ytjfmfpnnjgfffaa.Am
open Go
set_option autoImplicit false
set_option linter.unusedVariables false
set_option linter.unusedSectionVars false
set_option linter.unusedSimpArgs false

section
variable {P : Program} {G : Sig} {F N : Nat → Prop} {c c' c'' : Cf G}

theorem foldl_set (l : List Value) : ∀ (k off : Nat) (cells : Array Value), 
    ((l.zipIdx k).foldl (fun (cs : Array Value) (p : Value × Nat) => cs.setIfInBounds (off + p.2) p.1) cells).size = cells.size ∧
    ∀ m, m < cells.size → ((l.zipIdx k).foldl (fun (cs : Array Value) (p : Value × Nat) => cs.setIfInBounds (off + p.2) p.1) cells)[m]? = if off + k ≤ m ∧ m < off + k + l.length then l[m - (off + k)]? else cells[m]? := by
  induction l with
  | nil => intro k off cells; simp; intro m _ h1 h2; omega
  | cons a l ih =>
    intro k off cells
    simp only [List.zipIdx_cons, List.foldl_cons]
    obtain ⟨h1, h2⟩ := ih (k + 1) off (cells.setIfInBounds (off + k) a)
    refine ⟨by simpa using h1, fun m hm => ?_⟩
    rw [h2 m (by simpa using hm)]
    by_cases e : m = off + k
    · subst e
      rw [if_neg (by omega), if_pos (by simp)]
      simp [hm]
    · by_cases h3 : off + (k + 1) ≤ m ∧ m < off + (k + 1) + l.length
      · rw [if_pos h3, if_pos (by simp; omega)]
        have : m - (off + k) = (m - (off + (k + 1))) + 1 := by omega
        rw [this]; simp
      · rw [if_neg h3, if_neg (by simp; omega)]
        rw [Array.getElem?_setIfInBounds_ne (by omega)]

theorem fill_step {place : Nat → Option (Nat × Nat)} {cells : Array Value} {i off size : Nat} {v : Value} {rest : List (Nat × Value)} (hp : place i = some (off, size)) (hs : v.cells.size = size) (hle : off + v.cells.size ≤ cells.size) :
    ∃ cells', Instr.fill place cells ((i, v) :: rest) = Instr.fill place cells' rest ∧ cells'.size = cells.size ∧
      ∀ m, m < cells.size → cells'[m]? = if off ≤ m ∧ m < off + v.cells.size then v.cells[m - off]? else cells[m]? := by
  have hf := foldl_set v.cells.toList 0 off cells
  refine ⟨v.cells.zipIdx.foldl (fun cs (c, j) => cs.setIfInBounds (off + j) c) cells, ?_, ?_, ?_⟩
  · conv => lhs; unfold Instr.fill
    simp only [hp]
    rw [if_neg (by simp only [Bool.or_eq_true, decide_eq_true_eq, not_or]; omega)]
  · rw [← Array.foldl_toList, Array.toList_zipIdx]; exact hf.1
  · intro m hm
    rw [← Array.foldl_toList, Array.toList_zipIdx]
    have := hf.2 m hm
    simp only [Nat.add_zero, Array.length_toList, Array.getElem?_toList] at this
    exact this

/-- the operands of a literal -/
def Parts (P : Program) (G : Sig) (F : Nat → Prop) (c : Cf G) (ps : List (Nat × AV G.T)) (qs : List (Nat × Value)) : Prop :=
  ps.length = qs.length ∧ ∀ (i : Nat) (p : Nat × AV G.T) (q : Nat × Value), ps[i]? = some p → qs[i]? = some q → p.1 = q.1 ∧ VR P G F c p.2 q.2

theorem Parts.cons {p : Nat × AV G.T} {q : Nat × Value} {ps : List (Nat × AV G.T)} {qs : List (Nat × Value)} (h : Parts P G F c (p :: ps) (q :: qs)) : p.1 = q.1 ∧ VR P G F c p.2 q.2 ∧ Parts P G F c ps qs := by
  obtain ⟨h1, h2⟩ := h
  obtain ⟨h3, h4⟩ := h2 0 p q rfl rfl
  exact ⟨h3, h4, by simpa using h1, fun i p q hp hq => h2 (i + 1) p q (by simpa using hp) (by simpa using hq)⟩

theorem buildCells_ok {fs : List (Nat × TypeId)} {place : Nat → Option (Nat × Nat)} (hpl : ∀ (i off : Nat) (ft : TypeId), fs[i]? = some (off, ft) → place i = some (off, szT P ft)) :
    ∀ {ps : List (Nat × AV G.T)} {qs : List (Nat × Value)} {cs ds : List (AV G.T)} {l : List Nat} {cells : Array Value}, Parts P G F c ps qs → Runs P G c.os (buildCells P G fs cs ps) l ds →
      cs.length = cells.size → (∀ (j : Nat) (d : AV G.T) (v : Value), cs[j]? = some d → cells[j]? = some v → VR P G F c d v) →
      ∃ cells', Instr.fill place cells qs = some cells' ∧ ds.length = cells'.size ∧ ∀ (j : Nat) (d : AV G.T) (v : Value), ds[j]? = some d → cells'[j]? = some v → VR P G F c d v
  | [], [], cs, ds, l, cells, _, h, hn, hr => by
    obtain ⟨rfl, -⟩ := h.pure_inv
    exact ⟨cells, rfl, hn, hr⟩
  | [], _ :: _, _, _, _, _, hp, _, _, _ => by simp [Parts] at hp
  | _ :: _, [], _, _, _, _, hp, _, _, _ => by simp [Parts] at hp
  | (i, v) :: ps, (i', u) :: qs, cs, ds, l, cells, hp, h, hn, hr => by
    obtain ⟨h1, h2, hp'⟩ := hp.cons
    simp only at h1 h2; subst h1
    simp only [buildCells] at h
    split at h
    · rename_i off ft vs hfs hfl
      split at h
      · rename_i hsz
        split at h
        · rename_i hle
          obtain ⟨hs, hc⟩ := flatC_rel hfl h2
          obtain ⟨cells1, e1, e2, e3⟩ := fill_step (rest := qs) (hpl i off ft hfs) (by rw [hs, hsz]) (cells := cells) (by rw [hs, ← hn]; exact hle)
          obtain ⟨cells', f1, f2, f3⟩ := buildCells_ok hpl (cells := cells1) hp' h (by rw [splice_length _ _ _ hle, e2, hn]) (fun j d w hd hw => by
            rw [splice_get _ _ _ hle] at hd
            have hj : j < cells.size := by rw [← e2]; exact (Array.getElem?_eq_some_iff.1 hw).1
            rw [e3 j hj] at hw
            split at hd
            · rename_i hj2
              rw [if_pos (by rw [hs]; exact hj2)] at hw
              exact (hc _ _ _ hd hw).1
            · rename_i hj2
              rw [if_neg (by rw [hs]; exact hj2)] at hw
              exact hr _ _ _ hd hw)
          exact ⟨cells', e1.trans f1, f2, f3⟩
        · exact h.fail_inv.elim
      · exact h.fail_inv.elim
    · exact h.fail_inv.elim

theorem mapM_sizes (fs : Array Field) (hi : ∀ f ∈ fs.toList, ∃ i, P.info? f.type = some i) (w : World) :
    (fs.mapM (m := Sem) fun f => do pure (f.offset, ← sizeOf f.type)).run P w = .ok (fs.map fun f => (f.offset, szT P f.type)) w := by
  have key : ∀ (l : List Field), (∀ f ∈ l, ∃ i, P.info? f.type = some i) → (l.mapM (m := Sem) fun f => do pure (f.offset, ← sizeOf f.type)).run P w = .ok (l.map fun f => (f.offset, szT P f.type)) w := by
    intro l
    induction l with
    | nil => intro _; rfl
    | cons f l ih =>
      intro h
      obtain ⟨i, hi⟩ := h f (by simp)
      rw [List.mapM_cons]
      simp only [Sem.run_bind, run_sizeOf' hi, Result.andThen_ok, Sem.run_pure]
      rw [ih fun g hg => h g (by simp [hg])]
      simp [szT, hi]
  rw [Array.mapM_eq_mapM_toList]
  rw [Sem.run_map, key fs.toList hi]
  simp only [Result.andThen_ok]
  congr 1
  rw [← Array.toList_map]

theorem buildV_ok {t : TypeId} {ps : List (Nat × AV G.T)} {qs : List (Nat × Value)} {d : AV G.T} {l : List Nat} (hp : Parts P G F c ps qs) (h : Runs P G c.os (buildV P G t ps) l d) : VOp P G F c (Instr.build t qs.toArray) d := by
  unfold buildV at h
  split at h
  · rename_i z fs hz hu
    split at h
    case isFalse => exact h.fail_inv.elim
    rename_i hfi
    have hfi : ∀ f ∈ fs.toList, ∃ i, P.info? f.type = some i := fun f hf => Option.isSome_iff_exists.1 (List.all_eq_true.1 hfi f hf)
    obtain ⟨cs, l1, l2, rfl, h1, h2⟩ := h.bind_inv
    obtain ⟨rfl, -⟩ := h2.pure_inv
    simp only [Option.bind_eq_some_iff] at hz
    obtain ⟨zz, hz1, hz2⟩ := hz
    obtain ⟨i, v, hi, hv, rfl⟩ := zero_run hz1
    obtain ⟨hs, hc⟩ := flatC_rel hz2 (litOf_rel F c v)
    obtain ⟨cells', f1, f2, f3⟩ := buildCells_ok (P := P) (c := c) (F := F) (fs := fieldsOf P t) (place := fun i => (fs.map fun f => (f.offset, szT P f.type))[i]?) (fun i off ft hf => by
      obtain ⟨fs', fd, hu', hfd, rfl, rfl⟩ := fieldsOf_some hf
      rw [hu] at hu'; cases hu'
      simp [hfd]) hp h1 (cells := v.cells) hs.symm (fun j d u hd hu => (hc j d u hd hu).1)
    refine ⟨.agg cells', ?_, .agg _ _ f2 f3⟩
    unfold Instr.build zeroValue
    simp only [Sem.run_bind, run_typeInfo' hi, Result.andThen_ok, hv, Sem.run_pure, run_underlying' hu, mapM_sizes fs hfi]
    simp only [f1]
    rfl
  · exact h.fail_inv.elim

end
end Go.Proofs.Ytjfmfpnnjgfffaa.Am
