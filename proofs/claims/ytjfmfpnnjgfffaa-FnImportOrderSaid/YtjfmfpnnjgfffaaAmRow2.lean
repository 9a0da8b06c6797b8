/- The abstract machine: rows: literals, make, append. -/
import Derived.Test.YtjfmfpnnjgfffaaAmRow
namespace Go.Proofs.Ytjfmfpnnjgfffaa.Am
open Go
set_option autoImplicit false
set_option linter.unusedVariables false
set_option linter.unusedSectionVars false
set_option linter.unusedSimpArgs false

section
variable {P : Program} {G : Sig} {F N : Nat → Prop} {c c' c'' : Cf G}

theorem cl_row {k : Nat} {ds : List (AV G.T)} {x : G.T k} (L : Laws P G) (hk : k < G.n) (hcl : G.cl k ds = some x) {q : Nat → Option Value}
    (h : ∀ (j : Nat) (d : AV G.T) (v : Value), ds[j]? = some d → q j = some v → VR P G F c d v) :
    ds.length = esz P G k ∧ ∀ (j : Nat) (e : AV G.T) (v : Value), (G.op k x)[j]? = some e → q j = some v → VR P G F c e v := by
  refine ⟨L.cln k hk ds x hcl, fun j e v he hv => ?_⟩
  have hlt : j < ds.length := by
    rw [L.cln k hk ds x hcl, ← L.len k hk x]; exact (List.getElem?_eq_some_iff.1 he).1
  have hd : ds[j]? = some ds[j] := by simp [hlt]
  have hr := h j _ v hd hv
  rcases L.cl k hk ds x hcl j _ e hd he with h1 | ⟨h1, k', h2, h3⟩
  · rw [← h1]; exact hr
  · rw [h1] at hr
    cases hr with
    | nil0 a ha => rw [h3]; exact VR_imm_of_nil h2 a

theorem sliceLit_ok {k size : Nat} (L : Laws P G) (ok : OK P G F N c) (hk : k < G.n) (hsz : esz P G k = size) :
    ∀ {ps : List (Nat × AV G.T)} {qs : List (Nat × Value)} {i : Nat} {xs : List (G.T k)} {upd : List (Nat × AObj G.T G.U)} {l : List Nat} {cells : Array Value},
      Parts P G F c ps qs → Runs P G c.os (sliceLit G k i ps) l (xs, upd) → (i + ps.length) * size ≤ cells.size →
      ∃ cells', Instr.fill (fun i => some (i * size, size)) cells qs = some cells' ∧ cells'.size = cells.size ∧ (∀ m, m < i * size → cells'[m]? = cells[m]?) ∧ xs.length = ps.length ∧
        (∀ p ∈ upd, FU c.os p) ∧
        ∀ os', Frz c.os os' → (∀ p ∈ upd, os'[p.1]? = some p.2) → ∀ (r : Nat) (x : G.T k), xs[r]? = some x → ∀ (j : Nat) (e : AV G.T), (G.op k x)[j]? = some e →
          ∃ v, cells'[(i + r) * size + j]? = some v ∧ VR P G F ⟨c.w, c.m, os'⟩ e v
  | [], [], i, xs, upd, l, cells, _, h, hle => by
    obtain ⟨e, -⟩ := h.pure_inv; cases e
    exact ⟨cells, rfl, rfl, fun _ _ => rfl, rfl, fun p hp => by simp at hp, fun os' _ _ r x hx => by simp at hx⟩
  | [], _ :: _, _, _, _, _, _, hp, _, _ => by simp [Parts] at hp
  | _ :: _, [], _, _, _, _, _, hp, _, _ => by simp [Parts] at hp
  | (j0, v) :: ps, (j1, u) :: qs, i, xs, upd, l, cells, hp, h, hle => by
    obtain ⟨h1, h2, hp'⟩ := hp.cons
    simp only at h1 h2; subst h1
    simp only [sliceLit] at h
    split at h
    case isFalse => exact h.fail_inv.elim
    rename_i e; subst e
    obtain ⟨ds, l1, l2, rfl, g1, g2⟩ := h.bind_inv
    obtain ⟨hfl, -⟩ := g1.ofOpt_inv
    obtain ⟨⟨ds', u1⟩, l3, l4, rfl, g3, g4⟩ := g2.bind_inv
    obtain ⟨x0, l5, l6, rfl, g5, g6⟩ := g4.bind_inv
    obtain ⟨hcl, -⟩ := g5.ofOpt_inv
    obtain ⟨⟨xs', u2⟩, l7, l8, rfl, g7, g8⟩ := g6.bind_inv
    obtain ⟨e, -⟩ := g8.pure_inv; cases e
    obtain ⟨hs, hc⟩ := flatC_rel hfl h2
    obtain ⟨f1, f2, f3⟩ := fzL_ok (vs := u.cells.toList) L ok g3 (fun a d w hd hw => (hc a d w hd (by simpa using hw)).1)
    have hlen : ds'.length = size := by rw [← hsz]; exact L.cln k hk ds' x0 hcl
    have hsu : u.cells.size = size := by rw [hs, ← f1, hlen]
    simp only [List.length_cons] at hle
    have hm1 : (j0 + (ps.length + 1)) * size = j0 * size + size + ps.length * size := by rw [Nat.add_mul, Nat.add_mul]; omega
    obtain ⟨cells1, e1, e2, e3⟩ := fill_step (place := fun i => some (i * size, size)) (i := j0) (rest := qs) (cells := cells) rfl hsu (by rw [hsu]; omega)
    obtain ⟨cells', b1, b2, b3, b4, b5, b6⟩ := sliceLit_ok L ok hk hsz (cells := cells1) hp' g7 (by
      rw [e2]; have : (j0 + 1 + ps.length) * size = (j0 + (ps.length + 1)) * size := by congr 1; omega
      omega)
    have hj1 : (j0 + 1) * size = j0 * size + size := by rw [Nat.add_mul]; omega
    refine ⟨cells', e1.trans b1, b2.trans e2, fun m hm => ?_, by simp [b4], fun p hp => ?_, fun os' hf hu r x hx j e he => ?_⟩
    · rw [b3 m (by omega), e3 m (by omega), if_neg (by omega)]
    · rcases List.mem_append.1 hp with hp | hp
      · exact f2 p hp
      · exact b5 p hp
    · cases r with
      | zero =>
        simp at hx; subst hx
        have hr := cl_row (c := ⟨c.w, c.m, os'⟩) (F := F) (q := fun j => u.cells[j]?) L hk hcl (fun a d w hd hw => f3 os' hf (fun p hp => hu p (List.mem_append.2 (.inl hp))) a d w hd (by simpa using hw))
        have hj : j < size := by rw [← hsz, ← L.len k hk x0]; exact (List.getElem?_eq_some_iff.1 he).1
        have hv : u.cells[j]? = some u.cells[j] := by simp [hsu, hj]
        refine ⟨u.cells[j], ?_, hr.2 j e _ he hv⟩
        rw [Nat.add_zero, b3 _ (by omega), e3 _ (by omega), if_pos (by omega)]
        rw [show j0 * size + j - j0 * size = j from by omega]; exact hv
      | succ r =>
        simp at hx
        obtain ⟨w, hw1, hw2⟩ := b6 os' hf (fun p hp => hu p (List.mem_append.2 (.inr hp))) r x hx j e he
        refine ⟨w, ?_, hw2⟩
        rw [← hw1]; congr 3; omega

/-- a new row, as an object -/
theorem row_new {nb k : Nat} {xs : List (G.T k)} {cs : Array Value} {cap : Nat} {w1 : World} (L : Laws P G) (ok : OK P G F N c) (hnb : c.os[nb]? = some .free) (hk : k < G.n)
    (hw : w1.os = c.w.os ∧ w1.tape = c.w.tape ∧ w1.output = c.w.output ∧ w1.heap = c.w.heap.push (.cells cs (G.E k) (0, 0))) (hcap : xs.length ≤ cap) (hn : cap * esz P G k ≤ cs.size)
    (hrow : ∀ (i : Nat) (x : G.T k), xs[i]? = some x → Row P G F c cs (i * esz P G k) (G.op k x)) (ht : G.tight k = true → xs.length = 0 → cap = 0) :
    ∃ m', Tr G F c ⟨w1, m', setObj c.os nb (.arr k xs true)⟩ ∧ OK P G F N ⟨w1, m', setObj c.os nb (.arr k xs true)⟩ ∧
      VR P G F ⟨w1, m', setObj c.os nb (.arr k xs true)⟩ (.own nb) (.slice (some ⟨c.w.heap.size, 0, none⟩) xs.length cap) := by
  obtain ⟨s1, s2, s3, s4⟩ := hw
  let β : Blk := ⟨some c.w.heap.size, cs.size, [c.w.heap.size], {}⟩
  have n : New c nb β (.arr k xs true) w1 := {
    nb := hnb, sys := ⟨s1, s2, s3⟩, size := by rw [s4]; simp, keep := fun b hb => by rw [s4, Array.getElem?_push, if_neg (by omega)]
    fp := fun b hb => by simp [β] at hb; subst hb; rw [s4]; simp
    fz := fun a ha => by
      by_cases h1 : a.block < c.w.heap.size
      · exact frozen_block (by rw [s4, Array.getElem?_push, if_neg (by omega)]) ha
      · by_cases h2 : a.block = c.w.heap.size
        · exact frozen_zero (cs := cs) (e := G.E k) (by rw [s4, h2]; simp)
        · unfold World.frozen?; rw [s4, Array.getElem?_eq_none (by simp; omega)] }
  have t := n.tr (F := F) ok.len
  have hh : w1.heap[c.w.heap.size]? = some (.cells cs (G.E k) (0, 0)) := by rw [s4]; simp
  have hob : ObjR P G F (newCf c nb β (.arr k xs true) w1) β (.arr k xs true) :=
    ⟨hk, .inr ⟨c.w.heap.size, cs, rfl, rfl, hh, rfl, Nat.le_trans (Nat.mul_le_mul_right _ hcap) hn, fun i x hx => (hrow i x hx).mono t⟩⟩
  refine ⟨(newCf c nb β (.arr k xs true) w1).m, t, n.ok ok hob, ?_⟩
  obtain ⟨a1, a2⟩ := n.at_nb ok.len
  exact .own nb k xs true β c.w.heap.size cap a1 a2 rfl hcap hn ht

theorem elemT_some {t e : TypeId} (h : elemT P t = some e) : P.underlying t = some (.slice e) := by
  unfold elemT at h
  split at h
  · rename_i e' hu; cases h; exact hu
  · cases h

theorem kindOf_ok {t : TypeId} {k : Nat} (L : Laws P G) (h : kindOfSlice P G t = some k) : ∃ e i, P.underlying t = some (.slice e) ∧ G.E k = e ∧ k < G.n ∧ P.info? e = some i ∧ i.size = esz P G k ∧ 0 < i.bytes ∧ i.bytes ≤ 1024 := by
  unfold kindOfSlice at h
  rw [Option.bind_eq_some_iff] at h
  obtain ⟨e, h1, h2⟩ := h
  obtain ⟨h3, h4⟩ := L.kd _ _ h2
  obtain ⟨i, h5, h6, h7⟩ := L.bytes k h3
  rw [h4] at h5
  exact ⟨e, i, elemT_some h1, h4, h3, h5, by simp [esz, szT, h4, h5], h6, h7⟩

theorem addObjs_one {os : List (AObj G.T G.U)} {nb : Nat} {x : AObj G.T G.U} : addObjs os nb [x] = setObj os nb x := rfl

theorem buildSlice_ok {nb k : Nat} {t : TypeId} {ps : List (Nat × AV G.T)} {qs : List (Nat × Value)} {xs : List (G.T k)} {upd : List (Nat × AObj G.T G.U)} {l : List Nat} (L : Laws P G) (ok : OK P G F N c) (hnb : c.os[nb]? = some .free)
    (hkt : kindOfSlice P G t = some k) (hp : Parts P G F c ps qs) (h : Runs P G c.os (sliceLit G k 0 ps) l (xs, upd)) (hle : ps.length * szT P (G.E k) ≤ 16777216) :
    OpTo P G F N c (Instr.buildSlice t ps.length qs.toArray) (setObj (setObjs c.os upd) nb (.arr k xs true)) (.own nb) := by
  obtain ⟨e, i, hu, hE, hk, hi, hsz, hb0, hb1⟩ := kindOf_ok L hkt
  obtain ⟨z, hz1, hz2, hz3⟩ := L.df k hk
  rw [hE, hi] at hz1
  have hz1 : i.zero = some z := hz1
  let zs : Array Value := (Array.range (ps.length * i.size)).map (z.cells[· % z.cells.size]!)
  obtain ⟨cells', b1, b2, b3, b4, b5, b6⟩ := sliceLit_ok L ok hk hsz.symm (cells := zs) hp h (by simp [zs])
  obtain ⟨hf, hfu⟩ := frz_setObjs b5
  have ok1 := hf.ok ok
  have hlen : (setObjs c.os upd)[nb]? = some .free := by
    rcases hf.2 _ _ hnb with h1 | ⟨_, _, _, h1, _⟩ | ⟨_, _, h1, _⟩
    · exact h1
    · cases h1
    · cases h1
  have hsize : cells'.size = ps.length * i.size := by rw [b2]; simp [zs]
  obtain ⟨m', t', ok', hr⟩ := row_new (c := ⟨c.w, c.m, setObjs c.os upd⟩) (cs := cells') (cap := ps.length) (w1 := c.w.alloc (.cells cells' e)) (nb := nb) L ok1 hlen hk
    ⟨rfl, rfl, rfl, by show c.w.heap.push _ = _; rw [hE]⟩ (by rw [b4]; exact Nat.le_refl _) (by rw [hsize, hsz]; exact Nat.le_refl _)
    (fun r x hx j d hd => by
      obtain ⟨v, hv1, hv2⟩ := b6 _ hf hfu r x hx j d hd
      exact ⟨v, by rw [← hv1, hsz, Nat.zero_add], hv2⟩) (fun _ h => by rw [← h, b4])
  refine ⟨_, _, m', ?_, (hf.tr (F := F)).trans ok1 t', ok', hr⟩
  have h24 : ¬ ps.length * i.size > 2 ^ 24 := by
    have : szT P (G.E k) = i.size := by rw [hE]; simp [szT, hi]
    rw [this] at hle; omega
  unfold Instr.buildSlice
  simp only [Sem.run_bind, run_underlying' hu, Result.andThen_ok, run_sizeOf' hi]
  rw [if_neg h24]
  by_cases hz : ps.length * i.size = 0
  · have hzs : (Array.range (ps.length * i.size)).map ((#[] : Array Value)[· % (#[] : Array Value).size]!) = zs := by simp [zs, hz]
    simp only [hz, if_true, Sem.run_bind, Sem.run_pure, Result.andThen_ok]
    rw [hz] at hzs
    rw [hzs, b1]
    simp [newRow, b4]
  · simp only [hz, if_false, Sem.run_bind, Sem.run_pure, Result.andThen_ok, zeroValue, run_typeInfo' hi, hz1]
    rw [show (Array.range (ps.length * i.size)).map (z.cells[· % z.cells.size]!) = zs from rfl, b1]
    simp [newRow, b4]

end
end Go.Proofs.Ytjfmfpnnjgfffaa.Am
