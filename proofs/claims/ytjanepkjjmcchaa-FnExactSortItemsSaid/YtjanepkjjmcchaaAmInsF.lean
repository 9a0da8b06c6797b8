/- slices.Insert of one item, for the machine. -/
import Derived.Test.YtjanepkjjmcchaaAmInsE
namespace Go.Proofs.Ytjanepkjjmcchaa.Am
open Go Go.Proofs Go.RowKit Go.Proofs.Try
set_option autoImplicit false
set_option linter.unusedVariables false
set_option linter.unusedSimpArgs false

theorem three {α : Type} {l : List α} (h : 3 = l.length) : ∃ a b c, l = [a, b, c] := by
  match l, h with | [a, b, c], _ => exact ⟨a, b, c, rfl⟩
theorem twoM {α : Type} {l : List α} (h : l.length = 2) : ∃ a b, l = [a, b] := by
  match l, h with | [a, b], _ => exact ⟨a, b, rfl⟩
theorem oneM {α : Type} {l : List α} (h : l.length = 1) : ∃ a, l = [a] := by
  match l, h with | [a], _ => exact ⟨a, rfl⟩
theorem esz3 : esz prog G 3 = 2 := by kernel_rfl
theorem splice1 {α : Type} (A1 T V : List α) : splice (A1 ++ T) A1.length V = A1 ++ V ++ T.drop V.length := by
  unfold splice
  rw [List.take_left' rfl, List.drop_append]
  simp [List.drop_eq_nil_of_le]

noncomputable abbrev C0 (w : World) (β β2 : Blk) (xs vs : List (G.T 3)) : Cf G := ⟨w, [β, β2], [.arr 3 xs true, .arr 3 vs true]⟩
noncomputable abbrev C1 (w : World) (m : List Blk) (vs ys : List (G.T 3)) : Cf G := ⟨w, m, [.dead, .arr 3 vs true, .arr 3 ys true]⟩
set_option maxHeartbeats 1000000 in
theorem ins_core (xs vs : List (G.T 3)) (i : Nat) (h0 : 0 < xs.length) (hi : i ≤ xs.length) (hmx : xs.length + 1 ≤ maxSz) (hv : vs.length = 1) :
    SoundCall prog G 31 [.own 0, .lit (.int .i64 i), .own 1] [.arr 3 xs true, .arr 3 vs true] (.own 2) [.dead, .arr 3 vs true, .arr 3 (xs.take i ++ vs ++ xs.drop i) true] := by
  intro F w m vals ok hlen hargs
  obtain ⟨a1, a2, a3, rfl⟩ := three (l := vals) hlen
  obtain ⟨β, β2, rfl⟩ := twoM (l := m) ok.len
  have r1 := hargs 0 (.own 0) a1 rfl rfl
  have r2 := (hargs 1 (.lit (.int .i64 i)) a2 rfl rfl).lit_inv
  have r3 := hargs 2 (.own 1) a3 rfl rfl
  subst r2
  clear hargs hlen
  have L := laws
  have hk : (3 : Nat) < G.n := by decide
  cases r1 with
  | ownDead _ _ _ _ hd => cases hd
  | ownNil _ _ _ _ _ ho => cases ho; exact absurd h0 (Nat.lt_irrefl _)
  | own _ _ _ _ _ b cap ho hm hb hcap hn =>
  cases ho
  cases hm
  cases r3 with
  | ownDead _ _ _ _ hd => cases hd
  | ownNil _ _ _ _ _ ho => cases ho; cases hv
  | own _ _ _ _ _ b2 cap2 ho2 hm2 hb2 hcap2 hn2 =>
  cases ho2
  cases hm2
  -- where they lie
  obtain ⟨-, hob⟩ := ok.obj 0 _ _ rfl rfl
  rcases hob with ⟨hb', -, -⟩ | ⟨b', cs, hb', hfp, hheap, hcs, hle, hrow⟩
  · rw [hb] at hb'; cases hb'
  rw [hb] at hb'; cases hb'
  obtain ⟨-, hob⟩ := ok.obj 1 _ _ rfl rfl
  rcases hob with ⟨hb', -, -⟩ | ⟨b', cs2, hb', hfp2, hheap2, hcs2, hle2, hrow2⟩
  · rw [hb2] at hb'; cases hb'
  rw [hb2] at hb'; cases hb'
  have hne : b2 ≠ b := by
    rintro rfl
    exact ok.apart 0 1 _ _ _ _ rfl rfl rfl rfl rfl rfl (by decide) b2 (by rw [hfp]; simp) (by rw [hfp2]; simp)
  have hbl : b < w.heap.size := (ok.own 0 _ _ rfl rfl rfl b (by rw [hfp]; simp)).2
  have hbl2 : b2 < w.heap.size := (ok.own 1 _ _ rfl rfl rfl b2 (by rw [hfp2]; simp)).2
  have hheap : w.heap[b]? = some (.cells cs 46 (0, 0)) := hheap
  have hheap2 : w.heap[b2]? = some (.cells cs2 46 (0, 0)) := hheap2
  rw [esz3] at hle hle2 hn hn2
  obtain ⟨e, inf, hu, hE, -, hinf, hsz, hb0, hb1⟩ := kindOf_ok L (show kindOfSlice prog G 23 = some 3 by kernel_rfl)
  obtain rfl : e = 46 := hE.symm
  rw [esz3] at hsz
  obtain ⟨z, hz1, -, -⟩ := L.df 3 hk
  obtain ⟨hzs, -⟩ := zero_row (F := F) (c := (C0 w β β2 xs vs)) L hk hz1
  have hzone := fun n => zero_one (n := n) L hk hz1
  rw [esz3] at hzs
  have hz1 : inf.zero = some z := by
    have h : (prog.info? 46).bind (·.zero) = some z := hz1
    rw [hinf] at h; exact h
  -- parts of the rows
  have hp1 := cells_take (j := i) L ok (o := 0) rfl rfl hb hheap hi (by rw [esz3]; omega)
  have hp3 := cells_drop (i := i) L ok (o := 0) rfl rfl hb hheap hi (by rw [esz3]; omega)
  have hpv := cells_all L ok (o := 1) rfl rfl hb2 hheap2 (by rw [esz3]; omega)
  rw [esz3] at hp1 hp3 hpv
  have hv' : List.length vs = 1 := hv
  generalize hA1 : cs.extract 0 (i * 2) = A1 at hp1
  generalize hA3 : cs.extract (i * 2) (List.length xs * 2) = A3 at hp3
  generalize hV : cs2.extract 0 (List.length vs * 2) = V at hpv
  rw [hv'] at hV hcap2
  have s1 : A1.toList.length = i * 2 := by rw [← hA1]; simp; omega
  have s3 : A3.toList.length = (List.length xs - i) * 2 := by rw [← hA3]; simp; omega
  have hcs2' : 2 ≤ cs2.size := by rw [hcs2]; have : 1 * 2 ≤ cap2 * 2 := Nat.mul_le_mul_right _ (by omega); omega
  have sV : V.toList.length = 2 := by rw [← hV]; simp; omega
  have hcells : Cells prog G F (C0 w β β2 xs vs) 3 (xs.take i ++ vs ++ xs.drop i) (A1 ++ V ++ A3) := (hp1.app L hk hpv).app L hk hp3
  -- a name more
  have tp := pad_tr ok 3
  have okp := pad_ok ok 3
  have hcp := hcells.mono tp
  have hylen : List.length (xs.take i ++ vs ++ xs.drop i) = List.length xs + 1 := by simp [hv]; omega
  -- in place
  have inplace : ∀ (w' : World) (R rest : Array Value), w'.os = w.os ∧ w'.tape = w.tape ∧ w'.output = w.output → w'.heap.size = w.heap.size → (∀ b2, b2 ≠ b → w'.heap[b2]? = w.heap[b2]?) → w'.heap[b]? = some (.cells R 46 (0, 0)) → R.size = cs.size → R = A1 ++ V ++ A3 ++ rest →
      List.length xs + 1 ≤ cap → ∃ v m', Ending.returned (.slice (some ⟨b, 0, none⟩) (List.length xs + 1) cap) = .returned v ∧ Tr G F (C0 w β β2 xs vs) (C1 w' m' vs (xs.take i ++ vs ++ xs.drop i)) ∧
        OK prog G F (Nof (C0 w β β2 xs vs)) (C1 w' m' vs (xs.take i ++ vs ++ xs.drop i)) ∧ VR prog G F (C1 w' m' vs (xs.take i ++ vs ++ xs.drop i)) (.own 2) v := by
    intro w' R rest sys size keep hh hRs hR hroom
    obtain ⟨m', t, ok', vr⟩ := fin_mov (o := 0) (nb := 2) (k := 3) (ys := xs.take i ++ vs ++ xs.drop i) (cap := cap) L okp rfl rfl hb rfl sys size keep hh (by rw [hRs, hcs]) hR hcp (by rw [hylen]; exact hroom) (by rw [esz3]; exact hn)
    refine ⟨_, m', rfl, tp.trans okp t, ok', ?_⟩
    have vr' := vr
    rw [hylen] at vr'
    exact vr'
  -- in a new block
  have anew : ∀ (w' : World) (R rest : Array Value) (g : Nat), w'.os = w.os ∧ w'.tape = w.tape ∧ w'.output = w.output ∧ w'.heap = w.heap.push (.cells R 46 (0, 0)) → List.length xs + 1 ≤ g → g * 2 ≤ R.size → R = A1 ++ V ++ A3 ++ rest →
      ∃ v m', Ending.returned (.slice (some ⟨w.heap.size, 0, none⟩) (List.length xs + 1) g) = .returned v ∧ Tr G F (C0 w β β2 xs vs) (C1 w' m' vs (xs.take i ++ vs ++ xs.drop i)) ∧
        OK prog G F (Nof (C0 w β β2 xs vs)) (C1 w' m' vs (xs.take i ++ vs ++ xs.drop i)) ∧ VR prog G F (C1 w' m' vs (xs.take i ++ vs ++ xs.drop i)) (.own 2) v := by
    intro w' R rest g hw hg hgs hR
    have kt := kill_tr (G := G) (F := F) (c := padC (C0 w β β2 xs vs) 3) (o := 0) (Nat.succ_pos _)
    have kok := kill_ok (c := padC (C0 w β β2 xs vs) 3) (o := 0) (Nat.succ_pos _) okp
    obtain ⟨m', t, ok', vr⟩ := row_new (nb := 2) (k := 3) (xs := xs.take i ++ vs ++ xs.drop i) (cs := R) (cap := g) (w1 := w') L kok rfl hk hw (by rw [hylen]; exact hg) (by rw [esz3]; exact hgs) (fun q x hx j d hd => by
      obtain ⟨v, hv, hvr⟩ := hcp.2.2 q x hx j d hd
      refine ⟨v, ?_, hvr.mono kt⟩
      have hlt := (Array.getElem?_eq_some_iff.1 hv).1
      rw [hR, Array.getElem?_append_left hlt]; exact hv)
    refine ⟨_, m', rfl, tp.trans okp (kt.trans kok t), ok', ?_⟩
    have vr' := vr
    rw [hylen] at vr'
    exact vr'
  have hp3one := hp3.2.1
  clear hcells hcp hrow hrow2 hp1 hp3
  have l1 : A1.toList = cs.toList.take (i * 2) := by rw [← hA1, Array.toList_extract]; simp [List.extract]
  have l3 : A3.toList = (cs.toList.take (List.length xs * 2)).drop (i * 2) := by rw [← hA3, Array.toList_extract]; simp [List.extract, List.drop_take]
  obtain ⟨T, hT⟩ : ∃ T, T = cs.toList.drop (List.length xs * 2) := ⟨_, rfl⟩
  have hC : cs.toList = A1.toList ++ A3.toList ++ T := by
    rw [l1, l3, hT]; exact cut3 _ _ _ (Nat.mul_le_mul_right _ hi)
  have hTl : T.length = cs.size - List.length xs * 2 := by rw [hT]; simp
  have toR : ∀ l : List Value, (A1.toList ++ V.toList ++ A3.toList ++ l).toArray = A1 ++ V ++ A3 ++ l.toArray := by
    intro l; simp
  have hf1 : ∀ (w' : World) (c : Nat), w'.heap[b2]? = some (.cells cs2 46 (0, 0)) → (Builtin.firstCells inf.size 1 (.slice (some ⟨b2, 0, none⟩) 1 c)).run prog w' = .ok V w' := by
    intro w' c h
    rw [first_raw (P := prog) h (by rw [hsz]; omega), hsz, Nat.zero_add, hV]
  have hf3 : ∀ (w' : World) (m l c : Nat), w'.heap[b]? = some (.cells cs 46 (0, 0)) → m = List.length xs - i → (Builtin.firstCells inf.size m (.slice (some ⟨b, i * 2, none⟩) l c)).run prog w' = .ok A3 w' := by
    intro w' m l c h hm
    subst hm
    have e : i * 2 + (List.length xs - i) * 2 = List.length xs * 2 := by omega
    rw [first_raw (P := prog) h (by rw [hsz]; omega), hsz, e, hA3]
  have hf0 : ∀ (w' : World) (l c : Nat), w'.heap[b]? = some (.cells cs 46 (0, 0)) → (Builtin.firstCells inf.size i (.slice (some ⟨b, 0, none⟩) l c)).run prog w' = .ok A1 w' := by
    intro w' l c h
    rw [first_raw (P := prog) h (by rw [hsz]; omega), hsz, Nat.zero_add, hA1]
  rw [hv]
  unfold maxSz at hmx
  have hfit : (List.length xs + 1) * inf.bytes ≤ 140737488355328 := by
    have : (List.length xs + 1) * inf.bytes ≤ 68719476736 * 1024 := Nat.mul_le_mul hmx hb1
    omega
  by_cases hin : i = List.length xs
  · have hA3n : A3.toList = [] := List.eq_nil_of_length_eq_zero (by rw [s3]; omega)
    by_cases hroom : List.length xs + 1 ≤ cap
    · let w' := w.setRow b (splice cs.toList (List.length xs * 2) V.toList).toArray
      have hst : (storeCells ((⟨b, 0, none⟩ : Addr).add (List.length xs * inf.size)) V.toList).run prog w = .ok () w' := by
        rw [add_plain, Nat.zero_add, hsz]
        exact store_cells (P := prog) (c := C0 w β β2 xs vs) hheap (by rw [sV]; omega) hpv.2.1
      have hr := fun ty => append_room (P := prog) (t := 23) (tx := 23) (ty := ty) (base := some ⟨b, 0, none⟩) (sCap := cap) (sLen := List.length xs) (n := 1) (vx := .slice (some ⟨b2, 0, none⟩) 1 cap2) (news := V) (w := w) (w' := w') hu hu rfl hinf rfl (hf1 w cap2 hheap2) hroom
        (fun ad had => by cases had; exact hst) (fun h => by cases h)
      rw [hin]
      refine (ins_end _ _ _ _ _ _ _ _ hcap hr).mono ?_
      rintro e w'' ⟨rfl, rfl⟩
      rw [← hin]
      have eR : splice cs.toList (List.length xs * 2) V.toList = A1.toList ++ V.toList ++ A3.toList ++ T.drop 2 := by
        have := splice1 A1.toList (A3.toList ++ T) V.toList
        rw [← List.append_assoc, ← hC, s1, hin] at this
        rw [this, hA3n, sV]; simp
      have hRe : (splice cs.toList (List.length xs * 2) V.toList).toArray = A1 ++ V ++ A3 ++ (T.drop 2).toArray := by rw [eR, toR]
      rw [hin]
      have := inplace w' (splice cs.toList (List.length xs * 2) V.toList).toArray (T.drop 2).toArray ⟨rfl, rfl, rfl⟩ (by simp [w']) (fun b3 hb3 => setRow_other w b b3 _ hb3) (setRow_heap w b cs _ _ _ hheap) (by
        rw [List.size_toArray, splice_length _ _ _ (by rw [sV]; have : cs.toList.length = cs.size := Array.length_toList; omega)]; exact Array.length_toList) hRe hroom
      rw [hin] at this
      exact this
    · have hr := fun ty => append_grow (P := prog) (t := 23) (tx := 23) (ty := ty) (base := some ⟨b, 0, none⟩) (sCap := cap) (sLen := List.length xs) (n := 1) (vx := .slice (some ⟨b2, 0, none⟩) 1 cap2) (news := V) (w := w) (olds := A1) hu hu rfl hinf hz1 rfl (hf1 w.drew cap2 hheap2)
        (by rw [← hin]; exact hf0 w.drew _ _ hheap) (by omega) hb0 hfit
      rw [hin]
      refine (ins_end _ _ _ _ _ _ _ _ hcap hr).mono ?_
      rintro e w'' ⟨rfl, rfl⟩
      have hge := grownCap_ge w (List.length xs + 1) cap 46
      have hA3n' : A3 = #[] := by simpa using hA3n
      have := anew (w.drew.alloc (.cells (A1 ++ V ++ Builtin.zeroCells z.cells (grownCap w (List.length xs + 1) cap 46 - (List.length xs + 1))) 46)) (A1 ++ V ++ Builtin.zeroCells z.cells (grownCap w (List.length xs + 1) cap 46 - (List.length xs + 1))) (Builtin.zeroCells z.cells (grownCap w (List.length xs + 1) cap 46 - (List.length xs + 1))) (grownCap w (List.length xs + 1) cap 46) ⟨rfl, rfl, rfl, rfl⟩ hge (by
          have q1 : A1.size = i * 2 := by rw [← s1]; exact Array.length_toList.symm
          have q2 : V.size = 2 := by rw [← sV]; exact Array.length_toList.symm
          rw [Array.size_append, Array.size_append, size_zeroCells, hzs, q1, q2]; omega) (by rw [hA3n', Array.append_empty])
      rw [hin] at this
      exact this
  · have hlt : i < List.length xs := by omega
    by_cases hroom : List.length xs + 1 ≤ cap
    · have szA3 : A3.size = (List.length xs - i) * 2 := by rw [← s3]; exact Array.length_toList.symm
      have szV : V.size = 2 := by rw [← sV]; exact Array.length_toList.symm
      have hroom2 : (List.length xs + 1) * 2 ≤ cs.size := by rw [hcs]; exact Nat.le_trans (Nat.mul_le_mul_right _ hroom) hn
      have hcl : cs.toList.length = cs.size := Array.length_toList
      have f1 : (i + 1) * 2 + A3.toList.length ≤ cs.toList.length := by rw [s3, hcl]; omega
      have hl1 : (splice cs.toList ((i + 1) * 2) A3.toList).length = cs.size := by rw [splice_length _ _ _ f1, hcl]
      have f2 : i * 2 + V.toList.length ≤ (splice cs.toList ((i + 1) * 2) A3.toList).length := by rw [sV, hl1]; omega
      have hov : ∀ lb cb, (callFunc 46 #[.slice (some ⟨b2, 0, none⟩) 1 cap2, .slice (some ⟨b, (i + 1) * 2, none⟩) lb cb]).run prog w = .ok (.value (.bool false)) w := fun lb cb => by
        rw [run_callFunc_extern Try.func46 (by kernel_rfl) (by kernel_rfl) (by kernel_rfl) (e := Extern.SlicesOverlaps.overlaps #[23, 23] #[4]) (by kernel_rfl),
          Lib.run_overlaps_apart w 23 4 46 Try.underlying23 2 Try.sizeOf46 ⟨b2, 0, none⟩ ⟨b, (i + 1) * 2, none⟩ 1 cap2 lb cb hne 46 46 cs2.size cs.size (by simp [World.shape?, hheap2]) (by simp [World.shape?, hheap]) (by omega)
            (by simp [World.frozen?, hheap2]) (by simp [World.frozen?, hheap2])]
        rfl
      have hcp1 : ∀ ty dc sc, (Builtin.copy_ #[23, 23] ty #[.slice (some ⟨b, (i + 1) * 2, none⟩) (List.length xs - i) dc, .slice (some ⟨b, i * 2, none⟩) (List.length xs + 1 - i) sc]).run prog w.drew = .ok (goInt (List.length xs - i : Nat)) (w.drew.setRow b (splice cs.toList ((i + 1) * 2) A3.toList).toArray) := fun ty dc sc =>
        copy_raw (P := prog) (n := List.length xs - i) (sl := List.length xs + 1 - i) hu hinf rfl (by show min _ _ = _; omega) (hf3 w.drew _ _ _ hheap rfl) hheap (by rw [szA3]; omega) hp3one
      have hh1 : (w.drew.setRow b (splice cs.toList ((i + 1) * 2) A3.toList).toArray).heap[b]? = some (.cells (splice cs.toList ((i + 1) * 2) A3.toList).toArray 46 (0, 0)) := setRow_heap w.drew b cs _ _ _ hheap
      have hh2 : (w.drew.setRow b (splice cs.toList ((i + 1) * 2) A3.toList).toArray).heap[b2]? = some (.cells cs2 46 (0, 0)) := (setRow_other w.drew b b2 _ hne).trans hheap2
      have hcp2 : ∀ ty dc, (Builtin.copy_ #[23, 23] ty #[.slice (some ⟨b, i * 2, none⟩) (List.length xs + 1 - i) dc, .slice (some ⟨b2, 0, none⟩) 1 cap2]).run prog (w.drew.setRow b (splice cs.toList ((i + 1) * 2) A3.toList).toArray) = .ok (goInt (1 : Nat))
          ((w.drew.setRow b (splice cs.toList ((i + 1) * 2) A3.toList).toArray).setRow b (splice (splice cs.toList ((i + 1) * 2) A3.toList) (i * 2) V.toList).toArray) := fun ty dc =>
        copy_raw (P := prog) (n := 1) (sl := 1) hu hinf rfl (by show min _ _ = _; omega) (hf1 _ _ hh2) hh1 (by rw [szV]; have h := f2; rw [sV] at h; exact h) hpv.2.1
      refine (ins_shift b (List.length xs) cap i b2 cap2 w _ _ hlt hroom (by omega) hov hcp1 hcp2).mono ?_
      rintro e w'' ⟨rfl, rfl⟩
      have eR := splice2 A1.toList A3.toList T V.toList 2 sV (by rw [hTl]; omega)
      rw [← hC, s1, show i * 2 + 2 = (i + 1) * 2 by omega] at eR
      have hRe : (splice (splice cs.toList ((i + 1) * 2) A3.toList) (i * 2) V.toList).toArray = A1 ++ V ++ A3 ++ (T.drop 2).toArray := by rw [eR, toR]
      refine inplace _ (splice (splice cs.toList ((i + 1) * 2) A3.toList) (i * 2) V.toList).toArray (T.drop 2).toArray ⟨rfl, rfl, rfl⟩ (by simp) (fun b3 hb3 => ?_) ?_ ?_ hRe hroom
      · exact (setRow_other _ b b3 _ hb3).trans (setRow_other w.drew b b3 _ hb3)
      · exact setRow_heap _ b _ _ _ _ hh1
      · rw [List.size_toArray, splice_length _ _ _ f2, hl1]
    · have szA1 : A1.size = i * 2 := by rw [← s1]; exact Array.length_toList.symm
      have szA3 : A3.size = (List.length xs - i) * 2 := by rw [← s3]; exact Array.length_toList.symm
      have szV : V.size = 2 := by rw [← sV]; exact Array.length_toList.symm
      have hge := grownCap_ge w (List.length xs + 1) cap 46
      have hik : i + (List.length xs + 1 - i) = List.length xs + 1 := by omega
      have hns : Builtin.nextslicecap (List.length xs + 1) cap * inf.bytes ≤ 281474976710656 := growslice_fits (bytes := inf.bytes) (by omega) hfit
      have hbk : (List.length xs + 1 - i) * inf.bytes ≤ 281474976710656 := by
        have : (List.length xs + 1 - i) * inf.bytes ≤ (List.length xs + 1) * inf.bytes := Nat.mul_le_mul_right _ (by omega)
        omega
      obtain ⟨g, hg⟩ : ∃ g, g = grownCap w (List.length xs + 1) cap 46 := ⟨_, rfl⟩
      obtain ⟨Z, hZ⟩ : ∃ Z, Z = Builtin.zeroCells z.cells (List.length xs + 1 - i) ++ Builtin.zeroCells z.cells (g - (List.length xs + 1)) := ⟨_, rfl⟩
      have szZ : Z.toList.length = (g - i) * 2 := by
        rw [hZ, Array.length_toList, Array.size_append, size_zeroCells, size_zeroCells, hzs, ← Nat.add_mul]; congr 1; omega
      rw [← hg] at hge
      have hrz : ∀ ty, (Builtin.append_ #[23, 3] ty #[.slice (some ⟨b, 0, none⟩) i cap, .int .i64 ((List.length xs : Int) + 1 - (i : Int))]).run prog w = .ok (.slice (some ⟨w.heap.size, 0, none⟩) (List.length xs + 1) g) (w.drew.alloc (.cells (A1 ++ Z) 46)) := fun ty => by
        have h := Lib.run_append_grow_zeros w 23 3 ty 46 inf z .i64 .i64 hu Try.underlying3 hinf hz1 (some ⟨b, 0, none⟩) i cap A1.toList (by rw [Array.toArray_toList]; exact hf0 w.drew _ _ hheap) (List.length xs + 1 - i) (by omega) (by omega) (by omega) (by omega) hbk (by rw [hik]; exact hns)
        rw [hik, ← hg, Array.toArray_toList, Array.append_assoc, ← hZ, show ((List.length xs + 1 - i : Nat) : Int) = (List.length xs : Int) + 1 - (i : Int) by omega] at h
        exact h
      let W1 := w.drew.alloc (.cells (A1 ++ Z) 46)
      let Nb := w.heap.size
      have hN : W1.heap[Nb]? = some (.cells (A1 ++ Z) 46 (0, 0)) := heap_alloc_new w.drew _
      have hNb : W1.heap[b]? = some (.cells cs 46 (0, 0)) := (RowKit.Below.heap_alloc w.drew _ b hbl).trans hheap
      have hNb2 : W1.heap[b2]? = some (.cells cs2 46 (0, 0)) := (RowKit.Below.heap_alloc w.drew _ b2 hbl2).trans hheap2
      have hneb : b ≠ Nb := fun e => by have : b < Nb := hbl; omega
      let R1 := (splice (A1 ++ Z).toList (i * 2) V.toList).toArray
      have hAZ : (A1 ++ Z).toList.length = g * 2 := by rw [Array.toList_append, List.length_append, s1, szZ]; omega
      have g1 : i * 2 + V.toList.length ≤ (A1 ++ Z).toList.length := by rw [sV, hAZ]; omega
      have hR1l : (splice (A1 ++ Z).toList (i * 2) V.toList).length = g * 2 := by rw [splice_length _ _ _ g1, hAZ]
      have g2 : (i + 1) * 2 + A3.toList.length ≤ (splice (A1 ++ Z).toList (i * 2) V.toList).length := by rw [s3, hR1l]; omega
      have hcpA : ∀ ty dc, (Builtin.copy_ #[23, 23] ty #[.slice (some ⟨Nb, i * 2, none⟩) (List.length xs + 1 - i) dc, .slice (some ⟨b2, 0, none⟩) 1 cap2]).run prog W1 = .ok (goInt (1 : Nat)) (W1.setRow Nb R1) := fun ty dc =>
        copy_raw (P := prog) (n := 1) (sl := 1) hu hinf rfl (by show min _ _ = _; omega) (hf1 _ _ hNb2) hN (by rw [← Array.length_toList (xs := V), ← Array.length_toList (xs := A1 ++ Z)]; exact g1) hpv.2.1
      have hN2 : (W1.setRow Nb R1).drew.heap[Nb]? = some (.cells R1 46 (0, 0)) := setRow_heap W1 Nb _ _ _ _ hN
      have hNb3 : (W1.setRow Nb R1).drew.heap[b]? = some (.cells cs 46 (0, 0)) := (setRow_other W1 Nb b _ hneb).trans hNb
      have hcpB : ∀ ty dc sc, (Builtin.copy_ #[23, 23] ty #[.slice (some ⟨Nb, (i + 1) * 2, none⟩) (List.length xs - i) dc, .slice (some ⟨b, i * 2, none⟩) (List.length xs - i) sc]).run prog (W1.setRow Nb R1).drew = .ok (goInt (List.length xs - i : Nat)) ((W1.setRow Nb R1).drew.setRow Nb (splice R1.toList ((i + 1) * 2) A3.toList).toArray) := fun ty dc sc =>
        copy_raw (P := prog) (n := List.length xs - i) (sl := List.length xs - i) hu hinf rfl (by show min _ _ = _; omega) (hf3 _ _ _ _ hNb3 rfl) hN2 (by rw [← Array.length_toList (xs := A3)]; exact g2) hp3one
      refine (ins_grow b (List.length xs) cap i b2 cap2 Nb g w _ _ _ hlt hcap (by omega) (by omega) hge hrz hcpA hcpB).mono ?_
      rintro e w'' ⟨rfl, rfl⟩
      have eR := splice3 A1.toList A3.toList Z.toList V.toList 2 ((List.length xs - i) * 2) sV s3 (by rw [szZ]; omega)
      rw [← Array.toList_append, s1, show i * 2 + 2 = (i + 1) * 2 by omega] at eR
      have hRe : (splice R1.toList ((i + 1) * 2) A3.toList).toArray = A1 ++ V ++ A3 ++ (Z.toList.drop (2 + (List.length xs - i) * 2)).toArray := by
        show (splice (splice (A1 ++ Z).toList (i * 2) V.toList) ((i + 1) * 2) A3.toList).toArray = _
        rw [eR, toR]
      refine anew _ (splice R1.toList ((i + 1) * 2) A3.toList).toArray (Z.toList.drop (2 + (List.length xs - i) * 2)).toArray g ⟨rfl, rfl, rfl, ?_⟩ hge ?_ hRe
      · apply Array.ext_getElem?
        intro q
        show ((W1.setRow Nb R1).drew.setRow Nb _).heap[q]? = _
        by_cases hq : q = Nb
        · subst hq
          rw [setRow_heap _ _ _ _ _ _ hN2]
          simp [Nb]
        · rw [setRow_other _ _ _ _ hq]
          show (W1.setRow Nb R1).heap[q]? = _
          rw [setRow_other _ _ _ _ hq]
          show (w.heap.push _)[q]? = _
          have hq' : q ≠ w.heap.size := hq
          rw [Array.getElem?_push, Array.getElem?_push, if_neg hq', if_neg hq']
      · rw [List.size_toArray]
        have := splice_length _ _ _ g2
        rw [hR1l] at this
        exact Nat.le_of_eq this.symm

noncomputable def insF (xs : List Itm) (i : Int) (vs : List Itm) : Option (Unit × (Unit × (List Itm × (List Itm × Unit)))) :=
  bif decide (0 ≤ i) && decide (i ≤ (xs.length : Int)) && decide (0 < xs.length) && decide (xs.length + 1 ≤ maxSz) && decide (vs.length = 1) then some ((), ((), (vs, (xs.take i.toNat ++ vs ++ xs.drop i.toNat, ())))) else none
noncomputable def insE : Ent G := ⟨31, .cons (.own 0) (.cons (.int .i64) (.cons (.own 1) .nil)), [.arr 3 true, .arr 3 true], .own 2, [.dead, .arr 3 true, .arr 3 true], fun x y => insF y.1 x.2.1 y.2.1⟩
theorem insF_some {xs vs : List Itm} {i : Int} {z : Unit × (Unit × (List Itm × (List Itm × Unit)))} (h : insF xs i vs = some z) :
    ∃ n : Nat, i = n ∧ n ≤ xs.length ∧ 0 < xs.length ∧ xs.length + 1 ≤ maxSz ∧ vs.length = 1 ∧ z = ((), ((), (vs, (xs.take n ++ vs ++ xs.drop n, ())))) := by
  unfold insF at h
  cases hc : (decide (0 ≤ i) && decide (i ≤ (xs.length : Int)) && decide (0 < xs.length) && decide (xs.length + 1 ≤ maxSz) && decide (vs.length = 1)) with
  | false => rw [hc] at h; cases h
  | true =>
    rw [hc] at h; cases h
    simp only [Bool.and_eq_true, decide_eq_true_eq] at hc
    obtain ⟨⟨⟨⟨h1, h2⟩, h3⟩, h4⟩, h5⟩ := hc
    obtain ⟨n, rfl⟩ := Int.eq_ofNat_of_zero_le h1
    exact ⟨n, rfl, by omega, h3, h4, h5, rfl⟩
theorem ins_ok : EntOK prog G insE := by
  rintro ⟨u1, i, u2⟩ ⟨xs, vs, u3⟩ z hz
  obtain ⟨n, rfl, h1, h2, h3, h4, rfl⟩ := insF_some (xs := xs) (vs := vs) (i := i) hz
  exact ins_core xs vs n h2 h1 h3 h4
end Go.Proofs.Ytjanepkjjmcchaa.Am
