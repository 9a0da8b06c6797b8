/- slices.Delete, for the machine. -/
import Derived.Test.YtjanepkjjmcchaaAmInsF
namespace Go.Proofs.Ytjanepkjjmcchaa.Am
open Go Go.Proofs Go.RowKit Go.Proofs.Try
set_option autoImplicit false
set_option linter.unusedVariables false
set_option linter.unusedSimpArgs false

noncomputable abbrev D0 (k : Nat) (w : World) (β : Blk) (xs : List (G.T k)) : Cf G := ⟨w, [β], [.arr k xs true]⟩
noncomputable abbrev D1 (k : Nat) (w : World) (m : List Blk) (ys : List (G.T k)) : Cf G := ⟨w, m, [.dead, .arr k ys true]⟩
def Walk (t : TypeId) (fid : FuncId) : Prop := ∀ (b n c i j : Nat) (A : Addr) (v0 : Value) (w W1 W2 : World), i < j → j ≤ n → n ≤ c → n ≤ 68719476736 → (if c = j then (⟨b, 0, none⟩ : Addr) else ⟨b, j, none⟩) = A →
    (∀ ty dc, (Builtin.append_ #[t, t] ty #[.slice (some ⟨b, 0, none⟩) i c, .slice (some A) (n - j) dc]).run Try.prog w.drew = .ok (.slice (some ⟨b, 0, none⟩) (i + (n - j)) c) W1) →
    (∀ ty dc, (Builtin.clear_ #[t] ty #[.slice (some ⟨b, i + (n - j), none⟩) (n - (i + (n - j))) dc]).run Try.prog W1 = .ok v0 W2) →
    Calls Try.prog fid #[.slice (some ⟨b, 0, none⟩) n c, .int .i64 i, .int .i64 j] w fun e w'' => e = .returned (.slice (some ⟨b, 0, none⟩) (i + (n - j)) c) ∧ w'' = W2

set_option maxHeartbeats 1000000 in
theorem del_core {k : Nat} {t : TypeId} {fid : FuncId} (hkt : kindOfSlice prog G t = some k) (hes : esz prog G k = 1) (hwalk : Walk t fid) (xs : List (G.T k)) (i j : Nat) (hij : i < j) (hj : j ≤ xs.length) (hmx : xs.length ≤ maxSz) :
    SoundCall prog G fid [.own 0, .lit (.int .i64 i), .lit (.int .i64 j)] [.arr k xs true] (.own 1) [.dead, .arr k (xs.take i ++ xs.drop j) true] := by
  intro F w m vals ok hlen hargs
  obtain ⟨a1, a2, a3, rfl⟩ := three (l := vals) hlen
  obtain ⟨β, rfl⟩ := oneM (l := m) ok.len
  have r1 := hargs 0 (.own 0) a1 rfl rfl
  have r2 := (hargs 1 (.lit (.int .i64 i)) a2 rfl rfl).lit_inv
  have r3 := (hargs 2 (.lit (.int .i64 j)) a3 rfl rfl).lit_inv
  subst r2 r3
  clear hargs hlen
  have L := laws
  cases r1 with
  | ownDead _ _ _ _ hd => cases hd
  | ownNil _ _ _ _ _ ho => cases ho; exact absurd hj (by simp; omega)
  | own _ _ _ _ _ b cap ho hm hb hcap hn =>
  cases ho
  cases hm
  obtain ⟨hk, hob⟩ := ok.obj 0 _ _ rfl rfl
  rcases hob with ⟨hb', -, -⟩ | ⟨b', cs, hb', hfp, hheap, hcs, hle, hrow⟩
  · rw [hb] at hb'; cases hb'
  rw [hb] at hb'; cases hb'
  obtain ⟨e, inf, hu, hE, -, hinf, hsz, hb0, hb1⟩ := kindOf_ok L hkt
  rw [hes] at hsz
  obtain ⟨z, hz1, -, -⟩ := L.df k hk
  obtain ⟨hzs, -⟩ := zero_row (F := F) (c := D0 k w β xs) L hk hz1
  have hzone := fun n => zero_one (n := n) L hk hz1
  rw [hes] at hzs
  rw [hE, hinf] at hz1
  have hz1 : inf.zero = some z := hz1
  have hp1 := cells_take (j := i) L ok (o := 0) rfl rfl hb hheap (by omega) (by rw [hcs]; exact hle)
  have hp3 := cells_drop (i := j) L ok (o := 0) rfl rfl hb hheap hj (by rw [hcs]; exact hle)
  rw [hes, Nat.mul_one] at hp1
  rw [hes, Nat.mul_one, Nat.mul_one] at hp3
  rw [hes, Nat.mul_one] at hle hn
  have hheap : w.heap[b]? = some (.cells cs (G.E k) (0, 0)) := hheap
  generalize hA1 : cs.extract 0 i = A1 at hp1
  generalize hA3 : cs.extract j (List.length xs) = A3 at hp3
  have s1 : A1.toList.length = i := by rw [← hA1]; simp; omega
  have s3 : A3.toList.length = List.length xs - j := by rw [← hA3]; simp; omega
  have hcells : Cells prog G F (D0 k w β xs) k (xs.take i ++ xs.drop j) (A1 ++ A3) := hp1.app L hk hp3
  have tp := pad_tr ok 2
  have okp := pad_ok ok 2
  have hcp := hcells.mono tp
  have hylen : List.length (xs.take i ++ xs.drop j) = i + (List.length xs - j) := by simp; omega
  have l1 : A1.toList = cs.toList.take i := by rw [← hA1, Array.toList_extract]; simp [List.extract]
  have hC : cs.toList = A1.toList ++ cs.toList.drop i := by rw [l1, List.take_append_drop]
  let W1 := w.drew.setRow b (splice cs.toList i A3.toList).toArray
  have hcl : cs.toList.length = cs.size := Array.length_toList
  have f1 : i + A3.toList.length ≤ cs.toList.length := by rw [s3, hcl]; omega
  have hl1 : (splice cs.toList i A3.toList).length = cs.size := by rw [splice_length _ _ _ f1, hcl]
  have hh1 : W1.heap[b]? = some (.cells (splice cs.toList i A3.toList).toArray (G.E k) (0, 0)) := setRow_heap w.drew b cs _ _ _ hheap
  have hZ : (Builtin.zeroCells z.cells (j - i)).toList.length = j - i := by rw [Array.length_toList, size_zeroCells, hzs, Nat.mul_one]
  let W2 := W1.setRow b (splice (splice cs.toList i A3.toList) (i + (List.length xs - j)) (Builtin.zeroCells z.cells (j - i)).toList).toArray
  have f2 : i + (List.length xs - j) + (Builtin.zeroCells z.cells (j - i)).toList.length ≤ (splice cs.toList i A3.toList).length := by rw [hZ, hl1]; omega
  obtain ⟨A, hA⟩ : ∃ A, A = (if cap = j then (⟨b, 0, none⟩ : Addr) else ⟨b, j, none⟩) := ⟨_, rfl⟩
  have hfA : ∀ dc, (Builtin.firstCells inf.size (List.length xs - j) (.slice (some A) (List.length xs - j) dc)).run prog w.drew = .ok A3 w.drew := by
    intro dc
    by_cases hcj : cap = j
    · have h0 : List.length xs - j = 0 := by omega
      rw [h0]
      have : A3 = #[] := by rw [h0] at s3; simpa using List.eq_nil_of_length_eq_zero s3
      rw [this]; exact first_none
    · have h := first_raw (P := prog) (w := w.drew) (off := j) (m := List.length xs - j) (sz := 1) (l := List.length xs - j) (cap := dc) (cs := cs) hheap (by rw [Nat.mul_one]; omega)
      rw [hA, if_neg hcj, hsz, h, Nat.mul_one, show j + (List.length xs - j) = List.length xs by omega, hA3]
  have happ : ∀ ty dc, (Builtin.append_ #[t, t] ty #[.slice (some ⟨b, 0, none⟩) i cap, .slice (some A) (List.length xs - j) dc]).run prog w.drew = .ok (.slice (some ⟨b, 0, none⟩) (i + (List.length xs - j)) cap) W1 := fun ty dc =>
    append_room (P := prog) (ty := ty) (base := some ⟨b, 0, none⟩) (sCap := cap) (sLen := i) (n := List.length xs - j) (news := A3) (w := w.drew) (w' := W1) hu hu rfl hinf rfl (hfA dc) (by omega) (fun ad had => by
      cases had
      rw [add_plain, Nat.zero_add, hsz, Nat.mul_one]
      exact store_cells (P := prog) (c := D0 k w.drew β xs) hheap (by rw [← Array.length_toList (xs := cs)]; exact f1) hp3.2.1) (fun h => by cases h)
  have hclr : ∀ ty dc, (Builtin.clear_ #[t] ty #[.slice (some ⟨b, i + (List.length xs - j), none⟩) (List.length xs - (i + (List.length xs - j))) dc]).run prog W1 = .ok (.tuple #[]) W2 := fun ty dc => by
    rw [show List.length xs - (i + (List.length xs - j)) = j - i by omega]
    exact clear_raw (P := prog) hu hinf hz1 (by omega) hh1 (by have h := f2; rw [hZ] at h; rw [hzs, Nat.mul_one]; exact h) (hzone _)
  refine (hwalk b (List.length xs) cap i j A _ w W1 W2 hij hj hcap (by unfold maxSz at hmx; exact hmx) hA.symm happ hclr).mono ?_
  rintro e w'' ⟨rfl, rfl⟩
  have eR := splice4 A1.toList A3.toList (cs.toList.drop i) (Builtin.zeroCells z.cells (j - i)).toList
  rw [← hC, s1, s3] at eR
  obtain ⟨m', t, ok', vr⟩ := fin_mov (o := 0) (nb := 1) (k := k) (ys := xs.take i ++ xs.drop j) (cap := cap) (w' := W2) (R := (splice (splice cs.toList i A3.toList) (i + (List.length xs - j)) (Builtin.zeroCells z.cells (j - i)).toList).toArray) (A := A1 ++ A3)
    (rest := ((Builtin.zeroCells z.cells (j - i)).toList ++ (cs.toList.drop i).drop ((List.length xs - j) + (Builtin.zeroCells z.cells (j - i)).toList.length)).toArray) L okp rfl rfl hb rfl ⟨rfl, rfl, rfl⟩ (by simp [W2, W1, padC])
    (fun b3 hb3 => (setRow_other _ b b3 _ hb3).trans (setRow_other w.drew b b3 _ hb3)) (setRow_heap _ b _ _ _ _ hh1) (by rw [List.size_toArray, splice_length _ _ _ f2, hl1, hcs]) (by rw [eR]; simp) hcp (by rw [hylen]; omega) (by rw [hes, Nat.mul_one]; exact hn)
  refine ⟨_, m', rfl, tp.trans okp t, ok', ?_⟩
  have vr' := vr
  rw [hylen] at vr'
  exact vr'

noncomputable def delF (k : Nat) (xs : List (G.T k)) (i j : Int) : Option (Unit × (Unit × (List (G.T k) × Unit))) :=
  bif decide (0 ≤ i) && decide (i < j) && decide (j ≤ (xs.length : Int)) && decide (xs.length ≤ maxSz) then some ((), ((), (xs.take i.toNat ++ xs.drop j.toNat, ()))) else none
noncomputable def delE (k : Nat) (fid : FuncId) : Ent G := ⟨fid, .cons (.own 0) (.cons (.int .i64) (.cons (.int .i64) .nil)), [.arr k true], .own 1, [.dead, .arr k true], fun x y => delF k y.1 x.2.1 x.2.2.1⟩
theorem delF_some {k : Nat} {xs : List (G.T k)} {i j : Int} {z : Unit × (Unit × (List (G.T k) × Unit))} (h : delF k xs i j = some z) :
    ∃ n m : Nat, i = n ∧ j = m ∧ n < m ∧ m ≤ xs.length ∧ xs.length ≤ maxSz ∧ z = ((), ((), (xs.take n ++ xs.drop m, ()))) := by
  unfold delF at h
  cases hc : (decide (0 ≤ i) && decide (i < j) && decide (j ≤ (xs.length : Int)) && decide (xs.length ≤ maxSz)) with
  | false => rw [hc] at h; cases h
  | true =>
    rw [hc] at h; cases h
    simp only [Bool.and_eq_true, decide_eq_true_eq] at hc
    obtain ⟨⟨⟨h1, h2⟩, h3⟩, h4⟩ := hc
    obtain ⟨n, rfl⟩ := Int.eq_ofNat_of_zero_le h1
    obtain ⟨m, rfl⟩ := Int.eq_ofNat_of_zero_le (by omega : 0 ≤ j)
    exact ⟨n, m, rfl, rfl, by omega, by omega, h4, rfl⟩
theorem del_ok {k : Nat} {t : TypeId} {fid : FuncId} (hkt : kindOfSlice prog G t = some k) (hes : esz prog G k = 1) (hwalk : Walk t fid) : EntOK prog G (delE k fid) := by
  rintro ⟨u1, i, j, u2⟩ ⟨xs, u3⟩ z hz
  obtain ⟨n, m, rfl, rfl, h1, h2, h3, rfl⟩ := delF_some (xs := xs) (i := i) (j := j) hz
  exact del_core hkt hes hwalk xs n m h1 h2 h3
noncomputable def L39 (i j : Int) (xs : List Int) : Option (Unit × (Unit × (List Int × Unit))) := delF 0 xs i j
noncomputable def L22 (i j : Int) (xs : List (List Itm)) : Option (Unit × (Unit × (List (List Itm) × Unit))) := delF 6 xs i j
noncomputable def L31 (i : Int) (xs vs : List Itm) : Option (Unit × (Unit × (List Itm × (List Itm × Unit)))) := insF xs i vs
noncomputable def L39e : Ent G := ⟨39, .cons (.own 0) (.cons (.int .i64) (.cons (.int .i64) .nil)), [.arr 0 true], .own 1, [.dead, .arr 0 true], fun x y => L39 x.2.1 x.2.2.1 y.1⟩
noncomputable def L22e : Ent G := ⟨22, .cons (.own 0) (.cons (.int .i64) (.cons (.int .i64) .nil)), [.arr 6 true], .own 1, [.dead, .arr 6 true], fun x y => L22 x.2.1 x.2.2.1 y.1⟩
noncomputable def L31e : Ent G := ⟨31, .cons (.own 0) (.cons (.int .i64) (.cons (.own 1) .nil)), [.arr 3 true, .arr 3 true], .own 2, [.dead, .arr 3 true, .arr 3 true], fun x y => L31 x.2.1 y.1 y.2.1⟩
theorem L39_ok : EntOK prog G L39e := del_ok (k := 0) (t := 38) (by kernel_rfl) (by kernel_rfl) fun b n c i j A v0 w W1 W2 h1 h2 h3 h4 h5 h6 h7 => del39 b n c i j A v0 w W1 W2 h1 h2 h3 h4 h5 h6 h7
theorem L22_ok : EntOK prog G L22e := del_ok (k := 6) (t := 27) (by kernel_rfl) (by kernel_rfl) fun b n c i j A v0 w W1 W2 h1 h2 h3 h4 h5 h6 h7 => del22 b n c i j A v0 w W1 W2 h1 h2 h3 h4 h5 h6 h7
theorem L31_ok : EntOK prog G L31e := ins_ok
end Go.Proofs.Ytjanepkjjmcchaa.Am
