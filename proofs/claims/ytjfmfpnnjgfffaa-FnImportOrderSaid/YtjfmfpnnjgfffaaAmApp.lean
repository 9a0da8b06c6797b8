/- The abstract machine: append, whole. -/
import Derived.Test.YtjfmfpnnjgfffaaAmMap
import Derived.Lib.AppendZerosOnto
namespace Go.Proofs.Ytjfmfpnnjgfffaa.Am
open Go
set_option autoImplicit false
set_option linter.unusedVariables false
set_option linter.unusedSectionVars false
set_option linter.unusedSimpArgs false

section
variable {P : Program} {G : Sig} {F N : Nat → Prop} {c c' c'' : Cf G}

/-- rows one behind the other -/
theorem row_append {k : Nat} {xs ys : List (G.T k)} {olds news rest : Array Value} (L : Laws P G) (hk : k < G.n) (h1 : Cells P G F c k xs olds) (h2 : Cells P G F c k ys news) :
    ∀ (i : Nat) (x : G.T k), (xs ++ ys)[i]? = some x → Row P G F c (olds ++ news ++ rest) (i * esz P G k) (G.op k x) := by
  intro i x hx j d hd
  have hj : j < esz P G k := by rw [← L.len k hk x]; exact (List.getElem?_eq_some_iff.1 hd).1
  rw [List.getElem?_append] at hx
  split at hx
  · rename_i hi
    obtain ⟨v, hv, hr⟩ := h1.2.2 i x hx j d hd
    refine ⟨v, ?_, hr⟩
    have hlt := (Array.getElem?_eq_some_iff.1 hv).1
    rw [Array.append_assoc, Array.getElem?_append_left hlt]; exact hv
  · rename_i hi
    obtain ⟨v, hv, hr⟩ := h2.2.2 _ x hx j d hd
    refine ⟨v, ?_, hr⟩
    have hlt := (Array.getElem?_eq_some_iff.1 hv).1
    have hge : olds.size ≤ i * esz P G k + j := by rw [h1.1]; have := Nat.mul_le_mul_right (esz P G k) (Nat.le_of_not_lt hi); omega
    have he : i * esz P G k + j - olds.size = (i - xs.length) * esz P G k + j := by
      rw [h1.1, Nat.sub_mul]
      have := Nat.mul_le_mul_right (esz P G k) (Nat.le_of_not_lt hi); omega
    rw [Array.append_assoc, Array.getElem?_append_right hge, Array.getElem?_append_left (by rw [he]; exact hlt), he]; exact hv

/-- a slice that is nowhere: a virtual row -/
theorem nil_new {nb k : Nat} (ok : OK P G F N c) (hnb : c.os[nb]? = some .free) (hk : k < G.n) (a : Option Addr) (ha : G.strict = true → a = none) :
    ∃ m', Tr G F c ⟨c.w, m', setObj c.os nb (.arr k [] true)⟩ ∧ OK P G F N ⟨c.w, m', setObj c.os nb (.arr k [] true)⟩ ∧
      VR P G F ⟨c.w, m', setObj c.os nb (.arr k [] true)⟩ (.own nb) (.slice a 0 0) := by
  let β : Blk := ⟨none, 0, [], {}⟩
  have n : New c nb β (.arr k [] true) c.w := { nb := hnb, sys := ⟨rfl, rfl, rfl⟩, size := Nat.le_refl _, keep := fun _ _ => rfl, fp := fun b hb => by simp [β] at hb, fz := fun _ h => h }
  have t := n.tr (F := F) ok.len
  have hob : ObjR P G F (newCf c nb β (.arr k [] true) c.w) β (.arr k [] true) := ⟨hk, .inl ⟨rfl, rfl, rfl⟩⟩
  obtain ⟨a1, a2⟩ := n.at_nb ok.len
  exact ⟨(newCf c nb β (.arr k [] true) c.w).m, t, n.ok ok hob, .ownNil nb k true β a a1 a2 rfl ha⟩

theorem srcOf_ok {k : Nat} {x : AV G.T} {ys : List (G.T k)} {l : List Nat} {v : Value} (L : Laws P G) (ok : OK P G F N c) (hk : k < G.n) (h : Runs P G c.os (srcOf G k x) l ys) (hx : VR P G F c x v) :
    ∃ news : Array Value, Cells P G F c k ys news ∧ (∀ w2 : World, (Builtin.lenOf v).run P w2 = .ok ys.length w2) ∧ ∀ w2 : World, w2.heap = c.w.heap → (Builtin.firstCells (esz P G k) ys.length v).run P w2 = .ok news w2 := by
  unfold srcOf at h
  split at h
  · rename_i s
    split at h
    case isFalse => exact h.fail_inv.elim
    rename_i h8
    obtain ⟨rfl, -⟩ := h.pure_inv
    obtain rfl := hx.lit_inv
    have hop : ∀ n, G.op k (ofByte G k n) = [.lit (.int .u8 n)] := by
      intro n
      obtain ⟨x, hx⟩ := L.b8 k h8 n
      have e : ofByte G k n = x := by unfold ofByte; rw [hx]
      rw [e]
      obtain ⟨m, hm⟩ := L.u8 k h8 x
      rcases L.cl k hk _ x hx 0 _ _ rfl (by rw [hm]; rfl) with h1 | ⟨h1, -⟩
      · rw [hm, ← h1]
      · cases h1
    have hsz : esz P G k = 1 := by rw [← L.len k hk (ofByte G k 0), hop]; rfl
    have hl : ((intsOfBytes s).map (ofByte G k)).length = s.size := by unfold intsOfBytes; rw [List.length_map, List.length_map, Array.length_toList]; rfl
    refine ⟨s.data.map fun b => Value.int .u8 b.toNat, ⟨by rw [hl, hsz, Array.size_map]; exact (Nat.mul_one _).symm, fun v hv => ?_, fun i x hx j d hd => ?_⟩, fun w2 => by rw [hl]; rfl, fun w2 _ => ?_⟩
    · simp only [Array.toList_map, List.mem_map] at hv
      obtain ⟨b, -, rfl⟩ := hv
      rfl
    · rw [List.getElem?_map, Option.map_eq_some_iff] at hx
      obtain ⟨n, hn, rfl⟩ := hx
      rw [hop] at hd
      unfold intsOfBytes at hn
      rw [List.getElem?_map, Option.map_eq_some_iff] at hn
      obtain ⟨b, hb, rfl⟩ := hn
      match j, hd with
      | 0, hd =>
        cases hd
        refine ⟨.int .u8 b.toNat, ?_, .lit _⟩
        rw [hsz, Nat.mul_one, Nat.add_zero, Array.getElem?_map]
        rw [Array.getElem?_toList] at hb
        rw [hb]; rfl
      | j + 1, hd => cases hd
    · rw [hl]
      have e : s.extract 0 s.size = s := by
        apply ByteArray.ext
        simp
      simp [Builtin.firstCells, e]
  · obtain ⟨a, cap, rfl, hcap, hh⟩ := content_ok L ok h hx
    obtain ⟨news, hnews, hfc⟩ := holds_cells L hk hh
    exact ⟨news, hnews, fun _ => rfl, fun w2 hw => hfc cap w2 hw⟩

theorem zero_get (z : Array Value) {n r j : Nat} (hj : j < z.size) (hr : r < n) : (Builtin.zeroCells z n)[r * z.size + j]? = some z[j] := by
  have h1 : (r + 1) * z.size ≤ n * z.size := Nat.mul_le_mul_right _ hr
  rw [Nat.add_mul] at h1
  have h2 : r * z.size + j < n * z.size := by omega
  have h3 : (r * z.size + j) % z.size = j := by rw [Nat.mul_comm, Nat.mul_add_mod]; exact Nat.mod_eq_of_lt hj
  unfold Builtin.zeroCells
  rw [Array.getElem?_map, Array.getElem?_range, if_pos h2]
  simp [h3, hj]
theorem appendZ_ok {nb : Nat} {t tx ty : TypeId} {s x : AV G.T} {vs vx : Value} {r : OpRes G.T G.U} {l : List Nat} (L : Laws P G) (ok : OK P G F N c) (hnb0 : ∀ i, i < r.new.length → c.os[nb + i]? = some .free)
    (h : Runs P G c.os (appendZ P G nb t tx s x) l r) (hs : VR P G F c s vs) (hx : VR P G F c x vx) :
    OpTo P G F N c (Builtin.append_ #[t, tx] ty #[vs, vx]) (addObjs (setObjs c.os r.upd) nb r.new) r.d := by
  unfold appendZ at h
  split at h
  case h_2 => exact h.fail_inv.elim
  rename_i kn kq m hux
  obtain ⟨k, l1, l2, rfl, g1, g2⟩ := h.bind_inv
  obtain ⟨hkt, -⟩ := g1.ofOpt_inv
  obtain ⟨h0, g3⟩ := g2.test_inv
  obtain ⟨h1, g4⟩ := g3.test_inv
  obtain ⟨rfl, -⟩ := g4.pure_inv
  have h0 := of_decide_eq_true h0
  have h1 := of_decide_eq_true h1
  unfold maxSz at h1
  obtain rfl := hx.lit_inv
  cases hs with
  | nil0 a ha =>
    obtain ⟨n, rfl⟩ := Int.eq_ofNat_of_zero_le (Int.le_of_lt h0)
    obtain ⟨e, i, hu, hE, hk, hi, hsz, hb0, hb1⟩ := kindOf_ok L hkt
    obtain ⟨z, hz1, -, -⟩ := L.df k hk
    obtain ⟨hzs, hzr⟩ := zero_row (F := F) (c := c) L hk hz1
    rw [hE, hi] at hz1
    have hz1 : i.zero = some z := hz1
    have hpos := L.pos k hk
    have hb : n * i.bytes ≤ 281474976710656 := by
      have : n * i.bytes ≤ 68719476736 * 1024 := Nat.mul_le_mul (by omega) hb1
      omega
    have hr := Lib.run_append_grow_zeros (P := P) c.w t tx ty e i z kq kn hu hux hi hz1 a 0 0 [] (by
      cases a with
      | none => rfl
      | some ad => simp [Builtin.firstCells, loadCells, loadCellsFrom]) n (by omega) (by omega) (by omega) (by omega) hb (by rw [Nat.zero_add, nextslicecap_zero (by omega)]; exact hb)
    simp only [Nat.zero_add] at hr
    rw [show (([] : List Value).toArray ++ Builtin.zeroCells z.cells n ++ Builtin.zeroCells z.cells (grownCap c.w n 0 e - n)) = Builtin.zeroCells z.cells n ++ Builtin.zeroCells z.cells (grownCap c.w n 0 e - n) by simp] at hr
    have hge : n ≤ grownCap c.w n 0 e := grownCap_ge c.w n 0 e
    have hnb := hnb0 0 (by simp)
    rw [Nat.add_zero] at hnb
    have hlen : (List.replicate (n : Int).toNat (G.df k)).length = n := by simp
    obtain ⟨m', t', ok', hv⟩ := row_new (c := c) (cs := Builtin.zeroCells z.cells n ++ Builtin.zeroCells z.cells (grownCap c.w n 0 e - n)) (cap := grownCap c.w n 0 e)
      (w1 := c.w.drew.alloc (.cells (Builtin.zeroCells z.cells n ++ Builtin.zeroCells z.cells (grownCap c.w n 0 e - n)) e)) (nb := nb) (k := k) (xs := List.replicate (n : Int).toNat (G.df k)) L ok hnb hk
      ⟨rfl, rfl, rfl, by show c.w.heap.push _ = _; rw [hE]⟩ (by rw [hlen]; exact hge)
      (by
        simp only [Array.size_append, size_zeroCells, hzs, ← Nat.add_mul]
        rw [Nat.add_sub_cancel' hge]; exact Nat.le_refl _)
      (fun q x hx j d hd => by
        rw [List.getElem?_replicate] at hx
        split at hx
        case isFalse => cases hx
        rename_i hq
        cases hx
        rw [Int.toNat_natCast] at hq
        have hj : j < esz P G k := by rw [← L.len k hk (G.df k)]; exact (List.getElem?_eq_some_iff.1 hd).1
        have hjz : j < z.cells.size := by rw [hzs]; exact hj
        have hg := zero_get z.cells (n := n) (r := q) hjz hq
        rw [hzs] at hg
        have hlt := (Array.getElem?_eq_some_iff.1 hg).1
        exact ⟨z.cells[j], by rw [Array.getElem?_append_left hlt]; exact hg, hzr j _ d (by simp [hjz]) hd⟩) (fun _ g => by rw [hlen] at g; omega)
    rw [hlen] at hv
    exact ⟨_, _, m', hr, t', ok', hv⟩

theorem appendV_ok0 {nb : Nat} {t tx ty : TypeId} {s x : AV G.T} {vs vx : Value} {r : OpRes G.T G.U} {l : List Nat} (L : Laws P G) (ok : OK P G F N c) (hnb0 : ∀ i, i < r.new.length → c.os[nb + i]? = some .free)
    (h : Runs P G c.os (appendV P G nb t tx s x) l r) (hs : VR P G F c s vs) (hx : VR P G F c x vx) (hns : noSub s = true) :
    OpTo P G F N c (Builtin.append_ #[t, tx] ty #[vs, vx]) (addObjs (setObjs c.os r.upd) nb r.new) r.d := by
  unfold appendV at h
  split at h
  case isFalse => exact appendZ_ok L ok hnb0 h hs hx
  rename_i htx
  obtain ⟨dx, hdx, hd⟩ : ∃ dx, P.underlying tx = some dx ∧ srcDesc dx = true := by
    unfold okSrc at htx
    split at htx
    · rename_i e he; exact ⟨_, he, rfl⟩
    · rename_i he; exact ⟨_, he, rfl⟩
    · cases htx
  obtain ⟨k, l1, l2, rfl, g1, g2⟩ := h.bind_inv
  obtain ⟨hkt, -⟩ := g1.ofOpt_inv
  obtain ⟨ys, l3, l4, rfl, g3, g4⟩ := g2.bind_inv
  obtain ⟨e, i, hu, hE, hk, hi, hsz, hb0, hb1⟩ := kindOf_ok L hkt
  obtain ⟨z, hz1, -, -⟩ := L.df k hk
  obtain ⟨hzs, -⟩ := zero_row (F := F) (c := c) L hk hz1
  rw [hE, hi] at hz1
  have hz1 : i.zero = some z := hz1
  obtain ⟨news, hnews, hlx, hfc⟩ := srcOf_ok L ok hk g3 hx
  rw [← hsz] at hfc
  have hpos := L.pos k hk
  -- growing
  have grow : ∀ (c1 : Cf G) (xs : List (G.T k)) (base : Option Addr) (sCap : Nat) (olds : Array Value), c1.w = c.w → OK P G F N c1 → Tr G F c c1 → c1.os[nb]? = some .free → Cells P G F c k xs olds → sCap < xs.length + ys.length →
      xs.length + ys.length ≤ maxSz → (∀ w2 : World, w2.heap = c.w.heap → (Builtin.firstCells i.size xs.length (.slice base xs.length sCap)).run P w2 = .ok olds w2) →
      OpTo P G F N c (Builtin.append_ #[t, tx] ty #[.slice base xs.length sCap, vx]) (setObj c1.os nb (.arr k (xs ++ ys) true)) (.own nb) := by
    intro c1 xs base sCap olds hw1 ok1 t1 hnb1 hc1 hlt hmx hfo
    unfold maxSz at hmx
    have hfit : (xs.length + ys.length) * i.bytes ≤ 140737488355328 := by
      have : (xs.length + ys.length) * i.bytes ≤ 68719476736 * 1024 := Nat.mul_le_mul hmx hb1
      omega
    have hr := append_grow (P := P) (ty := ty) (w := c.w) hu hdx hd hi hz1 (hlx c.w) (hfc c.w.drew rfl) (hfo c.w.drew rfl) hlt hb0 hfit
    have hge := grownCap_ge c.w (xs.length + ys.length) sCap e
    obtain ⟨m', t', ok', hv⟩ := row_new (c := c1) (cs := olds ++ news ++ Builtin.zeroCells z.cells (grownCap c.w (xs.length + ys.length) sCap e - (xs.length + ys.length))) (cap := grownCap c.w (xs.length + ys.length) sCap e)
      (w1 := c.w.drew.alloc (.cells (olds ++ news ++ Builtin.zeroCells z.cells (grownCap c.w (xs.length + ys.length) sCap e - (xs.length + ys.length))) e)) (nb := nb) (k := k) (xs := xs ++ ys) L ok1 hnb1 hk
      ⟨by rw [hw1]; rfl, by rw [hw1]; rfl, by rw [hw1]; rfl, by show c.w.heap.push _ = _; rw [hE, hw1]⟩ (by simpa using hge)
      (by
        simp only [Array.size_append, size_zeroCells, hc1.1, hnews.1, hzs, ← Nat.add_mul]
        rw [Nat.add_sub_cancel' hge]; exact Nat.le_refl _)
      (row_append L hk (hc1.mono t1) (hnews.mono t1)) (fun _ g => by rw [List.length_append] at g; omega)
    refine ⟨_, _, m', hr, t1.trans ok1 t', ok', ?_⟩
    have hv' := hv
    rw [hw1] at hv'
    simpa using hv'
  split at g4
  · -- a nil slice
    obtain ⟨hm, g5⟩ := g4.test_inv
    obtain ⟨rfl, -⟩ := g5.pure_inv
    have hnb := hnb0 0 (by simp)
    rw [Nat.add_zero] at hnb
    have hm := of_decide_eq_true hm
    cases hs with
    | nil0 b ha =>
      by_cases hy : ys.length = 0
      · have hy' : ys = [] := List.eq_nil_of_length_eq_zero hy
        subst hy'
        have hn0 : news.size = 0 := by rw [hnews.1]; simp
        have hne : news = #[] := by simpa using hn0
        have hr := append_room (P := P) (ty := ty) (sCap := 0) (sLen := 0) (w' := c.w) (base := b) hu hdx hd hi (hlx c.w) (hfc c.w rfl) (Nat.le_refl _) (fun ad _ => by rw [hne]; rfl) (fun _ => rfl)
        obtain ⟨m', t', ok', hv⟩ := nil_new (nb := nb) ok hnb hk b ha
        exact ⟨_, _, m', hr, t', ok', hv⟩
      · have := grow c [] b 0 #[] rfl ok (Tr.refl F c) hnb ⟨by simp, by simp, fun i x hx => by simp at hx⟩ (by simp; omega) (by simpa using hm) (fun w2 _ => by
          cases b with
          | none => rfl
          | some ad => simp [Builtin.firstCells, loadCells, loadCellsFrom])
        simp only [List.length_nil, List.nil_append, Nat.zero_add] at this
        exact this
  · -- a row of its own
    rename_i o
    obtain ⟨l5, rfl, g5⟩ := g4.look_inv
    clear g4
    split at g5
    case h_2 => exact g5.fail_inv.elim
    rename_i k' xs' ho
    have ho := getD_look ho rfl
    obtain ⟨xs, l6, l7, rfl, g6, g7⟩ := g5.bind_inv
    obtain ⟨g6, -⟩ := g6.ofOpt_inv
    obtain ⟨rfl, rfl⟩ := castL_inv g6
    obtain ⟨hm, g8⟩ := g7.test_inv
    obtain ⟨rfl, -⟩ := g8.pure_inv
    have hnb := hnb0 0 (by simp)
    rw [Nat.add_zero] at hnb
    have hm := of_decide_eq_true hm
    have hlt := (List.getElem?_eq_some_iff.1 ho).1
    have hknb : (setObj c.os o .dead)[nb]? = some .free := by
      have hne : o ≠ nb := fun e => by subst e; rw [ho] at hnb; cases hnb
      rw [setObj_lt hlt, List.getElem?_set_ne hne]; exact hnb
    have kt := kill_tr (F := F) hlt
    have kok := kill_ok hlt ok
    cases hs with
    | ownDead _ _ _ _ hd => rw [ho] at hd; cases hd
    | ownNil _ k2 wr2 β b ho' hm' hb ha =>
      rw [ho] at ho'; cases ho'
      by_cases hy : ys.length = 0
      · have hy' : ys = [] := List.eq_nil_of_length_eq_zero hy
        subst hy'
        have hn0 : news.size = 0 := by rw [hnews.1]; simp
        have hne : news = #[] := by simpa using hn0
        have hr := append_room (P := P) (ty := ty) (sCap := 0) (sLen := 0) (w' := c.w) (base := b) hu hdx hd hi (hlx c.w) (hfc c.w rfl) (Nat.le_refl _) (fun ad _ => by rw [hne]; rfl) (fun _ => rfl)
        obtain ⟨m', t', ok', hv⟩ := nil_new (nb := nb) kok hknb hk b ha
        exact ⟨_, _, m', hr, kt.trans kok t', ok', hv⟩
      · have := grow ⟨c.w, c.m, setObj c.os o .dead⟩ [] b 0 #[] rfl kok kt hknb ⟨by simp, by simp, fun i x hx => by simp at hx⟩ (by simp; omega) (by simpa using hm) (fun w2 _ => by
          cases b with
          | none => rfl
          | some ad => simp [Builtin.firstCells, loadCells, loadCellsFrom])
        simp only [List.length_nil, List.nil_append, Nat.zero_add] at this
        exact this
    | own _ k2 xs2 wr2 β b scap ho' hm' hb hcap' hn hto =>
      rw [ho] at ho'; cases ho'
      have hH := arr_holds ok ho hm' hb
      obtain ⟨olds, holds, hfo⟩ := holds_cells L hk hH
      rw [← hsz] at hfo
      by_cases hroom : xs.length + ys.length ≤ scap
      · obtain ⟨hkk, hob⟩ := ok.obj _ _ _ ho hm'
        rcases hob with ⟨hb', -, -⟩ | ⟨b', cs, hb', hfp, hheap, hcs, hle, hrow⟩
        · rw [hb] at hb'; cases hb'
        rw [hb] at hb'; cases hb'
        have hfit : xs.length * i.size + news.toList.length ≤ cs.size := by
          have h1 : (xs.length + ys.length) * esz P G k' ≤ scap * esz P G k' := Nat.mul_le_mul_right _ hroom
          rw [Nat.add_mul] at h1
          simp only [Array.length_toList, hnews.1, hsz, hcs]; omega
        have hst := store_cells (P := P) (c := c) hheap hfit hnews.2.1
        let w' := c.w.setRow b (splice cs.toList (xs.length * i.size) news.toList).toArray
        have hr := append_room (P := P) (ty := ty) (sCap := scap) (sLen := xs.length) (w := c.w) (w' := w') (base := some ⟨b, 0, none⟩) hu hdx hd hi (hlx c.w) (hfc c.w rfl) hroom (fun ad had => by
          cases had; rw [add_plain, Nat.zero_add]; exact hst) (fun hh => by cases hh)
        have mv : Mov c o nb β (.arr k' xs true) (.arr k' (xs ++ ys) true) w' := {
          ho := ho, hm := hm', mu := rfl, nb := hnb, sys := ⟨rfl, rfl, rfl⟩, size := by simp [w'],
          keep := fun b2 hb2 => setRow_other c.w b b2 _ (by rintro rfl; exact hb2 (by simp [hfp])), fz := frozen_setRow hheap }
        have tr := mv.tr ok
        have hfit' : xs.length * i.size + news.toList.length ≤ cs.toList.length := by simpa using hfit
        have hob : ObjR P G F (movCf c o nb β (.arr k' (xs ++ ys) true) w') β (.arr k' (xs ++ ys) true) := by
          refine ⟨hk, .inr ⟨b, (splice cs.toList (xs.length * i.size) news.toList).toArray, hb, hfp, ?_, ?_, ?_, ?_⟩⟩
          · exact setRow_heap c.w b cs _ _ _ hheap
          · simp only [List.size_toArray]; rw [splice_length _ _ _ hfit']; simpa using hcs
          · rw [List.length_append]
            exact Nat.le_trans (Nat.mul_le_mul_right _ hroom) hn
          · intro q y hy j d hd
            have hj : j < esz P G k' := by rw [← L.len k' hk y]; exact (List.getElem?_eq_some_iff.1 hd).1
            rw [List.getElem?_append] at hy
            simp only [List.getElem?_toArray]
            rw [splice_get _ _ _ hfit']
            split at hy
            · rename_i hq
              obtain ⟨v, hv, hvr⟩ := hrow q y hy j d hd
              refine ⟨v, ?_, hvr.mono tr⟩
              rw [if_neg (by
                rw [hsz]
                have : (q + 1) * esz P G k' ≤ xs.length * esz P G k' := Nat.mul_le_mul_right _ hq
                rw [Nat.add_mul] at this; omega)]
              simpa using hv
            · rename_i hq
              obtain ⟨v, hv, hvr⟩ := hnews.2.2 _ y hy j d hd
              refine ⟨v, ?_, hvr.mono tr⟩
              have hlt' := (Array.getElem?_eq_some_iff.1 hv).1
              have h1 := Nat.mul_le_mul_right (esz P G k') (Nat.le_of_not_lt hq)
              have he : q * esz P G k' + j - xs.length * i.size = (q - xs.length) * esz P G k' + j := by rw [hsz, Nat.sub_mul]; omega
              rw [if_pos ⟨by rw [hsz]; omega, by simp only [Array.length_toList]; rw [hsz] at he ⊢; omega⟩, he]
              simpa using hv
        refine ⟨_, w', _, hr, tr, mv.ok ok hob, ?_⟩
        have hlen : (xs ++ ys).length = xs.length + ys.length := by simp
        rw [← hlen]
        obtain ⟨a1, a2⟩ := mv.at_nb ok.len
        exact .own nb k' (xs ++ ys) true β b scap a1 a2 hb (by rw [hlen]; exact hroom) hn (fun h g => hto h (by rw [hlen] at g; omega))
      · have := grow ⟨c.w, c.m, setObj c.os o .dead⟩ xs (some ⟨b, 0, none⟩) scap olds rfl kok kt hknb holds (by omega) hm (fun w2 hw2 => hfo scap w2 hw2)
        exact this
  · -- the beginning of a row of its own
    rename_i o n
    obtain ⟨l5, rfl, g5⟩ := g4.look_inv
    clear g4
    split at g5
    case h_2 => exact g5.fail_inv.elim
    rename_i k' xs' ho
    have ho := getD_look ho rfl
    obtain ⟨xs0, l6, l7, rfl, g6, g7⟩ := g5.bind_inv
    obtain ⟨g6, -⟩ := g6.ofOpt_inv
    obtain ⟨rfl, rfl⟩ := castL_inv g6
    obtain ⟨hti, g7⟩ := g7.test_inv
    simp only [Bool.not_eq_true'] at hti
    obtain ⟨hm, g8⟩ := g7.test_inv
    obtain ⟨rfl, -⟩ := g8.pure_inv
    have hnb := hnb0 0 (by simp)
    rw [Nat.add_zero] at hnb
    have hm := of_decide_eq_true hm
    have hlt := (List.getElem?_eq_some_iff.1 ho).1
    have hknb : (setObj c.os o .dead)[nb]? = some .free := by
      have hne : o ≠ nb := fun e => by subst e; rw [ho] at hnb; cases hnb
      rw [setObj_lt hlt, List.getElem?_set_ne hne]; exact hnb
    have kt := kill_tr (F := F) hlt
    have kok := kill_ok hlt ok
    cases hs with
    | preDead _ _ _ _ _ hd => rw [ho] at hd; cases hd
    | preNil _ _ k2 wr2 β b ho' hm' hb ha =>
      rw [ho] at ho'; cases ho'
      simp only [List.take_nil] at hm ⊢
      by_cases hy : ys.length = 0
      · have hy' : ys = [] := List.eq_nil_of_length_eq_zero hy
        subst hy'
        have hn0 : news.size = 0 := by rw [hnews.1]; simp
        have hne : news = #[] := by simpa using hn0
        have hr := append_room (P := P) (ty := ty) (sCap := 0) (sLen := 0) (w' := c.w) (base := b) hu hdx hd hi (hlx c.w) (hfc c.w rfl) (Nat.le_refl _) (fun ad _ => by rw [hne]; rfl) (fun _ => rfl)
        obtain ⟨m', t', ok', hv⟩ := nil_new (nb := nb) kok hknb hk b ha
        exact ⟨_, _, m', hr, kt.trans kok t', ok', hv⟩
      · have := grow ⟨c.w, c.m, setObj c.os o .dead⟩ [] b 0 #[] rfl kok kt hknb ⟨by simp, by simp, fun i x hx => by simp at hx⟩ (by simp; omega) (by simpa using hm) (fun w2 _ => by
          cases b with
          | none => rfl
          | some ad => simp [Builtin.firstCells, loadCells, loadCellsFrom])
        simp only [List.length_nil, List.nil_append, Nat.zero_add] at this
        exact this
    | pre _ _ k2 xs2 wr2 β b scap ho' hm' hb hle0 hcap' hn =>
      rw [ho] at ho'; cases ho'
      have hH0 := arr_holds ok ho hm' hb
      have hget0 : ∀ (q : Nat) (y : G.T k'), (xs0.take n)[q]? = some y → xs0[q]? = some y := by
        intro q y hq
        rw [List.getElem?_take] at hq
        split at hq
        · exact hq
        · cases hq
      have hH : Holds P G F c (some ⟨b, 0, none⟩) k' (xs0.take n) := fun q y hq => hH0 q y (hget0 q y hq)
      have hln : (xs0.take n).length = n := by simp; omega
      have hgoal : ∀ {X : AV G.T} {O}, OpTo P G F N c (Builtin.append_ #[t, tx] ty #[.slice (some ⟨b, 0, none⟩) (xs0.take n).length scap, vx]) O X → OpTo P G F N c (Builtin.append_ #[t, tx] ty #[.slice (some ⟨b, 0, none⟩) n scap, vx]) O X := by
        intro X O h; rw [hln] at h; exact h
      apply hgoal
      have hcap' : (xs0.take n).length ≤ scap := by rw [hln]; exact hcap'
      clear hgoal
      generalize hxs : xs0.take n = xs at *
      obtain ⟨olds, holds, hfo⟩ := holds_cells L hk hH
      rw [← hsz] at hfo
      by_cases hroom : xs.length + ys.length ≤ scap
      · obtain ⟨hkk, hob⟩ := ok.obj _ _ _ ho hm'
        rcases hob with ⟨hb', -, -⟩ | ⟨b', cs, hb', hfp, hheap, hcs, hle, hrow⟩
        · rw [hb] at hb'; cases hb'
        rw [hb] at hb'; cases hb'
        have hfit : xs.length * i.size + news.toList.length ≤ cs.size := by
          have h1 : (xs.length + ys.length) * esz P G k' ≤ scap * esz P G k' := Nat.mul_le_mul_right _ hroom
          rw [Nat.add_mul] at h1
          simp only [Array.length_toList, hnews.1, hsz, hcs]; omega
        have hst := store_cells (P := P) (c := c) hheap hfit hnews.2.1
        let w' := c.w.setRow b (splice cs.toList (xs.length * i.size) news.toList).toArray
        have hr := append_room (P := P) (ty := ty) (sCap := scap) (sLen := xs.length) (w := c.w) (w' := w') (base := some ⟨b, 0, none⟩) hu hdx hd hi (hlx c.w) (hfc c.w rfl) hroom (fun ad had => by
          cases had; rw [add_plain, Nat.zero_add]; exact hst) (fun hh => by cases hh)
        have mv : Mov c o nb β (.arr k' xs0 true) (.arr k' (xs ++ ys) true) w' := {
          ho := ho, hm := hm', mu := rfl, nb := hnb, sys := ⟨rfl, rfl, rfl⟩, size := by simp [w'],
          keep := fun b2 hb2 => setRow_other c.w b b2 _ (by rintro rfl; exact hb2 (by simp [hfp])), fz := frozen_setRow hheap }
        have tr := mv.tr ok
        have hfit' : xs.length * i.size + news.toList.length ≤ cs.toList.length := by simpa using hfit
        have hob : ObjR P G F (movCf c o nb β (.arr k' (xs ++ ys) true) w') β (.arr k' (xs ++ ys) true) := by
          refine ⟨hk, .inr ⟨b, (splice cs.toList (xs.length * i.size) news.toList).toArray, hb, hfp, ?_, ?_, ?_, ?_⟩⟩
          · exact setRow_heap c.w b cs _ _ _ hheap
          · simp only [List.size_toArray]; rw [splice_length _ _ _ hfit']; simpa using hcs
          · rw [List.length_append]
            exact Nat.le_trans (Nat.mul_le_mul_right _ hroom) hn
          · intro q y hy j d hd
            have hj : j < esz P G k' := by rw [← L.len k' hk y]; exact (List.getElem?_eq_some_iff.1 hd).1
            rw [List.getElem?_append] at hy
            simp only [List.getElem?_toArray]
            rw [splice_get _ _ _ hfit']
            split at hy
            · rename_i hq
              obtain ⟨v, hv, hvr⟩ := hrow q y (hget0 q y hy) j d hd
              refine ⟨v, ?_, hvr.mono tr⟩
              rw [if_neg (by
                rw [hsz]
                have : (q + 1) * esz P G k' ≤ xs.length * esz P G k' := Nat.mul_le_mul_right _ hq
                rw [Nat.add_mul] at this; omega)]
              simpa using hv
            · rename_i hq
              obtain ⟨v, hv, hvr⟩ := hnews.2.2 _ y hy j d hd
              refine ⟨v, ?_, hvr.mono tr⟩
              have hlt' := (Array.getElem?_eq_some_iff.1 hv).1
              have h1 := Nat.mul_le_mul_right (esz P G k') (Nat.le_of_not_lt hq)
              have he : q * esz P G k' + j - xs.length * i.size = (q - xs.length) * esz P G k' + j := by rw [hsz, Nat.sub_mul]; omega
              rw [if_pos ⟨by rw [hsz]; omega, by simp only [Array.length_toList]; rw [hsz] at he ⊢; omega⟩, he]
              simpa using hv
        refine ⟨_, w', _, hr, tr, mv.ok ok hob, ?_⟩
        have hlen : (xs ++ ys).length = xs.length + ys.length := by simp
        rw [← hlen]
        obtain ⟨a1, a2⟩ := mv.at_nb ok.len
        exact .own nb k' (xs ++ ys) true β b scap a1 a2 hb (by rw [hlen]; exact hroom) hn (fun h => by rw [hti] at h; cases h)
      · have := grow ⟨c.w, c.m, setObj c.os o .dead⟩ xs (some ⟨b, 0, none⟩) scap olds rfl kok kt hknb holds (by omega) hm (fun w2 hw2 => hfo scap w2 hw2)
        exact this
  · cases hns
  · exact g4.fail_inv.elim

theorem appendV_ok {nb : Nat} {t tx ty : TypeId} {s x : AV G.T} {vs vx : Value} {r : OpRes G.T G.U} {l : List Nat} (L : Laws P G) (ok : OK P G F N c) (hnb0 : ∀ i, i < r.new.length → c.os[nb + i]? = some .free)
    (h : Runs P G c.os (appendV P G nb t tx s x) l r) (hs : VR P G F c s vs) (hx : VR P G F c x vx) :
    OpTo P G F N c (Builtin.append_ #[t, tx] ty #[vs, vx]) (addObjs (setObjs c.os r.upd) nb r.new) r.d := by
  by_cases hns : noSub s = true
  · exact appendV_ok0 L ok hnb0 h hs hx hns
  obtain ⟨o, i, tk, rfl⟩ : ∃ o i tk, s = .sub o i tk := by cases s <;> first | exact absurd rfl hns | exact ⟨_, _, _, rfl⟩
  unfold appendV at h
  split at h
  case isFalse => unfold appendZ at h; split at h <;> first | exact h.fail_inv.elim | contradiction
  rename_i htx
  obtain ⟨k, l1, l2, rfl, g1, g2⟩ := h.bind_inv
  obtain ⟨ys, l3, l4, rfl, g3, g4⟩ := g2.bind_inv
  simp only at g4
  obtain ⟨l5, rfl, g5⟩ := g4.look_inv
  split at g5
  case h_2 => exact g5.fail_inv.elim
  rename_i u y ho
  have ho := getD_look ho rfl
  split at g5
  case h_2 => exact g5.fail_inv.elim
  rename_i g hg
  split at g5
  case h_2 => exact g5.fail_inv.elim
  rename_i hhl hnx
  obtain ⟨e1, g6⟩ := g5.test_inv
  obtain rfl := of_decide_eq_true e1
  obtain ⟨xs, l6, l7, rfl, g7, g8⟩ := g6.bind_inv
  obtain ⟨g7, -⟩ := g7.ofOpt_inv
  obtain ⟨rfl, rfl⟩ := castL_inv g7
  split at g8
  case h_2 => exact g8.fail_inv.elim
  rename_i q hq
  obtain ⟨hm, g9⟩ := g8.test_inv
  obtain ⟨rfl, -⟩ := g9.pure_inv
  have hnb := hnb0 0 (by simp)
  rw [Nat.add_zero] at hnb
  have hnb1 := hnb0 1 (by simp)
  obtain ⟨m1, t1, ok1, hv1, -⟩ := chk_ok L ok ho hg hhl hs hnb hq
  have hlo := (List.getElem?_eq_some_iff.1 ho).1
  have hln := (List.getElem?_eq_some_iff.1 hnb).1
  have hne : o ≠ nb := fun e => by rw [e, hnb] at ho; cases ho
  have hne1 : o ≠ nb + 1 := fun e => by rw [e, hnb1] at ho; cases ho
  let os1 := (setObj c.os o (.usr q.1 q.2)).set nb (.arr g.k (g.xs.getD i []) true)
  have a0 : os1[nb]? = some (.arr g.k (g.xs.getD i []) true) := List.getElem?_set_self (by simpa [setObj] using hln)
  have hat : os1.getD nb .free = .arr g.k (g.xs.getD i []) true := by rw [List.getD, a0]; rfl
  have hrun : Runs P G os1 (appendV P G (nb + 1) t tx (.own nb) x) (l1 ++ (l3 ++ [nb])) ⟨.own (nb + 1), [(nb, .dead)], [.arr g.k (g.xs.getD i [] ++ ys) true]⟩ := by
    unfold appendV
    rw [if_pos htx]
    refine Runs.bind_in (g1.of_opt) (Runs.bind_in (srcOf_same g3 hnx fun p k' zs wr hp => ?_) ?_)
    · have hp := getD_look (c := c) hp rfl
      have e1 : o ≠ p := fun e => by rw [← e, ho] at hp; cases hp
      have e2 : nb ≠ p := fun e => by rw [← e, hnb] at hp; cases hp
      show (os1[p]?).getD .free = _
      simp only [os1, setObj]
      rw [List.getElem?_set_ne e2, List.getElem?_set_ne e1, hp]; rfl
    · refine .look _ _ _ _ ?_
      rw [hat]
      refine Runs.bind_in (l1 := []) (a := g.xs.getD i []) ?_ ?_
      · rw [show castL g.k g.k (g.xs.getD i []) = some (g.xs.getD i []) by simp [castL]]; exact .pure _
      · have hm' : decide ((g.xs.getD i []).length + ys.length ≤ maxSz) = true := hm
        rw [hm']
        exact .test _ _ _ (.pure _)
  obtain ⟨v, w', m', b1, b2, b3, b4⟩ := appendV_ok0 (c := ⟨c.w, m1, os1⟩) (ty := ty) L ok1 (fun j hj => by
    have hj : j = 0 := by simpa using hj
    subst hj
    show os1[nb + 1 + 0]? = _
    simp only [os1, setObj, Nat.add_zero]
    rw [List.getElem?_set_ne (by omega), List.getElem?_set_ne hne1]; exact hnb1) hrun hv1 (hx.mono t1) rfl
  have eo : addObjs (setObjs os1 [(nb, .dead)]) (nb + 1) [.arr g.k (g.xs.getD i [] ++ ys) true] = addObjs (setObjs c.os [(o, .usr q.1 q.2)]) nb [.dead, .arr g.k (g.xs.getD i [] ++ ys) true] := by
    simp only [setObjs, addObjs, os1, setObj, List.set_set]
  have b2 : Tr G F _ ⟨w', m', _⟩ := b2
  rw [eo] at b2 b3 b4
  exact ⟨v, w', m', b1, t1.trans ok1 b2, b3, b4⟩

end
end Go.Proofs.Ytjfmfpnnjgfffaa.Am
