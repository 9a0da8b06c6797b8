/- Imports, plainly: what is needed. -/
import Derived.Test.YtjfmfpnnjgfffaaAmImrB
namespace Go.Proofs.Ytjfmfpnnjgfffaa.Am
open Go
set_option autoImplicit false
set_option linter.unusedVariables false
set_option linter.unusedSimpArgs false
set_option maxRecDepth 10000

def Rng (m : Nat) (x : Int) : Prop := 0 ≤ x ∧ x < m
def Vr (m : Nat) (r : List Int) : Prop := ∀ j, j < r.length → Rng m (r.getD j 0)
def Vw (m : Nat) (r : List Int) : Prop := r.length ≤ 8 ∧ Vr m r
def Vg (g : List (List Int)) : Prop := ∀ j, j < g.length → Vw g.length (g.getD j [])

def ixl (b : Bool) : List Bool → Nat → List Int
  | [], _ => []
  | x :: l, i => bif x == b then (i : Int) :: ixl b l (i + 1) else ixl b l (i + 1)
theorem ixl_len (b : Bool) : ∀ (l : List Bool) (i : Nat), (ixl b l i).length ≤ l.length
  | [], _ => Nat.le_refl _
  | x :: l, i => by
    have := ixl_len b l (i + 1)
    simp only [ixl]
    cases x == b
    · simp only [cf, List.length_cons]; omega
    · simp only [ct, List.length_cons]; omega
theorem drop_get {α : Type} {l : List α} {i : Nat} (d : α) (h : i < l.length) : l.drop i = l.getD i d :: l.drop (i + 1) := by
  rw [getD_lt h]; exact List.drop_eq_getElem_cons h
theorem ixI_it {R : Type} {n : Nat} {b : Bool} {l : List Bool} {k0 : List Int → Option R} (hl : l.length ≤ 1048576) : ∀ (fuel i : Nat) (acc : List Int), i ≤ l.length → acc.length ≤ i → l.length + 1 ≤ fuel + i → F31_1_it n k0 fuel b l l.length i acc = k0 (acc ++ ixl b (l.drop i) i)
  | fuel, i, acc, hi, ha, hf => by
    obtain ⟨f, rfl⟩ : ∃ f, fuel = f + 1 := ⟨fuel - 1, by omega⟩
    simp only [F31_1_it, F31_1_step, F31_0]
    by_cases h : i < l.length
    · rw [bp (by omega), bp (by omega), bp (by omega)]
      simp only [e0]
      rw [drop_get false h]
      simp only [ixl]
      cases l.getD i false == b with
      | true =>
        simp only [ct]
        rw [bp (by simp; omega), wp (by omega), e1, ixI_it hl f (i + 1) _ (by omega) (by simp; omega) (by omega)]
        congr 1; simp
      | false =>
        simp only [cf]
        rw [wp (by omega), e1, ixI_it hl f (i + 1) _ (by omega) (by omega) (by omega)]
    · rw [bn (by omega)]
      rw [List.drop_of_length_le (by omega)]; simp [ixl]
theorem ixI {n : Nat} {b : Bool} {l : List Bool} (hn : 4000000 ≤ n) (hl : l.length ≤ 1048576) : F31 n l b = some ((), (ixl b l 0, ())) := by
  unfold F31 F31_1
  exact ixI_it (R := Unit × (List Int × Unit)) (n := n) (k0 := fun z => some ((), (z, ()))) hl n 0 [] (by omega) (by simp) (by omega)
inductive Rch (g : List (List Int)) (r : List Int) : Int → Prop
  | root {x : Int} (h : x ∈ r) : Rch g r x
  | step {x y : Int} (h : Rch g r x) (hy : y ∈ g.getD x.toNat []) : Rch g r y
noncomputable def mkR (g : List (List Int)) (r : List Int) : List Bool := (List.range g.length).map fun (j : Nat) => B (Rch g r (j : Int))
theorem mkR_len (g : List (List Int)) (r : List Int) : (mkR g r).length = g.length := by simp [mkR]
theorem mkR_get {g : List (List Int)} {r : List Int} {j : Nat} (h : j < g.length) : (mkR g r).getD j false = B (Rch g r j) := by
  rw [getD_lt (by rw [mkR_len]; exact h)]; simp [mkR]
-- how many are not marked
def un : List Bool → Nat
  | [] => 0
  | true :: l => un l
  | false :: l => un l + 1
theorem un_set : ∀ {l : List Bool} {i : Nat}, i < l.length → l.getD i false = false → un (l.set i true) + 1 = un l
  | [], i, h, _ => by simp at h
  | true :: l, 0, h, g => by simp [List.getD] at g
  | false :: l, 0, h, g => rfl
  | true :: l, i + 1, h, g => by
    have := un_set (l := l) (i := i) (by simpa using h) (by simpa [List.getD] using g)
    simpa [un] using this
  | false :: l, i + 1, h, g => by
    have := un_set (l := l) (i := i) (by simpa using h) (by simpa [List.getD] using g)
    simp only [List.set_cons_succ, un]; omega
theorem un_rep : ∀ (m : Nat), un (List.replicate m false) = m
  | 0 => rfl
  | m + 1 => by simp [List.replicate_succ, un, un_rep m]
theorem memI_get {l : List Int} {x : Int} : x ∈ l ↔ ∃ j, j < l.length ∧ l.getD j 0 = x := by
  constructor
  · intro hm
    obtain ⟨j, hj, e⟩ := List.getElem_of_mem hm
    exact ⟨j, hj, by rw [getD_lt hj]; exact e⟩
  · rintro ⟨j, h2, h3⟩
    rw [getD_lt h2] at h3; rw [← h3]; exact List.getElem_mem _
theorem Vr.mem {m : Nat} {r : List Int} (h : Vr m r) {x : Int} (hx : x ∈ r) : Rng m x := by
  obtain ⟨j, h1, h2⟩ := memI_get.1 hx
  rw [← h2]; exact h j h1
theorem Rch.rng {g : List (List Int)} {r : List Int} (hg : Vg g) (hr : Vr g.length r) {x : Int} (h : Rch g r x) : Rng g.length x := by
  induction h with
  | root h => exact hr.mem h
  | step h hy ih => exact ((hg _ (by have := ih.1; have := ih.2; omega)).2).mem hy
-- what is marked at the end
theorem mk_of {g : List (List Int)} {r : List Int} {s : List Bool} (hg : Vg g) (hr : Vr g.length r) (hs : s.length = g.length) (h1 : ∀ j, j < g.length → s.getD j false = true → Rch g r j)
    (h2 : ∀ x, x ∈ r → s.getD x.toNat false = true) (h3 : ∀ j : Nat, j < g.length → s.getD j false = true → ∀ y, y ∈ g.getD j [] → s.getD y.toNat false = true) : s = mkR g r := by
  have h4 : ∀ x, Rch g r x → s.getD x.toNat false = true := fun x hx => by
    induction hx with
    | root h => exact h2 _ h
    | step h hy ih => exact h3 _ (by have q := (h.rng hg hr); have := q.1; have := q.2; omega) ih _ hy
  apply list_ext false (by rw [mkR_len, hs])
  intro j hj
  rw [mkR_get (by omega)]
  by_cases h : Rch g r j
  · rw [B_t h]; have := h4 _ h; rwa [e0] at this
  · rw [B_f h]
    cases hb : s.getD j false with
    | false => rfl
    | true => exact absurd (h1 j (by omega) hb) h

-- the program's walk ------------------------------------------------------------------------------------------------------------------------------
structure Dfs (g : List (List Int)) (r : List Int) (s : List Bool) (st : List Int) : Prop where
  len : s.length = g.length
  rch : ∀ j, j < g.length → s.getD j false = true → Rch g r j
  stk : ∀ x, x ∈ st → Rch g r x
  rts : ∀ x, x ∈ r → s.getD x.toNat false = true ∨ x ∈ st
  cls : ∀ j : Nat, j < g.length → s.getD j false = true → ∀ y, y ∈ g.getD j [] → s.getD y.toNat false = true ∨ y ∈ st
theorem take_last {st : List Int} {m : Nat} (h : st.length = m + 1) : st = st.take m ++ [st.getD m 0] := by
  rw [getD_lt (by omega)]
  have := List.take_append_getElem (l := st) (i := m) (by omega)
  rw [this, List.take_of_length_le (by omega)]
theorem dfs_it {R : Type} {n : Nat} {g : List (List Int)} {r : List Int} {k0 : List Bool → Option R} (hg : Vg g) (hr : Vr g.length r) : ∀ (fuel : Nat) (s : List Bool) (st : List Int), Dfs g r s st → st.length + 9 * un s + 1 ≤ fuel → st.length + 9 * un s ≤ 100000 →
    F32_0_it n k0 fuel g s st = k0 (mkR g r)
  | fuel, s, st, hd, hf, hb => by
    obtain ⟨f, rfl⟩ : ∃ f, fuel = f + 1 := ⟨fuel - 1, by omega⟩
    simp only [F32_0_it, F32_0_step]
    cases hm : st.length with
    | zero =>
      have e : st = [] := List.eq_nil_of_length_eq_zero hm
      subst e
      rw [bn (by simp)]
      rw [mk_of hg hr hd.len hd.rch (fun x hx => (hd.rts x hx).resolve_right (by simp)) fun j hj h y hy => (hd.cls j hj h y hy).resolve_right (by simp)]
    | succ m =>
      have hst := take_last hm
      have hx : st.getD m 0 ∈ st := memI_get.2 ⟨m, by omega, rfl⟩
      have hxr := (hd.stk _ hx).rng hg hr
      have hx1 := hxr.1
      have hx2 := hxr.2
      have hlen := hd.len
      rw [bp (by omega), wp (by omega), show ((m + 1 : Nat) : Int) - 1 = (m : Int) by omega]
      simp only [e0]
      rw [bp (by omega), bp (by omega), bp (by omega)]
      have hmem : ∀ y, y ∈ st → y = st.getD m 0 ∨ y ∈ st.take m := fun y hy => by
        rw [hst] at hy
        rcases List.mem_append.1 hy with h | h
        · exact .inr h
        · exact .inl (by simpa using h)
      generalize hxe : st.getD m 0 = x at hx hx1 hx2 hmem
      have htl : (st.take m).length = m := by simp; omega
      cases hs : s.getD x.toNat false with
      | true =>
        have key := dfs_it (n := n) (k0 := k0) hg hr f s (st.take m) ⟨hd.len, hd.rch, fun y hy => hd.stk y (List.mem_of_mem_take hy), fun y hy => (hd.rts y hy).elim .inl fun h => (hmem y h).elim (fun e => .inl (by rw [e]; exact hs)) .inr, fun j hj h y hy => (hd.cls j hj h y hy).elim .inl fun h => (hmem y h).elim (fun e => .inl (by rw [e]; exact hs)) .inr⟩ (by omega) (by omega)
        simp only [Bool.not_true, cf]
        simp (disch := omega) only [bp, e0]
        exact key
      | false =>
        have hi : x.toNat < s.length := by omega
        have hu := un_set hi hs
        have hw := (hg x.toNat (by omega)).1
        have hset : ∀ j, (s.set x.toNat true).getD j false = true → s.getD j false = true ∨ j = x.toNat := fun j h => by
          rw [getD_set' hi] at h
          by_cases e : x.toNat = j
          · exact .inr e.symm
          · rw [if_neg e] at h; exact .inl h
        have hup : ∀ j, s.getD j false = true → (s.set x.toNat true).getD j false = true := fun j h => by
          rw [getD_set' hi]
          by_cases e : x.toNat = j
          · rw [if_pos e]
          · rw [if_neg e]; exact h
        have hself : (s.set x.toNat true).getD x.toNat false = true := by rw [getD_set' hi, if_pos rfl]
        have hxx : Rch g r x := hd.stk x hx
        have hge : ∀ y, (s.getD y.toNat false = true ∨ y ∈ st) → ((s.set x.toNat true).getD y.toNat false = true ∨ y ∈ st.take m ++ g.getD x.toNat []) := fun y h => by
          rcases h with h | h
          · exact .inl (hup _ h)
          · rcases hmem y h with e | h
            · subst e; exact .inl hself
            · exact .inr (List.mem_append_left _ h)
        have key := dfs_it (n := n) (k0 := k0) hg hr f (s.set x.toNat true) (st.take m ++ g.getD x.toNat []) ⟨by rw [List.length_set]; exact hd.len, fun j hj h => by
          rcases hset j h with h | h
          · exact hd.rch j hj h
          · rw [h, show ((x.toNat : Nat) : Int) = x by omega]; exact hxx, fun y hy => by
          rcases List.mem_append.1 hy with h | h
          · exact hd.stk y (List.mem_of_mem_take h)
          · exact .step hxx h, fun y hy => hge y (hd.rts y hy), fun j hj h y hy => by
          rcases hset j h with h | h
          · exact hge y (hd.cls j hj h y hy)
          · subst h; exact .inr (List.mem_append_right _ hy)⟩ (by rw [List.length_append, htl]; omega) (by rw [List.length_append, htl]; omega)
        simp only [Bool.not_false, ct]
        simp (disch := omega) only [bp, e0]
        exact key
theorem rchI {n : Nat} {g : List (List Int)} {r : List Int} (hn : 4000000 ≤ n) (hg : Vg g) (hl : g.length ≤ 12) (hr : Vr g.length r) (hrl : r.length ≤ 12) : F32 n g r = some ((), (mkR g r, ())) := by
  unfold F32 F32_0
  rw [bp (by omega), bp (by omega), bp (by omega), clS (by omega)]
  simp only [ats]
  rw [e0]
  have hrep : ∀ j, (List.replicate g.length false).getD j false = true → False := fun j h => by
    simp only [List.getD, List.getElem?_replicate] at h
    split at h <;> simp at h
  have := un_rep g.length
  exact dfs_it (R := Unit × (List Bool × Unit)) (n := n) (k0 := fun z => some ((), (z, ()))) hg hr n _ r ⟨by simp, fun j _ h => (hrep j h).elim, fun x hx => .root hx, fun x hx => .inr hx, fun j _ h => (hrep j h).elim⟩ (by omega) (by omega)

-- the book's walk -----------------------------------------------------------------------------------------------------------------------------------
structure Bfs (g : List (List Int)) (r : List Int) (s : List Bool) (q : List Int) (i : Nat) : Prop where
  len : s.length = g.length
  rch : ∀ j, j < g.length → s.getD j false = true → Rch g r j
  que : ∀ x, x ∈ q → Rch g r x
  rts : ∀ x, x ∈ r → x ∈ q
  cls : ∀ j : Nat, j < g.length → s.getD j false = true → ∀ y, y ∈ g.getD j [] → y ∈ q
  don : ∀ k, k < i → s.getD (q.getD k 0).toNat false = true
theorem getD_app {α : Type} {l m : List α} {i : Nat} {d : α} (h : i < l.length) : (l ++ m).getD i d = l.getD i d := by
  simp [List.getD, List.getElem?_append_left h]
def ndl : List Stp → List Int
  | [] => []
  | s :: l => if s.kind = 1 ∨ s.kind = 2 then s.num :: ndl l else ndl l
theorem ndl_len : ∀ (l : List Stp), (ndl l).length ≤ l.length
  | [] => Nat.le_refl _
  | s :: l => by
    have := ndl_len l
    unfold ndl
    split <;> simp only [List.length_cons] <;> omega
theorem ndl_mem : ∀ {l : List Stp} {x : Int}, x ∈ ndl l → ∃ s ∈ l, (s.kind = 1 ∨ s.kind = 2) ∧ s.num = x
  | [], x, h => by simp [ndl] at h
  | s :: l, x, h => by
    unfold ndl at h
    split at h
    · rename_i hk
      rcases List.mem_cons.1 h with e | h
      · exact ⟨s, by simp, hk, e.symm⟩
      · obtain ⟨q, h1, h2⟩ := ndl_mem h; exact ⟨q, List.mem_cons_of_mem _ h1, h2⟩
    · obtain ⟨q, h1, h2⟩ := ndl_mem h; exact ⟨q, List.mem_cons_of_mem _ h1, h2⟩
theorem ndl_drop {l : List Stp} {j : Nat} (h : j < l.length) : ndl (l.drop j) = if (l.getD j t0).kind = 1 ∨ (l.getD j t0).kind = 2 then (l.getD j t0).num :: ndl (l.drop (j + 1)) else ndl (l.drop (j + 1)) := by
  rw [drop_get t0 h]; rfl
theorem set_get {α : Type} {l : List α} {i : Nat} {d : α} : l.set i (l.getD i d) = l := by
  by_cases h : i < l.length
  · rw [getD_lt h, List.set_getElem_self]
  · rw [List.set_eq_of_length_le (by omega)]
theorem imP_it {R : Type} {n i : Nat} {x : List (List Stp)} {y z : Int} {r : List Stp} {k0 : List (List Stp) → Int → Int → (Nat × (List (List Int))) → Option R} (hr : r.length ≤ 1048576) : ∀ (fuel j tok : Nat) (xs : List (List Int)), i < xs.length → (xs.getD i []).length ≤ j → j ≤ r.length → r.length + 1 ≤ fuel + j →
    ∃ tok', F33_1_it n k0 fuel i x y z r r.length j (tok, xs) = k0 x y z (tok', xs.set i (xs.getD i [] ++ ndl (r.drop j)))
  | fuel, j, tok, xs, hi, hx, hj, hf => by
    obtain ⟨f, rfl⟩ : ∃ f, fuel = f + 1 := ⟨fuel - 1, by omega⟩
    simp only [F33_1_it, F33_1_step, F33_0]
    by_cases h : j < r.length
    · have hi2 : (i : Int) < ((xs.length : Nat) : Int) := by omega
      have hj2 : IntKind.wrap .i64 ((j : Int) + 1) = ((j + 1 : Nat) : Int) := by rw [wp (by omega), e1]
      have hset : ∀ (v : Int), ∃ tok', F33_1_it n k0 f i x y z r r.length (j + 1 : Nat) (tok + 1 + 1, xs.set i (xs.getD i [] ++ [v])) = k0 x y z (tok', xs.set i (xs.getD i [] ++ v :: ndl (r.drop (j + 1)))) := fun v => by
        obtain ⟨tok', ht⟩ := imP_it (k0 := k0) hr f (j + 1) (tok + 1 + 1) (xs.set i (xs.getD i [] ++ [v])) (by simpa using hi) (by rw [getD_set' hi, if_pos rfl, List.length_append]; simp only [List.length_cons, List.length_nil]; omega) (by omega) (by omega)
        refine ⟨tok', ?_⟩
        rw [ht, getD_set' hi, if_pos rfl, List.set_set, List.append_assoc]; rfl
      rw [bp (by omega), bp (by omega), bp (by omega), ndl_drop h]
      simp only [e0, hj2]
      generalize r.getD j t0 = s at hset ⊢
      by_cases c1 : s.kind = 1
      · rw [eqp c1, if_pos (.inl c1)]
        rw [bp (by omega), bp hi2]
        simp only [decide_true, ct]
        rw [bp (by simp only [List.length_cons, List.length_nil]; omega), bp (by omega), bp hi2]
        exact hset s.num
      rw [eqn c1]
      by_cases c2 : s.kind = 2
      · rw [eqp c2, if_pos (.inr c2)]
        rw [bp (by omega), bp hi2]
        simp only [decide_true, ct]
        rw [bp (by simp only [List.length_cons, List.length_nil]; omega), bp (by omega), bp hi2]
        exact hset s.num
      rw [eqn c2, if_neg (by omega)]
      exact imP_it (k0 := k0) hr f (j + 1) tok xs hi (by omega) (by omega) (by omega)
    · rw [bn (by omega)]
      refine ⟨tok, ?_⟩
      rw [List.drop_of_length_le (by omega)]
      simp only [ndl, List.append_nil]
      rw [set_get]
theorem imM_it {R : Type} {n : Nat} (hn : 4000000 ≤ n) {a : List (List Stp)} {k0 : (Nat × (List (List Int))) → Option R} (ha : Sz a) : ∀ (fuel i tok : Nat) (xs : List (List Int)), xs.length = a.length → (∀ j, j < i → xs.getD j [] = ndl (a.getD j [])) → (∀ j, i ≤ j → xs.getD j [] = []) → i ≤ a.length → a.length + 1 ≤ fuel + i →
    ∃ tok', F33_2_it n k0 fuel a a.length i (tok, xs) = k0 (tok', a.map ndl)
  | fuel, i, tok, xs, hx, h1, h2, hi, hf => by
    obtain ⟨f, rfl⟩ : ∃ f, fuel = f + 1 := ⟨fuel - 1, by omega⟩
    simp only [F33_2_it, F33_2_step]
    have ha1 := ha.1
    by_cases h : i < a.length
    · have hl := (ha.2 i h).1
      rw [bp (by omega), bp (by omega), bp (by omega)]
      simp only [e0]
      unfold F33_1
      obtain ⟨tok', ht⟩ := imP_it (R := R) (n := n) (i := i) (x := a) (y := a.length) (z := i) (r := a.getD i []) (k0 := fun z58 z59 z60 z61 => F33_2_it n k0 f z58 z59 (IntKind.wrap .i64 (z60 + (1 : Int))) z61) hl n 0 tok xs (by omega) (by rw [h2 i (Nat.le_refl _)]; simp) (by omega) (by omega)
      rw [show ((0 : Nat) : Int) = 0 from rfl] at ht
      rw [ht, wp (by omega), e1]
      refine imM_it (k0 := k0) hn ha f (i + 1) tok' _ (by rw [List.length_set]; exact hx) (fun j hj => ?_) (fun j hj => ?_) (by omega) (by omega)
      · rw [getD_set' (by omega)]
        by_cases e : i = j
        · subst e; rw [if_pos rfl, h2 i (Nat.le_refl _)]; rfl
        · rw [if_neg e]; exact h1 j (by omega)
      · rw [getD_set' (by omega), if_neg (by omega)]; exact h2 j (by omega)
    · rw [bn (by omega)]
      refine ⟨tok, ?_⟩
      have hm : (a.map ndl).length = a.length := List.length_map _
      rw [list_ext (a := xs) (b := a.map ndl) [] (by simp [hx]) fun j hj => ?_]
      rw [h1 j (by omega), getD_lt (l := a.map ndl) (by omega), getD_lt (l := a) (by omega)]; simp
theorem imM {n : Nat} (hn : 4000000 ≤ n) {a : List (List Stp)} (ha : Sz a) : F33 n a = some (a.map ndl, ()) := by
  unfold F33 F33_2
  have ha1 := ha.1
  rw [bp (by omega), bp (by omega), bp (by omega)]
  simp only [e0]
  have hm : (a.map ndl).length = a.length := List.length_map _
  obtain ⟨tok, ht⟩ := imM_it (R := List (List Int) × Unit) hn (a := a) (k0 := fun z63 => some (z63.2, ())) ha n 0 0 (List.replicate a.length []) (by simp) (fun j hj => by omega) (fun j _ => by simp only [List.getD, List.getElem?_replicate]; split <;> rfl) (by omega) (by omega)
  exact ht
theorem VM.vg {a : List (List Stp)} (h : VM a) : Vg (a.map ndl) := fun j hj => by
  have hj' : j < a.length := by simpa using hj
  have e : (a.map ndl).getD j [] = ndl (a.getD j []) := by rw [getD_lt hj, getD_lt hj']; simp
  have hr := h.1 j hj'
  rw [e, List.length_map]
  refine ⟨Nat.le_trans (ndl_len _) hr.1, fun k hk => ?_⟩
  obtain ⟨s, h1, h2, h3⟩ := ndl_mem (memI_get.2 ⟨k, hk, rfl⟩)
  rw [← h3]
  obtain ⟨i, hi, e2⟩ := List.getElem_of_mem h1
  have hv := hr.2 i hi
  rw [getD_lt hi, e2] at hv
  have h4 := hv.2.1
  unfold hiS at h4
  rw [if_neg (by omega)] at h4
  exact ⟨h4.1, by omega⟩

-- the law ---------------------------------------------------------------------------------------------------------------------------------------
noncomputable def need (a : List (List Stp)) (x : Int) : List Int := bif B (VM a ∧ Rng a.length x) then ixl true (mkR (a.map ndl) [x]) 0 else []
theorem need_len {a : List (List Stp)} {x : Int} (ha : Sz a) : (need a x).length ≤ 1048576 := by
  have ha1 := ha.1
  unfold need
  cases B (VM a ∧ Rng a.length x)
  · simp
  · have := ixl_len true (mkR (a.map ndl) [x]) 0
    rw [mkR_len, List.length_map] at this
    simp only [ct]; omega
theorem vr1 {m : Nat} {x : Int} (h : Rng m x) : Vr m [x] := fun j hj => by
  have : j = 0 := by simpa using hj
  subst this; exact h
theorem neI {n : Nat} (hn : 4000000 ≤ n) {a : List (List Stp)} {x : Int} (ha : Sz a) : F10 n a x = some (need a x, ()) := by
  unfold F10 need
  have ha1 := ha.1
  rw [vmI hn ha]
  simp only [ats]
  by_cases h : VM a
  case neg => rw [B_f h, B_f fun q => h q.1]; rfl
  rw [B_t h]
  simp only [Bool.not_true, cf]
  by_cases h1 : x < 0
  · rw [bp h1, B_f fun q => by have := q.2.1; omega]; rfl
  rw [bn h1]
  by_cases h2 : x ≥ (a.length : Int)
  · rw [bp h2, B_f fun q => by have := q.2.2; omega]; rfl
  rw [bn h2]
  have hx : Rng a.length x := ⟨by omega, by omega⟩
  rw [B_t ⟨h, hx⟩]
  simp only [ct]
  have hl := h.2.2
  rw [imM hn ha]
  simp only [ats]
  rw [rchI hn h.vg (by rw [List.length_map]; omega) (by rw [List.length_map]; exact vr1 hx) (by simp)]
  simp only [ats]
  rw [ixI hn (by rw [mkR_len, List.length_map]; omega)]
  rfl
end Go.Proofs.Ytjfmfpnnjgfffaa.Am
