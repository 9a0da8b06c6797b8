/- Finalizers, plainly: what is reached; both walks find the same. -/
import Derived.Test.YtfelakjmajooaaaAmFinB
namespace Go.Proofs.Ytfelakjmajooaaa.Am
open Go
set_option autoImplicit false
set_option linter.unusedVariables false
set_option linter.unusedSimpArgs false
set_option maxRecDepth 10000

inductive Rch (g : List (List Int)) (r : List Int) : Int → Prop
  | root {x : Int} (h : x ∈ r) : Rch g r x
  | step {x y : Int} (h : Rch g r x) (hy : y ∈ g.getD x.toNat []) : Rch g r y
noncomputable def mkR (g : List (List Int)) (r : List Int) : List Bool := (List.range g.length).map fun (j : Nat) => B (Rch g r (j : Int))
theorem mkR_len (g : List (List Int)) (r : List Int) : (mkR g r).length = g.length := by simp [mkR]
theorem mkR_get {g : List (List Int)} {r : List Int} {j : Nat} (h : j < g.length) : (mkR g r).getD j false = B (Rch g r j) := by
  rw [getD_lt (by rw [mkR_len]; exact h)]; simp [mkR]
-- how many are not marked
def un : List Bool → Nat
  | [] => 0
  | true :: l => un l
  | false :: l => un l + 1
theorem un_set : ∀ {l : List Bool} {i : Nat}, i < l.length → l.getD i false = false → un (l.set i true) + 1 = un l
  | [], i, h, _ => by simp at h
  | true :: l, 0, h, g => by simp [List.getD] at g
  | false :: l, 0, h, g => rfl
  | true :: l, i + 1, h, g => by
    have := un_set (l := l) (i := i) (by simpa using h) (by simpa [List.getD] using g)
    simpa [un] using this
  | false :: l, i + 1, h, g => by
    have := un_set (l := l) (i := i) (by simpa using h) (by simpa [List.getD] using g)
    simp only [List.set_cons_succ, un]; omega
theorem un_rep : ∀ (m : Nat), un (List.replicate m false) = m
  | 0 => rfl
  | m + 1 => by simp [List.replicate_succ, un, un_rep m]
theorem mem_get {l : List Int} {x : Int} : x ∈ l ↔ ∃ j, j < l.length ∧ l.getD j 0 = x := by
  constructor
  · intro hm
    obtain ⟨j, hj, e⟩ := List.getElem_of_mem hm
    exact ⟨j, hj, by rw [getD_lt hj]; exact e⟩
  · rintro ⟨j, h2, h3⟩
    rw [getD_lt h2] at h3; rw [← h3]; exact List.getElem_mem _
theorem Vr.mem {m : Nat} {r : List Int} (h : Vr m r) {x : Int} (hx : x ∈ r) : Rng m x := by
  obtain ⟨j, h1, h2⟩ := mem_get.1 hx
  rw [← h2]; exact h j h1
theorem Rch.rng {g : List (List Int)} {r : List Int} (hg : Vg g) (hr : Vr g.length r) {x : Int} (h : Rch g r x) : Rng g.length x := by
  induction h with
  | root h => exact hr.mem h
  | step h hy ih => exact ((hg _ (by have := ih.1; have := ih.2; omega)).2).mem hy
-- what is marked at the end
theorem mk_of {g : List (List Int)} {r : List Int} {s : List Bool} (hg : Vg g) (hr : Vr g.length r) (hs : s.length = g.length) (h1 : ∀ j, j < g.length → s.getD j false = true → Rch g r j)
    (h2 : ∀ x, x ∈ r → s.getD x.toNat false = true) (h3 : ∀ j : Nat, j < g.length → s.getD j false = true → ∀ y, y ∈ g.getD j [] → s.getD y.toNat false = true) : s = mkR g r := by
  have h4 : ∀ x, Rch g r x → s.getD x.toNat false = true := fun x hx => by
    induction hx with
    | root h => exact h2 _ h
    | step h hy ih => exact h3 _ (by have q := (h.rng hg hr); have := q.1; have := q.2; omega) ih _ hy
  apply list_ext false (by rw [mkR_len, hs])
  intro j hj
  rw [mkR_get (by omega)]
  by_cases h : Rch g r j
  · rw [B_t h]; have := h4 _ h; rwa [e0] at this
  · rw [B_f h]
    cases hb : s.getD j false with
    | false => rfl
    | true => exact absurd (h1 j (by omega) hb) h

-- the program's walk ------------------------------------------------------------------------------------------------------------------------------
structure Dfs (g : List (List Int)) (r : List Int) (s : List Bool) (st : List Int) : Prop where
  len : s.length = g.length
  rch : ∀ j, j < g.length → s.getD j false = true → Rch g r j
  stk : ∀ x, x ∈ st → Rch g r x
  rts : ∀ x, x ∈ r → s.getD x.toNat false = true ∨ x ∈ st
  cls : ∀ j : Nat, j < g.length → s.getD j false = true → ∀ y, y ∈ g.getD j [] → s.getD y.toNat false = true ∨ y ∈ st
theorem take_last {st : List Int} {m : Nat} (h : st.length = m + 1) : st = st.take m ++ [st.getD m 0] := by
  rw [getD_lt (by omega)]
  have := List.take_append_getElem (l := st) (i := m) (by omega)
  rw [this, List.take_of_length_le (by omega)]
theorem dfs_it {R : Type} {n : Nat} {g : List (List Int)} {r : List Int} {k0 : List Bool → Option R} (hg : Vg g) (hr : Vr g.length r) : ∀ (fuel : Nat) (s : List Bool) (st : List Int), Dfs g r s st → st.length + 6 * un s + 1 ≤ fuel → st.length + 6 * un s ≤ 100000 →
    F37_0_it n k0 fuel g s st = k0 (mkR g r)
  | fuel, s, st, hd, hf, hb => by
    obtain ⟨f, rfl⟩ : ∃ f, fuel = f + 1 := ⟨fuel - 1, by omega⟩
    simp only [F37_0_it, F37_0_step]
    cases hm : st.length with
    | zero =>
      have e : st = [] := List.eq_nil_of_length_eq_zero hm
      subst e
      rw [bn (by simp)]
      rw [mk_of hg hr hd.len hd.rch (fun x hx => (hd.rts x hx).resolve_right (by simp)) fun j hj h y hy => (hd.cls j hj h y hy).resolve_right (by simp)]
    | succ m =>
      have hst := take_last hm
      have hx : st.getD m 0 ∈ st := mem_get.2 ⟨m, by omega, rfl⟩
      have hxr := (hd.stk _ hx).rng hg hr
      have hx1 := hxr.1
      have hx2 := hxr.2
      have hlen := hd.len
      rw [bp (by omega), wp (by omega), show ((m + 1 : Nat) : Int) - 1 = (m : Int) by omega]
      simp only [e0]
      rw [bp (by omega), bp (by omega), bp (by omega)]
      have hmem : ∀ y, y ∈ st → y = st.getD m 0 ∨ y ∈ st.take m := fun y hy => by
        rw [hst] at hy
        rcases List.mem_append.1 hy with h | h
        · exact .inr h
        · exact .inl (by simpa using h)
      generalize hxe : st.getD m 0 = x at hx hx1 hx2 hmem
      have htl : (st.take m).length = m := by simp; omega
      cases hs : s.getD x.toNat false with
      | true =>
        have key := dfs_it (n := n) (k0 := k0) hg hr f s (st.take m) ⟨hd.len, hd.rch, fun y hy => hd.stk y (List.mem_of_mem_take hy), fun y hy => (hd.rts y hy).elim .inl fun h => (hmem y h).elim (fun e => .inl (by rw [e]; exact hs)) .inr, fun j hj h y hy => (hd.cls j hj h y hy).elim .inl fun h => (hmem y h).elim (fun e => .inl (by rw [e]; exact hs)) .inr⟩ (by omega) (by omega)
        simp only [Bool.not_true, cf]
        simp (disch := omega) only [bp, e0]
        exact key
      | false =>
        have hi : x.toNat < s.length := by omega
        have hu := un_set hi hs
        have hw := (hg x.toNat (by omega)).1
        have hset : ∀ j, (s.set x.toNat true).getD j false = true → s.getD j false = true ∨ j = x.toNat := fun j h => by
          rw [getD_set' hi] at h
          by_cases e : x.toNat = j
          · exact .inr e.symm
          · rw [if_neg e] at h; exact .inl h
        have hup : ∀ j, s.getD j false = true → (s.set x.toNat true).getD j false = true := fun j h => by
          rw [getD_set' hi]
          by_cases e : x.toNat = j
          · rw [if_pos e]
          · rw [if_neg e]; exact h
        have hself : (s.set x.toNat true).getD x.toNat false = true := by rw [getD_set' hi, if_pos rfl]
        have hxx : Rch g r x := hd.stk x hx
        have hge : ∀ y, (s.getD y.toNat false = true ∨ y ∈ st) → ((s.set x.toNat true).getD y.toNat false = true ∨ y ∈ st.take m ++ g.getD x.toNat []) := fun y h => by
          rcases h with h | h
          · exact .inl (hup _ h)
          · rcases hmem y h with e | h
            · subst e; exact .inl hself
            · exact .inr (List.mem_append_left _ h)
        have key := dfs_it (n := n) (k0 := k0) hg hr f (s.set x.toNat true) (st.take m ++ g.getD x.toNat []) ⟨by rw [List.length_set]; exact hd.len, fun j hj h => by
          rcases hset j h with h | h
          · exact hd.rch j hj h
          · rw [h, show ((x.toNat : Nat) : Int) = x by omega]; exact hxx, fun y hy => by
          rcases List.mem_append.1 hy with h | h
          · exact hd.stk y (List.mem_of_mem_take h)
          · exact .step hxx h, fun y hy => hge y (hd.rts y hy), fun j hj h y hy => by
          rcases hset j h with h | h
          · exact hge y (hd.cls j hj h y hy)
          · subst h; exact .inr (List.mem_append_right _ hy)⟩ (by rw [List.length_append, htl]; omega) (by rw [List.length_append, htl]; omega)
        simp only [Bool.not_false, ct]
        simp (disch := omega) only [bp, e0]
        exact key
theorem rchI {n : Nat} {g : List (List Int)} {r : List Int} (hn : 4000000 ≤ n) (hg : Vg g) (hl : g.length ≤ 12) (hr : Vr g.length r) (hrl : r.length ≤ 12) : F37 n g r = some ((), (mkR g r, ())) := by
  unfold F37 F37_0
  rw [bp (by omega), bp (by omega), bp (by omega), clS (by omega)]
  simp only [ats]
  rw [e0]
  have hrep : ∀ j, (List.replicate g.length false).getD j false = true → False := fun j h => by
    simp only [List.getD, List.getElem?_replicate] at h
    split at h <;> simp at h
  have := un_rep g.length
  exact dfs_it (R := Unit × (List Bool × Unit)) (n := n) (k0 := fun z => some ((), (z, ()))) hg hr n _ r ⟨by simp, fun j _ h => (hrep j h).elim, fun x hx => .root hx, fun x hx => .inr hx, fun j _ h => (hrep j h).elim⟩ (by omega) (by omega)

-- the book's walk -----------------------------------------------------------------------------------------------------------------------------------
structure Bfs (g : List (List Int)) (r : List Int) (s : List Bool) (q : List Int) (i : Nat) : Prop where
  len : s.length = g.length
  rch : ∀ j, j < g.length → s.getD j false = true → Rch g r j
  que : ∀ x, x ∈ q → Rch g r x
  rts : ∀ x, x ∈ r → x ∈ q
  cls : ∀ j : Nat, j < g.length → s.getD j false = true → ∀ y, y ∈ g.getD j [] → y ∈ q
  don : ∀ k, k < i → s.getD (q.getD k 0).toNat false = true
theorem getD_app {α : Type} {l m : List α} {i : Nat} {d : α} (h : i < l.length) : (l ++ m).getD i d = l.getD i d := by
  simp [List.getD, List.getElem?_append_left h]
theorem bfs_it {R : Type} {n : Nat} {g : List (List Int)} {r : List Int} {k0 : List Bool → Option R} (hg : Vg g) (hr : Vr g.length r) : ∀ (fuel i : Nat) (s : List Bool) (q : List Int), Bfs g r s q i → i ≤ q.length → q.length + 6 * un s + 1 ≤ fuel + i → q.length + 5 * un s ≤ 100000 →
    F52_1_it n k0 fuel g i s q = k0 (mkR g r)
  | fuel, i, s, q, hd, hi, hf, hb => by
    obtain ⟨f, rfl⟩ : ∃ f, fuel = f + 1 := ⟨fuel - 1, by omega⟩
    simp only [F52_1_it, F52_1_step, F52_0]
    by_cases h : i < q.length
    · have hx : q.getD i 0 ∈ q := mem_get.2 ⟨i, h, rfl⟩
      have hxr := (hd.que _ hx).rng hg hr
      have hx1 := hxr.1
      have hx2 := hxr.2
      have hlen := hd.len
      rw [bp (by omega), bp (by omega), bp (by omega)]
      simp only [e0]
      generalize hxe : q.getD i 0 = x at hx hx1 hx2
      rw [bp (by omega), bp (by omega)]
      cases hs : s.getD x.toNat false with
      | true =>
        have key := bfs_it (n := n) (k0 := k0) hg hr f (i + 1) s q ⟨hd.len, hd.rch, hd.que, hd.rts, hd.cls, fun k hk => by
          by_cases e : k = i
          · subst e; rw [hxe]; exact hs
          · exact hd.don k (by omega)⟩ (by omega) (by omega) (by omega)
        simp only [ct]
        rw [wp (by omega), e1]
        exact key
      | false =>
        have hi' : x.toNat < s.length := by omega
        have hu := un_set hi' hs
        have hw := (hg x.toNat (by omega)).1
        have hset : ∀ j, (s.set x.toNat true).getD j false = true → s.getD j false = true ∨ j = x.toNat := fun j h => by
          rw [getD_set' hi'] at h
          by_cases e : x.toNat = j
          · exact .inr e.symm
          · rw [if_neg e] at h; exact .inl h
        have hup : ∀ j, s.getD j false = true → (s.set x.toNat true).getD j false = true := fun j h => by
          rw [getD_set' hi']
          by_cases e : x.toNat = j
          · rw [if_pos e]
          · rw [if_neg e]; exact h
        have hself : (s.set x.toNat true).getD x.toNat false = true := by rw [getD_set' hi', if_pos rfl]
        have hxx : Rch g r x := hd.que x hx
        have key := bfs_it (n := n) (k0 := k0) hg hr f (i + 1) (s.set x.toNat true) (q ++ g.getD x.toNat []) ⟨by rw [List.length_set]; exact hd.len, fun j hj h => by
          rcases hset j h with h | h
          · exact hd.rch j hj h
          · rw [h, show ((x.toNat : Nat) : Int) = x by omega]; exact hxx, fun y hy => by
          rcases List.mem_append.1 hy with h | h
          · exact hd.que y h
          · exact .step hxx h, fun y hy => List.mem_append_left _ (hd.rts y hy), fun j hj h y hy => by
          rcases hset j h with h | h
          · exact List.mem_append_left _ (hd.cls j hj h y hy)
          · subst h; exact List.mem_append_right _ hy, fun k hk => by
          by_cases e : k = i
          · subst e; rw [getD_app h, hxe]; exact hself
          · rw [getD_app (by omega)]; exact hup _ (hd.don k (by omega))⟩ (by rw [List.length_append]; omega) (by rw [List.length_append]; omega) (by rw [List.length_append]; omega)
        simp only [cf]
        simp (disch := omega) only [bp, e0, wp, e1]
        exact key
    · rw [bn (by omega)]
      have hq : ∀ y, y ∈ q → s.getD y.toNat false = true := fun y hy => by
        obtain ⟨k, k1, k2⟩ := mem_get.1 hy
        rw [← k2]; exact hd.don k (by omega)
      rw [mk_of hg hr hd.len hd.rch (fun x hx => hq x (hd.rts x hx)) fun j hj h y hy => hq y (hd.cls j hj h y hy)]
theorem rchS {n : Nat} {g : List (List Int)} {r : List Int} (hn : 4000000 ≤ n) (hg : Vg g) (hl : g.length ≤ 12) (hr : Vr g.length r) (hrl : r.length ≤ 12) : F52 n g r = some (mkR g r, ()) := by
  unfold F52 F52_1
  simp only [List.nil_append]
  rw [bp (by omega), bp (by omega), bp (by omega), bp (by simp; omega)]
  rw [e0]
  have hrep : ∀ j, (List.replicate g.length false).getD j false = true → False := fun j h => by
    simp only [List.getD, List.getElem?_replicate] at h
    split at h <;> simp at h
  have := un_rep g.length
  exact bfs_it (R := List Bool × Unit) (n := n) (k0 := fun z => some (z, ())) hg hr n 0 _ r ⟨by simp, fun j _ h => (hrep j h).elim, fun x hx => .root hx, fun x hx => hx, fun j _ h => (hrep j h).elim, fun k hk => by omega⟩ (by omega) (by omega) (by omega)
end Go.Proofs.Ytfelakjmajooaaa.Am
