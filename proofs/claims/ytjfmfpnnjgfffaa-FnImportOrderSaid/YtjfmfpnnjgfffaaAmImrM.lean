/- Importers, plainly: what holds of whole modules. -/
import Derived.Test.YtjfmfpnnjgfffaaAmImrL
namespace Go.Proofs.Ytjfmfpnnjgfffaa.Am
open Go
set_option autoImplicit false
set_option linter.unusedVariables false
set_option linter.unusedSimpArgs false
set_option maxRecDepth 10000

def Cyc (a : List (List Stp)) (i : Int) : Prop := Rch (a.map ndl) (ndl (a.getD i.toNat [])) i
structure Jv (a : List (List Stp)) (s : Ab) : Prop where
  j1 : ∀ i ∈ s.wh, Rng a.length i ∧ s.st.getD i.toNat 0 = 2 ∧ i ∈ s.bg
  j2 : s.wh.Nodup
  j3 : ∀ j, j < a.length → s.st.getD j 0 = 2 → ((j : Nat) : Int) ∈ s.wh
  j4 : ∀ p i q, s.wh = p ++ i :: q → Cyc a i ∨ ∀ x ∈ a.getD i.toNat [], x.kind = 1 → x.num ∈ p
  j5 : ∀ j, s.st.getD j 0 = 0 ∨ s.st.getD j 0 = 1 ∨ s.st.getD j 0 = 2
def Stk (a : List (List Stp)) (s : Ab) (k : Int) : Prop := ∀ j : Nat, s.st.getD j 0 = 1 → Rch (a.map ndl) [(j : Int)] k
theorem mem_ndl : ∀ {l : List Stp} {x : Stp}, x ∈ l → (x.kind = 1 ∨ x.kind = 2) → x.num ∈ ndl l
  | [], x, h, _ => by cases h
  | y :: l, x, h, hk => by
    simp only [ndl]
    rcases List.mem_cons.1 h with rfl | h
    · rw [if_pos hk]; exact List.mem_cons_self
    · have := mem_ndl h hk
      split
      · exact List.mem_cons_of_mem _ this
      · exact this
theorem map_ndl {a : List (List Stp)} {k : Nat} (h : k < a.length) : (a.map ndl).getD k [] = ndl (a.getD k []) := by
  rw [getD_lt (by simpa using h), getD_lt h, List.getElem_map]
theorem Rch.mono {g : List (List Int)} {r r' : List Int} {x : Int} (h : Rch g r x) (hr : ∀ y ∈ r, y ∈ r') : Rch g r' x := by
  induction h with
  | root h => exact .root (hr _ h)
  | step _ hy ih => exact .step ih hy
theorem Stk.go {a : List (List Stp)} {s s' : Ab} {k : Int} {c : Nat} (h : Stk a s k) (g : Gs c s s') : Stk a s' k := fun j hj => by
  by_cases e : s.st.getD j 0 = 0
  · rcases g.fin j e with q | q <;> omega
  · rw [g.keep j e] at hj; exact h j hj
theorem Stk.next {a : List (List Stp)} {s : Ab} {k : Int} {x : Stp} (h : Stk a s k) (hk : k.toNat < a.length) (hx : x ∈ a.getD k.toNat []) (hx2 : x.kind = 1 ∨ x.kind = 2) : Stk a s x.num := fun j hj =>
  .step (h j hj) (by rw [map_ndl hk]; exact mem_ndl hx hx2)
theorem Jv.same {a : List (List Stp)} {s s' : Ab} (h : Jv a s) (h1 : s'.st = s.st) (h2 : s'.wh = s.wh) (h3 : s'.bg = s.bg) : Jv a s' :=
  ⟨fun i hi => by rw [h2] at hi; rw [h1, h3]; exact h.j1 i hi, by rw [h2]; exact h.j2, fun j hj e => by rw [h1] at e; rw [h2]; exact h.j3 j hj e, fun p i q e => h.j4 p i q (by rw [← h2, e]), fun j => by rw [h1]; exact h.j5 j⟩
def JH (a : List (List Stp)) (u : Nat) (L : Int → Ab → Bool × Ab) : Prop := ∀ k s, Wf a.length s → uz s.st ≤ u → Rng a.length k → Jv a s → Stk a s k → Jv a (L k s).2

theorem stp_jv {a : List (List Stp)} {u c : Nat} {L : Int → Ab → Bool × Ab} {k : Int} {x : Stp} {s : Ab} (hL : LdH a.length u c L) (hJ : JH a u L) (hx : VS a.length x) (hxa : x ∈ a.getD k.toNat []) (w : Wf a.length s) (hu : uz s.st ≤ u) (hk : k.toNat < a.length) (h1 : s.st.getD k.toNat 0 = 1)
    (jv : Jv a s) (sk : Stk a s k) : Jv a (stp L k.toNat x s).2 ∧ (x.kind = 1 → (stp L k.toNat x s).1 = true → (stp L k.toNat x s).2.st.getD x.num.toNat 0 ≠ 0) := by
  unfold stp
  by_cases e1 : x.kind = 1
  · rw [if_pos e1]
    have hr := hx.num (by omega) (by omega)
    exact ⟨hJ x.num s w hu hr jv (sk.next hk hxa (.inl e1)), fun _ h => (hL x.num s w hu hr).ok h⟩
  rw [if_neg e1]
  refine ⟨?_, fun h => absurd h e1⟩
  by_cases e2 : x.kind = 2
  · rw [if_pos e2]
    exact hJ x.num s w hu (hx.num (by omega) (by omega)) jv (sk.next hk hxa (.inr e2))
  rw [if_neg e2]
  by_cases e3 : x.kind = 3
  · rw [if_pos e3]; exact jv.same rfl rfl rfl
  rw [if_neg e3]
  by_cases e4 : x.kind = 4
  · rw [if_pos e4]
    cases mget x.name (s.en.getD x.num.toNat []) with
    | none => exact jv
    | some v => exact jv.same rfl rfl rfl
  rw [if_neg e4]; exact jv
theorem sts_jv {a : List (List Stp)} {u c : Nat} {L : Int → Ab → Bool × Ab} {k : Int} (hL : LdH a.length u c L) (hJ : JH a u L) (hk : k.toNat < a.length) : ∀ {l : List Stp} {s : Ab}, (∀ x ∈ l, VS a.length x ∧ x ∈ a.getD k.toNat []) → Wf a.length s → uz s.st ≤ u → s.st.getD k.toNat 0 = 1 → Jv a s → Stk a s k →
    Jv a (sts L k.toNat l s).2 ∧ ((sts L k.toNat l s).1 = true → ∀ x ∈ l, x.kind = 1 → (sts L k.toNat l s).2.st.getD x.num.toNat 0 ≠ 0)
  | [], s, _, w, _, _, jv, _ => ⟨jv, fun _ x hx => by cases hx⟩
  | x :: l, s, hl, w, hu, h1, jv, sk => by
    obtain ⟨v1, v2⟩ := hl x List.mem_cons_self
    obtain ⟨w1, g1⟩ := stp_ok hL v1 w hu hk h1
    obtain ⟨jv1, n1⟩ := stp_jv hL hJ v1 v2 w hu hk h1 jv sk
    simp only [sts]
    by_cases hb : (stp L k.toNat x s).1 = true
    · rw [if_pos hb]
      have hu1 := g1.uz w w1
      have hl' : ∀ y ∈ l, VS a.length y ∧ y ∈ a.getD k.toNat [] := fun y hy => hl y (List.mem_cons_of_mem _ hy)
      have h1' : (stp L k.toNat x s).2.st.getD k.toNat 0 = 1 := by rw [g1.keep _ (by omega), h1]
      obtain ⟨jv2, n2⟩ := sts_jv hL hJ hk hl' w1 (by omega) h1' jv1 (sk.go g1)
      obtain ⟨w2, g2⟩ := sts_ok hL hk (fun y hy => (hl' y hy).1) w1 (by omega) h1'
      refine ⟨jv2, fun hq y hy hy1 => ?_⟩
      rcases List.mem_cons.1 hy with rfl | hy
      · rw [g2.keep _ (n1 hy1 hb)]; exact n1 hy1 hb
      · exact n2 hq y hy hy1
    · rw [if_neg hb]
      exact ⟨jv1, fun h => by cases h⟩
theorem app_cons {p wh q : List Int} {i k : Int} (h : wh ++ [k] = p ++ i :: q) : (q = [] ∧ i = k ∧ p = wh) ∨ ∃ q', wh = p ++ i :: q' := by
  rcases List.eq_nil_or_concat q with e | ⟨q', y, e⟩
  · subst e
    obtain ⟨h1, h2⟩ := List.append_inj' h rfl
    cases h2
    exact .inl ⟨rfl, rfl, h1.symm⟩
  · refine .inr ⟨q', ?_⟩
    rw [e, List.concat_eq_append, show p ++ i :: (q' ++ [y]) = (p ++ i :: q') ++ [y] by simp] at h
    exact (List.append_inj' h rfl).1
theorem ld_jv {a : List (List Stp)} (hv : VM a) : ∀ (d u : Nat), u < d → JH a u (ld a d)
  | 0, u, h => by omega
  | d + 1, u, hd => fun k s w hu hk jv sk => by
    have hkm : k.toNat < a.length := by have := hk.1; have := hk.2; omega
    have hkk : ((k.toNat : Nat) : Int) = k := by have := hk.1; omega
    simp only [ld]
    by_cases h0 : s.st.getD k.toNat 0 = 0
    case neg => rw [if_pos h0]; exact jv
    rw [if_neg (fun h => h h0)]
    obtain ⟨w1, u1, b1⟩ := beg_ok w hk h0
    obtain ⟨u', rfl⟩ : ∃ u', u = u' + 1 := ⟨u - 1, by omega⟩
    obtain ⟨r1, r2⟩ := row_of hv hkm
    have hL := ld_ok hv d u' (by omega)
    have hJ := ld_jv hv d u' (by omega)
    have hst : ∀ j, (beg k s).st.getD j 0 = if k.toNat = j then 1 else s.st.getD j 0 := fun j => by
      show (s.st.set k.toNat 1).getD j 0 = _
      rw [getD_set' (by rw [w.st]; exact hkm)]
    have jb : Jv a (beg k s) := by
      refine ⟨fun i hi => ?_, jv.j2, fun j hj e => ?_, jv.j4, fun j => by rw [hst]; split; exact .inr (.inl rfl); exact jv.j5 j⟩
      · obtain ⟨q1, q2, q3⟩ := jv.j1 i hi
        refine ⟨q1, ?_, List.mem_append_left _ q3⟩
        rw [hst, if_neg (fun e => by rw [e] at h0; omega)]; exact q2
      · rw [hst] at e
        split at e
        · omega
        · exact jv.j3 j hj e
    have sb : Stk a (beg k s) k := fun j hj => by
      rw [hst] at hj
      by_cases e : k.toNat = j
      · exact .root (by rw [← e, hkk]; exact List.mem_cons_self)
      · rw [if_neg e] at hj; exact sk j hj
    obtain ⟨w2, g2⟩ := sts_ok hL hkm r2 w1 (by omega) b1
    obtain ⟨jv2, n2⟩ := sts_jv hL hJ hkm (l := a.getD k.toNat []) (fun x hx => ⟨r2 x hx, hx⟩) w1 (by omega) b1 jb sb
    have sk2 := sb.go g2
    have hbg : k ∈ (sts (ld a d) k.toNat (a.getD k.toNat []) (beg k s)).2.bg := by
      obtain ⟨l, e, -⟩ := g2.bg
      rw [e]
      exact List.mem_append_left _ (List.mem_append_right _ List.mem_cons_self)
    have b2 : (sts (ld a d) k.toNat (a.getD k.toNat []) (beg k s)).2.st.getD k.toNat 0 = 1 := by rw [g2.keep _ (by omega), b1]
    generalize sts (ld a d) k.toNat (a.getD k.toNat []) (beg k s) = r at w2 jv2 n2 sk2 hbg b2 ⊢
    unfold fin
    by_cases hb : r.1 = true
    · rw [if_pos hb]
      have hs3 : ∀ j, (r.2.st.set k.toNat 2).getD j 0 = if k.toNat = j then 2 else r.2.st.getD j 0 := fun j => getD_set' (by rw [w2.st]; exact hkm)
      have hkw : k ∉ r.2.wh := fun h => by have := (jv2.j1 k h).2.1; omega
      refine ⟨fun i hi => ?_, ?_, fun j hj e => ?_, fun p i q e => ?_, fun j => by
        show (r.2.st.set k.toNat 2).getD j 0 = 0 ∨ (r.2.st.set k.toNat 2).getD j 0 = 1 ∨ (r.2.st.set k.toNat 2).getD j 0 = 2
        rw [hs3]; split
        · exact .inr (.inr rfl)
        · exact jv2.j5 j⟩
      · show Rng a.length i ∧ (r.2.st.set k.toNat 2).getD i.toNat 0 = 2 ∧ i ∈ r.2.bg
        rw [hs3]
        rcases List.mem_append.1 hi with hi | hi
        · obtain ⟨q1, q2, q3⟩ := jv2.j1 i hi
          refine ⟨q1, ?_, q3⟩
          split
          · rfl
          · exact q2
        · obtain rfl : i = k := by simpa using hi
          exact ⟨hk, by rw [if_pos rfl], hbg⟩
      · show (r.2.wh ++ [k]).Nodup
        rw [List.nodup_append]
        exact ⟨jv2.j2, by simp, fun x hx y hy => by
          obtain rfl : y = k := by simpa using hy
          exact fun e => hkw (e ▸ hx)⟩
      · have e : (r.2.st.set k.toNat 2).getD j 0 = 2 := e
        rw [hs3] at e
        show (j : Int) ∈ r.2.wh ++ [k]
        by_cases ej : k.toNat = j
        · rw [← ej, hkk]; exact List.mem_append_right _ List.mem_cons_self
        · rw [if_neg ej] at e; exact List.mem_append_left _ (jv2.j3 j hj e)
      · have e : r.2.wh ++ [k] = p ++ i :: q := e
        rcases app_cons e with ⟨-, rfl, rfl⟩ | ⟨q', e⟩
        · by_cases hc : Cyc a i
          · exact .inl hc
          · refine .inr fun x hx hx1 => ?_
            have hne := n2 hb x hx hx1
            have hxr := (r2 x hx).num (by omega) (by omega)
            have hxl : x.num.toNat < a.length := by have := hxr.1; have := hxr.2; omega
            have hxx : ((x.num.toNat : Nat) : Int) = x.num := by have := hxr.1; omega
            by_cases e2 : r.2.st.getD x.num.toNat 0 = 2
            · have := jv2.j3 _ hxl e2
              rwa [hxx] at this
            · by_cases e1 : r.2.st.getD x.num.toNat 0 = 1
              · refine absurd ?_ hc
                have := sk2 _ e1
                rw [hxx] at this
                exact this.mono fun y hy => by
                  obtain rfl : y = x.num := by simpa using hy
                  exact mem_ndl hx (.inl hx1)
              · exfalso
                rcases jv2.j5 x.num.toNat with e3 | e3 | e3
                · exact hne e3
                · exact e1 e3
                · exact e2 e3
        · exact jv2.j4 p i q' e
    · rw [if_neg hb]
      have hs3 : ∀ j, (r.2.st.set k.toNat 0).getD j 0 = if k.toNat = j then 0 else r.2.st.getD j 0 := fun j => getD_set' (by rw [w2.st]; exact hkm)
      refine ⟨fun i hi => ?_, jv2.j2, fun j hj e => ?_, jv2.j4, fun j => by
        show (r.2.st.set k.toNat 0).getD j 0 = 0 ∨ (r.2.st.set k.toNat 0).getD j 0 = 1 ∨ (r.2.st.set k.toNat 0).getD j 0 = 2
        rw [hs3]; split
        · exact .inl rfl
        · exact jv2.j5 j⟩
      · obtain ⟨q1, q2, q3⟩ := jv2.j1 i hi
        refine ⟨q1, ?_, q3⟩
        show (r.2.st.set k.toNat 0).getD i.toNat 0 = 2
        rw [hs3, if_neg (fun e => by rw [e] at b2; omega)]; exact q2
      · have e : (r.2.st.set k.toNat 0).getD j 0 = 2 := e
        rw [hs3] at e
        split at e
        · omega
        · exact jv2.j3 j hj e
/-- at the end of a list of imports -/
theorem s0_jv {a : List (List Stp)} : Jv a (s0 a.length) where
  j1 := fun i hi => by cases hi
  j2 := List.nodup_nil
  j3 := fun j hj e => by
    have e : (List.replicate a.length (0 : Int)).getD j 0 = 2 := e
    rw [rep_get] at e; omega
  j4 := fun p i q e => by
    have e : ([] : List Int) = p ++ i :: q := e
    cases p <;> cases e
  j5 := fun j => .inl rep_get
theorem imp_jv {a : List (List Stp)} (hv : VM a) : ∀ {l : List Int} {s : Ab × List Int}, (∀ k ∈ l, Rng a.length k) → Wf a.length s.1 → Jv a s.1 → (∀ j, s.1.st.getD j 0 ≠ 1) → Jv a (imp a l s).1 ∧ ∀ j, (imp a l s).1.st.getD j 0 ≠ 1
  | [], s, _, _, jv, h => ⟨jv, h⟩
  | k :: l, s, hr, w, jv, h => by
    have hk := hr k List.mem_cons_self
    have ok := ld7 hv k s.1 w (uz6 hv w) hk
    simp only [imp]
    refine imp_jv hv (l := l) (s := ((ld a 7 k s.1).2, if (ld a 7 k s.1).1 = true then s.2 else s.2 ++ [k])) (fun j hj => hr j (List.mem_cons_of_mem _ hj)) ok.wf (ld_jv hv 7 6 (by omega) k s.1 w (uz6 hv w) hk jv fun j hj => absurd hj (h j)) fun j hj => ?_
    by_cases e : s.1.st.getD j 0 = 0
    · have hj : (ld a 7 k s.1).2.st.getD j 0 = 1 := hj
      rcases ok.gs.fin j e with q | q <;> omega
    · have hj : (ld a 7 k s.1).2.st.getD j 0 = 1 := hj
      rw [ok.gs.keep j e] at hj; exact h j hj
end Go.Proofs.Ytjfmfpnnjgfffaa.Am
