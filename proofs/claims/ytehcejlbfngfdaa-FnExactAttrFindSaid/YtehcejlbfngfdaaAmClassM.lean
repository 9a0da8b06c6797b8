/- Classes: the laws of reading and setting. -/
import Derived.Test.YtehcejlbfngfdaaAmClassL
namespace Go.Proofs.Ytehcejlbfngfdaa.Am
open Go
set_option autoImplicit false
set_option linter.unusedVariables false
set_option linter.unusedSimpArgs false

theorem upd_some {s : ByteArray} {v : Int} : ∀ {l r : List Atr}, upd s v l = some r → ∃ j, j < l.length ∧ (∀ q, q < j → (l.getD q dA).name ≠ s) ∧ (l.getD j dA).name = s ∧ r = l.set j (Atr.mk (l.getD j dA).name (l.getD j dA).kind v)
  | a :: t, r, h => by
    by_cases g : a.name = s
    · rw [upd_hit g] at h; cases h
      exact ⟨0, by simp, fun q hq => by omega, g, rfl⟩
    · rw [upd_miss g] at h
      cases hu : upd s v t with
      | none => rw [hu] at h; cases h
      | some r' =>
        rw [hu] at h; cases h
        obtain ⟨j, j1, j2, j3, j4⟩ := upd_some hu
        refine ⟨j + 1, by simpa using j1, fun q hq => ?_, j3, by rw [j4]; rfl⟩
        cases q with
        | zero => exact g
        | succ q => exact j2 q (by omega)
theorem upd_fa {s : ByteArray} {v : Int} : ∀ {l r : List Atr}, upd s v l = some r → (∃ b, fa s r = some b ∧ b.val = v) ∧ (∀ s', s' ≠ s → fa s' r = fa s' l) ∧ r.length = l.length
  | a :: t, r, h => by
    by_cases g : a.name = s
    · rw [upd_hit g] at h; cases h
      refine ⟨⟨_, fa_hit g, rfl⟩, fun s' hs => ?_, by simp⟩
      rw [fa_miss (a := Atr.mk a.name a.kind v) (show ¬ a.name = s' from fun e => hs (by rw [← e, g])), fa_miss (a := a) (show ¬ a.name = s' from fun e => hs (by rw [← e, g]))]
    · rw [upd_miss g] at h
      cases hu : upd s v t with
      | none => rw [hu] at h; cases h
      | some r' =>
        rw [hu] at h; cases h
        obtain ⟨⟨b, b1, b2⟩, h2, h3⟩ := upd_fa hu
        refine ⟨⟨b, by rw [fa_miss g]; exact b1, b2⟩, fun s' hs => ?_, by simp [h3]⟩
        by_cases e : a.name = s'
        · rw [fa_hit e, fa_hit e]
        · rw [fa_miss e, fa_miss e, h2 s' hs]
theorem upd_no {s : ByteArray} {v : Int} : ∀ {l : List Atr}, upd s v l = none → fa s l = none
  | [], _ => rfl
  | a :: t, h => by
    by_cases g : a.name = s
    · rw [upd_hit g] at h; cases h
    · rw [upd_miss g] at h
      cases hu : upd s v t with
      | none => rw [fa_miss g]; exact upd_no hu
      | some r' => rw [hu] at h; cases h
theorem fa_app {s : ByteArray} {x : Atr} : ∀ {l : List Atr}, fa s (l ++ [x]) = match fa s l with | some a => some a | none => fa s [x]
  | [] => rfl
  | a :: t => by
    by_cases g : a.name = s
    · rw [List.cons_append, fa_hit g, fa_hit g]
    · rw [List.cons_append, fa_miss g, fa_miss g, fa_app]
theorem AOK_iff {l : List Atr} : AOK l ↔ ((∀ j, j < l.length → AT (l.getD j dA)) ∧ (∀ j q, q < j → j < l.length → (l.getD q dA).name ≠ (l.getD j dA).name)) ∧ l.length ≤ 60 := by
  constructor
  · intro h
    exact ⟨⟨fun j hj => (h.1 j (by omega) hj).1, fun j q hq hj => (fresh_take (by omega)).2 (h.1 j (by omega) hj).2 q (by omega) hq⟩, h.2⟩
  · intro h
    exact ⟨fun j _ hj => ⟨h.1.1 j hj, (fresh_take (by omega)).1 fun q _ hq => h.1.2 j q hq hj⟩, h.2⟩
theorem getD_set {l : List Atr} {j q : Nat} {a : Atr} (hj : j < l.length) : (l.set j a).getD q dA = if j = q then a else l.getD q dA := by
  by_cases e : j = q
  · subst e; rw [if_pos rfl, getD_lt (by simpa using hj)]; simp
  · rw [if_neg e]
    simp [List.getD, List.getElem?_set_ne e]
theorem PL_upd {s : ByteArray} {v : Int} {l r : List Atr} (h : PL l) (hv : -1000000 ≤ v ∧ v ≤ 1000000) (hu : upd s v l = some r) : PL r := by
  obtain ⟨j, j1, j2, j3, rfl⟩ := upd_some hu
  obtain ⟨⟨h1, h2⟩, h3⟩ := AOK_iff.1 h.1
  have nm : ∀ q, ((l.set j (Atr.mk (l.getD j dA).name (l.getD j dA).kind v)).getD q dA).name = (l.getD q dA).name := fun q => by
    rw [getD_set j1]; split
    · rename_i e; subst e; rfl
    · rfl
  have kd : ∀ q, ((l.set j (Atr.mk (l.getD j dA).name (l.getD j dA).kind v)).getD q dA).kind = (l.getD q dA).kind := fun q => by
    rw [getD_set j1]; split
    · rename_i e; subst e; rfl
    · rfl
  refine ⟨AOK_iff.2 ⟨⟨fun q hq => ?_, fun a b hb ha => ?_⟩, by simpa using h3⟩, fun a ha => ?_⟩
  · have := h1 q (by simpa using hq)
    refine ⟨by rw [nm]; exact this.1, by rw [kd]; exact this.2.1, ?_⟩
    rw [getD_set j1]; split
    · exact hv
    · exact this.2.2
  · rw [nm, nm]; exact h2 a b hb (by simpa using ha)
  · obtain ⟨q, q1, q2⟩ := (gmem (d := dA)).1 ha
    rw [← q2, kd]
    exact h.2 _ (gmem.2 ⟨q, by simpa using q1, rfl⟩)
theorem getD_app {l : List Atr} {x : Atr} {q : Nat} (hq : q ≤ l.length) : (l ++ [x]).getD q dA = if q = l.length then x else l.getD q dA := by
  by_cases e : q = l.length
  · subst e; rw [if_pos rfl, getD_lt (by simp)]; simp
  · rw [if_neg e, getD_lt (by simp; omega), getD_lt (by omega)]
    rw [List.getElem_append_left]
theorem PL_app {s : ByteArray} {v : Int} {l : List Atr} (h : PL l) (hv : -1000000 ≤ v ∧ v ≤ 1000000) (hs : NM s) (hf : fresh l s) (hl : l.length ≠ 60) : PL (l ++ [Atr.mk s 1 v]) := by
  obtain ⟨⟨h1, h2⟩, h3⟩ := AOK_iff.1 h.1
  refine ⟨AOK_iff.2 ⟨⟨fun q hq => ?_, fun a b hb ha => ?_⟩, by simp; omega⟩, fun a ha => ?_⟩
  · simp at hq
    rw [getD_app (by omega)]; split
    · exact ⟨hs, ⟨by show (1 : Int) ≤ 1; omega, by show (1 : Int) ≤ 3; omega⟩, hv⟩
    · exact h1 q (by omega)
  · simp at ha
    rw [getD_app (by omega), getD_app (by omega), if_neg (by omega)]
    split
    · exact hf _ (gmem.2 ⟨b, by omega, rfl⟩)
    · exact h2 a b hb (by omega)
  · rcases List.mem_append.1 ha with ha | ha
    · exact h.2 a ha
    · simp at ha; subst ha; rfl
/-- what setting leads to -/
theorem AS_some {L : List Cls} {c : Int} {own r : List Atr} {s : ByteArray} {v : Int} (h : AS L c own s v = some r) :
    (CO L ∧ PL own ∧ (0 ≤ c ∧ c < L.length)) ∧ PL r ∧ r.length ≤ own.length + 1 ∧ (∀ s', s' ≠ s → fa s' r = fa s' own) ∧
    ((∃ a d, AF L c s = some (a, d) ∧ a.kind = 3 ∧ r = own) ∨ ((∀ a d, AF L c s = some (a, d) → ¬ a.kind = 3) ∧ ∃ b, fa s r = some b ∧ b.val = v)) ∧ (∀ a ∈ r, a ∈ own ∨ a.name = s ∨ ∃ b ∈ own, a.name = b.name) := by
  unfold AS at h
  split at h
  case isFalse => cases h
  rename_i g
  obtain ⟨g1, g2, g3, g4, g5⟩ := g
  refine ⟨⟨g1, g2, g3⟩, ?_⟩
  split at h
  · rename_i hk
    cases h
    obtain ⟨a, d, e1, e2⟩ := hk
    exact ⟨g2, by omega, fun _ _ => rfl, .inl ⟨a, d, e1, e2, rfl⟩, fun a ha => .inl ha⟩
  · rename_i hk
    have hno : ∀ a d, AF L c s = some (a, d) → ¬ a.kind = 3 := fun a d e1 e2 => hk ⟨a, d, e1, e2⟩
    cases hu : upd s v own with
    | some r' =>
      rw [hu] at h; cases h
      obtain ⟨u1, u2, u3⟩ := upd_fa hu
      refine ⟨PL_upd g2 g5 hu, by omega, u2, .inr ⟨hno, u1⟩, fun a ha => ?_⟩
      obtain ⟨j, j1, j2, j3, rfl⟩ := upd_some hu
      rcases List.mem_or_eq_of_mem_set ha with ha | rfl
      · exact .inl ha
      · exact .inr (.inl j3)
    | none =>
      rw [hu] at h
      dsimp only at h
      split at h
      · cases h
      · rename_i h60
        cases h
        have hfn := upd_no hu
        refine ⟨PL_app g2 g5 g4 (fa_none hfn) h60, by simp, fun s' hs => ?_, .inr ⟨hno, Atr.mk s 1 v, ?_, rfl⟩, fun a ha => ?_⟩
        · rw [fa_app]
          cases fa s' own with
          | some a => rfl
          | none => exact fa_miss (fun e => hs e.symm)
        · rw [fa_app, hfn]; exact fa_hit rfl
        · rcases List.mem_append.1 ha with ha | ha
          · exact .inl ha
          · simp at ha; subst ha; exact .inr (.inl rfl)
theorem SA_so {l : List Atr} (h : SA l) : SO l := ⟨by have := h.len; omega, fun a ha => by have := h.nl a ha; omega⟩
theorem AS_so {L : List Cls} {c : Int} {own : List Atr} {s : ByteArray} {v : Int} (h : SA own) (hs : s.size ≤ 1) : SO ((AS L c own s v).getD []) ∧ ((AS L c own s v).getD []).length ≤ 101 := by
  cases hr : AS L c own s v with
  | none => exact ⟨⟨by simp, fun a ha => by simp at ha⟩, by simp⟩
  | some r =>
    obtain ⟨_, _, h2, _, _, h3⟩ := AS_some hr
    have := h.len
    refine ⟨⟨by show r.length ≤ _; omega, fun a ha => ?_⟩, by show r.length ≤ _; omega⟩
    rcases h3 a ha with h4 | h4 | ⟨b, h5, h4⟩
    · have := h.nl a h4; omega
    · rw [h4]; omega
    · have := h.nl b h5; rw [h4]; omega
/-- reading what was set -/
theorem AG_set {L : List Cls} {c : Int} {own r : List Atr} {s : ByteArray} {v : Int} (h : AS L c own s v = some r) :
    (∃ a d, AF L c s = some (a, d) ∧ a.kind = 3 ∧ r = own ∧ AG L c r s = some (3, a.val)) ∨ ((∀ a d, AF L c s = some (a, d) → ¬ a.kind = 3) ∧ AG L c r s = some (1, v)) := by
  obtain ⟨⟨h1, h2, h3⟩, h4, h5, h6, h7, -⟩ := AS_some h
  rcases h7 with ⟨a, d, e1, e2, rfl⟩ | ⟨e1, b, e2, e3⟩
  · refine .inl ⟨a, d, e1, e2, rfl, ?_⟩
    unfold AG
    rw [if_pos ⟨h1, h2, h3⟩, e1]
    dsimp only
    rw [if_pos e2]
  · refine .inr ⟨e1, ?_⟩
    unfold AG
    rw [if_pos ⟨h1, h4, h3⟩, e2]
    cases hf : AF L c s with
    | none => dsimp only; rw [e3]
    | some p =>
      obtain ⟨a, d⟩ := p
      dsimp only
      rw [if_neg (e1 a d hf), e3]
theorem AG_rng {L : List Cls} {c : Int} {own : List Atr} {s : ByteArray} {k v : Int} (h : AG L c own s = some (k, v)) : 1 ≤ k ∧ k ≤ 4 := by
  unfold AG at h
  split at h
  · split at h
    · split at h
      · cases h; omega
      · split at h
        · cases h; omega
        · split at h
          · cases h; omega
          · cases h; omega
    · cases h; omega
    · cases h
  · cases h
theorem AG_3 {L : List Cls} {c : Int} {own : List Atr} {s : ByteArray} {a : Atr} {d : Int} (h : (AG L c own s).isSome = true) (hf : AF L c s = some (a, d)) (hk : a.kind = 3) : AG L c own s = some (3, a.val) := by
  unfold AG at h ⊢
  split at h
  · rename_i g
    rw [if_pos g, hf]
    dsimp only
    rw [if_pos hk]
  · cases h
theorem AG_ok {L : List Cls} {c : Int} {own : List Atr} {s : ByteArray} {k v : Int} (h : AG L c own s = some (k, v)) (hk : k = 3) : ∃ a d, AF L c s = some (a, d) ∧ a.kind = 3 ∧ v = a.val := by
  unfold AG at h
  split at h
  · split at h
    · rename_i a d hf
      split at h
      · rename_i h3; cases h; exact ⟨_, _, hf, h3, rfl⟩
      · split at h
        · cases h; omega
        · split at h
          · cases h; omega
          · cases h; omega
    · cases h; omega
    · cases h
  · cases h
theorem and2 (a b : Int) : ((a == a) && (b == b)) = true := by simp
theorem law_get {n : Nat} (hn : 30000000 ≤ n) {z : List Int} (hz : okb z) : F6 n z = some (true, ()) := by
  unfold F6
  by_cases g : (z.length : Int) > 1048576
  · rw [bp g]
  rw [bn g]
  obtain ⟨L, c, own, s, e, sz, so, hs⟩ := draw23 hn hz
  rw [e]; simp only [ats]
  rw [agI hn sz (SA_so so)]; simp only [ats]
  rw [agS hn sz (SA_so so)]; simp only [ats, and2, ct, beqB, Bool.not_true, cf]
  cases hg : AG L c own s with
  | none => rfl
  | some p =>
    obtain ⟨k, v⟩ := p
    obtain ⟨k1, k4⟩ := AG_rng hg
    simp only [Bool.not_true, cf]
    rw [setI hn sz (SA_so so)]; simp only [ats]
    rw [agI hn sz (AS_so so hs).1]; simp only [ats]
    rw [bp (show (k : Int) ≥ 1 by omega), bp k4]
    cases ha : AS L c own s 7 with
    | none => rfl
    | some r =>
      simp only [Option.isSome_some, Bool.not_true, cf, Option.getD_some]
      rcases AG_set ha with ⟨a, d, e1, e2, e3, e4⟩ | ⟨e1, e2⟩
      · have := AG_3 (by rw [hg]; rfl) e1 e2
        rw [hg] at this
        cases this
        rw [e4]
        simp
      · rw [e2]
        have hk : ¬ k = 3 := fun hk => by obtain ⟨a, d, f1, f2, _⟩ := AG_ok hg hk; exact e1 a d f1 f2
        dsimp only
        rw [ct, eqn hk]
        rfl
theorem AG_own {L : List Cls} {c : Int} {own r : List Atr} {s s' : ByteArray} {v : Int} (h : AS L c own s v = some r) (hs : s' ≠ s) : AG L c own s' = AG L c r s' := by
  obtain ⟨⟨h1, h2, h3⟩, h4, h5, h6, h7, -⟩ := AS_some h
  unfold AG
  rw [if_pos ⟨h1, h2, h3⟩, if_pos ⟨h1, h4, h3⟩, h6 s' hs]
theorem own_it {R : Type} {n : Nat} {L : List Cls} {c : Int} {own r : List Atr} {s : ByteArray} {v : Int} {os : List ByteArray} {k0 : Bool → Option R} {k1 : Option R} (hn : 30000000 ≤ n) (sz : SZ L) (so : SO own) (sr : SO r) (h : AS L c own s v = some r) (ho : os.length ≤ 100) : ∀ (fuel i : Nat), i ≤ os.length → os.length + 1 ≤ fuel + i →
    F7_0_it n k0 k1 fuel L c own s r i os = k1
  | fuel, i, hi, hfl => by
    obtain ⟨f, rfl⟩ : ∃ f, fuel = f + 1 := ⟨fuel - 1, by omega⟩
    simp only [F7_0_it, F7_0_step]
    by_cases g : i < os.length
    · rw [bp (by omega), bp (by omega), bp (by omega), show ((i : Nat) : Int).toNat = i by omega, agI hn sz so]; simp only [ats]
      rw [bp (by omega), bp (by omega), agI hn sz sr]; simp only [ats]
      rw [bp (by omega), bp (by omega), keq, wp (by omega), show ((i : Int) + 1) = ((i + 1 : Nat) : Int) by omega, own_it (k0 := k0) (k1 := k1) hn sz so sr h ho f (i + 1) (by omega) (by omega)]
      by_cases e : os.getD i ⟨#[]⟩ = s
      · rw [nn e]
      · rw [np e, AG_own h e]; simp only [beqB, and2, Bool.not_true, cf]
    · rw [bn (by omega)]
theorem law_own {n : Nat} (hn : 30000000 ≤ n) {z : List Int} (hz : okb z) : F7 n z = some (true, ()) := by
  unfold F7
  by_cases g : (z.length : Int) > 1048576
  · rw [bp g]
  rw [bn g]
  obtain ⟨L, c, own, s, v, e, sz, so, hs⟩ := draw27 hn hz
  rw [e]; simp only [ats]
  obtain ⟨sr, hrl⟩ := AS_so (L := L) (c := c) (v := v) so hs
  rw [setI hn sz (SA_so so)]; simp only [ats]
  rw [setS hn sz (SA_so so) (by omega)]; simp only [ats, beqB, Bool.not_true, cf, ct]
  rw [sameA hn (by omega) (by omega), B_t rfl]; simp only [ats, Bool.not_true, cf]
  cases ha : AS L c own s v with
  | none => rfl
  | some r =>
    rw [ha] at sr
    simp only [Option.isSome_some, Bool.not_true, cf, Option.getD_some]
    unfold F7_0
    have e1 := own_it (n := n) (L := L) (c := c) (own := own) (r := r) (s := s) (v := v) (os := (({ data := #[97] } : ByteArray) :: (({ data := #[98] } : ByteArray) :: (({ data := #[99] } : ByteArray) :: (({ data := #[100] } : ByteArray) :: []))))) (k0 := fun z2162 => some (z2162, ())) (k1 := some (true, ())) hn sz (SA_so so) sr ha (by simp) n 0 (by omega) (by simp; omega)
    rw [Int.natCast_zero] at e1
    exact e1
theorem law_set {n : Nat} (hn : 30000000 ≤ n) {z : List Int} (hz : okb z) : F8 n z = some (true, ()) := by
  unfold F8
  by_cases g : (z.length : Int) > 1048576
  · rw [bp g]
  rw [bn g]
  obtain ⟨L, c, own, s, v, e, sz, so, hs⟩ := draw27 hn hz
  rw [e]; simp only [ats]
  obtain ⟨sr, hrl⟩ := AS_so (L := L) (c := c) (v := v) so hs
  have hol := so.len
  rw [setI hn sz (SA_so so)]; simp only [ats]
  rw [setS hn sz (SA_so so) (by omega)]; simp only [ats]
  rw [sameA hn (by omega) (by omega), B_t rfl]; simp only [ats, ct, beqB, Bool.not_true, cf]
  cases ha : AS L c own s v with
  | none => rfl
  | some r =>
    rw [ha] at sr hrl
    simp only [Option.isSome_some, Bool.not_true, cf, Option.getD_some] at sr hrl ⊢
    rw [agI hn sz sr]; simp only [ats]
    obtain ⟨-, -, h5, -, -, -⟩ := AS_some ha
    have hlen : decide ((r.length : Int) ≤ IntKind.wrap .i64 ((own.length : Int) + 1)) = true := by rw [wp (by omega)]; exact decide_eq_true (by omega)
    rw [hlen]
    rcases AG_set ha with ⟨a, d, e1, e2, e3, e4⟩ | ⟨e1, e2⟩
    · subst e3
      rw [e4, eqp rfl, sameA hn (by omega) (by omega), B_t rfl]
      rfl
    · rw [e2, sameA hn (by omega) (by omega)]
      simp only [ats, and2, ct]
      by_cases hl : (r.length : Int) = own.length
      · rw [eqp hl]
        by_cases hr : r = own
        · rw [cB hr]; rfl
        · rw [cBn hr]
      · rw [eqn hl]
theorem law_getV {n : Nat} (hn : 30000000 ≤ n) (y : Cd.den G.T (.imm 1)) (s : SmV G (Cd.enc (.imm 1) y)) : F6 n y = some (true, ()) := law_get hn (okb_of s)
theorem law_ownV {n : Nat} (hn : 30000000 ≤ n) (y : Cd.den G.T (.imm 1)) (s : SmV G (Cd.enc (.imm 1) y)) : F7 n y = some (true, ()) := law_own hn (okb_of s)
theorem law_setV {n : Nat} (hn : 30000000 ≤ n) (y : Cd.den G.T (.imm 1)) (s : SmV G (Cd.enc (.imm 1) y)) : F8 n y = some (true, ()) := law_set hn (okb_of s)
end Go.Proofs.Ytehcejlbfngfdaa.Am
