/- Importers, plainly: loads and steps. -/
import Derived.Test.YtjfmfpnnjgfffaaAmImrE
namespace Go.Proofs.Ytjfmfpnnjgfffaa.Am
open Go
set_option autoImplicit false
set_option linter.unusedVariables false
set_option linter.unusedSimpArgs false
set_option maxRecDepth 10000

structure Ab where
  st : List Int
  bg : List Int
  wh : List Int
  rd : List ByteArray
  en : List (List (ByteArray × Int))
noncomputable def stp (L : Int → Ab → Bool × Ab) (k : Nat) (x : Stp) (s : Ab) : Bool × Ab :=
  if x.kind = 1 then L x.num s
  else if x.kind = 2 then (true, (L x.num s).2)
  else if x.kind = 3 then (true, { s with en := s.en.set k (mset x.name x.num (s.en.getD k [])) })
  else if x.kind = 4 then (match mget x.name (s.en.getD x.num.toNat []) with
    | some v => (true, { s with rd := s.rd ++ [dec v] })
    | none => (false, s))
  else (false, s)
noncomputable def sts (L : Int → Ab → Bool × Ab) (k : Nat) : List Stp → Ab → Bool × Ab
  | [], s => (true, s)
  | x :: l, s => if (stp L k x s).1 = true then sts L k l (stp L k x s).2 else (false, (stp L k x s).2)
def beg (k : Int) (s : Ab) : Ab := { s with st := s.st.set k.toNat 1, bg := s.bg ++ [k], en := s.en.set k.toNat [] }
def fin (k : Int) (r : Bool × Ab) : Bool × Ab :=
  if r.1 = true then (true, { r.2 with st := r.2.st.set k.toNat 2, wh := r.2.wh ++ [k] })
  else (false, { r.2 with st := r.2.st.set k.toNat 0, en := r.2.en.set k.toNat [] })
noncomputable def ld (a : List (List Stp)) : Nat → Int → Ab → Bool × Ab
  | 0, _, s => (false, s)
  | d + 1, k, s => if s.st.getD k.toNat 0 ≠ 0 then (true, s) else fin k (sts (ld a d) k.toNat (a.getD k.toNat []) (beg k s))

-- what is not there --------------------------------------------------------------------------------------------------------------------------------
def uz : List Int → Nat
  | [] => 0
  | x :: l => (if x = 0 then 1 else 0) + uz l
theorem uz_set : ∀ {l : List Int} {i : Nat} {v : Int}, i < l.length → l.getD i 0 = 0 → v ≠ 0 → uz (l.set i v) + 1 = uz l
  | [], i, v, h, _, _ => by simp at h
  | x :: l, 0, v, _, h, hv => by
    have h : x = 0 := h
    simp only [List.set, uz, if_pos h, if_neg hv]; omega
  | x :: l, i + 1, v, hi, h, hv => by
    have h : l.getD i 0 = 0 := h
    have := uz_set (l := l) (i := i) (by simpa using hi) h hv
    simp only [List.set, uz]; omega
theorem uz_mono : ∀ {l l' : List Int}, l.length = l'.length → (∀ j, l.getD j 0 ≠ 0 → l'.getD j 0 ≠ 0) → uz l' ≤ uz l
  | [], [], _, _ => Nat.le_refl _
  | [], y :: l', h, _ => by simp at h
  | x :: l, [], h, _ => by simp at h
  | x :: l, y :: l', h, g => by
    have h1 := uz_mono (l := l) (l' := l') (by simpa using h) fun j hj => g (j + 1) hj
    have h2 : x ≠ 0 → y ≠ 0 := g 0
    simp only [uz]
    by_cases e : x = 0
    · rw [if_pos e]; split <;> omega
    · rw [if_neg e, if_neg (h2 e)]; omega
theorem uz_le : ∀ (l : List Int), uz l ≤ l.length
  | [] => Nat.le_refl _
  | x :: l => by
    have := uz_le l
    simp only [uz, List.length_cons]; split <;> omega

-- maps ------------------------------------------------------------------------------------------------------------------------------------------
theorem mset_mem {s : ByteArray} {v : Int} : ∀ {l : List (ByteArray × Int)} {p : ByteArray × Int}, p ∈ mset s v l → p ∈ l ∨ p = (s, v)
  | [], p, h => .inr (by simpa [mset] using h)
  | q :: l, p, h => by
    simp only [mset] at h
    cases e : s == q.1 with
    | true =>
      rw [e] at h
      rcases List.mem_cons.1 h with h | h
      · exact .inr h
      · exact .inl (List.mem_cons_of_mem _ h)
    | false =>
      rw [e] at h
      rcases List.mem_cons.1 h with h | h
      · exact .inl (h ▸ List.mem_cons_self)
      · rcases mset_mem h with h | h
        · exact .inl (List.mem_cons_of_mem _ h)
        · exact .inr h
theorem mset_len {s : ByteArray} {v : Int} : ∀ (l : List (ByteArray × Int)), (mset s v l).length ≤ l.length + 1
  | [] => by simp [mset]
  | q :: l => by
    have := mset_len (s := s) (v := v) l
    simp only [mset]
    cases e : s == q.1 with
    | true => simp
    | false => simp only [List.length_cons]; omega
theorem mget_mem {s : ByteArray} {v : Int} : ∀ {l : List (ByteArray × Int)}, mget s l = some v → ∃ p ∈ l, p.2 = v
  | [], h => by cases h
  | q :: l, h => by
    simp only [mget] at h
    cases e : s == q.1 with
    | true => rw [e] at h; cases h; exact ⟨q, List.mem_cons_self, rfl⟩
    | false =>
      rw [e] at h
      obtain ⟨p, h1, h2⟩ := mget_mem h
      exact ⟨p, List.mem_cons_of_mem _ h1, h2⟩

-- states ------------------------------------------------------------------------------------------------------------------------------------------
structure Wf (m : Nat) (s : Ab) : Prop where
  st : s.st.length = m
  en : s.en.length = m
  e0 : ∀ j, s.st.getD j 0 = 0 → s.en.getD j [] = []
  er : ∀ j, ∀ p ∈ s.en.getD j [], 0 ≤ p.2 ∧ p.2 ≤ 1000000
structure Gs (c : Nat) (s s' : Ab) : Prop where
  keep : ∀ j, s.st.getD j 0 ≠ 0 → s'.st.getD j 0 = s.st.getD j 0
  fin : ∀ j, s.st.getD j 0 = 0 → s'.st.getD j 0 = 0 ∨ s'.st.getD j 0 = 2
  bg : ∃ l, s'.bg = s.bg ++ l ∧ l.length ≤ c
  wh : ∃ l, s'.wh = s.wh ++ l ∧ l.length ≤ c
  rd : ∃ l, s'.rd = s.rd ++ l ∧ l.length ≤ c
  el : ∀ j, (s'.en.getD j []).length ≤ (s.en.getD j []).length + c
theorem Gs.refl (c : Nat) (s : Ab) : Gs c s s := ⟨fun _ _ => rfl, fun _ h => .inl h, ⟨[], by simp, by simp⟩, ⟨[], by simp, by simp⟩, ⟨[], by simp, by simp⟩, fun j => by omega⟩
theorem Gs.trans {c1 c2 : Nat} {s s1 s2 : Ab} (h : Gs c1 s s1) (g : Gs c2 s1 s2) : Gs (c1 + c2) s s2 where
  keep := fun j hj => by rw [g.keep j (by rw [h.keep j hj]; exact hj), h.keep j hj]
  fin := fun j hj => by
    rcases h.fin j hj with e | e
    · exact g.fin j e
    · rw [g.keep j (by omega)]; exact .inr e
  bg := by
    obtain ⟨l, e, i⟩ := h.bg; obtain ⟨l', e', i'⟩ := g.bg
    exact ⟨l ++ l', by rw [e', e, List.append_assoc], by rw [List.length_append]; omega⟩
  wh := by
    obtain ⟨l, e, i⟩ := h.wh; obtain ⟨l', e', i'⟩ := g.wh
    exact ⟨l ++ l', by rw [e', e, List.append_assoc], by rw [List.length_append]; omega⟩
  rd := by
    obtain ⟨l, e, i⟩ := h.rd; obtain ⟨l', e', i'⟩ := g.rd
    exact ⟨l ++ l', by rw [e', e, List.append_assoc], by rw [List.length_append]; omega⟩
  el := fun j => by have := h.el j; have := g.el j; omega
theorem Gs.le {c c' : Nat} {s s' : Ab} (h : Gs c s s') (hc : c ≤ c') : Gs c' s s' := by
  obtain ⟨l, e, i⟩ := h.bg; obtain ⟨l1, e1, i1⟩ := h.wh; obtain ⟨l2, e2, i2⟩ := h.rd
  exact ⟨h.keep, h.fin, ⟨l, e, by omega⟩, ⟨l1, e1, by omega⟩, ⟨l2, e2, by omega⟩, fun j => by have := h.el j; omega⟩
theorem Gs.uz {c m : Nat} {s s' : Ab} (h : Gs c s s') (w : Wf m s) (w' : Wf m s') : uz s'.st ≤ uz s.st :=
  uz_mono (by rw [w.st, w'.st]) fun j hj => by rw [h.keep j hj]; exact hj

/-- what a load does -/
structure LdOK (m c : Nat) (k : Int) (s : Ab) (r : Bool × Ab) : Prop where
  wf : Wf m r.2
  gs : Gs c s r.2
  ok : r.1 = true → r.2.st.getD k.toNat 0 ≠ 0
def LdH (m u c : Nat) (L : Int → Ab → Bool × Ab) : Prop := ∀ k s, Wf m s → uz s.st ≤ u → Rng m k → LdOK m c k s (L k s)

theorem VS.num {m : Nat} {x : Stp} (h : VS m x) (hk : x.kind ≠ 3) (hk' : x.kind ≠ 5) : Rng m x.num := by
  have := h.2.1
  unfold hiS at this
  rw [if_neg (by omega)] at this
  exact ⟨this.1, by omega⟩
theorem stp_ok {m u c : Nat} {L : Int → Ab → Bool × Ab} {k : Nat} {x : Stp} {s : Ab} (hL : LdH m u c L) (hx : VS m x) (w : Wf m s) (hu : uz s.st ≤ u) (hk : k < m) (h1 : s.st.getD k 0 = 1) :
    Wf m (stp L k x s).2 ∧ Gs (c + 1) s (stp L k x s).2 := by
  unfold stp
  by_cases e1 : x.kind = 1
  · rw [if_pos e1]
    have := hL x.num s w hu (hx.num (by omega) (by omega))
    exact ⟨this.wf, this.gs.le (by omega)⟩
  rw [if_neg e1]
  by_cases e2 : x.kind = 2
  · rw [if_pos e2]
    have := hL x.num s w hu (hx.num (by omega) (by omega))
    exact ⟨this.wf, this.gs.le (by omega)⟩
  rw [if_neg e2]
  by_cases e3 : x.kind = 3
  · rw [if_pos e3]
    refine ⟨⟨w.st, by simp [w.en], fun j hj => ?_, fun j p hp => ?_⟩, ⟨fun _ _ => rfl, fun _ h => .inl h, ⟨[], by simp, by simp⟩, ⟨[], by simp, by simp⟩, ⟨[], by simp, by simp⟩, fun j => ?_⟩⟩
    · have hj : s.st.getD j 0 = 0 := hj
      show (s.en.set k _).getD j [] = []
      rw [getD_set' (by rw [w.en]; exact hk), if_neg (fun e => by subst e; omega)]
      exact w.e0 j hj
    · have hp : p ∈ (s.en.set k (mset x.name x.num (s.en.getD k []))).getD j [] := hp
      rw [getD_set' (by rw [w.en]; exact hk)] at hp
      by_cases e : k = j
      · rw [if_pos e] at hp
        rcases mset_mem hp with h | h
        · exact w.er k p h
        · rw [h]
          have := hx.2.1
          unfold hiS at this
          rw [if_pos (.inl e3)] at this
          exact this
      · rw [if_neg e] at hp; exact w.er j p hp
    · show ((s.en.set k (mset x.name x.num (s.en.getD k []))).getD j []).length ≤ _
      rw [getD_set' (by rw [w.en]; exact hk)]
      by_cases e : k = j
      · rw [if_pos e, ← e]
        have := mset_len (s := x.name) (v := x.num) (s.en.getD k [])
        omega
      · rw [if_neg e]; omega
  rw [if_neg e3]
  by_cases e4 : x.kind = 4
  · rw [if_pos e4]
    cases e : mget x.name (s.en.getD x.num.toNat []) with
    | none => exact ⟨w, Gs.refl _ _⟩
    | some v => exact ⟨⟨w.st, w.en, w.e0, w.er⟩, ⟨fun _ _ => rfl, fun _ h => .inl h, ⟨[], by simp, by simp⟩, ⟨[], by simp, by simp⟩, ⟨[dec v], rfl, by simp⟩, fun j => by show (s.en.getD j []).length ≤ _; omega⟩⟩
  rw [if_neg e4]
  exact ⟨w, Gs.refl _ _⟩
theorem sts_ok {m u c : Nat} {L : Int → Ab → Bool × Ab} {k : Nat} (hL : LdH m u c L) (hk : k < m) : ∀ {l : List Stp} {s : Ab}, (∀ x ∈ l, VS m x) → Wf m s → uz s.st ≤ u → s.st.getD k 0 = 1 →
    Wf m (sts L k l s).2 ∧ Gs (l.length * (c + 1)) s (sts L k l s).2
  | [], s, _, w, _, _ => ⟨w, Gs.refl _ _⟩
  | x :: l, s, hl, w, hu, h1 => by
    obtain ⟨w1, g1⟩ := stp_ok hL (hl x List.mem_cons_self) w hu hk h1
    simp only [sts, List.length_cons]
    split
    · have hu1 := g1.uz w w1
      obtain ⟨w2, g2⟩ := sts_ok hL hk (l := l) (fun y hy => hl y (List.mem_cons_of_mem _ hy)) w1 (by omega) (by rw [g1.keep k (by omega), h1])
      exact ⟨w2, (g1.trans g2).le (by rw [Nat.succ_mul]; omega)⟩
    · exact ⟨w1, g1.le (by rw [Nat.succ_mul]; omega)⟩
def CC : Nat → Nat
  | 0 => 0
  | u + 1 => 8 * (CC u + 1) + 1
theorem beg_ok {m : Nat} {k : Int} {s : Ab} (w : Wf m s) (hk : Rng m k) (h0 : s.st.getD k.toNat 0 = 0) : Wf m (beg k s) ∧ uz (beg k s).st + 1 = uz s.st ∧ (beg k s).st.getD k.toNat 0 = 1 := by
  have hkm : k.toNat < m := by have := hk.1; have := hk.2; omega
  refine ⟨⟨by simp [beg, w.st], by simp [beg, w.en], fun j hj => ?_, fun j p hp => ?_⟩, uz_set (by rw [w.st]; exact hkm) h0 (by decide), ?_⟩
  · have hj : (s.st.set k.toNat 1).getD j 0 = 0 := hj
    show (s.en.set k.toNat []).getD j [] = []
    rw [getD_set' (by rw [w.st]; exact hkm)] at hj
    rw [getD_set' (by rw [w.en]; exact hkm)]
    by_cases e : k.toNat = j
    · rw [if_pos e]
    · rw [if_neg e] at hj ⊢; exact w.e0 j hj
  · have hp : p ∈ (s.en.set k.toNat []).getD j [] := hp
    rw [getD_set' (by rw [w.en]; exact hkm)] at hp
    by_cases e : k.toNat = j
    · rw [if_pos e] at hp; cases hp
    · rw [if_neg e] at hp; exact w.er j p hp
  · show (s.st.set k.toNat 1).getD k.toNat 0 = 1
    rw [getD_set' (by rw [w.st]; exact hkm), if_pos rfl]
theorem row_of {a : List (List Stp)} (hv : VM a) {k : Nat} (hk : k < a.length) : (a.getD k []).length ≤ 8 ∧ ∀ x ∈ a.getD k [], VS a.length x := by
  obtain ⟨h1, h2⟩ := hv.1 k hk
  refine ⟨h1, fun x hx => ?_⟩
  obtain ⟨i, hi, e⟩ := List.getElem_of_mem hx
  have := h2 i hi
  rw [getD_lt hi, e] at this; exact this
theorem ld_ok {a : List (List Stp)} (hv : VM a) : ∀ (d u : Nat), u < d → LdH a.length u (CC u) (ld a d)
  | 0, u, h => by omega
  | d + 1, u, hd => fun k s w hu hk => by
    have hkm : k.toNat < a.length := by have := hk.1; have := hk.2; omega
    simp only [ld]
    by_cases h0 : s.st.getD k.toNat 0 = 0
    case neg =>
      rw [if_pos h0]
      exact ⟨w, Gs.refl _ _, fun _ => h0⟩
    rw [if_neg (fun h => h h0)]
    obtain ⟨w1, u1, b1⟩ := beg_ok w hk h0
    obtain ⟨u', rfl⟩ : ∃ u', u = u' + 1 := ⟨u - 1, by omega⟩
    obtain ⟨r1, r2⟩ := row_of hv hkm
    have hL := ld_ok hv d u' (by omega)
    obtain ⟨w2, g2⟩ := sts_ok hL hkm r2 w1 (by omega) b1
    generalize hr : sts (ld a d) k.toNat (a.getD k.toNat []) (beg k s) = r at w2 g2 ⊢
    have hc : (a.getD k.toNat []).length * (CC u' + 1) ≤ 8 * (CC u' + 1) := Nat.mul_le_mul_right _ r1
    have b2 : r.2.st.getD k.toNat 0 = 1 := by rw [g2.keep _ (by omega), b1]
    have hkeep : ∀ j, k.toNat ≠ j → (s.st.getD j 0 ≠ 0 → r.2.st.getD j 0 = s.st.getD j 0) ∧ (s.st.getD j 0 = 0 → r.2.st.getD j 0 = 0 ∨ r.2.st.getD j 0 = 2) := fun j hj => by
      have e : (beg k s).st.getD j 0 = s.st.getD j 0 := by
        show (s.st.set k.toNat 1).getD j 0 = _
        rw [getD_set' (by rw [w.st]; exact hkm), if_neg hj]
      refine ⟨fun h => ?_, fun h => ?_⟩
      · rw [g2.keep j (by rw [e]; exact h), e]
      · exact g2.fin j (by rw [e]; exact h)
    obtain ⟨lb, eb, ib⟩ := g2.bg; obtain ⟨lw, ew, iw⟩ := g2.wh; obtain ⟨lr, er, ir⟩ := g2.rd
    have eb : r.2.bg = s.bg ++ (k :: lb) := by rw [eb]; simp [beg]
    have ew : r.2.wh = s.wh ++ lw := ew
    have er : r.2.rd = s.rd ++ lr := er
    have el : ∀ j, (r.2.en.getD j []).length ≤ (s.en.getD j []).length + CC (u' + 1) := fun j => by
      have h1 := g2.el j
      have h2 : ((beg k s).en.getD j []).length ≤ (s.en.getD j []).length := by
        show ((s.en.set k.toNat []).getD j []).length ≤ _
        rw [getD_set' (by rw [w.en]; exact hkm)]
        by_cases e : k.toNat = j
        · rw [if_pos e]; exact Nat.zero_le _
        · rw [if_neg e]; omega
      simp only [CC]; omega
    unfold fin
    by_cases hb : r.1 = true
    · rw [if_pos hb]
      refine ⟨⟨by simp [w2.st], w2.en, fun j hj => ?_, w2.er⟩, ⟨fun j hj => ?_, fun j hj => ?_, ⟨_, eb, by simp only [List.length_cons, CC]; omega⟩, ⟨lw ++ [k], by show r.2.wh ++ [k] = _; rw [ew, List.append_assoc], by simp only [List.length_append, List.length_cons, List.length_nil, CC]; omega⟩, ⟨lr, er, by simp only [CC]; omega⟩, el⟩, fun _ => ?_⟩
      · have hj : (r.2.st.set k.toNat 2).getD j 0 = 0 := hj
        rw [getD_set' (by rw [w2.st]; exact hkm)] at hj
        by_cases e : k.toNat = j
        · rw [if_pos e] at hj; omega
        · rw [if_neg e] at hj; exact w2.e0 j hj
      · show (r.2.st.set k.toNat 2).getD j 0 = _
        have e : k.toNat ≠ j := fun e => hj (e ▸ h0)
        rw [getD_set' (by rw [w2.st]; exact hkm), if_neg e]
        exact (hkeep j e).1 hj
      · show (r.2.st.set k.toNat 2).getD j 0 = 0 ∨ (r.2.st.set k.toNat 2).getD j 0 = 2
        rw [getD_set' (by rw [w2.st]; exact hkm)]
        by_cases e : k.toNat = j
        · rw [if_pos e]; exact .inr rfl
        · rw [if_neg e]; exact (hkeep j e).2 hj
      · show (r.2.st.set k.toNat 2).getD k.toNat 0 ≠ 0
        rw [getD_set' (by rw [w2.st]; exact hkm), if_pos rfl]; decide
    · rw [if_neg hb]
      refine ⟨⟨by simp [w2.st], by simp [w2.en], fun j hj => ?_, fun j p hp => ?_⟩, ⟨fun j hj => ?_, fun j hj => ?_, ⟨_, eb, by simp only [List.length_cons, CC]; omega⟩, ⟨lw, ew, by simp only [CC]; omega⟩, ⟨lr, er, by simp only [CC]; omega⟩, fun j => ?_⟩, fun h => by cases h⟩
      · have hj : (r.2.st.set k.toNat 0).getD j 0 = 0 := hj
        show (r.2.en.set k.toNat []).getD j [] = []
        rw [getD_set' (by rw [w2.st]; exact hkm)] at hj
        rw [getD_set' (by rw [w2.en]; exact hkm)]
        by_cases e : k.toNat = j
        · rw [if_pos e]
        · rw [if_neg e] at hj ⊢; exact w2.e0 j hj
      · have hp : p ∈ (r.2.en.set k.toNat []).getD j [] := hp
        rw [getD_set' (by rw [w2.en]; exact hkm)] at hp
        by_cases e : k.toNat = j
        · rw [if_pos e] at hp; cases hp
        · rw [if_neg e] at hp; exact w2.er j p hp
      · show (r.2.st.set k.toNat 0).getD j 0 = _
        have e : k.toNat ≠ j := fun e => hj (e ▸ h0)
        rw [getD_set' (by rw [w2.st]; exact hkm), if_neg e]
        exact (hkeep j e).1 hj
      · show (r.2.st.set k.toNat 0).getD j 0 = 0 ∨ (r.2.st.set k.toNat 0).getD j 0 = 2
        rw [getD_set' (by rw [w2.st]; exact hkm)]
        by_cases e : k.toNat = j
        · rw [if_pos e]; exact .inl rfl
        · rw [if_neg e]; exact (hkeep j e).2 hj
      · show ((r.2.en.set k.toNat []).getD j []).length ≤ _
        rw [getD_set' (by rw [w2.en]; exact hkm)]
        by_cases e : k.toNat = j
        · rw [if_pos e]; exact Nat.zero_le _
        · rw [if_neg e]; exact el j
end Go.Proofs.Ytjfmfpnnjgfffaa.Am
