/- Expressions: what is valid, sizes, and what is the same. -/
import Derived.Test.YtdfnlaikelijeaaAmExprA
namespace Go.Proofs.Ytdfnlaikelijeaa.Am
open Go
set_option autoImplicit false
set_option linter.unusedVariables false
set_option linter.unusedSimpArgs false

-- small expressions, at most so deep ---------------------------------------------------------------------------------------------------
def Smx : Nat → Ex → Prop
  | 0, _ => False
  | d + 1, e => e.text.size ≤ 1048576 ∧ e.names.length ≤ 1048576 ∧ (∀ s ∈ e.names, s.size ≤ 1048576) ∧ e.kids.length ≤ 1048576 ∧ ∀ k ∈ e.kids, Smx d k
theorem Smx.mono : ∀ {d d' : Nat} {e : Ex}, d ≤ d' → Smx d e → Smx d' e
  | 0, _, _, _, h => h.elim
  | d + 1, 0, _, hd, _ => by omega
  | d + 1, d' + 1, e, hd, ⟨a, b, c, f, g⟩ => ⟨a, b, c, f, fun k hk => (g k hk).mono (by omega)⟩
theorem kid_mem {l : List Ex} {i : Nat} (h : i < l.length) : l.getD i (Ex.mk 0 ⟨#[]⟩ [] []) ∈ l := by rw [getD_lt h]; exact List.getElem_mem _

theorem opL {n : Nat} {s : ByteArray} (hn : 3000000 ≤ n) : ∃ v l, F69 n s = some (v, ()) ∧ F74 n = some (l, ()) ∧ l.length ≤ 100 ∧ decide (v ≥ (0 : Int)) = B (s ∈ l) := by
  unfold F69 F74
  rw [isOne hn (by simp)]; simp only [ats, keq]
  by_cases h : s ∈ ([⟨#[60]⟩, ⟨#[60, 61]⟩, ⟨#[62]⟩, ⟨#[62, 61]⟩, ⟨#[61, 61]⟩, ⟨#[33, 61]⟩, ⟨#[105, 110]⟩, ⟨#[105, 115]⟩] : List ByteArray)
  · rw [B_t h]
    exact ⟨5, _, rfl, rfl, by simp, by rw [B_t (by simp only [List.mem_cons, List.not_mem_nil, or_false] at h ⊢; rcases h with h | h | h | h | h | h | h | h <;> simp [h])]; rfl⟩
  rw [B_f h]; simp only [cf]
  by_cases h1 : s = ⟨#[43]⟩
  · rw [bp h1]; exact ⟨6, _, rfl, rfl, by simp, by rw [B_t (by simp [h1])]; rfl⟩
  rw [bn h1]
  by_cases h2 : s = ⟨#[45]⟩
  · rw [bp h2]; exact ⟨6, _, rfl, rfl, by simp, by rw [B_t (by simp [h2])]; rfl⟩
  rw [bn h2]
  by_cases h3 : s = ⟨#[42]⟩
  · rw [bp h3]; exact ⟨7, _, rfl, rfl, by simp, by rw [B_t (by simp [h3])]; rfl⟩
  rw [bn h3]
  by_cases h4 : s = ⟨#[47, 47]⟩
  · rw [bp h4]; exact ⟨7, _, rfl, rfl, by simp, by rw [B_t (by simp [h4])]; rfl⟩
  rw [bn h4]
  by_cases h5 : s = ⟨#[37]⟩
  · rw [bp h5]; exact ⟨7, _, rfl, rfl, by simp, by rw [B_t (by simp [h5])]; rfl⟩
  rw [bn h5]
  by_cases h6 : s = ⟨#[42, 42]⟩
  · rw [bp h6]; exact ⟨9, _, rfl, rfl, by simp, by rw [B_t (by simp [h6])]; rfl⟩
  rw [bn h6]
  refine ⟨-1, _, rfl, rfl, by simp, ?_⟩
  rw [B_f (by
    simp only [List.mem_cons, List.not_mem_nil, or_false, not_or] at h ⊢
    exact ⟨h1, h2, h3, h4, h5, h6, h.1, h.2.1, h.2.2.1, h.2.2.2.1, h.2.2.2.2.1, h.2.2.2.2.2.1, h.2.2.2.2.2.2.1, h.2.2.2.2.2.2.2⟩)]
  rfl

-- one expression, its kids aside -------------------------------------------------------------------------------------------------------
theorem shape {n : Nat} {e : Ex} (hn : 3000000 ≤ n) (h1 : e.text.size ≤ 1048576) (h2 : e.names.length ≤ 1048576) (h3 : ∀ s ∈ e.names, s.size ≤ 1048576) (h4 : e.kids.length ≤ 1048576) :
    ∃ b, F54 n e.kind e.text e.names e.kids = some (b, ()) ∧ F53 n e.kind e.text e.names e.kids = some (b, ()) := by
  obtain ⟨k, t, nm, ks⟩ := e
  simp only at h1 h2 h3 h4 ⊢
  unfold F54 F53 F54_1 F53_1 F54_0 F53_0
  have nI := nameI (n := n) (s := t) hn
  have nS := nameS (n := n) (s := t) hn h1
  have iI := intI (n := n) (s := t) hn h1
  have iS := intS (n := n) (s := t) hn h1
  have aI := allI (n := n) (l := nm) hn h2
  have oS := onceS (n := n) (l := nm) hn h2 h3
  obtain ⟨v, l, o1, o2, o3, o4⟩ := opL (n := n) (s := t) hn
  have cI := contI (n := n) (l := l) (s := t) hn (by omega)
  have r17 : F70 n (ks.length : Int) 1 7 = some (decide ((1 : Int) ≤ ks.length ∧ (ks.length : Int) ≤ 7), ()) := rangeS
  have r1 : decide ((1 : Int) ≤ ks.length ∧ (ks.length : Int) ≤ 7) = (decide ((ks.length : Int) ≥ 1) && decide ((ks.length : Int) ≤ 7)) := by
    rw [Bool.decide_and]
  have tx : F67 n t = some (decide ((t.size : Int) ≤ 400), ()) := rfl
  have f72 : ∀ a b : Int, F72 n a b t = (bif (b == a) then some (((t.toList) == (({ data := #[] } : ByteArray).toList)), ((b, ()), ((t, ()), ()))) else some (false, ((b, ()), ((t, ()), ())))) := fun a b => rfl
  have hpos : B (VI t) = true → decide ((0 : Int) < (t.size : Int)) = true := fun h => by
    have := VI_pos (B_iff.1 h)
    exact decide_eq_true (by omega)
  simp only [nI, nS, iI, iS, aI, oS, o1, o2, cI, r17, r1, tx, f72, ats, ← o4]
  generalize hVI : B (VI t) = bVI at *
  generalize B (NM t) = bNM
  generalize B (ON nm) = bON
  generalize decide (v ≥ 0) = bv
  generalize (t.toList == (({ data := #[] } : ByteArray).toList)) = bE
  generalize (t.toList == (({ data := #[45] } : ByteArray).toList)) = bM
  generalize (t.toList == (({ data := #[110, 111, 116] } : ByteArray).toList)) = bN
  generalize (t.toList == (({ data := #[97, 110, 100] } : ByteArray).toList)) = bA
  generalize (t.toList == (({ data := #[111, 114] } : ByteArray).toList)) = bO
  have m45 : (strOf t 0 != 45) = !(strOf t 0 == 45) := rfl
  generalize (strOf t 0 != 45) = bS
  generalize decide ((0 : Int) < (t.size : Int)) = bP at *
  generalize decide ((t.size : Int) ≤ 400) = b4
  have z0 : (((nm.length : Nat) : Int) > 0) ↔ nm.length > 0 := by omega
  generalize decide (((nm.length : Nat) : Int) > 0) = bL
  generalize decide (((nm.length : Nat) : Int) ≤ 6) = bL6
  generalize decide (((nm.length : Nat) : Int) < ((ks.length : Nat) : Int)) = bLK
  generalize ((((ks.length : Nat) : Int).tmod 2) == 0) = bT
  generalize decide (((ks.length : Nat) : Int) ≤ 6) = k6
  generalize decide (((ks.length : Nat) : Int) ≤ 12) = k12
  generalize decide (((ks.length : Nat) : Int) ≥ 1) = kg
  generalize decide (((ks.length : Nat) : Int) ≤ 7) = k7
  generalize (((ks.length : Nat) : Int) == 0) = e0
  generalize (((ks.length : Nat) : Int) == 1) = e1
  generalize (((ks.length : Nat) : Int) == 2) = e2
  generalize (((ks.length : Nat) : Int) == 3) = e3
  by_cases c13 : k = 13
  · subst c13
    cases bL <;> cases kg <;> cases k7 <;> cases bE <;> cases bLK <;> cases bON <;> exact ⟨_, rfl, rfl⟩
  by_cases c16 : k = 16
  · subst c16
    cases bL <;> cases e1 <;> cases bE <;> cases bL6 <;> cases bON <;> exact ⟨_, rfl, rfl⟩
  simp only [eqn c13, eqn c16, nep c13, nep c16, beq_eq_false_iff_ne.2 c16, Bool.not_false, ct]
  cases bL
  case true => exact ⟨_, rfl, rfl⟩
  simp only [cf]
  by_cases c1 : k = 1
  · subst c1; cases e0 <;> cases bE <;> exact ⟨_, rfl, rfl⟩
  by_cases c2 : k = 2
  · subst c2; cases e0 <;> cases bE <;> exact ⟨_, rfl, rfl⟩
  by_cases c3 : k = 3
  · subst c3; cases e0 <;> cases bE <;> exact ⟨_, rfl, rfl⟩
  simp only [eqn c1, eqn c2, beq_eq_false_iff_ne.2 c3, cf]
  by_cases c4 : k = 4
  · subst c4
    cases bVI
    · cases e0 <;> exact ⟨_, rfl, rfl⟩
    · have := hpos rfl
      subst this
      cases e0 <;> exact ⟨_, rfl, rfl⟩
  by_cases c5 : k = 5
  · subst c5; cases e0 <;> exact ⟨_, rfl, rfl⟩
  by_cases c6 : k = 6
  · subst c6; cases e0 <;> exact ⟨_, rfl, rfl⟩
  by_cases c7 : k = 7
  · subst c7; cases k6 <;> exact ⟨_, rfl, rfl⟩
  by_cases c8 : k = 8
  · subst c8; cases k12 <;> cases bT <;> exact ⟨_, rfl, rfl⟩
  by_cases c9 : k = 9
  · subst c9; cases e1 <;> cases bM <;> exact ⟨_, rfl, rfl⟩
  by_cases c10 : k = 10
  · subst c10; cases e2 <;> exact ⟨_, rfl, rfl⟩
  by_cases c11 : k = 11
  · subst c11; cases e2 <;> cases bA <;> exact ⟨_, rfl, rfl⟩
  by_cases c12 : k = 12
  · subst c12; cases e3 <;> exact ⟨_, rfl, rfl⟩
  by_cases c14 : k = 14
  · subst c14; cases e2 <;> exact ⟨_, rfl, rfl⟩
  by_cases c15 : k = 15
  · subst c15; cases e1 <;> exact ⟨_, rfl, rfl⟩
  by_cases c17 : k = 17
  · subst c17; cases e1 <;> exact ⟨_, rfl, rfl⟩
  simp only [eqn c4, eqn c5, eqn c6, eqn c7, eqn c8, eqn c9, eqn c10, eqn c11, eqn c12, eqn c14, eqn c15, eqn c17]
  exact ⟨_, rfl, rfl⟩
noncomputable def shp (n : Nat) (e : Ex) : Bool := match F53 n e.kind e.text e.names e.kids with | some r => r.1 | none => false
theorem shp_ok {n d : Nat} {e : Ex} (hn : 3000000 ≤ n) (h : Smx d e) : F54 n e.kind e.text e.names e.kids = some (shp n e, ()) ∧ F53 n e.kind e.text e.names e.kids = some (shp n e, ()) := by
  match d, h with
  | d + 1, ⟨a, b, c, f, g⟩ =>
    obtain ⟨v, e1, e2⟩ := shape (n := n) hn a b c f
    unfold shp; rw [e2]; exact ⟨e1, rfl⟩

-- valid --------------------------------------------------------------------------------------------------------------------------------
noncomputable def fit (n : Nat) : Nat → Ex → Bool
  | 0, _ => false
  | d + 1, e => shp n e && B (∀ k ∈ e.kids, fit n d k = true)
theorem kid_all {l : List Ex} {p : Ex → Prop} : (∀ j, 0 ≤ j → j < l.length → p (l.getD j (Ex.mk 0 ⟨#[]⟩ [] []))) ↔ ∀ k ∈ l, p k := by
  constructor
  · intro h k hk
    obtain ⟨j, hj, e⟩ := List.getElem_of_mem hk
    have := h j (by omega) hj
    rw [getD_lt hj, e] at this; exact this
  · intro h j _ hj; exact h _ (kid_mem hj)
open Classical in
theorem fitI_it {R : Type} {n k deep : Nat} {l : List Ex} {k0 : Bool → Option R} {k1 : Option R} (hd : deep ≤ 100) (hl : l.length ≤ 1048576) (hr : ∀ e ∈ l, (Q34it n k).1 e.kind e.text e.names e.kids deep = some (fit n deep e, ())) : ∀ (fuel i : Nat), i ≤ l.length → l.length + 1 ≤ fuel + i →
    F34b_0_it n (Q34it n k) k0 k1 fuel ((deep + 1 : Nat) : Int) l l.length i = if ∀ j, i ≤ j → j < l.length → fit n deep (l.getD j (Ex.mk 0 ⟨#[]⟩ [] [])) = true then k1 else k0 false
  | fuel, i, hi, hf => by
    obtain ⟨f, rfl⟩ : ∃ f, fuel = f + 1 := ⟨fuel - 1, by omega⟩
    simp only [F34b_0_it, F34b_0_step]
    by_cases g : i < l.length
    · have ih := fitI_it (R := R) (k0 := k0) (k1 := k1) hd hl hr f (i + 1) (by omega) (by omega)
      have e1 := all_step (p := fun j => fit n deep (l.getD j (Ex.mk 0 ⟨#[]⟩ [] [])) = true) g
      rw [bp (by omega), bp (by omega), bp (by omega), show ((i : Nat) : Int).toNat = i by omega, wp (x := ((deep + 1 : Nat) : Int) - 1) (by omega), show ((deep + 1 : Nat) : Int) - 1 = (deep : Int) by omega, hr _ (kid_mem g), wp (by omega)]
      simp only [ats]
      cases hv : fit n deep (l.getD i (Ex.mk 0 ⟨#[]⟩ [] []))
      · simp only [Bool.not_false, ct]
        rw [if_neg (fun h => by have := (e1.1 h).1; rw [hv] at this; cases this)]
      · simp only [Bool.not_true, cf]
        refine Eq.trans ih ?_
        by_cases h6 : ∀ j, i + 1 ≤ j → j < l.length → fit n deep (l.getD j (Ex.mk 0 ⟨#[]⟩ [] [])) = true
        · rw [if_pos h6, if_pos (e1.2 ⟨hv, h6⟩)]
        · rw [if_neg h6, if_neg (fun h => h6 (e1.1 h).2)]
    · rw [bn (by omega), if_pos (fun j h1 h2 => by omega)]
theorem fitI {n : Nat} (hn : 3000000 ≤ n) : ∀ (deep d k : Nat) (e : Ex), deep ≤ 100 → Smx d e → deep < k → (Q34it n k).1 e.kind e.text e.names e.kids deep = some (fit n deep e, ())
  | deep, d, k + 1, e, hd, hs, hk => by
    show F34b n (Q34it n k) e.kind e.text e.names e.kids deep = _
    unfold F34b
    match deep with
    | 0 => rw [bp (by omega)]; rfl
    | deep + 1 =>
      rw [bn (by omega), (shp_ok hn hs).1]; simp only [ats]
      match d, hs with
      | d + 1, ⟨a, b, c, f, g⟩ =>
        unfold fit
        cases hv : shp n e
        · rfl
        simp only [Bool.not_true, cf, Bool.true_and]
        unfold F34b_0
        have t := fitI_it (R := Bool × Unit) (n := n) (k := k) (deep := deep) (l := e.kids) (k0 := fun z => some (z, ())) (k1 := some (true, ())) (by omega) f (fun x hx => fitI hn deep d k x (by omega) (g x hx) (by omega)) n 0 (by omega) (by omega)
        rw [show ((0 : Nat) : Int) = 0 from rfl] at t
        rw [t]
        by_cases h : ∀ j, 0 ≤ j → j < e.kids.length → fit n deep (e.kids.getD j (Ex.mk 0 ⟨#[]⟩ [] [])) = true
        · rw [if_pos h, B_t (kid_all.1 h)]
        · rw [if_neg h, B_f (fun hh => h (kid_all.2 hh))]
open Classical in
theorem fitS_it {R : Type} {n k deep : Nat} {l : List Ex} {x : Int} {t : ByteArray} {nm : List ByteArray} {k0 : Bool → Option R} {k1 : Option R} (hd : deep ≤ 100) (hl : l.length ≤ 1048576) (hr : ∀ e ∈ l, (Q31it n k).1 e.kind e.text e.names e.kids deep = some (fit n deep e, ())) : ∀ (fuel i : Nat), i ≤ l.length → l.length + 1 ≤ fuel + i →
    F31b_0_it n (Q31it n k) k0 k1 fuel ((deep + 1 : Nat) : Int) i x t nm l = if ∀ j, i ≤ j → j < l.length → fit n deep (l.getD j (Ex.mk 0 ⟨#[]⟩ [] [])) = true then k1 else k0 false
  | fuel, i, hi, hf => by
    obtain ⟨f, rfl⟩ : ∃ f, fuel = f + 1 := ⟨fuel - 1, by omega⟩
    simp only [F31b_0_it, F31b_0_step]
    by_cases g : i < l.length
    · have ih := fitS_it (R := R) (x := x) (t := t) (nm := nm) (k0 := k0) (k1 := k1) hd hl hr f (i + 1) (by omega) (by omega)
      have e1 := all_step (p := fun j => fit n deep (l.getD j (Ex.mk 0 ⟨#[]⟩ [] [])) = true) g
      rw [bp (by omega), bp (by omega), bp (by omega), show ((i : Nat) : Int).toNat = i by omega, wp (x := ((deep + 1 : Nat) : Int) - 1) (by omega), show ((deep + 1 : Nat) : Int) - 1 = (deep : Int) by omega, hr _ (kid_mem g), wp (by omega)]
      simp only [ats]
      cases hv : fit n deep (l.getD i (Ex.mk 0 ⟨#[]⟩ [] []))
      · simp only [Bool.not_false, ct]
        rw [if_neg (fun h => by have := (e1.1 h).1; rw [hv] at this; cases this)]
      · simp only [Bool.not_true, cf]
        refine Eq.trans ih ?_
        by_cases h6 : ∀ j, i + 1 ≤ j → j < l.length → fit n deep (l.getD j (Ex.mk 0 ⟨#[]⟩ [] [])) = true
        · rw [if_pos h6, if_pos (e1.2 ⟨hv, h6⟩)]
        · rw [if_neg h6, if_neg (fun h => h6 (e1.1 h).2)]
    · rw [bn (by omega), if_pos (fun j h1 h2 => by omega)]
theorem fitS {n : Nat} (hn : 3000000 ≤ n) : ∀ (deep d k : Nat) (e : Ex), deep ≤ 100 → Smx d e → deep < k → (Q31it n k).1 e.kind e.text e.names e.kids deep = some (fit n deep e, ())
  | deep, d, k + 1, e, hd, hs, hk => by
    show F31b n (Q31it n k) e.kind e.text e.names e.kids deep = _
    unfold F31b
    match deep with
    | 0 => rw [bp (by omega)]; rfl
    | deep + 1 =>
      rw [bn (by omega), (shp_ok hn hs).2]; simp only [ats]
      match d, hs with
      | d + 1, ⟨a, b, c, f, g⟩ =>
        unfold fit
        cases hv : shp n e
        · rfl
        simp only [Bool.not_true, cf, Bool.true_and]
        unfold F31b_0
        have t := fitS_it (R := Bool × Unit) (n := n) (k := k) (deep := deep) (l := e.kids) (x := e.kind) (t := e.text) (nm := e.names) (k0 := fun z => some (z, ())) (k1 := some (true, ())) (by omega) f (fun x hx => fitS hn deep d k x (by omega) (g x hx) (by omega)) n 0 (by omega) (by omega)
        rw [show ((0 : Nat) : Int) = 0 from rfl] at t
        rw [t]
        by_cases h : ∀ j, 0 ≤ j → j < e.kids.length → fit n deep (e.kids.getD j (Ex.mk 0 ⟨#[]⟩ [] [])) = true
        · rw [if_pos h, B_t (kid_all.1 h)]
        · rw [if_neg h, B_f (fun hh => h (kid_all.2 hh))]
theorem okI {n d : Nat} {e : Ex} (hn : 3000000 ≤ n) (hs : Smx d e) : F12 n e.kind e.text e.names e.kids = some (fit n 7 e, ()) := by
  unfold F12 F34
  have := fitI hn 7 d n e (by omega) hs (by omega)
  rw [show ((7 : Nat) : Int) = 7 from rfl] at this
  rw [this]; rfl
theorem fitSS {n d : Nat} {e : Ex} (hn : 3000000 ≤ n) (hs : Smx d e) : F31 n e.kind e.text e.names e.kids 7 = some (fit n 7 e, ()) := by
  unfold F31
  exact fitS hn 7 d n e (by omega) hs (by omega)
theorem fit_kids {n d : Nat} {e : Ex} (h : fit n (d + 1) e = true) : ∀ k ∈ e.kids, fit n d k = true := by
  unfold fit at h
  rw [Bool.and_eq_true] at h
  exact B_iff.1 h.2
theorem fit_up {n : Nat} : ∀ {d : Nat} {e : Ex}, fit n d e = true → fit n (d + 1) e = true
  | 0, e, h => by cases h
  | d + 1, e, h => by
    have hk := fit_kids h
    unfold fit at h ⊢
    rw [Bool.and_eq_true] at h ⊢
    exact ⟨h.1, B_t fun k hkm => fit_up (hk k hkm)⟩

-- sizes --------------------------------------------------------------------------------------------------------------------------------
def szf : Nat → Ex → Int
  | 0, _ => 0
  | d + 1, e => e.kids.foldl (fun a k => IntKind.wrap .i64 (a + szf d k)) 1
theorem fold_step {l : List Ex} {i : Nat} {g : Ex → Int} {a : Int} (h : i < l.length) : (l.take (i + 1)).foldl (fun a k => IntKind.wrap .i64 (a + g k)) a = IntKind.wrap .i64 ((l.take i).foldl (fun a k => IntKind.wrap .i64 (a + g k)) a + g (l.getD i (Ex.mk 0 ⟨#[]⟩ [] []))) := by
  rw [List.take_succ_eq_append_getElem h, List.foldl_append, getD_lt h]; rfl
noncomputable def sizeR (n : Nat) (e : Ex) : Int := bif fit n 7 e then szf 7 e else 0
end Go.Proofs.Ytdfnlaikelijeaa.Am
