/- The abstract machine: steps. -/
import Derived.Test.YtjfmfpnnjgfffaaAmSem
namespace Go.Proofs.Ytjfmfpnnjgfffaa.Am
open Go
set_option autoImplicit false
set_option linter.unusedVariables false
set_option linter.unusedSectionVars false
set_option linter.unusedSimpArgs false

/-- what the callees are taken for -/
structure Tab (G : Sig) where
  call : (R : Type) → FuncId → List (AV G.T) → List (AObj G.T G.U) → (AV G.T → List (AObj G.T G.U) → Option R) → Option R

def Sm (G : Sig) : Type 1 := (R : Type) → St G → (AE → St G → Option R) → Option R

open Classical in
/-- both ways come to the same -/
noncomputable def both {R : Type} (x y : Option R) : Option R := if x = y then x else none
theorem both_inv {R : Type} {x y : Option R} {r : R} (h : both x y = some r) : x = some r ∧ y = some r := by
  unfold both at h
  split at h
  · rename_i e; exact ⟨h, e ▸ h⟩
  · cases h
theorem both_self {R : Type} (x : Option R) : both x x = x := if_pos rfl

noncomputable def ro (G : Sig) (S : Tab G) (fr : Nat → Sm G) (R : Type) : Out G (Option R) :=
  { fail := none, ite := fun b x y => cond b x y, both := both, lt := fun a K => K a, call := S.call R, frag := fun i => fr i R }

section
variable {P : Program} {G : Sig} {F : Nat → Prop} {c0 c c' : Cf G} {S : Tab G} {fr : Nat → Sm G} {R : Type}

mutual
theorem forceV_eq : ∀ (v : AV G.T) (K : AV G.T → Option R), forceV G (ro G S fr R) v K = K v
  | .lit v, K => by cases v <;> rfl
  | .nil0, K => rfl
  | .imm k xs, K => rfl
  | .own o, K => rfl
  | .pre o n, K => rfl
  | .suf o n, K => rfl
  | .ptr o a, K => rfl
  | .nsp o a, K => rfl
  | .elem o i a, K => rfl
  | .pel k x a, K => rfl
  | .agg cs, K => by simp only [forceV]; rw [forceVL_eq cs]
  | .tup cs, K => by simp only [forceV]; rw [forceVL_eq cs]
  | .clo f cs, K => by simp only [forceV]; rw [forceVL_eq cs]
  | .undef, K => rfl
  | .bl lo hi, K => rfl
  | .old k xs, K => rfl
  | .pol k x a, K => rfl
  | .ref o j, K => rfl
  | .jk o k xs, K => rfl
  | .jel o k x a, K => rfl
  | .zel o k i a, K => rfl
  | .sub o i t, K => rfl
  | .spe o k i t j a, K => rfl
theorem forceVL_eq : ∀ (l : List (AV G.T)) (K : List (AV G.T) → Option R), forceVL G (ro G S fr R) l K = K l
  | [], K => rfl
  | v :: l, K => by simp only [forceVL]; rw [forceV_eq v, forceVL_eq l]
end
theorem forceO_eq (x : AObj G.T G.U) (K : AObj G.T G.U → Option R) : forceO G (ro G S fr R) x K = K x := by
  cases x with
  | arr k xs w => cases w <;> rfl
  | box t cs => simp only [forceO]; rw [forceVL_eq]
  | usr u y => rfl
  | dead => rfl
  | free => rfl
theorem forceOL_eq : ∀ (l : List (AObj G.T G.U)) (K : List (AObj G.T G.U) → Option R), forceOL G (ro G S fr R) l K = K l
  | [], K => rfl
  | v :: l, K => by simp only [forceOL]; rw [forceO_eq v, forceOL_eq l]
theorem lsetK_eq {O α : Type} : ∀ (l : List α) (i : Nat) (a : α) (K : List α → O), lsetK l i a K = K (l.set i a)
  | [], i, a, K => by simp [lsetK]
  | b :: l, 0, a, K => rfl
  | b :: l, i + 1, a, K => by simp only [lsetK]; rw [lsetK_eq l]; rfl

theorem forceK_eq (σ : St G) (K : St G → Option R) : σ.forceK G (ro G S fr R) K = K σ := by
  unfold St.forceK; rw [forceVL_eq, forceOL_eq]
theorem appK_eq (σ : St G) (dst : Option Tmp) (nb : Nat) (r : OpRes G.T G.U) (K : St G → Option R) : σ.appK G (ro G S fr R) dst nb r K = K (σ.app G dst nb r) := by
  unfold St.appK St.app
  rw [forceV_eq, forceOL_eq]
  cases dst with
  | none => rfl
  | some t => simp only; rw [lsetK_eq]

def TabOK (P : Program) (G : Sig) (S : Tab G) : Prop :=
  ∀ (R : Type) f args objs K (r : R), S.call R f args objs K = some r → ∃ a objs', SoundCall P G f args objs a objs' ∧ K a objs' = some r



theorem ite_inv {b : Bool} {x : Option R} {r : R} (h : (ro G S fr R).ite b x (ro G S fr R).fail = some r) : b = true ∧ x = some r := by
  cases b
  · exact absurd h (by simp [ro])
  · exact ⟨rfl, h⟩

theorem runRd_inv (hS : TabOK P G S) {α : Type} {os : List (AObj G.T G.U)} {x : RdG G α} {r : R} : ∀ {log : List Nat} {K : α → List Nat → Option R}, runRd G (ro G S fr R) os x log K = some r →
    ∃ a l, Runs P G os x l a ∧ K a (log ++ l) = some r := by
  induction x with
  | pure a => intro log K h; exact ⟨a, [], .pure a, by simpa [runRd] using h⟩
  | fail => intro log K h; exact absurd h (by simp [runRd, ro])
  | test b k ih =>
    intro log K h
    obtain ⟨rfl, h⟩ := ite_inv h
    obtain ⟨a, l, h1, h2⟩ := ih h
    exact ⟨a, l, .test k l a h1, h2⟩
  | look o k ih =>
    intro log K h
    obtain ⟨a, l, h1, h2⟩ := ih _ h
    exact ⟨a, o :: l, .look o k l a h1, by simpa using h2⟩
  | call f args objs k ih =>
    intro log K h
    obtain ⟨a, objs', h1, h2⟩ := hS R f args objs _ r h
    obtain ⟨b, l, h3, h4⟩ := ih _ _ h2
    exact ⟨b, l, .call f args objs k a objs' l b h1 h3, h4⟩

def Wants (G : Sig) (ops : Array Oper) (o : Oper) (σ : St G) (b : Bool) (g : List Tmp) : Prop :=
  match o.guard with
  | none => b = true ∧ g = []
  | some (j, want) => ∃ d v, (ops[j]?).bind (·.dst) = some d ∧ σ.slots.getD d .undef = .lit v ∧ ((∃ e, v = .bool e ∧ (e == want) = b) ∨ ((∃ vs, v = .tuple vs) ∧ b = false)) ∧ g = [d]

/-- one operation, done -/
structure Step1 (P : Program) (G : Sig) (ops : Array Oper) (o : Oper) (nb : Nat) (σ σ' : St G) (fp : Fp) (b : Bool) (g : List Tmp) (l : List Nat) (r : OpRes G.T G.U) : Prop where
  wants : Wants G ops o σ b g
  yes : b = true → Runs P G σ.objs (opSem P G nb o (opnd G σ)) l r ∧ updOk σ.objs r.upd = true
  no : b = false → r = ⟨.lit Go.undef, [], []⟩ ∧ l = []
  next : σ' = σ.app G o.dst nb r
  fp : fp = fpOf G o g nb l r

theorem setLit_eq {O : Type} {σ : St G} {d : Tmp} {t : Bool} (h : σ.slots.getD d .undef = .lit (.bool t)) (K : St G → O) : setLit G σ d t K = K σ := by
  unfold setLit
  rw [lsetK_eq]
  have : σ.slots.set d (.lit (.bool t)) = σ.slots := by
    apply List.ext_getElem?
    intro i
    by_cases e : d = i
    · subst e
      by_cases hd : d < σ.slots.length
      · rw [List.getElem?_set_self hd]
        simp [List.getD, hd] at h
        simp [hd, h]
      · simp [List.getD, List.getElem?_eq_none (Nat.le_of_not_lt hd)] at h
    · rw [List.getElem?_set_ne e]
  rw [this]

theorem ite_true {x y : Option R} {r : R} (h : (ro G S fr R).ite true x y = some r) : x = some r := h
theorem ite_false {x y : Option R} {r : R} (h : (ro G S fr R).ite false x y = some r) : y = some r := h

theorem op1_inv (hS : TabOK P G S) {ops : Array Oper} {o : Oper} {nb : Nat} {σ : St G} {K : St G → Fp → Option R} {r : R} (h : op1 P G (ro G S fr R) ops o nb σ K = some r) :
    ∃ σ' fp b g l q, Step1 P G ops o nb σ σ' fp b g l q ∧ K σ' fp = some r := by
  have go : ∀ g, Wants G ops o σ true g → (runRd G (ro G S fr R) σ.objs (opSem P G nb o (opnd G σ)) [] fun r log => if updOk σ.objs r.upd = true then σ.appK G (ro G S fr R) o.dst nb r fun σ' => K σ' (fpOf G o g nb log r) else (ro G S fr R).fail) = some r →
      ∃ σ' fp b g l q, Step1 P G ops o nb σ σ' fp b g l q ∧ K σ' fp = some r := by
    intro g hg h
    obtain ⟨q, l, h1, h2⟩ := runRd_inv hS h
    split at h2
    · rename_i hu
      rw [appK_eq] at h2
      exact ⟨_, _, true, g, l, q, ⟨hg, fun _ => ⟨h1, hu⟩, fun e => by simp at e, rfl, rfl⟩, by simpa using h2⟩
    · exact absurd h2 (by simp [ro])
  have goP : ∀ g, Wants G ops o σ true g → (match o.op with
    | .pick (.tmp d) _ _ => (match σ.slots.getD d .undef with
      | .lit (.bool c) => (ro G S fr R).ite c (setLit G σ d true (fun σ => runRd G (ro G S fr R) σ.objs (opSem P G nb o (opnd G σ)) [] fun r log => if updOk σ.objs r.upd = true then σ.appK G (ro G S fr R) o.dst nb r fun σ' => K σ' (fpOf G o g nb log r) else (ro G S fr R).fail))
          (setLit G σ d false (fun σ => runRd G (ro G S fr R) σ.objs (opSem P G nb o (opnd G σ)) [] fun r log => if updOk σ.objs r.upd = true then σ.appK G (ro G S fr R) o.dst nb r fun σ' => K σ' (fpOf G o g nb log r) else (ro G S fr R).fail))
      | _ => (ro G S fr R).fail)
    | _ => runRd G (ro G S fr R) σ.objs (opSem P G nb o (opnd G σ)) [] fun r log => if updOk σ.objs r.upd = true then σ.appK G (ro G S fr R) o.dst nb r fun σ' => K σ' (fpOf G o g nb log r) else (ro G S fr R).fail) = some r →
      ∃ σ' fp b g l q, Step1 P G ops o nb σ σ' fp b g l q ∧ K σ' fp = some r := by
    intro g hg h
    split at h
    · rename_i d x y ho
      split at h
      · rename_i c hc
        cases c
        · rw [setLit_eq hc] at h; exact go g hg h
        · rw [setLit_eq hc] at h; exact go g hg h
      · exact absurd h (by simp [ro])
    · exact go g hg h
  have skip : ∀ d, Wants G ops o σ false [d] → (σ.appK G (ro G S fr R) o.dst nb ⟨.lit Go.undef, [], []⟩ fun σ' => K σ' (fpOf G o [d] nb [] ⟨.lit Go.undef, [], []⟩)) = some r →
      ∃ σ' fp b g l q, Step1 P G ops o nb σ σ' fp b g l q ∧ K σ' fp = some r := by
    intro d hg h
    rw [appK_eq] at h
    exact ⟨_, _, false, [d], [], _, ⟨hg, fun e => by simp at e, fun _ => ⟨rfl, rfl⟩, rfl, rfl⟩, h⟩
  unfold op1 at h
  cases hgd : o.guard with
  | none =>
    simp only [hgd] at h
    exact goP [] (by simp [Wants, hgd]) h
  | some p =>
    obtain ⟨j, want⟩ := p
    simp only [hgd] at h
    split at h
    · exact absurd h (by simp [ro])
    · rename_i d hd
      split at h
      · rename_i e he
        have hw : ∀ b, (e == want) = b → Wants G ops o σ b [d] := fun b hb => by
          simp only [Wants, hgd]; exact ⟨d, _, hd, he, .inl ⟨e, rfl, hb⟩, rfl⟩
        cases want <;> cases e
        · replace h := ite_false h
          rw [setLit_eq he] at h; exact goP [d] (hw true rfl) h
        · replace h := ite_true h
          rw [setLit_eq he] at h; exact skip d (hw false rfl) h
        · replace h := ite_false h
          rw [setLit_eq he] at h; exact skip d (hw false rfl) h
        · replace h := ite_true h
          rw [setLit_eq he] at h; exact goP [d] (hw true rfl) h
      · rename_i vs he
        exact skip d (by simp only [Wants, hgd]; exact ⟨d, _, hd, he, .inr ⟨⟨vs, rfl⟩, trivial⟩, rfl⟩) h
      · exact absurd h (by simp [ro])

-- the state and the world --------------------------------------------------------------------------------------------------
structure Rel (P : Program) (G : Sig) (F : Nat → Prop) (c0 : Cf G) (σ : St G) (a : Act) (c : Cf G) : Prop where
  objs : c.os = σ.objs
  slots : Slots P G F c σ.slots a
  defers : a.defers = []
  ok : OK P G F (Nof c0) c
  tr : Tr G F c0 c

def padC (c : Cf G) (n : Nat) : Cf G := ⟨c.w, c.m ++ List.replicate (n - c.os.length) ⟨none, 0, [], {}⟩, padTo c.os n⟩

theorem padTo_get {T U : Nat → Type} {os : List (AObj T U)} {n o : Nat} {x : AObj T U} (h : (padTo os n)[o]? = some x) : os[o]? = some x ∨ (os.length ≤ o ∧ x = .free) := by
  unfold padTo at h
  rw [List.getElem?_append] at h
  split at h
  · exact .inl h
  · rename_i hh
    rw [List.getElem?_replicate] at h
    split at h
    · exact .inr ⟨by omega, (Option.some.inj h).symm⟩
    · cases h
theorem padTo_lt {T U : Nat → Type} {os : List (AObj T U)} {n o : Nat} (h : o < os.length) : (padTo os n)[o]? = os[o]? := by
  unfold padTo; rw [List.getElem?_append_left h]
theorem padTo_getD {T U : Nat → Type} {os : List (AObj T U)} {n o : Nat} : (padTo os n).getD o .free = os.getD o .free := by
  by_cases h : o < os.length
  · simp only [List.getD, padTo_lt h]
  · have h1 : os[o]? = none := List.getElem?_eq_none (by omega)
    simp only [List.getD, h1]
    cases h2 : (padTo os n)[o]? with
    | none => rfl
    | some x =>
      rcases padTo_get h2 with h3 | ⟨_, rfl⟩
      · rw [h1] at h3; cases h3
      · rfl
theorem padTo_len {T U : Nat → Type} {os : List (AObj T U)} {n : Nat} : (padTo os n).length = max os.length n := by
  unfold padTo; simp; omega
theorem padTo_free {T U : Nat → Type} {os : List (AObj T U)} {n o : Nat} (h1 : os.length ≤ o) (h2 : o < n) : (padTo os n)[o]? = some .free := by
  unfold padTo; rw [List.getElem?_append_right h1, List.getElem?_replicate, if_pos (by omega)]
theorem padTo_self {T U : Nat → Type} {os : List (AObj T U)} {n : Nat} (h : n ≤ os.length) : padTo os n = os := by
  unfold padTo; rw [Nat.sub_eq_zero_of_le h]; simp

theorem pad_inv {N : Nat → Prop} (ok : OK P G F N c) {n o : Nat} {x : AObj G.T G.U} {β : Blk} (h1 : (padC c n).os[o]? = some x) (h2 : (padC c n).m[o]? = some β) : x = .free ∨ (c.os[o]? = some x ∧ c.m[o]? = some β) := by
  rcases padTo_get h1 with h3 | ⟨_, rfl⟩
  · right
    have hlt : o < c.m.length := by rw [ok.len]; exact (List.getElem?_eq_some_iff.1 h3).1
    unfold padC at h2
    simp only at h2
    rw [List.getElem?_append_left hlt] at h2
    exact ⟨h3, h2⟩
  · exact .inl rfl

theorem pad_tr {N : Nat → Prop} (ok : OK P G F N c) (n : Nat) : Tr G F c (padC c n) where
  sys := ⟨rfl, rfl, rfl⟩
  size := Nat.le_refl _
  keep := fun _ _ _ => rfl
  ext := fun o obj ho hf => by
    have hlt := (List.getElem?_eq_some_iff.1 ho).1
    refine ⟨obj, by show (padTo c.os n)[o]? = _; rw [padTo_lt hlt]; exact ho, ?_⟩
    by_cases hd : obj = .dead
    · exact .inl hd
    · refine .inr ⟨Same.refl_live' hd hf, ?_⟩
      refine .inl ?_
      show (c.m ++ _)[o]? = _
      rw [List.getElem?_append_left (by rw [ok.len]; exact hlt)]
  mv := fun b hb h => by
    obtain ⟨o, obj, β, h1, h2, h3, h4⟩ := h
    rcases pad_inv ok h1 h2 with rfl | ⟨h5, h6⟩
    · simp [isMut] at h3
    · exact ⟨o, obj, β, h5, h6, h3, h4⟩
  fz := fun _ h => h
  lv := fun b hb h => by
    obtain ⟨o, obj, β, h1, h2, h3, h4⟩ := h
    rcases pad_inv ok h1 h2 with rfl | ⟨h5, h6⟩
    · simp [isLive] at h3
    · exact ⟨o, obj, β, h5, h6, h3, h4⟩

theorem pad_ok {N : Nat → Prop} (ok : OK P G F N c) (n : Nat) : OK P G F N (padC c n) where
  len := by unfold padC padTo; simp [ok.len]
  obj := fun o obj β h1 h2 => by
    rcases pad_inv ok h1 h2 with rfl | ⟨h5, h6⟩
    · trivial
    · exact (ok.obj o obj β h5 h6).mono (pad_tr ok n) fun _ _ _ => rfl
  own := fun o obj β h1 h2 hl => by
    rcases pad_inv ok h1 h2 with rfl | ⟨h5, h6⟩
    · simp [isLive] at hl
    · exact ok.own o obj β h5 h6 hl
  wr := fun o obj β h1 h2 hl => by
    rcases pad_inv ok h1 h2 with rfl | ⟨h5, h6⟩
    · simp [isMut] at hl
    · exact ok.wr o obj β h5 h6 hl
  apart := fun o o' x x' β β' h1 h2 h3 h4 hl hl' hne => by
    rcases pad_inv ok h1 h3 with rfl | ⟨h5, h6⟩
    · simp [isLive] at hl
    · rcases pad_inv ok h2 h4 with rfl | ⟨h7, h8⟩
      · simp [isLive] at hl'
      · exact ok.apart o o' x x' β β' h5 h7 h6 h8 hl hl' hne
  low := ok.low
  gl := ok.gl.step (pad_tr (F := F) ok n)

theorem Rel.pad {σ : St G} {a : Act} (h : Rel P G F c0 σ a c) (n : Nat) : Rel P G F c0 ⟨σ.slots, padTo σ.objs n⟩ a (padC c n) where
  objs := by show padTo c.os n = padTo σ.objs n; rw [h.objs]
  slots := ⟨h.slots.1, fun t d v hd hv => (h.slots.2 t d v hd hv).mono (pad_tr h.ok n)⟩
  defers := h.defers
  ok := pad_ok h.ok n
  tr := h.tr.trans h.ok (pad_tr h.ok n)

theorem Runs.congr {α : Type} {os os' : List (AObj G.T G.U)} {x : RdG G α} {l : List Nat} {a : α} (h : Runs P G os x l a) (he : ∀ o ∈ l, os'.getD o .free = os.getD o .free) : Runs P G os' x l a := by
  induction h with
  | pure a => exact .pure a
  | test k l a h ih => exact .test k l a (ih he)
  | look o k l a h ih =>
    have h1 := he o (by simp)
    have h2 := ih fun o ho => he o (by simp [ho])
    rw [← h1] at h2
    exact .look o k l a h2
  | call f args objs k r objs' l a hs h ih => exact .call f args objs k r objs' l a hs (ih he)

theorem slots_put {N : Nat → Prop} {ss : List (AV G.T)} {a : Act} {dst : Option Tmp} {d : AV G.T} {v : Value} (h : Slots P G F c ss a) (t : Tr G F c c') (hv : VR P G F c' d v) :
    Slots P G F c' (match dst with | some t => ss.set t d | none => ss) (a.put dst v) := by
  cases dst with
  | none => exact ⟨h.1, fun t' d' v' hd' hv' => (h.2 t' d' v' hd' hv').mono t⟩
  | some q =>
    refine ⟨by simp [Act.put, h.1], fun t' d' v' hd' hv' => ?_⟩
    simp only [Act.put] at hv'
    by_cases e : t' = q
    · subst e
      have hlt : t' < ss.length := by have := (List.getElem?_eq_some_iff.1 hd').1; simpa using this
      rw [List.getElem?_set_self hlt] at hd'
      rw [Array.getElem?_setIfInBounds_self] at hv'
      rw [if_pos (by rw [← h.1]; exact hlt)] at hv'
      cases hd'; cases hv'; exact hv
    · rw [List.getElem?_set_ne (Ne.symm e)] at hd'
      rw [Array.getElem?_setIfInBounds_ne (Ne.symm e)] at hv'
      exact (h.2 t' d' v' hd' hv').mono t

theorem wants_real {ops : Array Oper} {o : Oper} {σ : St G} {a : Act} {b : Bool} {g : List Tmp} (h : Wants G ops o σ b g) (sl : Slots P G F c σ.slots a) : Region.wanted o (yielded ops a.tmps) = b := by
  unfold Wants at h
  unfold Region.wanted
  cases hg : o.guard with
  | none => rw [hg] at h; exact h.1.symm
  | some p =>
    obtain ⟨j, want⟩ := p
    rw [hg] at h
    obtain ⟨d, u, h1, h2, h3, -⟩ := h
    have hs : σ.slots[d]? = some (.lit u) := by
      rw [List.getD] at h2
      cases hh : σ.slots[d]? with
      | none => rw [hh] at h2; simp at h2
      | some x => rw [hh] at h2; simp at h2; rw [h2]
    have hlt : d < a.tmps.size := by rw [← sl.1]; exact (List.getElem?_eq_some_iff.1 hs).1
    have ht : a.tmps[d]? = some a.tmps[d] := by simp [hlt]
    have hv := (sl.2 d _ _ hs ht).lit_inv
    simp only [yielded, h1, Option.bind_some, ht, hv]
    rcases h3 with ⟨e, rfl, h3⟩ | ⟨⟨vs, rfl⟩, rfl⟩
    · rw [← h3]; rfl
    · rfl

/-- one operation, in the world -/
theorem step1_sound (L : Laws P G) (FN : FnOK P G) {ops : Array Oper} {i : Nat} {o : Oper} {nb : Nat} {σ σ' : St G} {fp : Fp} {b : Bool} {g : List Tmp} {l : List Nat} {r : OpRes G.T G.U} {a : Act} (hi : ops[i]? = some o)
    (st : Step1 P G ops o nb σ σ' fp b g l r) (rel : Rel P G F c0 σ a c) (hnb : nb ≤ (padTo σ.objs (nb + r.new.length)).length) (hfree : ∀ i, i < r.new.length → (padTo σ.objs (nb + r.new.length))[nb + i]? = some .free)
    {K : Act → World → Prop} {Q : Exit → Act → World → Prop} (hK : ∀ a' c', Rel P G F c0 σ' a' c' → K a' c'.w) : wpOp P ops Q i K a c.w := by
  have hw := wants_real st.wants rel.slots
  unfold wpOp
  rw [hi]
  simp only [hw]
  have rp := rel.pad (nb + r.new.length)
  cases b with
  | false =>
    obtain ⟨rfl, rfl⟩ := st.no rfl
    simp only [Bool.false_eq_true, if_false]
    refine hK _ (padC c (nb + 0)) ?_
    rw [st.next]
    exact { objs := rp.objs, slots := slots_put (N := Nof c0) rp.slots (Tr.refl F _) (.lit _), defers := by cases hd : o.dst <;> simp [Act.put, rel.defers], ok := rp.ok, tr := rp.tr }
  | true =>
    obtain ⟨hr, -⟩ := st.yes rfl
    simp only [if_true]
    left
    have hr' : Runs P G (padC c (nb + r.new.length)).os (opSem P G nb o (opnd G ⟨σ.slots, σ.objs⟩)) l r := by
      refine hr.congr fun q _ => ?_
      show (padTo c.os _).getD q .free = _
      rw [padTo_getD, rel.objs]
    have hob : (padC c (nb + r.new.length)).os = padTo σ.objs (nb + r.new.length) := by show padTo c.os _ = _; rw [rel.objs]
    refine opSem_ok (c := padC c (nb + r.new.length)) L FN rp.ok (by rw [hob]; exact hnb) (by rw [hob]; exact hfree) rp.slots hr' K Q fun v w' m' t ok hv => ?_
    refine hK _ ⟨w', m', addObjs (setObjs (padC c (nb + r.new.length)).os r.upd) nb r.new⟩ ?_
    rw [st.next]
    exact { objs := by show addObjs (setObjs (padTo c.os _) r.upd) nb r.new = addObjs (setObjs (padTo σ.objs _) r.upd) nb r.new; rw [rel.objs], slots := slots_put (N := Nof c0) rp.slots t hv, defers := by cases hd : o.dst <;> simp [Act.put, rel.defers], ok := ok, tr := rp.tr.trans rp.ok t }

theorem opsRun_sound (L : Laws P G) (FN : FnOK P G) (hS : TabOK P G S) {ops : Array Oper} {K : St G → Option R} {r : R} {Q : Exit → Act → World → Prop} : ∀ {l : List Oper} {pre : List Oper} {σ : St G} {a : Act} {c : Cf G},
    opsRun P G (ro G S fr R) ops l σ K = some r → ops.toList = pre ++ l → Rel P G F c0 σ a c → (∀ σ' a' c', Rel P G F c0 σ' a' c' → K σ' = some r → Q .normal a' c'.w) →
    wpOps P ops Q (List.range' pre.length l.length) a c.w
  | [], pre, σ, a, c, h, _, rel, hQ => by
    simp only [List.length_nil, List.range'_zero, wpOps]
    exact hQ σ a c rel h
  | o :: l, pre, σ, a, c, h, hl, rel, hQ => by
    simp only [opsRun] at h
    obtain ⟨σ', fp, b, g, lg, q, st, h'⟩ := op1_inv hS h
    have hi : ops[pre.length]? = some o := by
      rw [← Array.getElem?_toList, hl]; simp
    simp only [List.length_cons, List.range'_succ]
    rw [wpOps_cons]
    refine step1_sound L FN hi st rel (by rw [padTo_len]; omega) (fun i hi => padTo_free (by omega) (by omega)) fun a' c' rel' => ?_
    have := opsRun_sound L FN hS (pre := pre ++ [o]) h' (by rw [hl]; simp) rel' hQ
    simpa using this

end
end Go.Proofs.Ytjfmfpnnjgfffaa.Am
