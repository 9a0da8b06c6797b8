/- The abstract machine: regions that draw their order. -/
import Derived.Test.YtjfmfpnnjgfffaaAmStep
namespace Go.Proofs.Ytjfmfpnnjgfffaa.Am
open Go
set_option autoImplicit false
set_option linter.unusedVariables false
set_option linter.unusedSectionVars false
set_option linter.unusedSimpArgs false

section
variable {P : Program} {G : Sig} {F : Nat → Prop} {c0 c c' : Cf G}

theorem opSem_congr {nb : Nat} {o : Oper} {ρ ρ' : Operand → AV G.T} (h : ∀ x ∈ o.op.operands.toList, ρ x = ρ' x) : opSem P G nb o ρ = opSem P G nb o ρ' := by
  unfold opSem
  cases ho : o.op <;> simp only [ho, Op.operands, Call.operands] at h ⊢
  case build t ps =>
    have : (ps.toList.map fun p => (p.1, ρ p.2)) = ps.toList.map fun p => (p.1, ρ' p.2) := List.map_congr_left fun p hp => by
      rw [h p.2 (by simp only [List.mem_map]; exact ⟨p, hp, rfl⟩)]
    rw [this]
  case buildSlice t n ps =>
    have : (ps.toList.map fun p => (p.1, ρ p.2)) = ps.toList.map fun p => (p.1, ρ' p.2) := List.map_congr_left fun p hp => by
      rw [h p.2 (by simp only [List.mem_map]; exact ⟨p, hp, rfl⟩)]
    rw [this]
  case makeFunc fn first cap =>
    have : (cap.toList.map ρ) = cap.toList.map ρ' := List.map_congr_left fun p hp => h p (by simp [hp])
    rw [this]
  case slice t x lo hi mx =>
    have h0 := h x (by simp)
    have h1 : lo.map ρ = lo.map ρ' := by cases lo <;> simp_all
    have h2 : hi.map ρ = hi.map ρ' := by cases hi <;> simp_all
    have h3 : mx.map ρ = mx.map ρ' := by cases mx <;> simp_all
    rw [h0, h1, h2, h3]
  case call cl =>
    have ha : ∀ x ∈ cl.args.toList, ρ x = ρ' x := fun x hx => h x (by simp at hx ⊢; exact .inr hx)
    have hm : (cl.args.toList.map ρ) = cl.args.toList.map ρ' := List.map_congr_left ha
    split
    · rename_i f hc
      have hf : ρ f = ρ' f := h f (by simp [hc])
      rw [hf, hm]
    · split
      · rename_i hx _
        rw [ha _ (by simp [hx])]
      · rfl
    · split
      · rename_i hx _
        rw [ha _ (by simp [hx]), ha _ (by simp [hx])]
      · rfl
    · split
      · rename_i hx _
        rw [ha _ (by simp [hx])]
      · rfl
    · split
      · rename_i hx _
        rw [ha _ (by simp [hx])]
      · rfl
    · rw [hm]
    · rw [hm]
    · rfl
  all_goals first
    | rfl
    | (simp at h; simp only [h]; done)
    | (obtain ⟨h1, h2⟩ : _ ∧ _ := by simpa using h; simp only [h1, h2]; done)
    | (simp at h; obtain ⟨h1, h2, h3⟩ := h; simp only [h1, h2, h3]; done)

theorem opnd_congr {ss ss' : List (AV G.T)} {os os' : List (AObj G.T G.U)} {o : Oper} (h : ∀ t ∈ tmpsOf o, ss.getD t .undef = ss'.getD t .undef) : ∀ x ∈ o.op.operands.toList, opnd G ⟨ss, os⟩ x = opnd G ⟨ss', os'⟩ x := by
  intro x hx
  cases x with
  | tmp t =>
    have : t ∈ tmpsOf o := by
      simp only [tmpsOf, List.mem_filterMap]
      exact ⟨.tmp t, hx, rfl⟩
    exact h t this
  | const v => rfl
  | global g => rfl
  | func f => rfl

theorem disj_spec {a b : List Nat} (h : disj a b = true) : ∀ x ∈ a, x ∉ b := by
  intro x hx
  have := List.all_eq_true.1 h x hx
  cases hm : lmem x b
  · exact lmem_false hm
  · rw [hm] at this; cases this

-- changing objects in two orders -----------------------------------------------------------------------------------------------
def num {T U : Nat → Type} : Nat → List (AObj T U) → List (Nat × AObj T U)
  | _, [] => []
  | n, x :: l => (n, x) :: num (n + 1) l
theorem addObjs_num {T U : Nat → Type} : ∀ {l : List (AObj T U)} {os : List (AObj T U)} {nb : Nat}, addObjs os nb l = setObjs os (num nb l)
  | [], os, nb => rfl
  | x :: l, os, nb => by simp only [addObjs, num, setObjs]; exact addObjs_num
theorem num_fst {T U : Nat → Type} : ∀ {l : List (AObj T U)} {nb : Nat} {p : Nat × AObj T U}, p ∈ num nb l → p.1 ∈ List.range' nb l.length
  | [], nb, p, h => by simp [num] at h
  | x :: l, nb, p, h => by
    simp only [num, List.mem_cons] at h
    simp only [List.length_cons, List.range'_succ, List.mem_cons]
    rcases h with rfl | h
    · exact .inl rfl
    · exact .inr (num_fst h)
theorem setObj_comm {T U : Nat → Type} {os : List (AObj T U)} {a b : Nat} {x y : AObj T U} (h : a ≠ b) : setObj (setObj os a x) b y = setObj (setObj os b y) a x := List.set_comm _ _ h
theorem setObjs_one_comm {T U : Nat → Type} : ∀ {B : List (Nat × AObj T U)} {os : List (AObj T U)} {a : Nat} {x : AObj T U}, (∀ q ∈ B, a ≠ q.1) → setObjs (setObj os a x) B = setObj (setObjs os B) a x
  | [], os, a, x, _ => rfl
  | (b, y) :: B, os, a, x, h => by
    simp only [setObjs]
    rw [setObj_comm (h (b, y) (by simp)), setObjs_one_comm fun q hq => h q (by simp [hq])]
theorem setObjs_comm {T U : Nat → Type} : ∀ {A B : List (Nat × AObj T U)} {os : List (AObj T U)}, (∀ p ∈ A, ∀ q ∈ B, p.1 ≠ q.1) → setObjs (setObjs os A) B = setObjs (setObjs os B) A
  | [], B, os, _ => rfl
  | (a, x) :: A, B, os, h => by
    simp only [setObjs]
    rw [setObjs_comm fun p hp q hq => h p (by simp [hp]) q hq, setObjs_one_comm fun q hq => h (a, x) (by simp) q hq]

/-- all that an operation changes -/
def chg (nb : Nat) (r : OpRes G.T G.U) : List (Nat × AObj G.T G.U) := r.upd ++ num nb r.new
theorem chg_fst {nb : Nat} {r : OpRes G.T G.U} {p : Nat × AObj G.T G.U} (h : p ∈ chg nb r) : p.1 ∈ r.upd.map (·.1) ++ List.range' nb r.new.length := by
  rcases List.mem_append.1 h with h | h
  · exact List.mem_append.2 (.inl (List.mem_map.2 ⟨p, h, rfl⟩))
  · exact List.mem_append.2 (.inr (num_fst h))
theorem app_eq {σ : St G} {dst : Option Tmp} {nb : Nat} {r : OpRes G.T G.U} (h : nb + r.new.length ≤ σ.objs.length) : σ.app G dst nb r = ⟨match dst with | some d => σ.slots.set d r.d | none => σ.slots, setObjs σ.objs (chg nb r)⟩ := by
  unfold St.app chg
  rw [padTo_self h, addObjs_num, setObjs_append]
  cases dst <;> rfl

theorem updOk_spec {os : List (AObj G.T G.U)} : ∀ {u : List (Nat × AObj G.T G.U)}, updOk os u = true → ∀ p ∈ u, os.getD p.1 .free ≠ .free
  | [], _, p, h => by simp at h
  | (o, x) :: u, h, p, hp => by
    simp only [updOk] at h
    split at h
    · cases h
    · rename_i hne
      rcases List.mem_cons.1 hp with rfl | hp
      · exact fun e => hne e
      · exact updOk_spec h p hp
theorem updOk_mk {os : List (AObj G.T G.U)} : ∀ {u : List (Nat × AObj G.T G.U)}, (∀ p ∈ u, os.getD p.1 .free ≠ .free) → updOk os u = true
  | [], _ => rfl
  | (o, x) :: u, h => by
    have h0 := h (o, x) (by simp)
    have ih : updOk os u = true := updOk_mk fun p hp => h p (by simp [hp])
    simp only [updOk]
    cases hh : os.getD o .free <;> simp_all

theorem setObjs_getD {os : List (AObj G.T G.U)} {u : List (Nat × AObj G.T G.U)} {o : Nat} (h : ∀ p ∈ u, p.1 ≠ o) : (setObjs os u).getD o .free = os.getD o .free := by
  simp only [List.getD]; rw [setObjs_other h]

theorem fpIndep_spec {a b : Fp} (h : fpIndep a b = true) : (∀ x ∈ a.dst, x ∉ b.ops) ∧ (∀ x ∈ b.dst, x ∉ a.ops) ∧ (∀ x ∈ a.dst, x ∉ b.dst) ∧ (∀ x ∈ a.writes, x ∉ b.reads) ∧ (∀ x ∈ a.writes, x ∉ b.writes) ∧ (∀ x ∈ b.writes, x ∉ a.reads) := by
  unfold fpIndep at h
  simp only [Bool.and_eq_true] at h
  obtain ⟨⟨⟨⟨⟨h1, h2⟩, h3⟩, h4⟩, h5⟩, h6⟩ := h
  exact ⟨disj_spec h1, disj_spec h2, disj_spec h3, disj_spec h4, disj_spec h5, disj_spec h6⟩

theorem wants_ops {ops : Array Oper} {o : Oper} {σ : St G} {b : Bool} {g : List Tmp} {σ' : St G} (h : Wants G ops o σ b g) (he : ∀ t ∈ g, σ'.slots.getD t .undef = σ.slots.getD t .undef) : Wants G ops o σ' b g := by
  unfold Wants at h ⊢
  cases hg : o.guard with
  | none => rw [hg] at h; exact h
  | some p =>
    rw [hg] at h
    obtain ⟨d, e, h1, h2, h3, rfl⟩ := h
    exact ⟨d, e, h1, by rw [he d (by simp)]; exact h2, h3, rfl⟩

/-- what a step changes does not matter to another one -/
theorem Step1.at_ {ops : Array Oper} {o : Oper} {nb : Nat} {σ σ1 : St G} {fp : Fp} {b : Bool} {g : List Tmp} {l : List Nat} {r : OpRes G.T G.U} (st : Step1 P G ops o nb σ σ1 fp b g l r) {τ : St G}
    (hs : ∀ t ∈ fp.ops, τ.slots.getD t .undef = σ.slots.getD t .undef) (ho : ∀ n ∈ fp.reads, τ.objs.getD n .free = σ.objs.getD n .free) (hw : ∀ n ∈ r.upd.map (·.1), τ.objs.getD n .free = σ.objs.getD n .free) :
    Step1 P G ops o nb τ (τ.app G o.dst nb r) fp b g l r := by
  have hfp := st.fp
  subst hfp
  have hs : ∀ t ∈ g ++ tmpsOf o, τ.slots.getD t .undef = σ.slots.getD t .undef := hs
  have ho : ∀ n ∈ l, τ.objs.getD n .free = σ.objs.getD n .free := ho
  refine ⟨wants_ops st.wants fun t ht => hs t (List.mem_append.2 (.inl ht)), fun hb => ?_, st.no, rfl, rfl⟩
  obtain ⟨h1, h2⟩ := st.yes hb
  have e : opSem P G nb o (opnd G τ) = opSem P G nb o (opnd G σ) := opSem_congr (opnd_congr fun t ht => hs t (List.mem_append.2 (.inr ht)))
  refine ⟨by rw [e]; exact h1.congr ho, updOk_mk fun p hp => ?_⟩
  rw [hw p.1 (List.mem_map.2 ⟨p, hp, rfl⟩)]
  exact updOk_spec h2 p hp

theorem getD_set_ne {α : Type} {l : List α} {i j : Nat} {x d : α} (h : i ≠ j) : (l.set i x).getD j d = l.getD j d := by
  simp only [List.getD, List.getElem?_set_ne h]

theorem Step1.diamond {ops : Array Oper} {o1 o2 : Oper} {n1 n2 : Nat} {σ σa σb : St G} {f1 f2 : Fp} {b1 b2 : Bool} {g1 g2 : List Tmp} {l1 l2 : List Nat} {r1 r2 : OpRes G.T G.U}
    (s1 : Step1 P G ops o1 n1 σ σa f1 b1 g1 l1 r1) (s2 : Step1 P G ops o2 n2 σa σb f2 b2 g2 l2 r2) (hi : fpIndep f1 f2 = true) (h1 : n1 + r1.new.length ≤ σ.objs.length) (h2 : n2 + r2.new.length ≤ σ.objs.length) :
    Step1 P G ops o2 n2 σ (σ.app G o2.dst n2 r2) f2 b2 g2 l2 r2 ∧ Step1 P G ops o1 n1 (σ.app G o2.dst n2 r2) σb f1 b1 g1 l1 r1 := by
  obtain ⟨i1, i2, i3, i4, i5, i6⟩ := fpIndep_spec hi
  have e1 := s1.fp
  have e2 := s2.fp
  have d1 : f1.dst = o1.dst.toList := by rw [e1]; rfl
  have d2 : f2.dst = o2.dst.toList := by rw [e2]; rfl
  have w1 : f1.writes = r1.upd.map (·.1) ++ List.range' n1 r1.new.length := by rw [e1]; rfl
  have w2 : f2.writes = r2.upd.map (·.1) ++ List.range' n2 r2.new.length := by rw [e2]; rfl
  have ha : σa = ⟨match o1.dst with | some d => σ.slots.set d r1.d | none => σ.slots, setObjs σ.objs (chg n1 r1)⟩ := by rw [s1.next]; exact app_eq h1
  have hc : σ.app G o2.dst n2 r2 = ⟨match o2.dst with | some d => σ.slots.set d r2.d | none => σ.slots, setObjs σ.objs (chg n2 r2)⟩ := app_eq h2
  have hlen : σa.objs.length = σ.objs.length := by rw [ha]; exact setObjs_len
  have hlen2 : (σ.app G o2.dst n2 r2).objs.length = σ.objs.length := by rw [hc]; exact setObjs_len
  have slot1 : ∀ t, t ∉ f1.dst → σa.slots.getD t .undef = σ.slots.getD t .undef := by
    intro t ht
    rw [ha]
    cases hd : o1.dst with
    | none => rfl
    | some d => exact getD_set_ne fun e => ht (by rw [d1, hd]; simp [e])
  have slot2 : ∀ t, t ∉ f2.dst → (σ.app G o2.dst n2 r2).slots.getD t .undef = σ.slots.getD t .undef := by
    intro t ht
    rw [hc]
    cases hd : o2.dst with
    | none => rfl
    | some d => exact getD_set_ne fun e => ht (by rw [d2, hd]; simp [e])
  have obj1 : ∀ n, n ∉ f1.writes → σa.objs.getD n .free = σ.objs.getD n .free := by
    intro n hn
    rw [ha]
    exact setObjs_getD fun p hp e => hn (by rw [w1, ← e]; exact chg_fst hp)
  have obj2 : ∀ n, n ∉ f2.writes → (σ.app G o2.dst n2 r2).objs.getD n .free = σ.objs.getD n .free := by
    intro n hn
    rw [hc]
    exact setObjs_getD fun p hp e => hn (by rw [w2, ← e]; exact chg_fst hp)
  have t2 : Step1 P G ops o2 n2 σ (σ.app G o2.dst n2 r2) f2 b2 g2 l2 r2 := by
    refine s2.at_ (fun t ht => (slot1 t fun hd => i1 t hd ht).symm) (fun n hn => (obj1 n fun hw => i4 n hw hn).symm) fun n hn => (obj1 n fun hw => i5 n hw ?_).symm
    rw [w2]; exact List.mem_append.2 (.inl hn)
  have t1 : Step1 P G ops o1 n1 (σ.app G o2.dst n2 r2) ((σ.app G o2.dst n2 r2).app G o1.dst n1 r1) f1 b1 g1 l1 r1 := by
    refine s1.at_ (fun t ht => slot2 t fun hd => i2 t hd ht) (fun n hn => obj2 n fun hw => i6 n hw hn) fun n hn => obj2 n fun hw => i5 n ?_ hw
    rw [w1]; exact List.mem_append.2 (.inl hn)
  refine ⟨t2, ?_⟩
  have hb : σb = σa.app G o2.dst n2 r2 := s2.next
  have : (σ.app G o2.dst n2 r2).app G o1.dst n1 r1 = σb := by
    have hA := app_eq (G := G) (σ := σa) (dst := o2.dst) (nb := n2) (r := r2) (by rw [hlen]; exact h2)
    have hB := app_eq (G := G) (σ := σ.app G o2.dst n2 r2) (dst := o1.dst) (nb := n1) (r := r1) (by rw [hlen2]; exact h1)
    rw [hb, hB, hA, hc, ha]
    have hobj : setObjs (setObjs σ.objs (chg n2 r2)) (chg n1 r1) = setObjs (setObjs σ.objs (chg n1 r1)) (chg n2 r2) :=
      setObjs_comm fun p hp q hq e => i5 q.1 (by rw [w1]; exact chg_fst hq) (by rw [w2, ← e]; exact chg_fst hp)
    simp only [hobj]
    cases hd1 : o1.dst with
    | none => cases hd2 : o2.dst <;> rfl
    | some x =>
      cases hd2 : o2.dst with
      | none => rfl
      | some y =>
        have hxy : x ≠ y := fun e => i3 x (by rw [d1, hd1]; simp) (by rw [d2, hd2]; simp [e])
        simp only [List.set_comm _ _ hxy]
  rwa [this] at t1

end
end Go.Proofs.Ytjfmfpnnjgfffaa.Am
