/- The abstract machine: any order of a region. -/
import Derived.Test.YtjfmfpnnjgfffaaAmDraw
namespace Go.Proofs.Ytjfmfpnnjgfffaa.Am
open Go
set_option autoImplicit false
set_option linter.unusedVariables false
set_option linter.unusedSectionVars false
set_option linter.unusedSimpArgs false

section
variable {P : Program} {G : Sig} {F : Nat → Prop} {c0 c c' : Cf G}

structure En (G : Sig) where
  i : Nat
  o : Oper
  fp : Fp
  b : Bool
  g : List Tmp
  l : List Nat
  r : OpRes G.T G.U

/-- operations, one behind the other -/
inductive SRun (P : Program) (G : Sig) (ops : Array Oper) (N M : Nat) : List (En G) → St G → St G → Prop where
  | nil (σ : St G) : SRun P G ops N M [] σ σ
  | cons (x : En G) (L : List (En G)) (σ σ1 σ2 : St G) (hM : σ.objs.length = M) (st : Step1 P G ops x.o (N + 6 * x.i) σ σ1 x.fp x.b x.g x.l x.r) (hm : x.r.new.length ≤ 6) (hb : N + 6 * x.i + 6 ≤ M)
      (h : SRun P G ops N M L σ1 σ2) : SRun P G ops N M (x :: L) σ σ2

theorem app_len {σ : St G} {dst : Option Tmp} {nb : Nat} {r : OpRes G.T G.U} (h : nb + r.new.length ≤ σ.objs.length) : (σ.app G dst nb r).objs.length = σ.objs.length := by
  rw [app_eq h]; exact setObjs_len

theorem SRun.front {ops : Array Oper} {N M : Nat} {x : En G} {post : List (En G)} : ∀ {pre : List (En G)} {σ σ2 : St G}, SRun P G ops N M (pre ++ x :: post) σ σ2 → (∀ y ∈ pre, fpIndep y.fp x.fp = true) →
    ∃ σ1, σ.objs.length = M ∧ Step1 P G ops x.o (N + 6 * x.i) σ σ1 x.fp x.b x.g x.l x.r ∧ x.r.new.length ≤ 6 ∧ N + 6 * x.i + 6 ≤ M ∧ SRun P G ops N M (pre ++ post) σ1 σ2
  | [], σ, σ2, h, _ => by
    cases h with
    | cons _ _ _ σ1 _ hM st hm hb h => exact ⟨σ1, hM, st, hm, hb, h⟩
  | y :: pre, σ, σ2, h, hi => by
    cases h with
    | cons _ _ _ σ1 _ hM st hm hb h =>
      obtain ⟨σ3, hM', st', hm', hb', h'⟩ := SRun.front h fun z hz => hi z (by simp [hz])
      obtain ⟨d1, d2⟩ := Step1.diamond st st' (hi y (by simp)) (by omega) (by omega)
      refine ⟨_, hM, d1, hm', hb', .cons y (pre ++ post) _ σ3 σ2 ?_ d2 hm hb h'⟩
      rw [app_len (by omega)]; exact hM

theorem SRun.len {ops : Array Oper} {N M : Nat} : ∀ {L : List (En G)} {σ σ2 : St G}, SRun P G ops N M L σ σ2 → σ.objs.length = M → σ2.objs.length = M
  | [], σ, σ2, h, hM => by cases h; exact hM
  | x :: L, σ, σ2, h, hM => by
    cases h with
    | cons _ _ _ σ1 _ hM st hm hb h =>
      refine h.len ?_
      rw [st.next, app_len (by omega)]; exact hM

/-- the text's order, taken from the run -/
theorem draw_inv {S : Tab G} {fr : Nat → Sm G} {R : Type} (hS : TabOK P G S) {ops : Array Oper} {T : List Nat} {N M : Nat} {K : St G → Option R} {r : R} : ∀ {l : List Oper} {i : Nat} {log : List (Nat × Fp)} {σ : St G},
    opsDraw P G (ro G S fr R) ops T N l i log σ K = some r → σ.objs.length = M → N + 6 * (i + l.length) ≤ M →
    ∃ (L : List (En G)) (σ2 : St G), SRun P G ops N M L σ σ2 ∧ K σ2 = some r ∧ L.map (·.o) = l ∧ L.map (·.i) = List.range' i l.length ∧
      (∀ x ∈ L, ∀ q ∈ log, (T.getD x.i 0).testBit q.1 = true ∨ fpIndep q.2 x.fp = true) ∧ L.Pairwise (fun x y => (T.getD y.i 0).testBit x.i = true ∨ fpIndep x.fp y.fp = true)
  | [], i, log, σ, h, hM, _ => ⟨[], σ, .nil σ, h, rfl, rfl, fun x hx => by simp at hx, .nil⟩
  | o :: l, i, log, σ, h, hM, hle => by
    simp only [List.length_cons] at hle
    simp only [opsDraw] at h
    obtain ⟨σ', fp, b, g, lg, q, st, h'⟩ := op1_inv hS h
    split at h'
    case isFalse => exact absurd h' (by simp [ro])
    rename_i hm
    split at h'
    case isFalse => exact absurd h' (by simp [ro])
    rename_i hchk
    have hmany : fp.many = q.new.length := by rw [st.fp]; rfl
    have hM' : σ'.objs.length = M := by rw [st.next, app_len (by omega)]; exact hM
    obtain ⟨L, σ2, h1, h2, h3, h4, h5, h6⟩ := draw_inv hS h' hM' (by omega)
    refine ⟨⟨i, o, fp, b, g, lg, q⟩ :: L, σ2, .cons _ L σ σ' σ2 hM st (by simp only; omega) (by simp only; omega) h1, h2, by simp [h3], by simp [h4, List.range'_succ], ?_, ?_⟩
    · intro x hx p hp
      rcases List.mem_cons.1 hx with rfl | hx
      · have := List.all_eq_true.1 hchk p hp
        simpa using this
      · exact h5 x hx p (List.mem_append.2 (.inl hp))
    · refine List.Pairwise.cons (fun y hy => ?_) h6
      exact h5 y hy (i, fp) (by simp)

-- what comes before ---------------------------------------------------------------------------------------------------------
theorem fold_or_bit {j : Nat} (f : Edge → Nat) : ∀ (l : List Edge) (s : Nat), (l.foldl (fun s e => s ||| f e) s).testBit j = true → s.testBit j = true ∨ ∃ e ∈ l, (f e).testBit j = true
  | [], s, h => .inl h
  | e :: l, s, h => by
    rcases fold_or_bit f l _ h with h1 | ⟨e', h1, h2⟩
    · rw [Nat.testBit_or, Bool.or_eq_true] at h1
      rcases h1 with h1 | h1
      · exact .inl h1
      · exact .inr ⟨e, by simp, h1⟩
    · exact .inr ⟨e', by simp [h1], h2⟩

theorem befOf_bit {T : List Nat} {o : Oper} {j : Nat} (h : (befOf T o).testBit j = true) : ∃ e ∈ o.after.toList, Region.binds .any e = true ∧ (e.on = j ∨ (T.getD e.on 0).testBit j = true) := by
  unfold befOf at h
  have e1 : (fun (s : Nat) (e : Edge) => if Region.binds .any e then s ||| (2 ^ e.on) ||| T.getD e.on 0 else s) = fun s e => s ||| (if Region.binds .any e then (2 ^ e.on) ||| T.getD e.on 0 else 0) := by
    funext s e
    split
    · rw [Nat.or_assoc]
    · simp
  rw [e1] at h
  rcases fold_or_bit _ _ _ h with h1 | ⟨e, h1, h2⟩
  · simp at h1
  · refine ⟨e, h1, ?_⟩
    split at h2
    · rename_i hb
      refine ⟨hb, ?_⟩
      rw [Nat.testBit_or, Bool.or_eq_true] at h2
      rcases h2 with h2 | h2
      · left
        rw [Nat.testBit_two_pow] at h2
        simpa using h2
      · exact .inr h2
    · simp at h2

theorem befs_get : ∀ {l : List Oper} {T : List Nat} {i : Nat}, i < T.length → (befs l T).getD i 0 = T.getD i 0
  | [], T, i, h => rfl
  | o :: l, T, i, h => by
    simp only [befs]
    rw [befs_get (by simp; omega)]
    simp only [List.getD]
    rw [List.getElem?_append_left h]

theorem befs_bit : ∀ {l : List Oper} {T : List Nat} {i j : Nat} {o : Oper}, l[i]? = some o → ((befs l T).getD (T.length + i) 0).testBit j = true → ∃ e ∈ o.after.toList, Region.binds .any e = true ∧ (e.on = j ∨ (e.on < T.length + i ∧ ((befs l T).getD e.on 0).testBit j = true))
  | [], T, i, j, o, h, _ => by simp at h
  | o' :: l, T, 0, j, o, h, hb => by
    simp at h; subst h
    simp only [befs] at hb ⊢
    rw [befs_get (by simp)] at hb
    have : (T ++ [befOf T o']).getD (T.length + 0) 0 = befOf T o' := by simp [List.getD]
    rw [this] at hb
    obtain ⟨e, h1, h2, h3⟩ := befOf_bit hb
    refine ⟨e, h1, h2, ?_⟩
    rcases h3 with h3 | h3
    · exact .inl h3
    · right
      have hlt : e.on < T.length := by
        apply Classical.byContradiction
        intro hh
        have : T[e.on]? = none := List.getElem?_eq_none (by omega)
        simp [List.getD, this] at h3
      refine ⟨by omega, ?_⟩
      rw [befs_get (by simp; omega)]
      have : (T ++ [befOf T o']).getD e.on 0 = T.getD e.on 0 := by simp only [List.getD]; rw [List.getElem?_append_left hlt]
      rw [this]; exact h3
  | o' :: l, T, i + 1, j, o, h, hb => by
    simp at h
    simp only [befs] at hb ⊢
    have hl : (T ++ [befOf T o']).length = T.length + 1 := by simp
    rw [show T.length + (i + 1) = (T ++ [befOf T o']).length + i from by omega] at hb ⊢
    exact befs_bit h hb

/-- all that binds what is listed is listed -/
def Closed (ops : Array Oper) (listed : Array Bool) : Prop :=
  ∀ i o, ops[i]? = some o → listed.getD i false = true → ∀ e ∈ o.after.toList, Region.binds .any e = true → listed.getD e.on false = true

theorem before_listed {ops : Array Oper} {listed : Array Bool} (hc : Closed ops listed) : ∀ (i : Nat) (o : Oper), ops[i]? = some o → (∀ e ∈ o.after.toList, Region.binds .any e = true → listed.getD e.on false = true) →
    ∀ j, ((befs ops.toList []).getD i 0).testBit j = true → listed.getD j false = true := by
  intro i
  induction i using Nat.strongRecOn with
  | _ i ih =>
    intro o ho hp j hb
    have hb' : ((befs ops.toList []).getD (([] : List Nat).length + i) 0).testBit j = true := by simpa using hb
    obtain ⟨e, h1, h2, h3⟩ := befs_bit (by simpa using ho) hb'
    have he := hp e h1 h2
    rcases h3 with rfl | ⟨h3, h4⟩
    · exact he
    · simp only [List.length_nil, Nat.zero_add] at h3
      have hs : e.on < ops.size := by have := (Array.getElem?_eq_some_iff.1 ho).1; omega
      have hoe : ops[e.on]? = some ops[e.on] := by simp [hs]
      exact ih e.on h3 _ hoe (hc _ _ hoe he) j h4

theorem edgesOk_get : ∀ {l : List Oper} {k i : Nat} {o : Oper}, edgesOk k l = true → l[i]? = some o → ∀ e ∈ o.after.toList, Region.binds .any e = true → e.on < k + i
  | [], k, i, o, _, h => by simp at h
  | o' :: l, k, i, o, h, ho => by
    simp only [edgesOk] at h
    split at h
    · rename_i hall
      cases i with
      | zero =>
        simp at ho; subst ho
        intro e he hb
        have := List.all_eq_true.1 hall e he
        rw [hb] at this
        simpa using this
      | succ i =>
        simp at ho
        intro e he hb
        have := edgesOk_get h ho e he hb
        omega
    · cases h

theorem step1_free {ops : Array Oper} {o : Oper} {nb : Nat} {σ σ' : St G} {fp : Fp} {b : Bool} {g : List Tmp} {l : List Nat} {r : OpRes G.T G.U} (st : Step1 P G ops o nb σ σ' fp b g l r) (hle : nb + r.new.length ≤ σ.objs.length) {n : Nat}
    (hn : σ.objs[n]? = some .free) (hne : n < nb ∨ nb + r.new.length ≤ n) : σ'.objs[n]? = some .free := by
  rw [st.next, app_eq hle]
  show (setObjs σ.objs (chg nb r))[n]? = _
  rw [setObjs_other, hn]
  intro p hp e
  rcases List.mem_append.1 hp with hp | hp
  · have hu : updOk σ.objs r.upd = true := by
      cases b with
      | true => exact (st.yes rfl).2
      | false => obtain ⟨rfl, _⟩ := st.no rfl; rfl
    refine updOk_spec hu p hp ?_
    rw [e]; simp [List.getD, hn]
  · have := num_fst hp
    rw [e, List.mem_range'_1] at this
    omega

theorem any_sound (L : Laws P G) (FN : FnOK P G) {ops : Array Oper} {N M : Nat} {Q : Exit → Act → World → Prop} {σ2 : St G} (he : edgesOk 0 ops.toList = true) (hQ : ∀ a' c', Rel P G F c0 σ2 a' c' → Q .normal a' c'.w) :
    ∀ (fuel : Nat) (listed : Array Bool) (σ : St G) (a : Act) (c : Cf G) (E : List (En G)), Rel P G F c0 σ a c → SRun P G ops N M E σ σ2 → E.Pairwise (fun x y => ((befs ops.toList []).getD y.i 0).testBit x.i = true ∨ fpIndep x.fp y.fp = true) →
      (∀ x ∈ E, ops[x.i]? = some x.o) → listed.size = ops.size → (∀ i, i < ops.size → (listed.getD i true = false ↔ i ∈ E.map (·.i))) → (E.map (·.i)).Nodup → Closed ops listed → σ.objs.length = M → (∀ x ∈ E, ∀ n, N + 6 * x.i ≤ n → n < N + 6 * x.i + 6 → σ.objs[n]? = some .free) → E.length ≤ fuel →
      wpAny P .any ops Q fuel listed a c.w := by
  intro fuel
  induction fuel with
  | zero =>
    intro listed σ a c E rel hrun hpw hops hsz hun hnd hcl hM hfr hlen
    have hE : E = [] := List.eq_nil_of_length_eq_zero (by omega)
    subst hE
    have : σ = σ2 := by cases hrun; rfl
    subst this
    refine ⟨?_, hQ a c rel⟩
    unfold Region.ready
    rw [List.filter_eq_nil_iff]
    intro i hi
    have hi' : i < ops.size := by simpa using hi
    have := (not_congr (hun i hi')).2 (by simp)
    simp only [Bool.not_eq_false] at this
    simp [this]
  | succ fuel ih =>
    intro listed σ a c E rel hrun hpw hops hsz hun hnd hcl hM hfr hlen
    refine ⟨fun hready => ?_, fun i hi => ?_⟩
    · -- nothing is left
      have hE : E = [] := by
        cases hE : E with
        | nil => rfl
        | cons x E' =>
          exfalso
          -- the least of what is left is ready
          have hex : ∃ i, i ∈ E.map (·.i) := ⟨x.i, by simp [hE]⟩
          obtain ⟨i, hi, hmin⟩ : ∃ i, i ∈ E.map (·.i) ∧ ∀ j, j < i → j ∉ E.map (·.i) := by
            have : ∀ n, (∃ i, i ≤ n ∧ i ∈ E.map (·.i)) → ∃ i, i ∈ E.map (·.i) ∧ ∀ j, j < i → j ∉ E.map (·.i) := by
              intro n
              induction n with
              | zero => rintro ⟨i, h1, h2⟩; exact ⟨i, h2, fun j hj => by omega⟩
              | succ n ihn =>
                rintro ⟨i, h1, h2⟩
                by_cases hs : ∃ j, j ≤ n ∧ j ∈ E.map (·.i)
                · exact ihn hs
                · refine ⟨i, h2, fun j hj hj2 => hs ⟨j, by omega, hj2⟩⟩
            exact this x.i ⟨x.i, Nat.le_refl _, by simp [hE]⟩
          obtain ⟨y, hy, rfl⟩ := List.mem_map.1 hi
          have hoy := hops y hy
          have hlt := (Array.getElem?_eq_some_iff.1 hoy).1
          have hun1 := (hun y.i hlt).2 hi
          have : y.i ∈ Region.ready .any ops listed := by
            unfold Region.ready
            rw [List.mem_filter]
            refine ⟨by simpa using hlt, ?_⟩
            simp only [hun1, hoy, Option.map_some, Option.getD_some, Bool.not_false, Bool.true_and]
            rw [← Array.all_toList, List.all_eq_true]
            intro e hee
            by_cases hb : Region.binds .any e = true
            · have hon := edgesOk_get he (by simpa using hoy) e hee hb
              simp only [Nat.zero_add] at hon
              have hnot := hmin e.on hon
              have h3 := (not_congr (hun e.on (by omega))).2 hnot
              simp only [Bool.not_eq_false] at h3
              have h4 : listed.getD e.on false = true := by
                have hs : e.on < listed.size := by rw [hsz]; omega
                simpa [Array.getD, hs] using h3
              simp [h4]
            · simp [hb]
          rw [hready] at this
          simp at this
      subst hE
      have : σ = σ2 := by cases hrun; rfl
      subst this
      exact hQ a c rel
    · unfold Region.ready at hi
      rw [List.mem_filter] at hi
      obtain ⟨hi1, hi2⟩ := hi
      have hlt : i < ops.size := by simpa using hi1
      have hoi : ops[i]? = some ops[i] := by simp [hlt]
      simp only [hoi, Option.map_some, Option.getD_some, Bool.and_eq_true, Bool.not_eq_true'] at hi2
      obtain ⟨hi3, hi4⟩ := hi2
      rw [← Array.all_toList, List.all_eq_true] at hi4
      have hpre : ∀ e ∈ ops[i].after.toList, Region.binds .any e = true → listed.getD e.on false = true := fun e hee hb => by
        have := hi4 e hee; rw [hb] at this; simpa using this
      obtain ⟨x, hx, hxi⟩ := List.mem_map.1 ((hun i hlt).1 hi3)
      have hxo := hops x hx
      obtain ⟨pre, post, rfl⟩ := List.append_of_mem hx
      have hind : ∀ y ∈ pre, fpIndep y.fp x.fp = true := by
        intro y hy
        have hp := (List.pairwise_append.1 hpw).2.2 y hy x (by simp)
        rcases hp with hp | hp
        · exfalso
          rw [hxi] at hp
          have h1 := before_listed hcl i ops[i] hoi hpre y.i hp
          have hoy := hops y (by simp [hy])
          have hylt := (Array.getElem?_eq_some_iff.1 hoy).1
          have h2 := (hun y.i hylt).2 (by simp; exact .inl ⟨y, hy, rfl⟩)
          have hs : y.i < listed.size := by rw [hsz]; exact hylt
          simp [Array.getD, hs] at h1 h2
          rw [h1] at h2; cases h2
        · exact hp
      obtain ⟨σ1, _, st, hm, hb, hrun'⟩ := SRun.front hrun hind
      rw [hxi] at st hb
      have hxo' : ops[i]? = some x.o := by rw [← hxi]; exact hxo
      have hle : N + 6 * i + x.r.new.length ≤ σ.objs.length := by omega
      refine step1_sound L FN hxo' st rel (by rw [padTo_len]; omega) (fun q hq => by rw [padTo_self hle]; exact hfr x hx _ (by rw [hxi]; omega) (by rw [hxi]; omega)) fun a' c' rel' => ?_
      have hnd' : ((pre ++ post).map (·.i)).Nodup ∧ x.i ∉ (pre ++ post).map (·.i) := by
        simp only [List.map_append, List.map_cons] at hnd ⊢
        obtain ⟨q1, q2, q3⟩ := List.nodup_append.1 hnd
        obtain ⟨q4, q5⟩ := List.nodup_cons.1 q2
        refine ⟨List.nodup_append.2 ⟨q1, q5, fun p hp q hq => q3 p hp q (List.mem_cons.2 (.inr hq))⟩, fun hm => ?_⟩
        rcases List.mem_append.1 hm with hm | hm
        · exact q3 _ hm _ (List.mem_cons.2 (.inl rfl)) rfl
        · exact q4 hm
      refine ih (listed.setIfInBounds i true) σ1 a' c' (pre ++ post) rel' hrun' ?_ (fun y hy => hops y ?_) (by simpa using hsz) ?_ hnd'.1 ?_ ?_ ?_ ?_
      · rw [List.pairwise_append] at hpw ⊢
        obtain ⟨p1, p2, p3⟩ := hpw
        exact ⟨p1, (List.pairwise_cons.1 p2).2, fun a ha b hb => p3 a ha b (by simp [hb])⟩
      · rcases List.mem_append.1 hy with hy | hy <;> simp [hy]
      · intro j hj
        by_cases e : j = i
        · subst e
          have : (listed.setIfInBounds j true).getD j true = true := by
            have hs : j < listed.size := by rw [hsz]; exact hlt
            simp [Array.getD, hs]
          rw [this]
          refine ⟨fun h => (by cases h), fun h => ?_⟩
          rw [← hxi] at h
          exact (hnd'.2 h).elim
        · have : (listed.setIfInBounds i true).getD j true = listed.getD j true := by
            have hs : j < listed.size := by rw [hsz]; exact hj
            simp [Array.getD, hs, Array.getElem_setIfInBounds, Ne.symm e]
          rw [this, hun j hj]
          simp only [List.map_append, List.map_cons, List.mem_append, List.mem_cons]
          constructor
          · rintro (h | h | h)
            · exact .inl h
            · exact (e (h.trans hxi)).elim
            · exact .inr h
          · rintro (h | h)
            · exact .inl h
            · exact .inr (.inr h)
      · intro j o ho hl e hee hb2
        have hs : ∀ q, listed.getD q false = true → (listed.setIfInBounds i true).getD q false = true := by
          intro q hq
          by_cases hqs : q < listed.size
          · by_cases eq : q = i
            · subst eq; simp [Array.getD, hqs]
            · simp [Array.getD, hqs, Array.getElem_setIfInBounds, Ne.symm eq] at hq ⊢; exact hq
          · simp [Array.getD, hqs] at hq
        by_cases ej : j = i
        · subst ej
          rw [hoi] at ho; cases ho
          exact hs _ (hpre e hee hb2)
        · have hjs : j < listed.size := by rw [hsz]; exact (Array.getElem?_eq_some_iff.1 ho).1
          have : listed.getD j false = true := by
            simp [Array.getD, hjs, Array.getElem_setIfInBounds, Ne.symm ej] at hl ⊢; exact hl
          exact hs _ (hcl j o ho this e hee hb2)
      · rw [st.next, app_len (by omega)]; exact hM
      · intro y hy n h1 h2
        have hyE : y ∈ pre ++ x :: post := by rcases List.mem_append.1 hy with hy | hy <;> simp [hy]
        have hne : y.i ≠ i := fun e => hnd'.2 (by rw [hxi, ← e]; exact List.mem_map.2 ⟨y, hy, rfl⟩)
        refine step1_free st hle (hfr y hyE n h1 h2) ?_
        rcases Nat.lt_or_gt_of_ne hne with h | h
        · left; omega
        · right; omega
      · simp at hlen ⊢; omega

end
end Go.Proofs.Ytjfmfpnnjgfffaa.Am
