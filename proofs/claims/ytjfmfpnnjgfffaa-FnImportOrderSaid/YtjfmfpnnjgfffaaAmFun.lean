/- The abstract machine: whole functions. -/
import Derived.Test.YtjfmfpnnjgfffaaAmSh
namespace Go.Proofs.Ytjfmfpnnjgfffaa.Am
open Go
set_option autoImplicit false
set_option linter.unusedVariables false
set_option linter.unusedSectionVars false
set_option linter.unusedSimpArgs false

def resV {T : Nat → Type} : List (AV T) → AV T
  | [v] => v
  | l => .tup l

section
variable (P : Program) (G : Sig) {O : Type} (out : Out G O)

def resOne (σ : St G) : ResultVar → Option (V G)
  | .tmp t => some (σ.slots.getD t .undef)
  | .cell a t => runP G σ.objs (loadV P G t (σ.slots.getD a .undef))
def resAll (σ : St G) : List ResultVar → Option (List (V G))
  | [] => some []
  | r :: l => match resOne P G σ r with
    | some v => (match resAll σ l with | some vs => some (v :: vs) | none => none)
    | none => none

def finish (p : Nat) (rs : List ResultVar) (frm : List (Nat × Frm)) (σ : St G) (K : V G → List (AObj G.T G.U) → O) : O :=
  match resAll P G σ rs with
  | some vs => nrmThen G out p ⟨List.range vs.length, frm⟩ ⟨vs, σ.objs⟩ fun σ' => K (resV σ'.slots) σ'.objs
  | none => out.fail

def runFn (fn : Func) (ann : Ann) (frm : List (Nat × Frm)) (args : List (V G)) (objs : List (AObj G.T G.U)) (K : V G → List (AObj G.T G.U) → O) : O :=
  match fn.body with
  | none => out.fail
  | some c => St.forceK G out ⟨args ++ List.replicate (fn.ntmps - args.length) .undef, objs⟩ fun σ0 => exec P G out objs.length c ann σ0 fun e σ => match e with
    | .exit _ => out.fail
    | _ => finish P G out objs.length fn.results.toList frm σ K
end

section
variable {P : Program} {G : Sig}

def resSem (tmps : Array Value) (r : ResultVar) : Sem Value := match r with
  | .tmp t => pure (tmps.getD t undef)
  | .cell a t => do loadVar t (← asAddr (tmps.getD a undef))

theorem results_run {tmps : Array Value} {w : World} : ∀ {rs : List ResultVar} {vs : List Value} {acc : Array Value}, rs.length = vs.length → (∀ (i : Nat) (r : ResultVar) (v : Value), rs[i]? = some r → vs[i]? = some v → (resSem tmps r).run P w = .ok v w) →
    (Array.foldlM (m := Sem) (fun (bs : Array Value) (r : ResultVar) => resSem tmps r >>= fun b => pure (bs.push b)) acc rs.toArray).run P w = .ok (acc ++ vs.toArray) w
  | [], vs, acc, hl, h => by
    have : vs = [] := List.eq_nil_of_length_eq_zero (by simpa using hl.symm)
    subst this; simp
  | r :: l, [], acc, hl, h => by simp at hl
  | r :: l, v :: vs, acc, hl, h => by
    have h1 := h 0 r v rfl rfl
    have := results_run (w := w) (tmps := tmps) (acc := acc.push v) (rs := l) (vs := vs) (by simpa using hl) (fun i r v hr hv => h (i + 1) r v (by simpa using hr) (by simpa using hv))
    simp at this ⊢
    rw [h1, Result.andThen_ok]
    exact this

def resVal : List Value → Value
  | [v] => v
  | vs => .tuple vs.toArray

theorem results_vals {fn : Func} {vs : List Value} {tmps : Array Value} {w : World} (hl : fn.results.toList.length = vs.length) (h : ∀ (i : Nat) (r : ResultVar) (v : Value), fn.results.toList[i]? = some r → vs[i]? = some v → (resSem tmps r).run P w = .ok v w) :
    (results fn tmps).run P w = .ok (resVal vs) w := by
  have h1 := results_run (P := P) (w := w) (tmps := tmps) (acc := #[]) hl h
  simp only [Array.empty_append, Array.toArray_toList] at h1
  unfold results
  rw [Array.mapM_eq_foldlM]
  rw [Sem.run_bind]
  erw [h1]
  rw [Result.andThen_ok]
  match vs with
  | [] => simp [resVal]
  | [t] => simp [resVal]
  | t :: u :: l => simp [resVal]

theorem resOne_ok (L : Laws P G) {F : Nat → Prop} {c0 c : Cf G} {σ : St G} {a : Act} {r : ResultVar} {d : AV G.T} (h : resOne P G σ r = some d) (rel : Rel P G F c0 σ a c) : ∃ v, (resSem a.tmps r).run P c.w = .ok v c.w ∧ VR P G F c d v := by
  cases r with
  | tmp t =>
    simp only [resOne, Option.some.injEq] at h
    subst h
    exact ⟨_, rfl, opnd_rel (os := []) rel.slots (.tmp t)⟩
  | cell x t =>
    simp only [resOne] at h
    rw [← rel.objs] at h
    obtain ⟨l, hr⟩ := runP_runs (P := P) h
    have hx : VR P G F c (σ.slots.getD x .undef) (a.tmps.getD x undef) := opnd_rel (os := []) rel.slots (.tmp x)
    obtain ⟨v, h1, h2⟩ := loadV_ok L rel.ok hr hx
    have hp : ∃ ad, a.tmps.getD x undef = .pointer (some ad) := by
      generalize a.tmps.getD x undef = u at hx
      generalize σ.slots.getD x AV.undef = y at hx hr
      cases hx <;> first | exact ⟨_, rfl⟩ | (exfalso; exact hr.fail_inv)
    obtain ⟨ad, hp⟩ := hp
    refine ⟨v, ?_, h2⟩
    rw [hp] at h1
    simp only [resSem, hp]
    exact h1

theorem resAll_ok (L : Laws P G) {F : Nat → Prop} {c0 c : Cf G} {σ : St G} {a : Act} : ∀ {rs : List ResultVar} {ds : List (AV G.T)}, resAll P G σ rs = some ds → Rel P G F c0 σ a c →
    ∃ vs : List Value, rs.length = vs.length ∧ ds.length = vs.length ∧ (∀ (i : Nat) (r : ResultVar) (v : Value), rs[i]? = some r → vs[i]? = some v → (resSem a.tmps r).run P c.w = .ok v c.w) ∧
      ∀ (i : Nat) (d : AV G.T) (v : Value), ds[i]? = some d → vs[i]? = some v → VR P G F c d v
  | [], ds, h, rel => by
    simp only [resAll, Option.some.injEq] at h; subst h
    exact ⟨[], rfl, rfl, fun i r v h => by simp at h, fun i r v h => by simp at h⟩
  | r :: l, ds, h, rel => by
    simp only [resAll] at h
    split at h
    · rename_i d hd
      split at h
      · rename_i ds' hds
        cases h
        obtain ⟨v, h1, h2⟩ := resOne_ok L hd rel
        obtain ⟨vs, a1, a2, a3, a4⟩ := resAll_ok L hds rel
        refine ⟨v :: vs, by simp [a1], by simp [a2], fun i r' v' hr hv => ?_, fun i d' v' hd' hv => ?_⟩
        · cases i with
          | zero => simp at hr hv; subst hr; subst hv; exact h1
          | succ i => simp at hr hv; exact a3 i r' v' hr hv
        · cases i with
          | zero => simp at hd' hv; subst hd'; subst hv; exact h2
          | succ i => simp at hd' hv; exact a4 i d' v' hd' hv
      · cases h
    · cases h

def OLeL (P : Program) (G : Sig) (os os' : List (AObj G.T G.U)) : Prop := os.length = os'.length ∧ ∀ (j : Nat) (o o' : AObj G.T G.U), os[j]? = some o → os'[j]? = some o' → OLe P G o o'

theorem fn_sound {S : Tab G} {fr : Nat → Sm G} {R : Type} (L : Laws P G) (FN : FnOK P G) (hS : TabOK P G S) {f : FuncId} {fn : Func} {ann : Ann} {frm : List (Nat × Frm)} {args : List (AV G.T)} {objs objs' : List (AObj G.T G.U)} {K : AV G.T → List (AObj G.T G.U) → Option R} {rv : AV G.T} {r : R}
    (hf : P.funcs[f]? = some fn) (hu : ∀ c, fn.body = some c → ∀ q ∈ uses c ann, FragOK P G objs.length q.2 (fr q.1)) (h : runFn P G (ro G S fr R) fn ann frm args objs K = some r) (hK : ∀ v os, K v os = some r → Wk P G v rv ∧ OLeL P G os objs') : SoundCall P G f args objs rv objs' := by
  intro F w m vals ok hlen hargs
  unfold runFn at h
  split at h
  · exact absurd h (by simp [ro])
  · rename_i c hb
    rw [forceK_eq] at h
    refine calls_of_wp hf hb ?_
    have rel : Rel P G F ⟨w, m, objs⟩ ⟨args ++ List.replicate (fn.ntmps - args.length) .undef, objs⟩ { tmps := vals.toArray ++ Array.replicate (fn.ntmps - vals.toArray.size) undef, defers := [] } ⟨w, m, objs⟩ :=
      { objs := rfl, slots := ⟨by simp [hlen], fun t d v hd hv => by
          by_cases ht : t < args.length
          · rw [List.getElem?_append_left ht] at hd
            have ht' : t < vals.length := hlen ▸ ht
            rw [Array.getElem?_append_left (by simpa using ht')] at hv
            exact hargs t d v hd (by simpa using hv)
          · rw [List.getElem?_append_right (by omega), List.getElem?_replicate] at hd
            split at hd
            · cases hd; exact .undef _
            · cases hd⟩, defers := rfl, ok := ok, tr := Tr.refl F _ }
    refine exec_sound L FN hS c ann _ _ r _ ⟨w, m, objs⟩ _ (hu c hb) h rel fun e σ' a' c' rel' hk => ?_
    have fin : finish P G (ro G S fr R) objs.length fn.results.toList frm σ' K = some r → a'.defers = [] ∧ ∃ v, (results fn a'.tmps).run P c'.w = .ok v c'.w ∧ (fun e w' => ∃ v m', e = Ending.returned v ∧ Tr G F ⟨w, m, objs⟩ ⟨w', m', objs'⟩ ∧ OK P G F (Nof ⟨w, m, objs⟩) ⟨w', m', objs'⟩ ∧ VR P G F ⟨w', m', objs'⟩ rv v) (.returned v) c'.w := by
      intro hk
      unfold finish at hk
      split at hk
      · rename_i ds hds
        obtain ⟨vs, v1, v2, v3, v4⟩ := resAll_ok L hds rel'
        have relv : Rel P G F ⟨w, m, objs⟩ ⟨ds, σ'.objs⟩ { tmps := vs.toArray, defers := [] } c' :=
          { objs := rel'.objs, slots := ⟨by simp [v2], fun t d v hd hv => v4 t d v hd (by simpa using hv)⟩, defers := rfl, ok := rel'.ok, tr := rel'.tr }
        obtain ⟨σ2, c2, e2, r2, hk⟩ := nrmThen_ok (c0 := ⟨w, m, objs⟩) L hk relv
        obtain ⟨hwk, hos⟩ := hK _ _ hk
        obtain ⟨tr1, ok2⟩ := OLe.cf r2.ok (os' := objs') (by rw [r2.objs]; exact hos.1) (by rw [r2.objs]; exact hos.2)
        have tr := r2.tr.trans r2.ok tr1
        have sl := r2.slots
        rw [e2] at tr ok2
        refine ⟨rel'.defers, _, results_vals v1 v3, _, c2.m, rfl, tr, ok2, ?_⟩
        rw [← e2]
        refine VR.mono (hwk F c2 _ ?_) tr1
        have sl1 : σ2.slots.length = vs.length := by simpa using sl.1
        have each : ∀ (i : Nat) (d : AV G.T) (v : Value), σ2.slots[i]? = some d → vs[i]? = some v → VR P G F c2 d v := fun i d v hd hv => sl.2 i d v hd (by simpa using hv)
        generalize σ2.slots = ss at sl1 each
        match vs, ss with
        | [v], [d] => exact each 0 d v rfl rfl
        | [], [] => exact .tup _ _ (by simp) (by simp)
        | v :: u :: l, d :: e :: l' =>
          exact .tup _ _ (by simpa using sl1) fun i d' v' hd hv => each i d' v' hd (by simpa using hv)
      · exact absurd hk (by simp [ro])
    cases e with
    | normal => exact fin hk
    | ret => exact fin hk
    | exit id => exact absurd hk (by simp [ro])


-- pieces of code ---------------------------------------------------------------------------------------------------------------
section
variable (G)
def inR {R : Type} (p : Nat) (j : Nrm) (s : SSh) (rec : s.den G → Option R) (σ : St G) : Option R :=
  match nrm G p j σ with
  | some σ' => (match s.dec G σ' with | some x => rec x | none => none)
  | none => none
def inZ (p : Nat) (j : Nrm) (s : SSh) (Z : (R : Type) → s.den G → (AE → St G → Option R) → Option R) : Sm G := fun R σ K => inR G p j s (fun x => Z R x K) σ
def kLoop {R : Type} (out : Out G (Option R)) (p : Nat) (j : Nrm) (s : SSh) (xn : XN) (rec : s.den G → Option R) (K : AE → St G → Option R) : AE → St G → Option R := fun e σ => match e with
  | .normal => inR G p j s rec σ
  | e => nrmThen G out p (xn.get e) σ (K e)
end

theorem inR_ok (L : Laws P G) {c0 c : Cf G} {F : Nat → Prop} {a : Act} {R : Type} {p : Nat} {j : Nrm} {s : SSh} {rec : s.den G → Option R} {σ : St G} {r : R} (hp : c0.os.length = p) (h : inR G p j s rec σ = some r) (rel : Rel P G F c0 σ a c) :
    ∃ x c', c'.w = c.w ∧ Rel P G F c0 (s.enc G x) a c' ∧ rec x = some r := by
  unfold inR at h
  subst hp
  split at h
  · rename_i σ' hn
    obtain ⟨c1, e1, r1⟩ := nrm_ok L hn rel
    split at h
    · rename_i x hx
      obtain ⟨c2, e2, r2⟩ := SSh.dec_rel hx r1
      exact ⟨x, c2, e2.trans e1, r2, h⟩
    · cases h
  · cases h

theorem frag_plain {S : Tab G} {fr : Nat → Sm G} (L : Laws P G) (FN : FnOK P G) (hS : TabOK P G S) {p : Nat} {cd : Code} {n : Ann} {j : Nrm} {xn : XN} {s : SSh} {Z : (R : Type) → s.den G → (AE → St G → Option R) → Option R}
    (hu : ∀ q ∈ uses cd n, FragOK P G p q.2 (fr q.1)) (h : ∀ R x K, Z R x K = exec P G (ro G S fr R) p cd n (s.enc G x) (kNrm G (ro G S fr R) p xn K)) : FragOK P G p cd (inZ G p j s Z) := by
  intro R σ K r hz F c0 a c Q hp rel hQ
  obtain ⟨x, c1, e1, r1, h1⟩ := inR_ok L hp hz rel
  rw [h] at h1
  rw [← e1]
  subst hp
  refine exec_sound L FN hS cd n _ _ r a c1 Q hu h1 r1 fun e σ' a' c' rel' hk => ?_
  obtain ⟨σ2, c2, e2, r2, h2⟩ := nrmThen_ok L (show nrmThen G (ro G S fr R) c0.os.length (xn.get e) σ' (K e) = some r from hk) rel'
  rw [← e2]; exact hQ e σ2 a' c2 r2 h2

theorem frag_loop {S : Tab G} {fr : Nat → Sm G} (L : Laws P G) (FN : FnOK P G) (hS : TabOK P G S) {p : Nat} {x : Code} {n : Ann} {j : Nrm} {xn : XN} {s : SSh} {Z : (R : Type) → Nat → s.den G → (AE → St G → Option R) → Option R}
    (hu : ∀ q ∈ uses x n, FragOK P G p q.2 (fr q.1)) (h0 : ∀ R y K, Z R 0 y K = none)
    (hs : ∀ R k y K, Z R (k + 1) y K = exec P G (ro G S fr R) p x n (s.enc G y) (kLoop G (ro G S fr R) p j s xn (fun y' => Z R k y' K) K)) (fuel : Nat) : FragOK P G p (.loop x) (inZ G p j s fun R => Z R fuel) := by
  intro R σ K r hz F c0 a c Q hp rel hQ
  obtain ⟨y, c1, e1, r1, h1⟩ := inR_ok L hp hz rel
  rw [← e1]
  refine wp_loop_ghost (fun k a w => ∃ y c, c.w = w ∧ Rel P G F c0 (s.enc G y) a c ∧ Z R k y K = some r) fuel ⟨y, c1, rfl, r1, h1⟩ ?_
  rintro k a2 w2 ⟨y2, c2, rfl, r2, hit⟩
  cases k with
  | zero => rw [h0] at hit; cases hit
  | succ k =>
    rw [hs] at hit
    subst hp
    refine exec_sound L FN hS x n _ _ r a2 c2 _ hu hit r2 fun e σ' a' c' rel' hk => ?_
    cases e with
    | normal =>
      obtain ⟨y3, c3, e3, r3, h3⟩ := inR_ok L rfl (show inR G c0.os.length j s (fun y' => Z R k y' K) σ' = some r from hk) rel'
      exact ⟨k, Nat.lt_succ_self k, y3, c3, e3, r3, h3⟩
    | exit id =>
      obtain ⟨σ2, c2, e2, r2, h2⟩ := nrmThen_ok L (show nrmThen G (ro G S fr R) c0.os.length (xn.get (.exit id)) σ' (K (.exit id)) = some r from hk) rel'
      rw [← e2]; exact hQ (.exit id) σ2 a' c2 r2 h2
    | ret =>
      obtain ⟨σ2, c2, e2, r2, h2⟩ := nrmThen_ok L (show nrmThen G (ro G S fr R) c0.os.length (xn.get .ret) σ' (K .ret) = some r from hk) rel'
      rw [← e2]; exact hQ .ret σ2 a' c2 r2 h2

def frOf (l : List (Sm G)) : Nat → Sm G
  | 0 => match l with | z :: _ => z | [] => fun _ _ _ => none
  | i + 1 => match l with | _ :: l => frOf l i | [] => fun _ _ _ => none

-- functions --------------------------------------------------------------------------------------------------------------------
structure Ent (G : Sig) where
  f : FuncId
  as : ShL
  aos : List OSh
  rs : Sh
  ros : List OSh
  F : as.den G → denO G aos → Option (rs.den G × denO G ros)

def decR (rs : Sh) (ros : List OSh) (v : AV G.T) (os : List (AObj G.T G.U)) : Option (rs.den G × denO G ros) :=
  match rs.dec G v with
  | some x => (match decO G ros os with | some y => some (x, y) | none => none)
  | none => none

def EntOK (P : Program) (G : Sig) (e : Ent G) : Prop :=
  ∀ x y z, e.F x y = some z → SoundCall P G e.f (e.as.enc G x) (encO G e.aos y) (e.rs.enc G z.1) (encO G e.ros z.2)

def andThen {α β : Type} (x : Option α) (k : α → Option β) : Option β := match x with | some z => k z | none => none

def callE {R : Type} (f : FuncId) (args : List (AV G.T)) (objs : List (AObj G.T G.U)) (K : AV G.T → List (AObj G.T G.U) → Option R) : List (Ent G) → Option R
  | [] => none
  | e :: l => match Nat.beq e.f f with
    | true => (match e.as.dec G args with
      | some x => (match decO G e.aos objs with
        | some y => andThen (e.F x y) fun z => K (e.rs.enc G z.1) (encO G e.ros z.2)
        | none => callE f args objs K l)
      | none => callE f args objs K l)
    | false => callE f args objs K l

def tabOf (l : List (Ent G)) : Tab G := ⟨fun R f args objs K => callE f args objs K l⟩

theorem SoundCall.weak {f : FuncId} {args args' : List (AV G.T)} {objs objs' : List (AObj G.T G.U)} {r : AV G.T} {os : List (AObj G.T G.U)} (h : SoundCall P G f args' objs' r os) (ha : WkL P G args args') (ho : OLeL P G objs objs') : SoundCall P G f args objs r os := by
  intro F w m vals ok hlen hargs
  obtain ⟨tr, ok'⟩ := OLe.cf ok ho.1 ho.2
  have hN : ∀ b, Nof ⟨w, m, objs'⟩ b → Nof ⟨w, m, objs⟩ b := by
    rintro b ⟨h1, h2⟩
    refine ⟨h1, fun o obj β h3 h4 h5 => ?_⟩
    have hj : o < objs'.length := by rw [← ho.1]; exact (List.getElem?_eq_some_iff.1 h3).1
    have hle := ho.2 o obj objs'[o] h3 (by simp [hj])
    exact h2 o objs'[o] β (by simp [hj]) h4 (by rw [hle.mut]; exact h5)
  have hN' : ∀ b, Nof ⟨w, m, objs⟩ b → Nof ⟨w, m, objs'⟩ b := by
    rintro b ⟨h1, h2⟩
    refine ⟨h1, fun o obj β h3 h4 h5 => ?_⟩
    have hj : o < objs.length := by rw [ho.1]; exact (List.getElem?_eq_some_iff.1 h3).1
    have hle := ho.2 o objs[o] obj (by simp [hj]) h3
    exact h2 o objs[o] β (by simp [hj]) h4 (by rw [← hle.mut]; exact h5)
  have eN : Nof ⟨w, m, objs'⟩ = Nof (G := G) ⟨w, m, objs⟩ := by funext b; exact propext ⟨hN b, hN' b⟩
  have := h F w m vals (by rw [eN]; exact ok') (ha.1 ▸ hlen) fun i d v hd hv => by
    have hi : i < args.length := by rw [ha.1]; exact (List.getElem?_eq_some_iff.1 hd).1
    exact (ha.2 i args[i] d (by simp [hi]) hd F _ v (hargs i args[i] v (by simp [hi]) hv)).mono tr
  refine this.mono fun e w' => ?_
  rintro ⟨v, m', rfl, t, o, r⟩
  refine ⟨v, m', rfl, tr.trans ok' t, by rw [← eN]; exact o, r⟩

theorem tabOf_ok {l : List (Ent G)} (h : ∀ e ∈ l, EntOK P G e) : TabOK P G (tabOf l) := by
  intro R f args objs K r hc
  simp only [tabOf] at hc
  induction l with
  | nil => cases hc
  | cons e l ih =>
    have ih := ih fun e' he => h e' (List.mem_cons_of_mem _ he)
    simp only [callE] at hc
    split at hc
    · rename_i hf
      split at hc
      · rename_i x hx
        split at hc
        · rename_i y hy
          unfold andThen at hc
          split at hc
          · rename_i z hz
            refine ⟨_, _, ?_, hc⟩
            have hf := Nat.eq_of_beq_eq_true hf
            rw [← hf]
            exact (h e (List.mem_cons_self ..) x y z hz).weak (ShL.dec_wk _ _ _ hx) (decO_le _ _ _ hy)
          · cases hc
        · exact ih hc
      · exact ih hc
    · exact ih hc

theorem ent_ok {S : Tab G} {fr : Nat → Sm G} (L : Laws P G) (FN : FnOK P G) (hS : TabOK P G S) {e : Ent G} {fn : Func} {ann : Ann} {frm : List (Nat × Frm)}
    (hf : P.funcs[e.f]? = some fn) (hu : ∀ c, fn.body = some c → ∀ q ∈ uses c ann, FragOK P G e.aos.length q.2 (fr q.1))
    (h : ∀ x y, e.F x y = runFn P G (ro G S fr _) fn ann frm (e.as.enc G x) (encO G e.aos y) (decR e.rs e.ros)) : EntOK P G e := by
  intro x y z hz
  rw [h] at hz
  have hlen : ∀ (l : List OSh) (y : denO G l), (encO G l y).length = l.length := by
    intro l; induction l with
    | nil => intro y; rfl
    | cons s l ih => intro y; simp [encO, ih]
  refine fn_sound L FN hS hf (by rw [hlen]; exact hu) hz fun v os hk => ?_
  unfold decR at hk
  split at hk
  · rename_i a ha
    split at hk
    · rename_i b hb
      cases hk
      exact ⟨Sh.dec_wk _ _ _ ha, decO_le _ _ _ hb⟩
    · cases hk
  · cases hk

end
end Go.Proofs.Ytjfmfpnnjgfffaa.Am
