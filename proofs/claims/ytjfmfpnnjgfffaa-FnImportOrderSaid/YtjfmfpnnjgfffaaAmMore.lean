/- The abstract machine: stores into rows, copy, cutting, conversions. -/
import Derived.Test.YtjfmfpnnjgfffaaAmApp
import Derived.Laws.BytesString
import Derived.Laws.BytesArg
namespace Go.Proofs.Ytjfmfpnnjgfffaa.Am
open Go
set_option autoImplicit false
set_option linter.unusedVariables false
set_option linter.unusedSectionVars false
set_option linter.unusedSimpArgs false

section
variable {P : Program} {G : Sig} {F N : Nat → Prop} {c c' c'' : Cf G}

theorem setObjs_append {os : List (AObj G.T G.U)} (a b : List (Nat × AObj G.T G.U)) : setObjs os (a ++ b) = setObjs (setObjs os a) b := by
  induction a generalizing os with
  | nil => rfl
  | cons p a ih => obtain ⟨o, x⟩ := p; exact ih

theorem store_elem {o i off : Nat} {t : TypeId} {k : Nat} {xs : List (G.T k)} {vs : List (AV G.T)} {x v : Value} {a : AV G.T} {q : List (AV G.T)} {upd : List (Nat × AObj G.T G.U)} {x' : G.T k} {l : List Nat} (L : Laws P G) (ok : OK P G F N c) (ho : c.os[o]? = some (.arr k xs true))
    (hx : VR P G F c (.elem o i off) x) (hf : flatC a = some vs) (hv : VR P G F c a v) {ti : TypeInfo} (hi : P.info? t = some ti) (hsz : vs.length = ti.size) (hle : off + vs.length ≤ esz P G k)
    (hz : Runs P G c.os (fzL G vs) l (q, upd)) (hno : ∀ p ∈ upd, p.1 ≠ o) (hcl : G.cl k (splice (G.op k (xs.getD i (G.df k))) off q) = some x') :
    OpTo P G F N c (do Instr.storeAt t x v; pure undef) (setObjs c.os (upd ++ [(o, .arr k (xs.set i x') true)])) .undef := by
  obtain ⟨hs, hc⟩ := flatC_rel hf hv
  obtain ⟨f1, f2, f3⟩ := fzL_ok (vs := v.cells.toList) L ok hz (fun j d w hd hw => (hc j d w hd (by simpa using hw)).1)
  obtain ⟨hfz, hfu⟩ := frz_setObjs f2
  have ok1 := hfz.ok ok
  have t1 := hfz.tr (F := F) (c := c)
  have ho1 : (setObjs c.os upd)[o]? = some (.arr k xs true) := by
    have : ∀ (upd : List (Nat × AObj G.T G.U)) (os : List (AObj G.T G.U)), (∀ p ∈ upd, p.1 < os.length) → (∀ p ∈ upd, p.1 ≠ o) → (setObjs os upd)[o]? = os[o]? := by
      intro upd
      induction upd with
      | nil => intro os _ _; rfl
      | cons p upd ih =>
        intro os h1 h2
        obtain ⟨o', y⟩ := p
        simp only [setObjs]
        have hlt := h1 (o', y) (by simp)
        rw [ih _ (fun p hp => by rw [setObj_lt hlt]; simpa using h1 p (by simp [hp])) (fun p hp => h2 p (by simp [hp])), setObj_lt hlt]
        exact List.getElem?_set_ne (h2 (o', y) (by simp))
    rw [this upd c.os (fun p hp => (f2 p hp).lt) hno]
    exact ho
  cases hx with
  | elemDead _ _ _ _ _ hd => rw [ho] at hd; cases hd
  | elem _ _ _ k' xs' wr β b ho' hm hb hilt =>
    rw [ho] at ho'; cases ho'
    obtain ⟨hk, hob⟩ := ok1.obj _ _ _ ho1 hm
    rcases hob with ⟨hb', -, rfl⟩ | ⟨b', cs, hb', hfp, hh, hn, hle2, hrow⟩
    · simp at hilt
    rw [hb] at hb'; cases hb'
    have hxi : xs[i]? = some xs[i] := by simp [hilt]
    have hgd : xs.getD i (G.df k) = xs[i] := by simp [List.getD, hilt]
    rw [hgd] at hcl
    have hopl := L.len k hk xs[i]
    have hqle : off + q.length ≤ (G.op k xs[i]).length := by rw [f1, hopl]; exact hle
    have hrange : (i + 1) * esz P G k ≤ cs.size := by rw [hn]; exact Nat.le_trans (Nat.mul_le_mul_right _ hilt) hle2
    rw [Nat.add_mul] at hrange
    have hle' : i * esz P G k + off + v.cells.toList.length ≤ cs.size := by simp only [Array.length_toList, hs]; omega
    have hone : ∀ u ∈ v.cells.toList, u.oneCell' = true := by
      intro u hu
      obtain ⟨j, hj⟩ := mem_get? hu
      have hlt : j < vs.length := by rw [← hs]; have := (List.getElem?_eq_some_iff.1 hj).1; simpa using this
      exact (hc j vs[j] u (by simp [hlt]) (by simpa using hj)).2.1
    let w' := c.w.setRow b (splice cs.toList (i * esz P G k + off) v.cells.toList).toArray
    have hrun := store_cells (P := P) (c := ⟨c.w, c.m, setObjs c.os upd⟩) hh hle' hone
    have ch : Chg ⟨c.w, c.m, setObjs c.os upd⟩ o β (.arr k xs true) (.arr k (xs.set i x') true) w' := {
      ho := ho1, hm := hm, mu := rfl, sys := ⟨rfl, rfl, rfl⟩, size := by simp [w'],
      keep := fun b2 hb2 => setRow_other c.w b b2 _ (by rintro rfl; exact hb2 (by simp [hfp])), same := by simp [Same], fz := frozen_setRow hh }
    have tr := ch.tr (F := F)
    have hle'' : i * esz P G k + off + v.cells.toList.length ≤ cs.toList.length := by simpa using hle'
    have hnew := cl_row (c := chgCf ⟨c.w, c.m, setObjs c.os upd⟩ o (.arr k (xs.set i x') true) w') (F := F) (q := fun j => (splice cs.toList (i * esz P G k + off) v.cells.toList)[i * esz P G k + j]?) L hk hcl (fun j d u hd hu => by
      rw [splice_get _ _ _ hqle] at hd
      rw [splice_get _ _ _ hle''] at hu
      split at hd
      · rename_i hj
        rw [if_pos (by simp only [Array.length_toList, hs, ← f1]; omega), show i * esz P G k + j - (i * esz P G k + off) = j - off from by omega] at hu
        exact (f3 _ hfz hfu (j - off) d u hd hu).mono tr
      · rename_i hj
        rw [if_neg (by simp only [Array.length_toList, hs, ← f1]; omega)] at hu
        obtain ⟨u', hu', hr⟩ := hrow i _ hxi j d hd
        have : u' = u := by
          have h2 : cs[i * esz P G k + j]? = some u := by simpa using hu
          rw [hu'] at h2; exact Option.some.inj h2
        subst this
        exact hr.mono tr)
    have hob : ObjR P G F (chgCf ⟨c.w, c.m, setObjs c.os upd⟩ o (.arr k (xs.set i x') true) w') β (.arr k (xs.set i x') true) := by
      refine ⟨hk, .inr ⟨b, (splice cs.toList (i * esz P G k + off) v.cells.toList).toArray, hb, hfp, setRow_heap c.w b cs _ _ _ hh, ?_, by simpa using hle2, fun r y hy j d hd => ?_⟩⟩
      · simp only [List.size_toArray]; rw [splice_length _ _ _ hle'']; simpa using hn
      · have hj : j < esz P G k := by rw [← L.len k hk y]; exact (List.getElem?_eq_some_iff.1 hd).1
        simp only [List.getElem?_toArray]
        by_cases hri : r = i
        · subst hri
          rw [List.getElem?_set_self hilt] at hy
          cases hy
          have hlt2 : r * esz P G k + j < (splice cs.toList (r * esz P G k + off) v.cells.toList).length := by rw [splice_length _ _ _ hle'']; simp only [Array.length_toList]; omega
          have hsome : (splice cs.toList (r * esz P G k + off) v.cells.toList)[r * esz P G k + j]? = some (splice cs.toList (r * esz P G k + off) v.cells.toList)[r * esz P G k + j] := by simp [hlt2]
          exact ⟨_, hsome, hnew.2 j d _ hd hsome⟩
        · rw [List.getElem?_set_ne (Ne.symm hri)] at hy
          obtain ⟨u, hu, hr⟩ := hrow r y hy j d hd
          refine ⟨u, ?_, hr.mono tr⟩
          rw [splice_get _ _ _ hle'', if_neg (by
            intro hcon
            simp only [Array.length_toList, hs] at hcon
            rcases Nat.lt_or_gt_of_ne hri with h | h
            · have : (r + 1) * esz P G k ≤ i * esz P G k := Nat.mul_le_mul_right _ h
              rw [Nat.add_mul] at this; omega
            · have : (i + 1) * esz P G k ≤ r * esz P G k := Nat.mul_le_mul_right _ h
              rw [Nat.add_mul] at this; omega)]
          simpa using hu
    rw [setObjs_append]
    refine ⟨undef, w', c.m, ?_, t1.trans ok1 tr, ch.ok ok1 hob, .undef _⟩
    have e : (storeVar t ⟨b, i * esz P G k + off, none⟩ v).run P c.w = .ok () w' := by
      unfold storeVar
      simp only [Sem.run_bind, run_sizeOf' hi, Result.andThen_ok]
      rw [if_neg (by rw [hs, hsz]; simp)]
      exact hrun
    simp only [Instr.storeAt, Instr.sureAddr, Sem.run_bind, Sem.run_pure, Result.andThen_ok, e]

/-- a cell of a zone -/
theorem store_jel {o k off u : Nat} {t : TypeId} {x : G.T k} {y : G.U u} {q : (u' : Nat) × G.U u'} {w0 : Value} {vs : List (AV G.T)} {a : AV G.T} {va v : Value} (L : Laws P G) (ok : OK P G F N c) (ho : c.os[o]? = some (.usr u y)) (hq : G.jnk u y = some q)
    (hx : VR P G F c (.jel o k x off) va) (hop : (G.op k x)[off]? = some (.lit w0)) (hf : flatC a = some vs) (hv : VR P G F c a v) {ti : TypeInfo} (hi : P.info? t = some ti) (hsz : vs.length = ti.size) (h1 : vs.length = 1) :
    OpTo P G F N c (do Instr.storeAt t va v; pure undef) (setObj c.os o (.usr q.1 q.2)) .undef := by
  obtain ⟨hs, hc⟩ := flatC_rel hf hv
  cases hx with
  | jelDead _ _ _ _ _ hd => rw [ho] at hd; cases hd
  | jel _ _ _ _ u2 y2 β ad ho' hm hr =>
    rw [ho] at ho'; cases ho'
    have hlf := hr.1 off w0 hop
    generalize ad.add off = a at hlf
    have hUR := ok.obj _ _ _ ho hm
    obtain ⟨hb, hcell, hfr, hset⟩ := L.zjw u y q hq _ _ hUR.1 a hlf
    have hcs : v.cells.toList.length = 1 := by simp [hs, h1]
    obtain ⟨v1, hv1⟩ : ∃ v1, v.cells.toList = [v1] := List.length_eq_one_iff.1 hcs
    have hone : v1.oneCell' = true := by
      have hvs : vs[0]? = some vs[0] := List.getElem?_eq_getElem (by omega)
      exact (hc 0 vs[0] v1 hvs (by rw [← Array.getElem?_toList, hv1]; rfl)).2.1
    let w' := c.w.setCell a v1
    have ch : Chg c o β (.usr u y) (.usr q.1 q.2) w' := {
      ho := ho, hm := hm, mu := rfl, sys := ⟨rfl, rfl, rfl⟩, size := by simp [w'],
      keep := fun b2 hb2 => heap_setCell_other c.w a b2 v1 (fun e => hb2 (e ▸ hb)), same := by simp [Same], fz := fun x hx => by simp only [w', World.frozen?_setCell]; exact hx }
    have hob : ObjR P G F (chgCf c o (.usr q.1 q.2) w') β (.usr q.1 q.2) := ⟨hset v1 w' fun _ _ => rfl, fun w2 h2 => hset v1 w2 h2⟩
    refine ⟨undef, w', c.m, ?_, ch.tr, ch.ok ok hob, .undef _⟩
    have hst : (store (a.add 0) v1).run P c.w = .ok () w' := by
      show (store a v1).run P c.w = _
      obtain ⟨u, hu⟩ := Option.isSome_iff_exists.1 hcell
      rw [run_store P c.w _ v1 _ hone]
      simp [hu, hfr, w']
    have e : (storeVar t a v).run P c.w = .ok () w' := by
      unfold storeVar
      simp only [Sem.run_bind, run_sizeOf' hi, Result.andThen_ok]
      rw [if_neg (by rw [hs, hsz]; simp), hv1]
      simp only [storeCells, Sem.run_bind, hst, Result.andThen_ok]
      rfl
    simp only [Instr.storeAt, Instr.sureAddr, Sem.run_bind, Sem.run_pure, Result.andThen_ok, e]

/-- a cell of a flat zone -/
theorem store_zel {o k i off u : Nat} {t : TypeId} {y : G.U u} {xs : List (G.T k)} {x' : G.T k} {q : (u' : Nat) × G.U u'} {vs : List (AV G.T)} {a : AV G.T} {va v : Value} (L : Laws P G) (ok : OK P G F N c) (ho : c.os[o]? = some (.usr u y)) (hrt : G.rt u y = [.imm k xs]) (hfl : G.flat k = true)
    (hx : VR P G F c (.zel o k i off) va) (hf : flatC a = some vs) (hv : VR P G F c a v) {ti : TypeInfo} (hi : P.info? t = some ti) (hsz : vs.length = ti.size) (h1 : vs.length = 1)
    (hcl : G.cl k (splice (G.op k (xs.getD i (G.df k))) off vs) = some x') (hq : G.mkz [.imm k (xs.set i x')] = some q) :
    OpTo P G F N c (do Instr.storeAt t va v; pure undef) (setObj c.os o (.usr q.1 q.2)) .undef := by
  obtain ⟨hs, hc⟩ := flatC_rel hf hv
  cases hx with
  | zelDead _ _ _ _ _ hd => rw [ho] at hd; cases hd
  | zel _ _ _ _ u2 y2 β ad n cap ho' hm hr hlt =>
    rw [ho] at ho'; cases ho'
    have hUR := ok.obj _ _ _ ho hm
    have tr := L.zrt u y _ _ hUR.1 0 _ _ (by rw [hrt]; rfl) hr
    cases tr with
    | imm _ _ _ _ f hk hcap hc2 hv2 =>
    have hxi : xs[i]? = some xs[i] := List.getElem?_eq_getElem hlt
    have hgd : xs.getD i (G.df k) = xs[i] := by simp [List.getD, hlt]
    rw [hgd] at hcl
    obtain ⟨d1, rfl⟩ : ∃ d1, vs = [d1] := List.length_eq_one_iff.1 h1
    have hcs : v.cells.toList.length = 1 := by simp [hs]
    obtain ⟨v1, hv1⟩ : ∃ v1, v.cells.toList = [v1] := List.length_eq_one_iff.1 hcs
    have hd1 := hc 0 d1 v1 rfl (by rw [← Array.getElem?_toList, hv1]; rfl)
    have hlen := L.len k hk xs[i]
    have hlen' := L.len k hk x'
    have hcn := L.cln k hk _ _ hcl
    have hoff : off < (G.op k xs[i]).length := by
      apply Classical.byContradiction; intro hno
      rw [splice] at hcn
      rw [List.take_of_length_le (by omega), List.drop_eq_nil_of_le (by simp; omega)] at hcn
      simp at hcn; omega
    have hsp : splice (G.op k xs[i]) off [d1] = (G.op k xs[i]).set off d1 := by
      unfold splice
      rw [List.set_eq_take_append_cons_drop, if_pos hoff]; simp
    rw [hsp] at hcl
    have hd : ∀ (j : Nat) (d e : AV G.T), ((G.op k xs[i]).set off d1)[j]? = some d → (G.op k x')[j]? = some e → d = e := fun j d e h2 h3 => by
      rcases L.cl k hk _ _ hcl j d e h2 h3 with h4 | ⟨-, k', -, h4⟩
      · exact h4
      · obtain ⟨v, h5⟩ := L.flat k hfl _ j e h3
        rw [h5] at h4; cases h4
    have hop : G.op k x' = (G.op k xs[i]).set off d1 := by
      apply List.ext_getElem?
      intro j
      by_cases hj : j < (G.op k x').length
      · have a1 : (G.op k x')[j]? = some (G.op k x')[j] := List.getElem?_eq_getElem hj
        have a2 : ((G.op k xs[i]).set off d1)[j]? = some (((G.op k xs[i]).set off d1)[j]'(by simp; omega)) := List.getElem?_eq_getElem _
        rw [a1, a2, hd j _ _ a2 a1]
      · rw [List.getElem?_eq_none (by omega), List.getElem?_eq_none (by simp; omega)]
    have hlit : ∃ v0, d1 = .lit v0 := by
      have := L.flat k hfl x' off d1 (by rw [hop, List.getElem?_set_self hoff])
      exact this
    obtain ⟨v0, rfl⟩ := hlit
    have hvv : v0 = v1 := by
      have := hd1.1
      cases this; rfl
    subst hvv
    obtain ⟨hb, hcell, hfr, hset⟩ := L.zst u y k xs hrt hfl hk i off xs[i] x' v0 hxi hoff hop q hq _ _ ad _ cap hUR.1 hr
    generalize ad.add (i * esz P G k + off) = a at hb hcell hfr hset
    let w' := c.w.setCell a v0
    have ch : Chg c o β (.usr u y) (.usr q.1 q.2) w' := {
      ho := ho, hm := hm, mu := rfl, sys := ⟨rfl, rfl, rfl⟩, size := by simp [w'],
      keep := fun b2 hb2 => heap_setCell_other c.w a b2 v0 (fun e => hb2 (e ▸ hb)), same := by simp [Same], fz := fun x hx => by simp only [w', World.frozen?_setCell]; exact hx }
    have hob : ObjR P G F (chgCf c o (.usr q.1 q.2) w') β (.usr q.1 q.2) := ⟨hset w' fun _ _ => rfl, fun w2 h2 => hset w2 h2⟩
    refine ⟨undef, w', c.m, ?_, ch.tr, ch.ok ok hob, .undef _⟩
    have hst : (store (a.add 0) v0).run P c.w = .ok () w' := by
      show (store a v0).run P c.w = _
      obtain ⟨u, hu⟩ := Option.isSome_iff_exists.1 hcell
      rw [run_store P c.w _ v0 _ hd1.2.1]
      simp [hu, hfr, w']
    have e : (storeVar t a v).run P c.w = .ok () w' := by
      unfold storeVar
      simp only [Sem.run_bind, run_sizeOf' hi, Result.andThen_ok]
      rw [if_neg (by rw [hs, hsz]; simp), hv1]
      simp only [storeCells, Sem.run_bind, hst, Result.andThen_ok]
      rfl
    simp only [Instr.storeAt, Instr.sureAddr, Sem.run_bind, Sem.run_pure, Result.andThen_ok, e]

theorem storeV_ok {t : TypeId} {a b : AV G.T} {va vb : Value} {r : OpRes G.T G.U} {l : List Nat} {nb : Nat} (L : Laws P G) (ok : OK P G F N c) (h : Runs P G c.os (storeV P G t a b) l r) (ha : VR P G F c a va) (hb : VR P G F c b vb) :
    OpTo P G F N c (do Instr.storeAt t va vb; pure undef) (addObjs (setObjs c.os r.upd) nb r.new) r.d := by
  unfold storeV at h
  split at h
  · exact h.fail_inv.elim
  · rename_i ti hi
    split at h
    · exact h.fail_inv.elim
    · rename_i vs hvs
      have hszT : szT P t = ti.size := by simp [szT, hi]
      split at h
      case isFalse => exact h.fail_inv.elim
      rename_i hsz
      rw [hszT] at hsz
      split at h
      · rename_i o off
        obtain ⟨l', rfl, g⟩ := h.look_inv
        split at g
        case h_2 => exact g.fail_inv.elim
        rename_i bt cs ho
        have ho := getD_look ho rfl
        split at g
        case isFalse => exact g.fail_inv.elim
        rename_i hle
        obtain ⟨rfl, -⟩ := g.pure_inv
        exact store_box ok ho ha hvs hb hi hsz hle
      · rename_i o i off
        obtain ⟨l', rfl, g⟩ := h.look_inv
        split at g
        case h_2 => exact g.fail_inv.elim
        rename_i k xs ho
        have ho := getD_look ho rfl
        split at g
        case isFalse => exact g.fail_inv.elim
        rename_i hle
        obtain ⟨⟨q, upd⟩, l1, l2, rfl, g1, g2⟩ := g.bind_inv
        simp only at g2
        split at g2
        case isFalse => exact g2.fail_inv.elim
        rename_i hno
        obtain ⟨x', l3, l4, rfl, g3, g4⟩ := g2.bind_inv
        obtain ⟨hcl, -⟩ := g3.ofOpt_inv
        obtain ⟨rfl, -⟩ := g4.pure_inv
        refine store_elem L ok ho ha hvs hb hi hsz hle g1 (fun p hp e => ?_) hcl
        have := List.all_eq_true.1 hno p hp
        simp [e] at this
      · rename_i o k i off
        split at h
        case isFalse => exact h.fail_inv.elim
        rename_i h1
        obtain ⟨l', rfl, g⟩ := h.look_inv
        split at g
        · rename_i u y ho
          have ho := getD_look ho rfl
          split at g
          · rename_i gg hgg
            split at g
            case isFalse => exact g.fail_inv.elim
            rename_i hKo
            obtain ⟨rfl, rfl⟩ := hKo
            split at g
            · rename_i p j
              split at g
              case h_2 => exact g.fail_inv.elim
              rename_i hpo
              obtain ⟨l2, rfl, g2⟩ := g.look_inv
              split at g2
              case h_2 => exact g2.fail_inv.elim
              rename_i u2 y2 hp
              have hp := getD_look hp rfl
              split at g2
              case h_2 => exact g2.fail_inv.elim
              rename_i es hes
              split at g2
              case h_2 => exact g2.fail_inv.elim
              rename_i q hq
              obtain ⟨rfl, -⟩ := g2.pure_inv
              exact putM_ok L ok ho hgg hp hes (fun e => by rw [e, Nat.beq_refl] at hpo; cases hpo) ha hb hi (by omega) hq
            · split at g
              case h_2 => exact g.fail_inv.elim
              rename_i q hq
              obtain ⟨rfl, -⟩ := g.pure_inv
              obtain rfl := hb.lit_inv
              exact nilM_ok L ok ho hgg ha hi (by omega) hq
            · exact g.fail_inv.elim
          split at g
          · rename_i gg hgg
            split at g
            case h_3 => exact g.fail_inv.elim
            case h_2 =>
              rename_i hhl
              split at g
              case isFalse => exact g.fail_inv.elim
              rename_i hKo
              obtain ⟨rfl, rfl⟩ := hKo
              split at g
              case h_2 => exact g.fail_inv.elim
              rename_i q hq
              obtain ⟨rfl, -⟩ := g.pure_inv
              exact nilG_ok L ok ho hgg hhl ha hb hi (by omega) hq
            rename_i i' p hhl
            split at g
            case isFalse => exact g.fail_inv.elim
            rename_i hKo
            obtain ⟨rfl, rfl⟩ := hKo
            obtain ⟨e1, g1⟩ := g.test_inv
            obtain rfl := of_decide_eq_true e1
            obtain ⟨l2, rfl, g2⟩ := g1.look_inv
            split at g2
            case h_2 => exact g2.fail_inv.elim
            rename_i k' ys hp
            have hp := getD_look hp rfl
            obtain ⟨zs, l3, l4, rfl, g3, g4⟩ := g2.bind_inv
            obtain ⟨g3, -⟩ := g3.ofOpt_inv
            obtain ⟨rfl, rfl⟩ := castL_inv g3
            split at g4
            case h_2 => exact g4.fail_inv.elim
            rename_i q hq
            obtain ⟨rfl, -⟩ := g4.pure_inv
            exact put_ok L ok ho hgg hhl hp ha hb hi (by omega) hq
          split at g
          · rename_i k' xs hrt
            split at g
            · rename_i hkf
              obtain ⟨rfl, hfl⟩ := hkf
              obtain ⟨x', l1, l2, rfl, g1, g2⟩ := g.bind_inv
              obtain ⟨hcl, -⟩ := g1.ofOpt_inv
              split at g2
              · rename_i q hq
                obtain ⟨rfl, -⟩ := g2.pure_inv
                exact store_zel L ok ho hrt hfl ha hvs hb hi hsz h1 hcl hq
              · exact g2.fail_inv.elim
            · exact g.fail_inv.elim
          · exact g.fail_inv.elim
        · exact g.fail_inv.elim
      · rename_i o k x off
        split at h
        case isFalse => exact h.fail_inv.elim
        rename_i h1
        split at h
        · rename_i w0 hop
          obtain ⟨l', rfl, g⟩ := h.look_inv
          split at g
          · rename_i u y ho
            have ho := getD_look ho rfl
            split at g
            · rename_i q hq
              obtain ⟨rfl, -⟩ := g.pure_inv
              exact store_jel L ok ho hq ha hop hvs hb hi hsz h1
            · exact g.fail_inv.elim
          · exact g.fail_inv.elim
        · exact h.fail_inv.elim
      · exact h.fail_inv.elim

theorem usr_of_box {nb u : Nat} {x : G.U u} {e : TypeId} {ds : List (AV G.T)} (ok : OK P G F N c) (ho : c.os[nb]? = some (.box e ds)) (hu : ∀ β, ObjR P G F c β (.box e ds) → ObjR P G F c β (.usr u x)) :
    Tr G F c ⟨c.w, c.m, setObj c.os nb (.usr u x)⟩ ∧ OK P G F N ⟨c.w, c.m, setObj c.os nb (.usr u x)⟩ := by
  have hlt : nb < c.os.length := (List.getElem?_eq_some_iff.1 ho).1
  have back : ∀ (j : Nat) (y : AObj G.T G.U), (setObj c.os nb (.usr u x))[j]? = some y → (j ≠ nb ∧ c.os[j]? = some y) ∨ (j = nb ∧ y = .usr u x) := fun j y hy => by
    unfold setObj at hy
    by_cases e : nb = j
    · subst e; rw [List.getElem?_set_self hlt] at hy; cases hy; exact .inr ⟨rfl, rfl⟩
    · rw [List.getElem?_set_ne e] at hy; exact .inl ⟨Ne.symm e, hy⟩
  have bm : ∀ (j : Nat) (y : AObj G.T G.U), (setObj c.os nb (.usr u x))[j]? = some y → ∃ y0, c.os[j]? = some y0 ∧ isMut y0 = isMut y ∧ isLive y0 = isLive y := fun j y hy => by
    rcases back j y hy with ⟨_, h⟩ | ⟨rfl, rfl⟩
    · exact ⟨y, h, rfl, rfl⟩
    · exact ⟨_, ho, rfl, rfl⟩
  have mv : ∀ b, Mv G ⟨c.w, c.m, setObj c.os nb (.usr u x)⟩ b → Mv G c b := by
    rintro b ⟨j, y, β, h1, h2, h3, h4⟩
    obtain ⟨y0, g1, g2, g3⟩ := bm j y h1
    exact ⟨j, y0, β, g1, h2, by rw [g2]; exact h3, h4⟩
  have lv : ∀ b, Lv G ⟨c.w, c.m, setObj c.os nb (.usr u x)⟩ b → Lv G c b := by
    rintro b ⟨j, y, β, h1, h2, h3, h4⟩
    obtain ⟨y0, g1, g2, g3⟩ := bm j y h1
    exact ⟨j, y0, β, g1, h2, by rw [g3]; exact h3, h4⟩
  have tr : Tr G F c ⟨c.w, c.m, setObj c.os nb (.usr u x)⟩ := {
    sys := ⟨rfl, rfl, rfl⟩, size := Nat.le_refl _, keep := fun _ _ _ => rfl
    ext := fun o obj h1 hf => by
      by_cases e : nb = o
      · subst e
        rw [ho] at h1; cases h1
        exact ⟨.usr u x, List.getElem?_set_self hlt, .inr ⟨trivial, .inl rfl⟩⟩
      · refine ⟨obj, by show (c.os.set nb _)[o]? = _; rw [List.getElem?_set_ne e]; exact h1, ?_⟩
        by_cases hd : obj = .dead
        · exact .inl hd
        · exact .inr ⟨Same.refl_live' hd hf, .inl rfl⟩
    mv := fun b _ hb => mv b hb
    fz := fun _ h => h
    lv := fun b _ hb => lv b hb }
  refine ⟨tr, ?_⟩
  constructor
  · show c.m.length = (c.os.set nb _).length; rw [List.length_set]; exact ok.len
  · intro j y β h1 h2
    rcases back j y h1 with ⟨_, h⟩ | ⟨rfl, rfl⟩
    · exact (ok.obj j y β h h2).mono tr fun _ _ _ => rfl
    · exact hu β (ok.obj _ _ β ho h2)
  · intro j y β h1 h2 hy b hb
    obtain ⟨y0, g1, g2, g3⟩ := bm j y h1
    exact ok.own j y0 β g1 h2 (by rw [g3]; exact hy) b hb
  · intro j y β h1 h2 hy b hb
    obtain ⟨y0, g1, g2, g3⟩ := bm j y h1
    exact ok.wr j y0 β g1 h2 (by rw [g2]; exact hy) b hb
  · intro j j' y y' β β' h1 h2 h3 h4 hy hy' hne b hb hb'
    obtain ⟨y0, g1, g2, g3⟩ := bm j y h1
    obtain ⟨y1, g1', g2', g3'⟩ := bm j' y' h2
    exact ok.apart j j' y0 y1 β β' g1 g1' h3 h4 (by rw [g3]; exact hy) (by rw [g3']; exact hy') hne b hb hb'
  · exact ok.low
  · exact ok.gl.step tr

theorem allocU_ok {nb : Nat} {e : TypeId} {z : AV G.T} {ds : List (AV G.T)} {u : Nat} {x : G.U u} (ok : OK P G F N c) (hnb : c.os[nb]? = some .free) (hz : zeroT P G e = some z) (hf : flatC z = some ds)
    (hu : ∀ (c : Cf G) β, ObjR P G F c β (.box e ds) → ObjR P G F c β (.usr u x)) :
    OpTo P G F N c (Instr.alloc e true (.tuple #[])) (setObj c.os nb (.usr u x)) (.ptr nb 0) := by
  obtain ⟨v, w', m', h1, h2, h3, h4⟩ := alloc_ok ok hnb hz hf
  have hlt : nb < c.os.length := (List.getElem?_eq_some_iff.1 hnb).1
  obtain ⟨t5, ok5⟩ := usr_of_box (u := u) (x := x) h3 (nb := nb) (e := e) (ds := ds) (List.getElem?_set_self hlt) (fun β => hu _ β)
  have e5 : setObj (setObj c.os nb (.box e ds)) nb (.usr u x) = setObj c.os nb (.usr u x) := by unfold setObj; rw [List.set_set]
  simp only [e5] at t5 ok5
  exact ⟨v, w', m', h1, h2.trans h3 t5, ok5, h4.mono t5⟩

/-- weaker cells of a box -/
theorem weak_box2 {nb : Nat} {e : TypeId} {ds ds' : List (AV G.T)} (ok : OK P G F N c) (ho : c.os[nb]? = some (.box e ds)) (hl : ds.length = ds'.length)
    (hw : ∀ (β : Blk) (b : Nat) (cs : Array Value), c.m[nb]? = some β → β.b = some b → c.w.heap[b]? = some (.cells cs e (0, 0)) → cs.size = ds.length → Row P G F c cs 0 ds → Row P G F c cs 0 ds') :
    Tr G F c ⟨c.w, c.m, setObj c.os nb (.box e ds')⟩ ∧ OK P G F N ⟨c.w, c.m, setObj c.os nb (.box e ds')⟩ := by
  have hlt : nb < c.os.length := (List.getElem?_eq_some_iff.1 ho).1
  have back : ∀ (j : Nat) (y : AObj G.T G.U), (setObj c.os nb (.box e ds'))[j]? = some y → (j ≠ nb ∧ c.os[j]? = some y) ∨ (j = nb ∧ y = .box e ds') := fun j y hy => by
    unfold setObj at hy
    by_cases e : nb = j
    · subst e; rw [List.getElem?_set_self hlt] at hy; cases hy; exact .inr ⟨rfl, rfl⟩
    · rw [List.getElem?_set_ne e] at hy; exact .inl ⟨Ne.symm e, hy⟩
  have bm : ∀ (j : Nat) (y : AObj G.T G.U), (setObj c.os nb (.box e ds'))[j]? = some y → ∃ y0, c.os[j]? = some y0 ∧ isMut y0 = isMut y ∧ isLive y0 = isLive y := fun j y hy => by
    rcases back j y hy with ⟨_, h⟩ | ⟨rfl, rfl⟩
    · exact ⟨y, h, rfl, rfl⟩
    · exact ⟨_, ho, rfl, rfl⟩
  have mv : ∀ b, Mv G ⟨c.w, c.m, setObj c.os nb (.box e ds')⟩ b → Mv G c b := by
    rintro b ⟨j, y, β, h1, h2, h3, h4⟩
    obtain ⟨y0, g1, g2, g3⟩ := bm j y h1
    exact ⟨j, y0, β, g1, h2, by rw [g2]; exact h3, h4⟩
  have lv : ∀ b, Lv G ⟨c.w, c.m, setObj c.os nb (.box e ds')⟩ b → Lv G c b := by
    rintro b ⟨j, y, β, h1, h2, h3, h4⟩
    obtain ⟨y0, g1, g2, g3⟩ := bm j y h1
    exact ⟨j, y0, β, g1, h2, by rw [g3]; exact h3, h4⟩
  have tr : Tr G F c ⟨c.w, c.m, setObj c.os nb (.box e ds')⟩ := {
    sys := ⟨rfl, rfl, rfl⟩, size := Nat.le_refl _, keep := fun _ _ _ => rfl
    ext := fun o obj h1 hf => by
      by_cases e : nb = o
      · subst e
        rw [ho] at h1; cases h1
        exact ⟨.box _ ds', List.getElem?_set_self hlt, .inr ⟨trivial, .inl rfl⟩⟩
      · refine ⟨obj, by show (c.os.set nb _)[o]? = _; rw [List.getElem?_set_ne e]; exact h1, ?_⟩
        by_cases hd : obj = .dead
        · exact .inl hd
        · exact .inr ⟨Same.refl_live' hd hf, .inl rfl⟩
    mv := fun b _ hb => mv b hb
    fz := fun _ h => h
    lv := fun b _ hb => lv b hb }
  refine ⟨tr, ?_⟩
  constructor
  · show c.m.length = (c.os.set nb _).length; rw [List.length_set]; exact ok.len
  · intro j y β h1 h2
    rcases back j y h1 with ⟨_, h⟩ | ⟨rfl, rfl⟩
    · exact (ok.obj j y β h h2).mono tr fun _ _ _ => rfl
    · obtain ⟨b, cs, hb, hfp, hheap, hsz, hrow⟩ := ok.obj _ _ β ho h2
      exact ⟨b, cs, hb, hfp, hheap, by rw [hsz, hl], (hw β b cs h2 hb hheap hsz hrow).mono tr⟩
  · intro j y β h1 h2 hy b hb
    obtain ⟨y0, g1, g2, g3⟩ := bm j y h1
    exact ok.own j y0 β g1 h2 (by rw [g3]; exact hy) b hb
  · intro j y β h1 h2 hy b hb
    obtain ⟨y0, g1, g2, g3⟩ := bm j y h1
    exact ok.wr j y0 β g1 h2 (by rw [g2]; exact hy) b hb
  · intro j j' y y' β β' h1 h2 h3 h4 hy hy' hne b hb hb'
    obtain ⟨y0, g1, g2, g3⟩ := bm j y h1
    obtain ⟨y1, g1', g2', g3'⟩ := bm j' y' h2
    exact ok.apart j j' y0 y1 β β' g1 g1' h3 h4 (by rw [g3]; exact hy) (by rw [g3']; exact hy') hne b hb hb'
  · exact ok.low
  · exact ok.gl.step tr

theorem weak_box {nb : Nat} {e : TypeId} {ds ds' : List (AV G.T)} (ok : OK P G F N c) (ho : c.os[nb]? = some (.box e ds)) (hl : ds.length = ds'.length)
    (hw : ∀ (j : Nat) (d d' : AV G.T) (v : Value), ds[j]? = some d → ds'[j]? = some d' → VR P G F c d v → VR P G F c d' v) :
    Tr G F c ⟨c.w, c.m, setObj c.os nb (.box e ds')⟩ ∧ OK P G F N ⟨c.w, c.m, setObj c.os nb (.box e ds')⟩ :=
  weak_box2 ok ho hl fun β b cs _ _ _ _ hrow j d hd => by
    have hj : j < ds.length := by rw [hl]; exact (List.getElem?_eq_some_iff.1 hd).1
    obtain ⟨v, hv, hr⟩ := hrow j ds[j] (by simp [hj])
    exact ⟨v, hv, hw j _ _ v (by simp [hj]) hd hr⟩

theorem addObjs_len' : ∀ {l : List (AObj G.T G.U)} {os : List (AObj G.T G.U)} {nb : Nat}, (addObjs os nb l).length = os.length
  | [], _, _ => rfl
  | x :: l, os, nb => by simp only [addObjs]; rw [addObjs_len']; simp [setObj]
theorem addObjs_low : ∀ {l : List (AObj G.T G.U)} {os : List (AObj G.T G.U)} {nb o : Nat}, o < nb → (addObjs os nb l)[o]? = os[o]?
  | [], _, _, _, _ => rfl
  | x :: l, os, nb, o, h => by
    simp only [addObjs]; rw [addObjs_low (by omega)]; unfold setObj; rw [List.getElem?_set_ne (by omega)]
theorem addObjs_set : ∀ {l : List (AObj G.T G.U)} {os : List (AObj G.T G.U)} {nb o : Nat} {x : AObj G.T G.U}, o < nb → addObjs (setObj os o x) nb l = setObj (addObjs os nb l) o x
  | [], _, _, _, _, _ => rfl
  | y :: l, os, nb, o, x, h => by
    simp only [addObjs]
    rw [show setObj (setObj os o x) nb y = setObj (setObj os nb y) o x from by unfold setObj; rw [List.set_comm _ _ (by omega)]]
    exact addObjs_set (by omega)

/-- cells of a new variable, in the form that they begin with -/
def IniR (P : Program) (G : Sig) (F : Nat → Prop) (c : Cf G) (z z' : List (AV G.T)) : Prop :=
  z.length = z'.length ∧ ∀ (j : Nat) (d d' : AV G.T), z[j]? = some d → z'[j]? = some d' → d' = d ∨ (d = .nil0 ∧ ∀ a, (G.strict = true → a = none) → VR P G F c d' (.slice a 0 0)) ∨ (d = .lit (.pointer none) ∧ VR P G F c d' (.pointer none))
theorem IniR.refl (z : List (AV G.T)) : IniR P G F c z z := ⟨rfl, fun j d d' h h' => by rw [h] at h'; cases h'; exact .inl rfl⟩
theorem IniR.mono {z z' : List (AV G.T)} (h : IniR P G F c z z') (t : Tr G F c c') : IniR P G F c' z z' :=
  ⟨h.1, fun j d d' h1 h2 => by
    rcases h.2 j d d' h1 h2 with e | ⟨e, e'⟩ | ⟨e, e'⟩
    · exact .inl e
    · exact .inr (.inl ⟨e, fun a ha => (e' a ha).mono t⟩)
    · exact .inr (.inr ⟨e, e'.mono t⟩)⟩
theorem IniR.cons {z z' : List (AV G.T)} {d d' : AV G.T} (h : IniR P G F c z z') (hd : d' = d ∨ (d = .nil0 ∧ ∀ a, (G.strict = true → a = none) → VR P G F c d' (.slice a 0 0)) ∨ (d = .lit (.pointer none) ∧ VR P G F c d' (.pointer none))) : IniR P G F c (d :: z) (d' :: z') := by
  refine ⟨by simp [h.1], fun j e e' h1 h2 => ?_⟩
  cases j with
  | zero => simp at h1 h2; subst h1; subst h2; exact hd
  | succ j => simp at h1 h2; exact h.2 j e e' h1 h2

theorem iniC_cons {nb i : Nat} {x : Ini} {l : List Ini} {v : AV G.T} {z : List (AV G.T)} : iniC G nb i (x :: l) (v :: z) = (match x, v with
      | .own k, .nil0 => if k < G.n then (.own (nb + i) :: (iniC G nb (i + 1) l z).1, .arr k [] true :: (iniC G nb (i + 1) l z).2) else (v :: z, [])
      | .nsp a, .lit (.pointer none) => (.nsp nb a :: (iniC G nb i l z).1, (iniC G nb i l z).2)
      | _, v => (v :: (iniC G nb i l z).1, (iniC G nb i l z).2)) := by rw [iniC.eq_def]; rfl

theorem iniC_ok {nb : Nat} : ∀ (l : List Ini) (z : List (AV G.T)) (i : Nat) (c : Cf G), OK P G F N c → (∀ j, j < (iniC G nb i l z).2.length → c.os[nb + i + j]? = some .free) →
    ∃ m', Tr G F c ⟨c.w, m', addObjs c.os (nb + i) (iniC G nb i l z).2⟩ ∧ OK P G F N ⟨c.w, m', addObjs c.os (nb + i) (iniC G nb i l z).2⟩ ∧ IniR P G F ⟨c.w, m', addObjs c.os (nb + i) (iniC G nb i l z).2⟩ z (iniC G nb i l z).1
  | [], z, i, c, ok, hf => ⟨c.m, by cases z <;> exact Tr.refl F c, by cases z <;> exact ok, by cases z <;> exact IniR.refl _⟩
  | x :: l, [], i, c, ok, hf => ⟨c.m, Tr.refl F c, ok, IniR.refl _⟩
  | x :: l, v :: z, i, c, ok, hf => by
    rw [iniC_cons] at hf ⊢
    split at hf
    · rename_i k
      split at hf
      · rename_i hk
        rw [if_pos hk]
        have n : New c (nb + i) ⟨none, 0, [], {}⟩ (.arr k [] true) c.w := {
          nb := hf 0 (by simp), sys := ⟨rfl, rfl, rfl⟩, size := Nat.le_refl _, keep := fun _ _ => rfl, fp := fun b hb => by simp at hb, fz := fun _ h => h }
        have t1 := n.tr (F := F) ok.len
        have ok1 := n.ok ok (show ObjR P G F _ ⟨none, 0, [], {}⟩ (.arr k [] true) from ⟨hk, .inl ⟨rfl, rfl, rfl⟩⟩)
        obtain ⟨m', t2, ok2, r2⟩ := iniC_ok l z (i + 1) _ ok1 fun j hj => by
          have := hf (j + 1) (by simp; omega)
          show (setObj c.os (nb + i) _)[_]? = _
          unfold setObj
          rw [List.getElem?_set_ne (by omega)]
          rw [← this]; congr 1; omega
        refine ⟨m', t1.trans ok1 t2, ok2, r2.cons (.inr (.inl ⟨rfl, fun a ha => ?_⟩))⟩
        obtain ⟨a1, a2⟩ := n.at_nb ok.len
        exact (VR.ownNil (P := P) (F := F) (c := newCf c (nb + i) ⟨none, 0, [], {}⟩ (.arr k [] true) c.w) (nb + i) k true ⟨none, 0, [], {}⟩ a a1 a2 rfl ha).mono t2
      · rename_i hk
        rw [if_neg hk]
        exact ⟨c.m, Tr.refl F c, ok, IniR.refl _⟩
    · obtain ⟨m', t2, ok2, r2⟩ := iniC_ok l z i c ok hf
      exact ⟨m', t2, ok2, r2.cons (.inr (.inr ⟨rfl, .nspNil _ _⟩))⟩
    · obtain ⟨m', t2, ok2, r2⟩ := iniC_ok l z i c ok hf
      exact ⟨m', t2, ok2, r2.cons (.inl rfl)⟩

theorem allocI_ok {nb : Nat} {e : TypeId} {z : AV G.T} {ds : List (AV G.T)} {l : List Ini} (ok : OK P G F N c) (hnb : ∀ j, j < (iniC G nb 1 l ds).2.length + 1 → c.os[nb + j]? = some .free) (hz : zeroT P G e = some z) (hf : flatC z = some ds) :
    OpTo P G F N c (Instr.alloc e true (.tuple #[])) (addObjs c.os nb (.box e (iniC G nb 1 l ds).1 :: (iniC G nb 1 l ds).2)) (.ptr nb 0) := by
  obtain ⟨m1, t1, ok1, r1⟩ := iniC_ok (nb := nb) (F := F) (P := P) (N := N) l ds 1 c ok fun j hj => by
    have := hnb (1 + j) (by omega)
    rw [← this]; congr 1; omega
  obtain ⟨v, w', m', h1, h2, h3, h4⟩ := alloc_ok ok1 (by show (addObjs c.os (nb + 1) _)[nb]? = _; rw [addObjs_low (by omega)]; exact hnb 0 (by omega)) hz hf
  have hlt : nb < c.os.length := (List.getElem?_eq_some_iff.1 (hnb 0 (by omega))).1
  obtain ⟨t3, ok3⟩ := weak_box (ds' := (iniC G nb 1 l ds).1) h3 (nb := nb) (e := e) (ds := ds) (List.getElem?_set_self (by rw [addObjs_len']; exact hlt)) r1.1 fun j d d' v hd hd' hv => by
    rcases (r1.mono h2).2 j d d' hd hd' with e | ⟨e, e'⟩ | ⟨e, e'⟩
    · subst e; exact hv
    · subst e; cases hv with | nil0 a ha => exact e' _ ha
    · subst e; cases hv; exact e'
  have es : addObjs c.os nb (.box e (iniC G nb 1 l ds).1 :: (iniC G nb 1 l ds).2) = setObj (setObj (addObjs c.os (nb + 1) (iniC G nb 1 l ds).2) nb (.box e ds)) nb (.box e (iniC G nb 1 l ds).1) := by
    show addObjs (setObj c.os nb _) (nb + 1) _ = _
    rw [addObjs_set (by omega)]
    unfold setObj; rw [List.set_set]
  rw [es]
  exact ⟨v, w', m', h1, (t1.trans ok1 h2).trans h3 t3, ok3, h4.mono t3⟩

theorem boxI_ok {nb : Nat} {e : TypeId} {z : AV G.T} {u : Value} {ds : List (AV G.T)} {l : List Ini} (ok : OK P G F N c) (hnb : ∀ j, j < (iniC G nb 1 l ds).2.length + 1 → c.os[nb + j]? = some .free) (hf : flatC z = some ds) (hr : VR P G F c z u) :
    OpTo P G F N c (do pure (.pointer (some (← newVar e u)))) (addObjs c.os nb (.box e (iniC G nb 1 l ds).1 :: (iniC G nb 1 l ds).2)) (.ptr nb 0) := by
  obtain ⟨m1, t1, ok1, r1⟩ := iniC_ok (nb := nb) (F := F) (P := P) (N := N) l ds 1 c ok fun j hj => by
    have := hnb (1 + j) (by omega)
    rw [← this]; congr 1; omega
  obtain ⟨v, w', m', h1, h2, h3, h4⟩ := box_ok (e := e) ok1 (by show (addObjs c.os (nb + 1) _)[nb]? = _; rw [addObjs_low (by omega)]; exact hnb 0 (by omega)) hf (hr.mono t1)
  have hlt : nb < c.os.length := (List.getElem?_eq_some_iff.1 (hnb 0 (by omega))).1
  obtain ⟨t3, ok3⟩ := weak_box (ds' := (iniC G nb 1 l ds).1) h3 (nb := nb) (e := e) (ds := ds) (List.getElem?_set_self (by rw [addObjs_len']; exact hlt)) r1.1 fun j d d' v hd hd' hv => by
    rcases (r1.mono h2).2 j d d' hd hd' with e | ⟨e, e'⟩ | ⟨e, e'⟩
    · subst e; exact hv
    · subst e; cases hv with | nil0 a ha => exact e' _ ha
    · subst e; cases hv; exact e'
  have es : addObjs c.os nb (.box e (iniC G nb 1 l ds).1 :: (iniC G nb 1 l ds).2) = setObj (setObj (addObjs c.os (nb + 1) (iniC G nb 1 l ds).2) nb (.box e ds)) nb (.box e (iniC G nb 1 l ds).1) := by
    show addObjs (setObj c.os nb _) (nb + 1) _ = _
    rw [addObjs_set (by omega)]
    unfold setObj; rw [List.set_set]
  rw [es]
  exact ⟨v, w', m', h1, (t1.trans ok1 h2).trans h3 t3, ok3, h4.mono t3⟩

end
end Go.Proofs.Ytjfmfpnnjgfffaa.Am
