/- The abstract machine: calls, whole. -/
import Derived.Test.YtjfmfpnnjgfffaaAmCall
namespace Go.Proofs.Ytjfmfpnnjgfffaa.Am
open Go
set_option autoImplicit false
set_option linter.unusedVariables false
set_option linter.unusedSectionVars false
set_option linter.unusedSimpArgs false

section
variable {P : Program} {G : Sig} {F F' N : Nat → Prop} {c c' c'' : Cf G}

theorem Frz.mut {os os' : List (AObj G.T G.U)} (h : Frz os os') {o : Nat} {obj : AObj G.T G.U} (ho : os'[o]? = some obj) (hm : isMut obj = true) : os[o]? = some obj := by
  rcases h.back ho with h1 | ⟨k, xs, wr, _, rfl⟩ | ⟨u, x, _, rfl⟩
  · exact h1
  · simp [isMut] at hm
  · simp [isMut] at hm

theorem Frz.live {os os' : List (AObj G.T G.U)} (h : Frz os os') {o : Nat} {obj : AObj G.T G.U} (ho : os'[o]? = some obj) (hl : isLive obj = true) : ∃ obj0, os[o]? = some obj0 ∧ isLive obj0 = true := by
  rcases h.back ho with h1 | ⟨k, xs, wr, h1, rfl⟩ | ⟨u, x, _, rfl⟩
  · exact ⟨_, h1, hl⟩
  · exact ⟨_, h1, rfl⟩
  · simp [isLive] at hl

/-- what a frozen row says of its memory is what the row said -/
theorem ObjR.frz {β : Blk} {k : Nat} {xs : List (G.T k)} {wr wr' : Bool} (h : ObjR P G F c β (.arr k xs wr)) : ObjR P G F c β (.arr k xs wr') := h

theorem renO_notlive {ρ : Nat → Option Nat} {x : AObj G.T G.U} (h : ¬ isLive x = true) (hf : x ≠ .free) : renO ρ x = .dead := by cases x <;> simp_all [isLive, renO]
theorem notlive {x : AObj G.T G.U} (h : ¬ isLive x = true) : x = .dead ∨ x = .free := by cases x <;> simp_all [isLive]

/-- what is handed over to be written, as the callee sees it -/
def jO (G : Sig) (f : FuncId) (x : AObj G.T G.U) : AObj G.T G.U := if G.jn f = true then jkO G x else x
theorem jkO_eq (x : AObj G.T G.U) : jkO G x = x ∨ ∃ u y q, x = .usr u y ∧ G.jnk u y = some q ∧ jkO G x = .usr q.1 q.2 := by
  unfold jkO
  split
  · rename_i u y
    split
    · rename_i q hq; exact .inr ⟨u, y, q, rfl, hq, rfl⟩
    · exact .inl rfl
  · exact .inl rfl
theorem jO_eq (f : FuncId) (x : AObj G.T G.U) : jO G f x = x ∨ ∃ u y q, x = .usr u y ∧ G.jnk u y = some q ∧ jO G f x = .usr q.1 q.2 := by
  unfold jO
  split
  · exact jkO_eq x
  · exact .inl rfl
theorem jO_mut {f : FuncId} {x : AObj G.T G.U} : isMut (jO G f x) = isMut x := by
  rcases jO_eq f x with h | ⟨u, y, q, rfl, _, h⟩ <;> rw [h] <;> rfl
theorem jO_arr {f : FuncId} {x : AObj G.T G.U} : isArr (jO G f x) = isArr x := by
  rcases jO_eq f x with h | ⟨u, y, q, rfl, _, h⟩ <;> rw [h] <;> rfl
theorem jO_live {f : FuncId} {x : AObj G.T G.U} : isLive (jO G f x) = isLive x := by
  rcases jO_eq f x with h | ⟨u, y, q, rfl, _, h⟩ <;> rw [h] <;> rfl
theorem jO_same {f : FuncId} {x y : AObj G.T G.U} : Same (jO G f x) y ↔ Same x y := by
  rcases jO_eq f x with h | ⟨u, z, q, rfl, _, h⟩ <;> rw [h]
  cases y <;> simp [Same]
theorem jO_same' {f : FuncId} {x y : AObj G.T G.U} : Same x (jO G f y) ↔ Same x y := by
  rcases jO_eq f y with h | ⟨u, z, q, rfl, _, h⟩ <;> rw [h]
  cases x <;> simp [Same]
theorem jO_obj (L : Laws P G) {f : FuncId} {x : AObj G.T G.U} {β : Blk} (h : ObjR P G F c β x) : ObjR P G F c β (jO G f x) := by
  rcases jO_eq f x with e | ⟨u, y, q, rfl, hq, e⟩ <;> rw [e]
  · exact h
  · exact ⟨L.zju u y q hq _ _ h.1 _ fun _ _ => rfl, fun w2 h2 => L.zju u y q hq _ _ h.1 _ h2⟩

theorem jk1_ok {x d : AV G.T} {v : Value} {l : List Nat} (L : Laws P G) (ok : OK P G F N c) (h : Runs P G c.os (jk1 G x) l d) (hx : VR P G F c x v) : VR P G F c d v := by
  unfold jk1 at h
  split at h
  · rename_i o j
    obtain ⟨l', rfl, h1⟩ := h.look_inv
    split at h1
    · rename_i u x ho
      have ho := getD_look ho rfl
      split at h1
      · rename_i q k xs hq hd
        obtain ⟨rfl, -⟩ := h1.pure_inv
        cases hx with
        | refDead _ _ _ hdd => rw [ho] at hdd; cases hdd
        | ref _ _ u2 x2 β _ ho' hm hr =>
          rw [ho] at ho'; cases ho'
          have hj := L.zrj u x q hq _ _ (ok.obj _ _ _ ho hm).1 j _ _ hd hr
          cases hj with
          | imm _ _ a cap f hk hcap hl hs hv => exact .jk o k xs u x β a _ cap ho hm (.imm k xs a cap f hk hcap hl hs hv) (jr_some L (.imm k xs a cap f hk hcap hl hs hv))
      · exact h1.fail_inv.elim
    · exact h1.fail_inv.elim
  · obtain ⟨rfl, -⟩ := h.pure_inv; exact hx
theorem jkV_ok {x d : AV G.T} {v : Value} {l : List Nat} (L : Laws P G) (ok : OK P G F N c) (h : Runs P G c.os (jkV G x) l d) (hx : VR P G F c x v) : VR P G F c d v := by
  unfold jkV at h
  split at h
  · obtain ⟨q, l1, l2, rfl, h1, h2⟩ := h.bind_inv
    obtain ⟨rfl, -⟩ := h2.pure_inv
    obtain ⟨g1, g2⟩ := mapL_inv h1
    obtain ⟨ws, rfl, hn, hr⟩ := hx.agg_inv
    refine .agg _ _ (by rw [g1]; exact hn) fun i d v hd hv => ?_
    rename_i cs
    have hlt : i < cs.length := by rw [← g1]; exact (List.getElem?_eq_some_iff.1 hd).1
    have he : cs[i]? = some cs[i] := List.getElem?_eq_getElem hlt
    obtain ⟨l', h3⟩ := g2 i _ d he hd
    exact jk1_ok L ok h3 (hr i _ v he hv)
  · exact jk1_ok L ok h hx

/-- the arguments, as they are handed over -/
theorem args_ok {f : FuncId} {args ds : List (AV G.T)} {vs : List Value} {l : List Nat} {upd : List (Nat × AObj G.T G.U)} (L : Laws P G) (ok : OK P G F N c)
    (h : Runs P G c.os (if G.jn f = true then (Rd.mapL (jkV G) args).bind fun q => .pure (q, []) else snaps G (G.mode f) args) l (ds, upd)) (hlen : args.length = vs.length)
    (hx : ∀ (i : Nat) (d : AV G.T) (v : Value), args[i]? = some d → vs[i]? = some v → VR P G F c d v) :
    ds.length = args.length ∧ (∀ p ∈ upd, FU c.os p) ∧
    ∀ os', Frz c.os os' → (∀ p ∈ upd, os'[p.1]? = some p.2) → ∀ (i : Nat) (d : AV G.T) (v : Value), ds[i]? = some d → vs[i]? = some v → VR P G F ⟨c.w, c.m, os'⟩ d v := by
  split at h
  · obtain ⟨q, l1, l2, rfl, h1, h2⟩ := h.bind_inv
    obtain ⟨e, -⟩ := h2.pure_inv; cases e
    obtain ⟨g1, g2⟩ := mapL_inv h1
    refine ⟨g1, fun p hp => by simp at hp, fun os' hf _ i d v hd hv => ?_⟩
    have hlt : i < args.length := by rw [← g1]; exact (List.getElem?_eq_some_iff.1 hd).1
    have he : args[i]? = some args[i] := List.getElem?_eq_getElem hlt
    obtain ⟨l', h3⟩ := g2 i _ d he hd
    exact (jkV_ok L ok h3 (hx i _ v he hv)).mono hf.tr
  · exact snaps_ok L ok h hlen hx

set_option maxHeartbeats 4000000 in
theorem callN_ok {nb : Nat} {f : FuncId} {args : List (AV G.T)} {vals : List Value} {r : OpRes G.T G.U} {l : List Nat} (L : Laws P G) (ok : OK P G F N c) (hnb0 : nb ≤ c.os.length) (hnb : ∀ i, i < r.new.length → c.os[nb + i]? = some .free)
    (h : Runs P G c.os (callN G nb f args) l r) (hlen : args.length = vals.length) (hx : ∀ (i : Nat) (d : AV G.T) (v : Value), args[i]? = some d → vals[i]? = some v → VR P G F c d v) :
    Calls P f vals.toArray c.w fun e w' => ∃ v m', e = .returned v ∧ Tr G F c ⟨w', m', addObjs (setObjs c.os r.upd) nb r.new⟩ ∧ OK P G F N ⟨w', m', addObjs (setObjs c.os r.upd) nb r.new⟩ ∧
      VR P G F ⟨w', m', addObjs (setObjs c.os r.upd) nb r.new⟩ r.d v := by
  unfold callN at h
  obtain ⟨⟨args', fr0⟩, l1, l2, rfl, g1, g2⟩ := h.bind_inv
  obtain ⟨rs, l3, l4, rfl, g3, g4⟩ := g2.bind_inv
  simp only at g4
  clear h g2
  split at g4
  case isFalse => exact g4.fail_inv.elim
  rename_i hdis
  cases g4 with
  | call _ _ _ _ r0 os0 _ _ hs g5 =>
  simp only at g5
  split at g5
  case isFalse => exact g5.fail_inv.elim
  rename_i hle
  split at g5
  case isFalse => exact g5.fail_inv.elim
  rename_i hle3
  split at g5
  case isTrue => exact g5.fail_inv.elim
  rename_i hnold
  have hnold : hasOld r0 = false ∧ os0.any hasOldO = false := by simpa using hnold
  obtain ⟨rfl, -⟩ := g5.pure_inv
  clear g5

  -- names
  let ns : List Nat := rs.map (·.1)
  have hnsdef : rs.map (·.1) = ns := rfl
  rw [hnsdef] at hs hle hle3 hdis
  obtain ⟨hnd, hrs⟩ := reach_ok g3 (by simp) (fun p hp => by simp at hp)
  have hnd : ns.Nodup := hnd
  obtain ⟨s1, s2, s3⟩ := args_ok L ok g1 hlen hx
  obtain ⟨hfz, hfu⟩ := frz_setObjs s2
  let cs : Cf G := ⟨c.w, c.m, setObjs c.os fr0⟩
  have okS : OK P G F N cs := hfz.ok ok
  have hfrlt : ∀ p ∈ fr0, p.1 < c.os.length := fun p hp => by
    exact (s2 p hp).lt
  have hdis' : ∀ p ∈ fr0, p.1 ∉ ns := fun p hp => by
    have := List.all_eq_true.1 hdis p hp
    exact lmem_false (by simpa using this)
  have hcs : ∀ o, o ∈ ns → cs.os[o]? = c.os[o]? := fun o ho => setObjs_other fun p hp e => hdis' p hp (e ▸ ho)
  have hnsj : ∀ (j o : Nat), ns[j]? = some o → ∃ x, rs[j]? = some (o, x) ∧ isLive x = true ∧ c.os[o]? = some x := by
    intro j o hj
    simp only [ns, List.getElem?_map, Option.map_eq_some_iff] at hj
    obtain ⟨p, hp, rfl⟩ := hj
    have := hrs p (List.mem_of_getElem? hp)
    exact ⟨p.2, hp, this.1, this.2⟩
  have hnslt : ∀ o ∈ ns, o < c.os.length := fun o ho => by
    obtain ⟨j, hj⟩ := mem_get? ho
    obtain ⟨x, _, _, h⟩ := hnsj j o hj
    exact (List.getElem?_eq_some_iff.1 h).1
  have hnsinj : ∀ (j j' o : Nat), ns[j]? = some o → ns[j']? = some o → j = j' := fun j j' o h h' => by
    have e : ns[j]? = ns[j']? := h.trans h'.symm
    exact (List.getElem?_inj (List.getElem?_eq_some_iff.1 h).1 hnd).1 e
  -- the callee's view
  let hat : Cf G := ⟨c.w, ns.map fun o => c.m.getD o ⟨none, 0, [], {}⟩, rs.map fun p => renO (posIn ns) (jO G f p.2)⟩
  have hatinv : ∀ (j : Nat) (y : AObj G.T G.U) (β : Blk), hat.os[j]? = some y → hat.m[j]? = some β → ∃ o x, ns[j]? = some o ∧ c.os[o]? = some x ∧ isLive x = true ∧ y = renO (posIn ns) (jO G f x) ∧ c.m[o]? = some β := by
    intro j y β h1 h2
    simp only [hat, List.getElem?_map, Option.map_eq_some_iff] at h1 h2
    obtain ⟨p, hp, rfl⟩ := h1
    obtain ⟨o, ho, rfl⟩ := h2
    obtain ⟨x, hx1, hx2, hx3⟩ := hnsj j o ho
    rw [hp] at hx1; cases hx1
    have hlt : o < c.m.length := by rw [ok.len]; exact (List.getElem?_eq_some_iff.1 hx3).1
    exact ⟨o, x, ho, hx3, hx2, rfl, by simp [List.getD, hlt]⟩
  let Fh : Nat → Prop := fun b => F b ∨ ∃ (o : Nat) (obj : AObj G.T G.U) (β : Blk), o ∉ ns ∧ cs.os[o]? = some obj ∧ c.m[o]? = some β ∧ isMut obj = true ∧ b ∈ β.fp
  have avHat : ∀ b, Av G Fh hat b → Av G F cs b := by
    rintro b ((hf | ⟨o, obj, β, _, h2, h3, h4, h5⟩) | ⟨j, y, β, h1, h2, h3, h4⟩)
    · exact .inl hf
    · exact .inr ⟨o, obj, β, h2, h3, h4, h5⟩
    · obtain ⟨o, x, ho, hx1, hx2, rfl, hx3⟩ := hatinv j y β h1 h2
      rw [renO_mut, jO_mut] at h3
      exact .inr ⟨o, x, β, by rw [hcs o (List.mem_of_getElem? ho)]; exact hx1, hx3, h3, h4⟩
  have mvHat : ∀ b, Mv G hat b → Mv G cs b := by
    rintro b ⟨j, y, β, h1, h2, h3, h4⟩
    obtain ⟨o, x, ho, hx1, hx2, rfl, hx3⟩ := hatinv j y β h1 h2
    rw [renO_mut, jO_mut] at h3
    exact ⟨o, x, β, by rw [hcs o (List.mem_of_getElem? ho)]; exact hx1, hx3, h3, h4⟩
  have renH : RenOK (posIn ns) cs hat := by
    intro o j hj obj hobj _
    have hj := posIn_inv hj
    rw [hcs o (List.mem_of_getElem? hj)] at hobj
    obtain ⟨x, hx1, hx2, hx3⟩ := hnsj j o hj
    rw [hobj] at hx3; cases hx3
    have hlt : o < c.m.length := by rw [ok.len]; exact (List.getElem?_eq_some_iff.1 hobj).1
    refine ⟨renO (posIn ns) (jO G f obj), by simp [hat, hx1], .inr ⟨renO_same.2 (jO_same'.2 (Same.refl_live hx2)), ?_⟩⟩
    show (ns.map fun o => c.m.getD o ⟨none, 0, [], {}⟩)[j]? = c.m[o]?
    simp [hj, List.getD, hlt]
  have okH : OK P G Fh (Nof hat) hat := by
    constructor
    · simp [hat, ns]
    · intro j y β h1 h2
      obtain ⟨o, x, ho, hx1, hx2, rfl, hx3⟩ := hatinv j y β h1 h2
      have := okS.obj o x β (by rw [hcs o (List.mem_of_getElem? ho)]; exact hx1) hx3
      exact ObjR.ren (c := cs) (c' := hat) L rfl renH (jO_obj L this) (fun _ b hb => avHat b hb) (fun _ b hb => mvHat b hb)
    · intro j y β h1 h2 hl b hb
      obtain ⟨o, x, ho, hx1, hx2, rfl, hx3⟩ := hatinv j y β h1 h2
      obtain ⟨h5, h6⟩ := ok.own o x β hx1 hx3 hx2 b hb
      refine ⟨?_, h6⟩
      rintro (hf | ⟨o', obj, β', h7, h8, h9, h10, h11⟩)
      · exact h5 hf
      · have h8' := hfz.mut h8 h10
        exact ok.apart o o' x obj β β' hx1 h8' hx3 h9 hx2 (isMut_live h10) (fun e => h7 (e ▸ List.mem_of_getElem? ho)) b hb h11
    · intro j y β h1 h2 hm b hb hN
      exact hN.2 j y β h1 h2 hm hb
    · intro j j' y y' β β' h1 h2 h3 h4 hl hl' hne b hb hb'
      obtain ⟨o, x, ho, hx1, hx2, rfl, hx3⟩ := hatinv j y β h1 h3
      obtain ⟨o', x', ho', hx1', hx2', rfl, hx3'⟩ := hatinv j' y' β' h2 h4
      exact ok.apart o o' x x' β β' hx1 hx1' hx3 hx3' hx2 hx2' (fun e => hne (hnsinj j j' o ho (e ▸ ho'))) b hb hb'
    · rintro b ((hf | ⟨o, obj, β, _, h2, h3, h4, h5⟩) | hN)
      · exact ok.low b (.inl hf)
      · exact (okS.own o obj β h2 h3 (isMut_live h4) b h5).2
      · exact hN.1
    · intro b v hb
      refine ⟨(ok.gl b v hb).1, ?_⟩
      rintro ⟨j, y, β, h1, h2, h3, h4⟩
      obtain ⟨o, x, ho, hx1, hx2, rfl, hx3⟩ := hatinv j y β h1 h2
      exact (ok.gl b v hb).2 ⟨o, x, β, hx1, hx3, hx2, h4⟩
  have hargs : ∀ (i : Nat) (d : AV G.T) (v : Value), (renL (posIn ns) args')[i]? = some d → vals[i]? = some v → VR P G Fh hat d v := by
    intro i d v hd hv
    obtain ⟨e, he, rfl⟩ := renL_get hd
    have := s3 _ hfz hfu i e v he hv
    exact VR.ren (c := cs) (c' := hat) L rfl renH this (fun _ b hb => avHat b hb) (fun _ b hb => mvHat b hb)
  refine (hs Fh c.w hat.m vals okH (by rw [renL_length, s1, hlen]) hargs).mono ?_
  rintro e w' ⟨v, mh, rfl, tH, okH', hv⟩
  -- back
  let hat' : Cf G := ⟨w', mh, os0⟩
  have hn : ns.length = hat.os.length := by simp [hat, ns]
  let imm : Bool := hasImm r0 || os0.any (hasImmO G.flat)
  let fr : List (Nat × AObj G.T G.U) := if imm then fr0 else []
  have hfrsub : ∀ p ∈ fr, p ∈ fr0 := fun p hp => by
    simp only [fr] at hp; split at hp
    · exact hp
    · simp at hp
  have hfrimm : imm = true → fr = fr0 := fun hi => by simp [fr, hi]
  obtain ⟨hfzx, -⟩ := frz_setObjs (upd := fr) (os := c.os) fun p hp => s2 p (hfrsub p hp)
  have hfrlt' : ∀ p ∈ fr, p.1 < c.os.length := fun p hp => hfrlt p (hfrsub p hp)
  let os1 : List (AObj G.T G.U) := os0.map (renO (backIn ns nb))
  let upd : List (Nat × AObj G.T G.U) := fr ++ ns.zip (os1.take ns.length)
  have hl0 : (setObjs c.os upd).length = c.os.length := setObjs_len
  have hl1 : (setObjs c.os fr).length = c.os.length := setObjs_len
  let new : List (AObj G.T G.U) := os1.drop ns.length
  have hnew : new.length = os0.length - ns.length := by simp [new, os1]
  have hroom : nb + new.length ≤ c.os.length := by
    by_cases h0 : new.length = 0
    · rw [h0]; exact hnb0
    · have := (List.getElem?_eq_some_iff.1 (hnb (new.length - 1) (by show _ < new.length; omega))).1
      omega
  have hfree : ∀ o, nb ≤ o → o < nb + new.length → c.os[o]? = some .free := fun o h1 h2 => by
    have := hnb (o - nb) (by show _ < new.length; omega)
    rwa [Nat.add_sub_cancel' h1] at this
  have hnsfree : ∀ o ∈ ns, o < nb ∨ nb + new.length ≤ o := fun o ho => by
    apply Classical.byContradiction
    intro hh
    have h1 := hfree o (by omega) (by omega)
    obtain ⟨j, hj⟩ := mem_get? ho
    obtain ⟨x, _, h2, h3⟩ := hnsj j o hj
    rw [h1] at h3; cases h3; simp [isLive] at h2
  let m2 : List Blk := setM (setMz c.m (ns.zip mh)) nb (mh.drop ns.length)
  let c2 : Cf G := ⟨w', m2, addObjs (setObjs c.os upd) nb new⟩
  have hmlen : mh.length = os0.length := okH'.len
  -- the objects
  have hmdrop : (mh.drop ns.length).length = new.length := by rw [hnew]; simp [hmlen]
  have osRest : ∀ o, (o < nb ∨ nb + new.length ≤ o) → o ∉ ns → c2.os[o]? = (setObjs c.os fr)[o]? := by
    intro o ho hne
    show (addObjs (setObjs c.os upd) nb new)[o]? = _
    rw [addObjs_other ho, show upd = fr ++ ns.zip (os1.take ns.length) from rfl, setObjs_append]
    exact setObjs_other fun p hp e => hne (e ▸ zip_fst hp)
  have osHat : ∀ (j o : Nat) (x : AObj G.T G.U), ns[j]? = some o → os0[j]? = some x → c2.os[o]? = some (renO (backIn ns nb) x) := by
    intro j o x hj hxj
    have hjn : j < ns.length := (List.getElem?_eq_some_iff.1 hj).1
    show (addObjs (setObjs c.os upd) nb new)[o]? = _
    rw [addObjs_other (hnsfree o (List.mem_of_getElem? hj)), show upd = fr ++ ns.zip (os1.take ns.length) from rfl, setObjs_append]
    refine setObjs_zip hnd (fun n hn => by rw [hl1]; exact hnslt n hn) hj ?_
    rw [List.getElem?_take, if_pos hjn]; simp [os1, hxj]
  have osNew : ∀ (i : Nat) (x : AObj G.T G.U), os0[ns.length + i]? = some x → c2.os[nb + i]? = some (renO (backIn ns nb) x) := by
    intro i x hi
    refine addObjs_new (by rw [hl0]; exact hroom) ?_
    simp [new, os1, hi]
  have mOld : ∀ o, (o < nb ∨ nb + new.length ≤ o) → o ∉ ns → c2.m[o]? = c.m[o]? := by
    intro o ho hne
    have h1 : c2.m[o]? = (setMz c.m (ns.zip mh))[o]? := setM_other (by rw [hmdrop]; exact ho)
    rw [h1]
    exact setMz_other fun p hp e => hne (e ▸ zipM_fst hp)
  have mNew : ∀ (i : Nat) (x : AObj G.T G.U), os0[ns.length + i]? = some x → c2.m[nb + i]? = mh[ns.length + i]? := by
    intro i x hi
    have hlt : ns.length + i < mh.length := by rw [hmlen]; exact (List.getElem?_eq_some_iff.1 hi).1
    have h1 : (mh.drop ns.length)[i]? = some mh[ns.length + i] := by rw [List.getElem?_drop]; simp [hlt]
    have : c2.m[nb + i]? = some mh[ns.length + i] := setM_new (by rw [hmdrop, setMz_len, ok.len]; exact hroom) h1
    rw [this]; simp [hlt]
  -- a live object, whence it is
  have hatM : ∀ (j o : Nat) (x : AObj G.T G.U), ns[j]? = some o → os0[j]? = some x → mh[j]? = c2.m[o]? := by
    intro j o x hj hxj
    have hjm : j < mh.length := by rw [hmlen]; exact (List.getElem?_eq_some_iff.1 hxj).1
    have h1 : mh[j]? = some mh[j] := List.getElem?_eq_getElem hjm
    have h2 : c2.m[o]? = (setMz c.m (ns.zip mh))[o]? := setM_other (by rw [hmdrop]; exact hnsfree o (List.mem_of_getElem? hj))
    rw [h2, h1]
    exact (setMz_zip hnd (fun n hn => by rw [ok.len]; exact hnslt n hn) hj h1).symm
  have hatC : ∀ (j o : Nat) (y : AObj G.T G.U), ns[j]? = some o → rs[j]? = some (o, y) → hat.m[j]? = c.m[o]? := by
    intro j o y hj hy
    obtain ⟨y', hy1, hy2, hy3⟩ := hnsj j o hj
    have hlt : o < c.m.length := by rw [ok.len]; exact (List.getElem?_eq_some_iff.1 hy3).1
    simp [hat, hj, List.getD, hlt]
  have CL : ∀ (o : Nat) (obj : AObj G.T G.U) (β : Blk), c2.os[o]? = some obj → c2.m[o]? = some β → isLive obj = true →
      (∃ j x, os0[j]? = some x ∧ mh[j]? = some β ∧ obj = renO (backIn ns nb) x ∧ backIn ns nb j = some o) ∨ (o ∉ ns ∧ (o < nb ∨ nb + new.length ≤ o) ∧ (setObjs c.os fr)[o]? = some obj ∧ c.m[o]? = some β) := by
    intro o obj β h1 h2 hl
    by_cases h3 : o < nb ∨ nb + new.length ≤ o
    · by_cases ho : o ∈ ns
      · left
        obtain ⟨j, hj⟩ := mem_get? ho
        have hjn : j < ns.length := (List.getElem?_eq_some_iff.1 hj).1
        have hjo : j < os0.length := by omega
        have hx : os0[j]? = some os0[j] := by simp [hjo]
        have e := osHat j o _ hj hx
        rw [h1] at e; cases e
        rw [renO_live] at hl
        exact ⟨j, os0[j], hx, (hatM j o _ hj hx).trans h2, rfl, by simp [backIn, hj]⟩
      · right
        rw [osRest o h3 ho] at h1
        rw [mOld o h3 ho] at h2
        exact ⟨ho, h3, h1, h2⟩
    · left
      have hlt : ns.length + (o - nb) < os0.length := by omega
      have hx : os0[ns.length + (o - nb)]? = some os0[ns.length + (o - nb)] := by simp [hlt]
      have e := osNew (o - nb) _ hx
      have e2 := mNew (o - nb) _ hx
      rw [Nat.add_sub_cancel' (by omega)] at e e2
      rw [h1] at e; cases e
      rw [e2] at h2
      refine ⟨ns.length + (o - nb), _, hx, h2, rfl, ?_⟩
      have : ns[ns.length + (o - nb)]? = none := List.getElem?_eq_none (by omega)
      simp [backIn, this]; omega
  have renB : RenOK (backIn ns nb) hat' c2 := by
    intro j o hj x hxj hxf
    have hxj : os0[j]? = some x := hxj
    unfold backIn at hj
    split at hj
    · rename_i o' ho'
      cases hj
      refine ⟨_, osHat j o x ho' hxj, ?_⟩
      by_cases hl : isLive x = true
      · refine .inr ⟨renO_same.2 (Same.refl_live hl), ?_⟩
        exact (hatM j o x ho' hxj).symm
      · exact .inl (renO_notlive hl hxf)
    · rename_i hnone
      cases hj
      have hge : ns.length ≤ j := List.getElem?_eq_none_iff.1 hnone
      have hxj' : os0[ns.length + (j - ns.length)]? = some x := by rw [Nat.add_sub_cancel' hge]; exact hxj
      refine ⟨_, osNew (j - ns.length) x hxj', ?_⟩
      by_cases hl : isLive x = true
      · refine .inr ⟨renO_same.2 (Same.refl_live hl), ?_⟩
        rw [mNew _ x hxj', Nat.add_sub_cancel' hge]
      · exact .inl (renO_notlive hl hxf)
  have avBack : imm = true → ∀ b, Av G F c2 b → Av G Fh hat' b := by
    rintro hi b (hf | ⟨o, obj, β, h1, h2, h3, h4⟩)
    · exact .inl (.inl hf)
    · rcases CL o obj β h1 h2 (isMut_live h3) with ⟨j, x, h5, h6, rfl, _⟩ | ⟨h5, h6, h7, h8⟩
      · rw [renO_mut] at h3
        exact .inr ⟨j, x, β, h5, h6, h3, h4⟩
      · rw [hfrimm hi] at h7
        exact .inl (.inr ⟨o, obj, β, h5, h7, h8, h3, h4⟩)
  have mutHat : ∀ b, (∃ (j : Nat) (y : AObj G.T G.U) (β : Blk), hat.os[j]? = some y ∧ hat.m[j]? = some β ∧ isMut y = true ∧ b ∈ β.fp) → ∃ (o : Nat) (x : AObj G.T G.U) (β : Blk), o ∈ ns ∧ c.os[o]? = some x ∧ c.m[o]? = some β ∧ isMut x = true ∧ b ∈ β.fp := by
    rintro b ⟨j, y, β, h1, h2, h3, h4⟩
    obtain ⟨o, x, ho, hx1, hx2, rfl, hx3⟩ := hatinv j y β h1 h2
    rw [renO_mut, jO_mut] at h3
    exact ⟨o, x, β, List.mem_of_getElem? ho, hx1, hx3, h3, h4⟩
  have keep : ∀ b, b < c.w.heap.size → (∀ (o : Nat) (x : AObj G.T G.U) (β : Blk), o ∈ ns → c.os[o]? = some x → c.m[o]? = some β → isMut x = true → b ∉ β.fp) → w'.heap[b]? = c.w.heap[b]? := by
    intro b hb hh
    refine tH.keep b hb fun j y β h1 h2 h3 h4 => ?_
    obtain ⟨o, x, β', a1, a2, a3, a4, a5⟩ := mutHat b ⟨j, y, β, h1, h2, h3, h4⟩
    exact hh o x β' a1 a2 a3 a4 a5
  have FhAv : ∀ b, Av G Fh hat b → Av G F c b := by
    intro b hb
    rcases avHat b hb with hf | ⟨o, obj, β, h1, h2, h3, h4⟩
    · exact .inl hf
    · exact .inr ⟨o, obj, β, hfz.mut h1 h3, h2, h3, h4⟩
  have tr : Tr G F c c2 := {
    sys := tH.sys
    size := tH.size
    keep := fun b hb hh => keep b hb fun o x β _ h1 h2 h3 => hh o x β h1 h2 h3
    ext := fun o obj ho hf => by
      have hlt : o < nb ∨ nb + new.length ≤ o := by
        apply Classical.byContradiction
        intro hh
        have h1 := hfree o (by omega) (by omega)
        rw [h1] at ho; cases ho; exact hf rfl
      by_cases hin : o ∈ ns
      · obtain ⟨j, hj⟩ := mem_get? hin
        obtain ⟨y, hy1, hy2, hy3⟩ := hnsj j o hj
        rw [ho] at hy3; cases hy3
        obtain ⟨x', h1, h2⟩ := tH.ext j (renO (posIn ns) (jO G f obj)) (by simp [hat, hy1, jO]) (live_nf (by rw [renO_live, jO_live]; exact hy2))
        have h1 : os0[j]? = some x' := h1
        refine ⟨_, osHat j o x' hj h1, ?_⟩
        rcases h2 with rfl | ⟨h2, h5⟩
        · exact .inl rfl
        · refine .inr ⟨renO_same.2 (jO_same.1 (renO_same'.1 h2)), ?_⟩
          rw [← hatM j o x' hj h1, ← hatC j o obj hj hy1]
          rcases h5 with h5 | ⟨h5, h7, h6⟩
          · exact .inl h5
          · exact .inr ⟨by rw [← h5, renO_arr, jO_arr], by rw [renO_usr]; exact h7, h6⟩
      · rw [osRest o hlt hin, mOld o hlt hin]
        rcases hfzx.2 o obj ho with h1 | ⟨k, xs, wr, rfl, h1⟩ | ⟨u, x, rfl, h1⟩
        · refine ⟨obj, h1, ?_⟩
          by_cases hd : obj = .dead
          · exact .inl hd
          · exact .inr ⟨Same.refl_live' hd hf, .inl rfl⟩
        · exact ⟨_, h1, .inr ⟨by simp [Same], .inl rfl⟩⟩
        · exact ⟨_, h1, .inl rfl⟩
    mv := fun b hb hh => by
      obtain ⟨o, obj, β, h1, h2, h3, h4⟩ := hh
      rcases CL o obj β h1 h2 (isMut_live h3) with ⟨j, x, h5, h6, rfl, _⟩ | ⟨h5, h6, h7, h8⟩
      · rw [renO_mut] at h3
        obtain ⟨o', x', β', _, a2, a3, a4, a5⟩ := mutHat b (tH.mv b hb ⟨j, x, β, h5, h6, h3, h4⟩)
        exact ⟨o', x', β', a2, a3, a4, a5⟩
      · exact ⟨o, obj, β, hfzx.mut h7 h3, h8, h3, h4⟩
    fz := tH.fz
    lv := fun b hb hh => by
      obtain ⟨o, obj, β, h1, h2, h3, h4⟩ := hh
      rcases CL o obj β h1 h2 h3 with ⟨j, x, h5, h6, rfl, _⟩ | ⟨h5, h6, h7, h8⟩
      · rw [renO_live] at h3
        obtain ⟨j', y, β', a1, a2, a3, a4⟩ := tH.lv b hb ⟨j, x, β, h5, h6, h3, h4⟩
        obtain ⟨o', x', ho', hx1, hx2, rfl, hx3⟩ := hatinv j' y β' a1 a2
        exact ⟨o', x', β', hx1, hx3, hx2, a4⟩
      · obtain ⟨obj0, h9, h10⟩ := hfzx.live h7 h3
        exact ⟨o, obj0, β, h9, h8, h10, h4⟩ }
  have restFar : ∀ (o : Nat) (obj : AObj G.T G.U) (β : Blk), o ∉ ns → c.os[o]? = some obj → c.m[o]? = some β → isLive obj = true → ∀ b ∈ β.fp, w'.heap[b]? = c.w.heap[b]? := by
    intro o obj β hne h1 h2 h3 b hb
    refine keep b (ok.own o obj β h1 h2 h3 b hb).2 fun o' x β' hin h4 h5 h6 hb' => ?_
    exact ok.apart o o' obj x β β' h1 h4 h2 h5 h3 (isMut_live h6) (fun e => hne (e ▸ hin)) b hb hb'
  have hatLv : ∀ (j : Nat) (x : AObj G.T G.U) (β : Blk), os0[j]? = some x → mh[j]? = some β → isLive x = true → ∀ b ∈ β.fp, b < c.w.heap.size → ∃ (o : Nat) (y : AObj G.T G.U) (β' : Blk), o ∈ ns ∧ c.os[o]? = some y ∧ c.m[o]? = some β' ∧ isLive y = true ∧ b ∈ β'.fp := by
    intro j x β h1 h2 h3 b hb hlt
    obtain ⟨j', y, β', a1, a2, a3, a4⟩ := tH.lv b hlt ⟨j, x, β, h1, h2, h3, hb⟩
    obtain ⟨o', x', ho', hx1, hx2, rfl, hx3⟩ := hatinv j' y β' a1 a2
    exact ⟨o', x', β', List.mem_of_getElem? ho', hx1, hx3, hx2, a4⟩
  have hatRest : ∀ (j : Nat) (x : AObj G.T G.U) (β : Blk), os0[j]? = some x → mh[j]? = some β → isLive x = true → ∀ (o : Nat) (obj : AObj G.T G.U) (β' : Blk), o ∉ ns → c.os[o]? = some obj → c.m[o]? = some β' → isLive obj = true → ∀ b ∈ β.fp, b ∉ β'.fp := by
    intro j x β h1 h2 h3 o obj β' hne h4 h5 h6 b hb hb'
    have hlt := (ok.own o obj β' h4 h5 h6 b hb').2
    obtain ⟨o2, y, β2, a1, a2, a3, a4, a5⟩ := hatLv j x β h1 h2 h3 b hb hlt
    exact ok.apart o2 o y obj β2 β' a2 h4 a3 h5 a4 h6 (fun e => hne (e ▸ a1)) b a5 hb'
  have ok2 : OK P G F N c2 := by
    constructor
    · show (setM (setMz c.m (ns.zip mh)) nb (mh.drop ns.length)).length = (addObjs (setObjs c.os upd) nb new).length
      rw [setM_len, setMz_len, addObjs_len, hl0, ok.len]
    · intro o obj β h1 h2
      by_cases hl : isLive obj = true
      · rcases CL o obj β h1 h2 hl with ⟨j, x, h5, h6, rfl, _⟩ | ⟨h5, h6, h7, h8⟩
        · refine (okH'.obj j x β h5 h6).ren (c := hat') (c' := c2) L rfl renB (fun hi b hb => avBack ?_ b hb) (fun hi b hb => ?_)
          · simp only [imm, Bool.or_eq_true]
            exact .inr (List.any_eq_true.2 ⟨x, List.mem_of_getElem? h5, hi⟩)
          · have : os0.any hasOldO = true := List.any_eq_true.2 ⟨x, List.mem_of_getElem? h5, hi⟩
            rw [hnold.2] at this; cases this
        · rcases hfzx.back h7 with h9 | ⟨k, xs, wr, h9, rfl⟩ | ⟨u, y, h9, rfl⟩
          · exact (ok.obj o obj β h9 h8).mono tr fun hl b hb => restFar o obj β h5 h9 h8 hl b hb
          · exact ((ok.obj o _ β h9 h8).frz (wr' := false)).mono tr fun hl b hb => restFar o _ β h5 h9 h8 rfl b hb
          · trivial
      · rcases notlive hl with rfl | rfl <;> trivial
    · intro o obj β h1 h2 hl b hb
      rcases CL o obj β h1 h2 hl with ⟨j, x, h5, h6, rfl, _⟩ | ⟨h5, h6, h7, h8⟩
      · rw [renO_live] at hl
        obtain ⟨a1, a2⟩ := okH'.own j x β h5 h6 hl b hb
        exact ⟨fun hf => a1 (.inl hf), a2⟩
      · obtain ⟨obj0, h9, h10⟩ := hfzx.live h7 hl
        obtain ⟨a1, a2⟩ := ok.own o obj0 β h9 h8 h10 b hb
        exact ⟨a1, Nat.lt_of_lt_of_le a2 tH.size⟩
    · intro o obj β h1 h2 hm b hb hN
      rcases CL o obj β h1 h2 (isMut_live hm) with ⟨j, x, h5, h6, rfl, _⟩ | ⟨h5, h6, h7, h8⟩
      · rw [renO_mut] at hm
        have hlt := ok.low b (.inr hN)
        have a1 := okH'.wr j x β h5 h6 hm b hb
        have a2 : ¬ ∀ (o : Nat) (obj : AObj G.T G.U) (β : Blk), hat.os[o]? = some obj → hat.m[o]? = some β → isMut obj = true → b ∉ β.fp := fun hh => a1 ⟨hlt, hh⟩
        have a3 : ∃ (j : Nat) (y : AObj G.T G.U) (β : Blk), hat.os[j]? = some y ∧ hat.m[j]? = some β ∧ isMut y = true ∧ b ∈ β.fp := by
          apply Classical.byContradiction
          intro hno
          exact a2 fun o obj β h1 h2 h3 h4 => hno ⟨o, obj, β, h1, h2, h3, h4⟩
        obtain ⟨o', x', β', b1, b2, b3, b4, b5⟩ := mutHat b a3
        exact ok.wr o' x' β' b2 b3 b4 b b5 hN
      · exact ok.wr o obj β (hfzx.mut h7 hm) h8 hm b hb hN
    · intro o o' x1 x2 β1 β2 h1 h2 h3 h4 hl1 hl2 hne b hb hb'
      rcases CL o x1 β1 h1 h3 hl1 with ⟨j, y, h5, h6, rfl, hj⟩ | ⟨h5, h6, h7, h8⟩
      · rw [renO_live] at hl1
        rcases CL o' x2 β2 h2 h4 hl2 with ⟨j', y', h5', h6', rfl, hj'⟩ | ⟨h5', h6', h7', h8'⟩
        · rw [renO_live] at hl2
          refine okH'.apart j j' y y' β1 β2 h5 h5' h6 h6' hl1 hl2 (fun e => ?_) b hb hb'
          subst e; rw [hj] at hj'; cases hj'; exact hne rfl
        · obtain ⟨obj0, h9, h10⟩ := hfzx.live h7' hl2
          exact hatRest j y β1 h5 h6 hl1 o' obj0 β2 h5' h9 h8' h10 b hb hb'
      · obtain ⟨obj0, h9, h10⟩ := hfzx.live h7 hl1
        rcases CL o' x2 β2 h2 h4 hl2 with ⟨j', y', h5', h6', rfl, hj'⟩ | ⟨h5', h6', h7', h8'⟩
        · rw [renO_live] at hl2
          exact hatRest j' y' β2 h5' h6' hl2 o obj0 β1 h5 h9 h8 h10 b hb' hb
        · obtain ⟨obj0', h9', h10'⟩ := hfzx.live h7' hl2
          exact ok.apart o o' obj0 obj0' β1 β2 h9 h9' h8 h8' h10 h10' hne b hb hb'
    · intro b hb
      exact Nat.lt_of_lt_of_le (ok.low b hb) tH.size
    · exact ok.gl.step tr
  exact ⟨v, m2, rfl, tr, ok2, VR.ren (c := hat') (c' := c2) L rfl renB hv (fun hi b hb => avBack (by simp only [imm, hi, Bool.true_or]) b hb) (fun hi => by rw [hnold.1] at hi; cases hi)⟩


-- zones -----------------------------------------------------------------------------------------------------------------------
def isSl (v : Value) : Prop := ∃ a n cap, v = .slice a n cap

theorem VR.toOld (L : Laws P G) {d : AV G.T} {v : Value} (h : VR P G F c d v) : ∀ k xs, d = .imm k xs → VR P G F' ⟨c.w, [], []⟩ (.old k xs) v := by
  induction h with
  | imm k xs a cap f hk hcap hc hv _ ih =>
    intro k' xs' e
    cases e
    refine .old k xs a cap f hk hcap (fun i x hx j d hd => ?_) (fun i x hx j d hd => ?_)
    · obtain ⟨ad, h1, _, h3⟩ := hc i x hx j d hd
      exact ⟨ad, h1, fun ⟨o, obj, β, h4, _⟩ => by simp at h4, h3⟩
    · rcases L.leaf k hk x j d hd with ⟨u, rfl, _⟩ | ⟨k', ys, rfl, _⟩
      · rw [(hv i x hx j _ hd).lit_inv]; exact .lit _
      · exact ih i x hx j _ hd k' ys rfl
  | _ => intro k xs e; cases e
theorem VR.oldOld (L : Laws P G) {d : AV G.T} {v : Value} (h : VR P G F c d v) : ∀ k xs, d = .old k xs → VR P G F' ⟨c.w, [], []⟩ (.old k xs) v := by
  induction h with
  | old k xs a cap f hk hcap hc hv ih =>
    intro k' xs' e
    cases e
    refine .old k xs a cap f hk hcap (fun i x hx j d hd => ?_) (fun i x hx j d hd => ?_)
    · obtain ⟨ad, h1, _, h3⟩ := hc i x hx j d hd
      exact ⟨ad, h1, fun ⟨o, obj, β, h4, _⟩ => by simp at h4, h3⟩
    · have h5 := hv i x hx j _ hd
      have h6 := ih i x hx j _ hd
      rcases L.leaf k hk x j d hd with ⟨u, rfl, _⟩ | ⟨k', ys, rfl, _⟩
      · simp only [old1] at h5 ⊢
        rw [h5.lit_inv]; exact .lit _
      · exact h6 k' ys rfl
  | _ => intro k xs e; cases e
theorem vr_old1 (L : Laws P G) {d : AV G.T} {v : Value} (hz : zOk1 G d = true) (h : VR P G F c d v) : VR P G F' ⟨c.w, [], []⟩ (old1 d) v := by
  unfold zOk1 at hz
  split at hz
  · rw [h.lit_inv]; exact .lit _
  · cases h with | nil0 a ha => exact .nil0 a ha
  · exact h.toOld L _ _ rfl
  · exact h.oldOld L _ _ rfl
  · cases hz
theorem vr_oldV (L : Laws P G) {d : AV G.T} {v : Value} (hz : zOkV G d = true) (h : VR P G F c d v) : VR P G F' ⟨c.w, [], []⟩ (oldV d) v := by
  unfold zOkV at hz
  split at hz
  · rename_i cs
    obtain ⟨vs, rfl, hn, hr⟩ := h.agg_inv
    refine .agg _ _ (by simp [hn]) fun i e v he hv => ?_
    simp only [List.getElem?_map, Option.map_eq_some_iff] at he
    obtain ⟨e0, h1, rfl⟩ := he
    exact vr_old1 L (List.all_eq_true.1 hz e0 (List.mem_of_getElem? h1)) (hr i e0 v h1 hv)
  · rename_i hne
    have : oldV d = old1 d := by
      unfold oldV; split
      · exact (hne _ rfl).elim
      · rfl
    rw [this]; exact vr_old1 L hz h

theorem vr_tr (L : Laws P G) {m : List Blk} {w' : World} {lo : Nat} {d : AV G.T} {v : Value} (h : VR P G (fun b => b < lo) ⟨w', m, []⟩ d v) : ∀ k xs, d = .imm k xs → TR P G w' (List.range' lo (w'.heap.size - lo)) d v := by
  generalize hc : (⟨w', m, []⟩ : Cf G) = c at h
  induction h with
  | imm k xs a cap f hk hcap hc2 hv _ ih =>
    intro _ _ _
    subst hc
    refine .imm k xs a cap f hk hcap (fun i x hx j d hd => ?_) (fun i x hx j d hd => ?_)
    · obtain ⟨ad, h1, h2, h3⟩ := hc2 i x hx j d hd
      refine ⟨ad, h1, ?_, h3⟩
      have h4 := World.block_lt_of_cell? _ _ h3
      rw [add_block] at h4
      have h5 : ¬ ad.block < lo := fun h => h2 (.inl h)
      have h4 : ad.block < w'.heap.size := h4
      simp [List.mem_range'_1]; omega
    · rcases L.leaf k hk x j d hd with ⟨u, rfl, _⟩ | ⟨k', ys, rfl, _⟩
      · rw [(hv i x hx j _ hd).lit_inv]; exact .lit _
      · exact ih i x hx j _ hd k' ys rfl
  | _ => intro k xs e; cases e
theorem vr_slice {k : Nat} {xs : List (G.T k)} {v : Value} (h : VR P G F c (.imm k xs) v) : isSl v := by cases h; exact ⟨_, _, _, rfl⟩
theorem vr_jr (L : Laws P G) {m : List Blk} {w' : World} {lo : Nat} {z : Zn} {d : AV G.T} {v : Value} (h : VR P G (fun b => b < lo) ⟨w', m, []⟩ d v)
    (hl : ∀ a : Addr, lo ≤ a.block → ∀ u, w'.cell? a = some u → ¬ isSl u → z.lf a) (hs : ∀ a : Addr, lo ≤ a.block → ∀ u, w'.cell? a = some u → isSl u → z.sl a u) : ∀ k xs, d = .imm k xs → JR P G z d v := by
  generalize hc : (⟨w', m, []⟩ : Cf G) = c at h
  induction h with
  | imm k xs a cap f hk hcap hc2 hv _ ih =>
    intro _ _ _
    subst hc
    refine .imm k xs a cap f hk hcap (fun i x hx j u hd => ?_) (fun i x hx j k' ys hd => ?_) (fun i x hx j k' ys hd => ?_)
    · obtain ⟨ad, h1, h2, h3⟩ := hc2 i x hx j _ hd
      refine ⟨ad, h1, hl _ (by rw [add_block]; exact Nat.le_of_not_lt fun h => h2 (.inl h)) _ h3 ?_⟩
      rw [(hv i x hx j _ hd).lit_inv]
      rintro ⟨a, n, cap, e⟩
      exact L.nsl k hk x j u hd a n cap e
    · obtain ⟨ad, h1, h2, h3⟩ := hc2 i x hx j _ hd
      exact ⟨ad, h1, hs _ (by rw [add_block]; exact Nat.le_of_not_lt fun h => h2 (.inl h)) _ h3 (vr_slice (hv i x hx j _ hd))⟩
    · exact ih i x hx j _ hd k' ys rfl
  | _ => intro k xs e; cases e

theorem zc1_ok {nb j : Nat} {d d' : AV G.T} {v : Value} {l : List (AV G.T)} (h : zc1 G nb j d = some (d', l)) (hv : VR P G F c d v) :
    (∃ k xs, d = .imm k xs ∧ l = [d] ∧ d' = .ref nb j) ∨ (∃ u, d = .lit u ∧ l = [] ∧ d' = .lit u) := by
  unfold zc1 at h
  split at h
  · cases h; exact .inl ⟨_, _, rfl, rfl, rfl⟩
  · cases h; exact .inr ⟨_, rfl, rfl, rfl⟩
  · cases h
theorem zcL_ok {nb : Nat} : ∀ {cs ds ims : List (AV G.T)} {vs : List Value} {j : Nat}, zcL G nb j cs = some (ds, ims) → cs.length = vs.length → (∀ (i : Nat) (d : AV G.T) (v : Value), cs[i]? = some d → vs[i]? = some v → VR P G F c d v) →
    ∃ R : List Value, R.length = ims.length ∧ (∀ (i : Nat) (d : AV G.T) (v : Value), ims[i]? = some d → R[i]? = some v → (∃ k xs, d = .imm k xs) ∧ VR P G F c d v) ∧ ds.length = cs.length ∧
      ∀ (F' : Nat → Prop) (c' : Cf G) (u : Nat) (x : G.U u) (β : Blk), c'.os[nb]? = some (.usr u x) → c'.m[nb]? = some β → (∀ (i : Nat) (v : Value), R[i]? = some v → β.z.rt[j + i]? = some v) → ∀ (i : Nat) (d : AV G.T) (v : Value), ds[i]? = some d → vs[i]? = some v → VR P G F' c' d v
  | [], ds, ims, vs, j, h, hl, _ => by
    simp only [zcL] at h; cases h
    exact ⟨[], rfl, fun i d v h => by simp at h, rfl, fun _ _ u x β _ _ _ i d v h => by simp at h⟩
  | a :: cs, ds, ims, [], j, h, hl, _ => by simp at hl
  | a :: cs, ds, ims, v0 :: vs, j, h, hl, hv => by
    simp only [zcL] at h
    split at h
    · rename_i p hp
      split at h
      · rename_i q hq
        cases h
        have h0 := hv 0 a v0 rfl rfl
        obtain ⟨R, r1, r2, r3, r4⟩ := zcL_ok hq (by simpa using hl) (fun i d v hd hw => hv (i + 1) d v (by simpa using hd) (by simpa using hw))
        obtain ⟨d', l⟩ := p
        rcases zc1_ok hp h0 with ⟨k, xs, rfl, rfl, rfl⟩ | ⟨u, rfl, rfl, rfl⟩
        · refine ⟨v0 :: R, by simp [r1], fun i d v hd hw => ?_, by simp [r3], fun F' c' u x β ho hm hR i d v hd hw => ?_⟩
          · cases i with
            | zero => simp at hd hw; subst hd; subst hw; exact ⟨⟨k, xs, rfl⟩, h0⟩
            | succ i => simp at hd hw; exact r2 i d v hd hw
          · cases i with
            | zero =>
              simp at hd hw; subst hd; subst hw
              obtain ⟨a, n, cap, rfl⟩ := vr_slice h0
              exact .ref nb j u x β _ ho hm (by simpa using hR 0 _ rfl) rfl rfl
            | succ i =>
              simp at hd hw
              exact r4 F' c' u x β ho hm (fun i v hi => by have := hR (i + 1) v (by simpa using hi); rw [show j + (AV.ref (T := G.T) nb j, [AV.imm k xs]).snd.length + i = j + (i + 1) by simp; omega]; exact this) i d v hd hw
        · refine ⟨R, by simpa using r1, fun i d v hd hw => r2 i d v (by simpa using hd) hw, by simp [r3], fun F' c' u2 x β ho hm hR i d v hd hw => ?_⟩
          cases i with
          | zero => simp at hd hw; subst hd; subst hw; rw [h0.lit_inv]; exact .lit _
          | succ i => simp at hd hw; exact r4 F' c' u2 x β ho hm (fun i v hi => hR i v hi) i d v hd hw
      · cases h
    · cases h
theorem zcV_ok {nb : Nat} {d d' : AV G.T} {ims : List (AV G.T)} {v : Value} (h : zcV G nb d = some (d', ims)) (hv : VR P G F c d v) :
    ∃ R : List Value, R.length = ims.length ∧ (∀ (i : Nat) (d : AV G.T) (v : Value), ims[i]? = some d → R[i]? = some v → (∃ k xs, d = .imm k xs) ∧ VR P G F c d v) ∧
      ∀ (F' : Nat → Prop) (c' : Cf G) (u : Nat) (x : G.U u) (β : Blk), c'.os[nb]? = some (.usr u x) → c'.m[nb]? = some β → β.z.rt = R → VR P G F' c' d' v := by
  unfold zcV at h
  split at h
  · rename_i cs
    split at h
    · rename_i q hq
      cases h
      obtain ⟨vs, rfl, hn, hr⟩ := hv.agg_inv
      obtain ⟨R, r1, r2, r3, r4⟩ := zcL_ok (F := F) (c := c) (vs := vs.toList) hq (by simpa using hn) (fun i d v hd hw => hr i d v hd (by simpa using hw))
      refine ⟨R, r1, r2, fun F' c' u x β ho hm hR => .agg _ _ (by rw [r3]; exact hn) fun i d v hd hw => ?_⟩
      exact r4 F' c' u x β ho hm (fun i v hi => by rw [hR]; simpa using hi) i d v hd (by simpa using hw)
    · cases h
  · rcases zc1_ok h hv with ⟨k, xs, rfl, rfl, rfl⟩ | ⟨u, rfl, rfl, rfl⟩
    · refine ⟨[v], rfl, fun i d w hd hw => ?_, fun F' c' u x β ho hm hR => ?_⟩
      · cases i with
        | zero => simp at hd hw; subst hd; subst hw; exact ⟨⟨k, xs, rfl⟩, hv⟩
        | succ i => simp at hd
      · obtain ⟨a, n, cap, rfl⟩ := vr_slice hv
        exact .ref nb 0 u x β _ ho hm (by rw [hR]; rfl) rfl rfl
    · exact ⟨[], rfl, fun i d w hd => by simp at hd, fun _ _ u2 x β ho hm hR => by rw [hv.lit_inv]; exact .lit _⟩

theorem callZ_ok {nb : Nat} {f : FuncId} {args : List (AV G.T)} {vals : List Value} {r : OpRes G.T G.U} {l : List Nat} (L : Laws P G) (ok : OK P G F N c) (hnb : ∀ i, i < r.new.length → c.os[nb + i]? = some .free)
    (h : Runs P G c.os (callZ G nb f args) l r) (hlen : args.length = vals.length) (hx : ∀ (i : Nat) (d : AV G.T) (v : Value), args[i]? = some d → vals[i]? = some v → VR P G F c d v) :
    Calls P f vals.toArray c.w fun e w' => ∃ v m', e = .returned v ∧ Tr G F c ⟨w', m', addObjs (setObjs c.os r.upd) nb r.new⟩ ∧ OK P G F N ⟨w', m', addObjs (setObjs c.os r.upd) nb r.new⟩ ∧
      VR P G F ⟨w', m', addObjs (setObjs c.os r.upd) nb r.new⟩ r.d v := by
  unfold callZ at h
  obtain ⟨⟨args', fr0⟩, l1, l2, rfl, g1, g2⟩ := h.bind_inv
  simp only at g2
  clear h
  split at g2
  case isFalse => exact g2.fail_inv.elim
  rename_i hz
  cases g2 with
  | call _ _ _ _ r0 os0 _ _ hs g5 =>
  simp only at g5
  split at g5
  case h_2 => exact g5.fail_inv.elim
  split at g5
  case h_2 => exact g5.fail_inv.elim
  rename_i p hp
  split at g5
  case h_2 => exact g5.fail_inv.elim
  rename_i q hq
  obtain ⟨rfl, -⟩ := g5.pure_inv
  clear g5
  obtain ⟨s1, s2, s3⟩ := snaps_ok L ok g1 hlen hx
  obtain ⟨hfz, hfu⟩ := frz_setObjs s2
  let hat : Cf G := ⟨c.w, [], []⟩
  let Fh : Nat → Prop := fun b => b < c.w.heap.size
  have okH : OK P G Fh (Nof hat) hat := by
    constructor
    · rfl
    · intro o obj β h1; simp [hat] at h1
    · intro o obj β h1; simp [hat] at h1
    · intro o obj β h1; simp [hat] at h1
    · intro o o' obj obj' β β' h1; simp [hat] at h1
    · rintro b (h1 | h1)
      · exact h1
      · exact h1.1
    · intro b p hb
      exact ⟨(ok.gl b p hb).1, fun ⟨o, obj, β, h1, _⟩ => by simp [hat] at h1⟩
  have hargs : ∀ (i : Nat) (d : AV G.T) (v : Value), (args'.map oldV)[i]? = some d → vals[i]? = some v → VR P G Fh hat d v := by
    intro i d v hd hv
    simp only [List.getElem?_map, Option.map_eq_some_iff] at hd
    obtain ⟨e, he, rfl⟩ := hd
    exact vr_oldV (c := ⟨c.w, c.m, setObjs c.os fr0⟩) L (List.all_eq_true.1 hz e (List.mem_of_getElem? he)) (s3 _ hfz hfu i e v he hv)
  refine (hs Fh c.w [] vals okH (by simp [s1, hlen]) hargs).mono ?_
  rintro e w' ⟨v, mh, rfl, tH, okH', hv⟩
  have hnb0 := hnb 0 (by simp)
  rw [Nat.add_zero] at hnb0
  let lo := c.w.heap.size
  have hsz : lo ≤ w'.heap.size := tH.size
  obtain ⟨d', ims⟩ := p
  let fp : List Nat := List.range' lo (w'.heap.size - lo)
  obtain ⟨R, r1, r2, r3⟩ := zcV_ok (F := Fh) (c := ⟨w', mh, []⟩) hp hv
  let z : Zn := { rt := R, lf := fun a => a.block ∈ fp ∧ ∃ u, w'.cell? a = some u ∧ ¬ isSl u, sl := fun a u => a.block ∈ fp ∧ w'.cell? a = some u ∧ isSl u }
  let β : Blk := ⟨none, 0, fp, z⟩
  have hfp : ∀ b, b ∈ fp ↔ lo ≤ b ∧ b < w'.heap.size := fun b => by simp [fp, List.mem_range'_1]; omega
  have hmk := L.zmk ims q hq w' β r1 (fun j d u hd hu => by
    obtain ⟨⟨k, xs, rfl⟩, h2⟩ := r2 j d u hd hu
    refine ⟨vr_tr L h2 k xs rfl, vr_jr L h2 (fun a ha u hu hn => ?_) (fun a ha u hu hn => ?_) k xs rfl⟩
    · exact ⟨(hfp _).2 ⟨ha, World.block_lt_of_cell? _ _ hu⟩, u, hu, hn⟩
    · exact ⟨(hfp _).2 ⟨ha, World.block_lt_of_cell? _ _ hu⟩, hu, hn⟩) (fun a ha => ⟨ha.1, by obtain ⟨_, u, hu, _⟩ := ha; rw [hu]; rfl, tH.fz a (by
      have h3 := ((hfp _).1 ha.1).1
      unfold World.frozen?
      rw [Array.getElem?_eq_none (by exact h3)])⟩) (fun a u h => ⟨h.1, h.2.1⟩) (fun a u h1 h2 => by
      obtain ⟨_, u1, h3, h4⟩ := h1
      obtain ⟨_, h5, h6⟩ := h2
      rw [h3] at h5; cases h5; exact h4 h6)
  have n : New c nb β (.usr q.1 q.2) w' := {
    nb := hnb0, sys := tH.sys, size := tH.size, keep := fun b hb => tH.keep b hb fun o obj β h1 => by simp [hat] at h1
    fp := fun b hb => (hfp b).1 hb
    fz := tH.fz }
  have t := n.tr (F := F) ok.len
  have ok2 := n.ok ok (show ObjR P G F _ β (.usr q.1 q.2) from ⟨hmk w' fun _ _ => rfl, fun w2 h2 => hmk w2 h2⟩)
  obtain ⟨a1, a2⟩ := n.at_nb ok.len
  refine ⟨v, (newCf c nb β (.usr q.1 q.2) w').m, rfl, t, ok2, ?_⟩
  exact r3 F _ q.1 q.2 β a1 a2 rfl

theorem snaps_all {os : List (AObj G.T G.U)} : ∀ {l : List (AV G.T)} {m : List Bool}, modeAll G m l = true → Runs P G os (snaps G m l) [] (l, [])
  | [], m, h => .pure _
  | v :: l, m, h => by
    unfold modeAll at h
    split at h
    · rename_i hm
      unfold snaps
      rw [hm]
      simp only [if_true]
      exact Runs.bind_in (l1 := []) (.pure _) (Runs.bind_in (l1 := []) (l2 := []) (snaps_all h) (.pure _))
    · cases h
theorem lit1_ren {ρ : Nat → Option Nat} : ∀ {l : List (AV G.T)}, l.all lit1A = true → renL ρ l = l ∧ namesL l = []
  | [], _ => ⟨rfl, rfl⟩
  | v :: l, h => by
    simp only [List.all_cons, Bool.and_eq_true] at h
    obtain ⟨h1, h2⟩ := lit1_ren (ρ := ρ) h.2
    cases v <;> simp [lit1A] at h
    exact ⟨by simp only [renL, renV]; rw [h1], by simp only [namesL, namesV]; rw [h2]; rfl⟩
theorem lit_ren {ρ : Nat → Option Nat} : ∀ {l : List (AV G.T)}, l.all litA = true → renL ρ l = l ∧ namesL l = []
  | [], _ => ⟨rfl, rfl⟩
  | v :: l, h => by
    simp only [List.all_cons, Bool.and_eq_true] at h
    obtain ⟨h1, h2⟩ := lit_ren (ρ := ρ) h.2
    have hv := h.1
    unfold litA at hv
    split at hv
    · rename_i cs
      obtain ⟨h3, h4⟩ := lit1_ren (ρ := ρ) hv
      exact ⟨by simp only [renL, renV]; rw [h1, h3], by simp only [namesL, namesV]; rw [h2, h4]; rfl⟩
    · rename_i hna
      cases v <;> simp [lit1A] at hv
      exact ⟨by simp only [renL, renV]; rw [h1], by simp only [namesL, namesV]; rw [h2]; rfl⟩
/-- a call whose first argument is a row of its own, and the others literals -/
theorem callN_run {os1 : List (AObj G.T G.U)} {nb1 p k : Nat} {xs : List (G.T k)} {f : FuncId} {rest : List (AV G.T)} {r0 : AV G.T} {os0 : List (AObj G.T G.U)} (hat : os1.getD p .free = .arr k xs true)
    (hmode : modeAll G (G.mode f) (.own 0 :: rest) = true) (hlit : rest.all litA = true) (hjn : G.jn f = false) (hs : SoundCall P G f (.own 0 :: rest) [.arr k xs true] r0 os0) (h1 : 1 ≤ os0.length) (h2 : os0.length - 1 ≤ 4) (h3 : hasOld r0 = false) (h4 : os0.any hasOldO = false) :
    Runs P G os1 (callN G nb1 f (.own p :: rest)) ([] ++ ([p] ++ [])) ⟨renV (backIn [p] nb1) r0, [p].zip ((os0.map (renO (backIn [p] nb1))).take 1), (os0.map (renO (backIn [p] nb1))).drop 1⟩ := by
  obtain ⟨e1, e2⟩ := lit_ren (ρ := posIn [p]) hlit
  unfold callN
  rw [hjn]
  simp only [Bool.false_eq_true, if_false]
  refine Runs.bind_in (snaps_all hmode) ?_
  have hn : namesL (AV.own p :: rest) = [p] := by simp only [namesL, namesV]; rw [e2]; rfl
  have hre : Runs P G os1 (reach G 64 (namesL (AV.own p :: rest)) []) [p] [(p, .arr k xs true)] := by
    rw [hn]
    show Runs P G os1 (.look p fun x => _) [p] _
    refine .look _ _ _ _ ?_
    rw [hat]
    exact .pure _
  refine Runs.bind_in hre ?_
  have hp : posIn [p] p = some 0 := by
    unfold posIn posFrom
    rw [Nat.beq_refl]
  have hr : renL (posIn [p]) (AV.own p :: rest) = .own 0 :: rest := by
    simp only [renL, renV]; rw [e1, hp]
  show Runs P G os1 (if ([] : List (Nat × AObj G.T G.U)).all _ = true then .call f (renL (posIn [p]) (AV.own p :: rest)) [.arr k xs true] _ else .fail) [] _
  rw [if_pos List.all_nil, hr]
  refine .call f _ _ _ r0 os0 [] _ hs ?_
  show Runs P G os1 (if 1 ≤ os0.length then if os0.length - 1 ≤ 4 then if (hasOld r0 || os0.any hasOldO) = true then .fail else _ else .fail else .fail) [] _
  rw [if_pos h1, if_pos h2, h3, h4]
  have e : ∀ b : Bool, (if b = true then ([] : List (Nat × AObj G.T G.U)) else []) = [] := fun b => by cases b <;> rfl
  simp only [Bool.or_self, Bool.false_eq_true, if_false, e, List.nil_append]
  exact .pure _

set_option maxHeartbeats 4000000 in
theorem callS_ok {nb : Nat} {f : FuncId} {o i tk : Nat} {rest : List (AV G.T)} {vals : List Value} {r : OpRes G.T G.U} {l : List Nat} (L : Laws P G) (ok : OK P G F N c) (hnb : ∀ i, i < r.new.length → c.os[nb + i]? = some .free)
    (h : Runs P G c.os (callS G nb f o i tk rest) l r) (hlen : (AV.sub o i tk :: rest).length = vals.length) (hx : ∀ (j : Nat) (d : AV G.T) (v : Value), (AV.sub o i tk :: rest)[j]? = some d → vals[j]? = some v → VR P G F c d v) :
    Calls P f vals.toArray c.w fun e w' => ∃ v m', e = .returned v ∧ Tr G F c ⟨w', m', addObjs (setObjs c.os r.upd) nb r.new⟩ ∧ OK P G F N ⟨w', m', addObjs (setObjs c.os r.upd) nb r.new⟩ ∧
      VR P G F ⟨w', m', addObjs (setObjs c.os r.upd) nb r.new⟩ r.d v := by
  unfold callS at h
  split at h
  case h_2 => exact h.fail_inv.elim
  rename_i hmode hlit hjn
  obtain ⟨l', rfl, h1⟩ := h.look_inv
  clear h
  split at h1
  case h_2 => exact h1.fail_inv.elim
  rename_i u y ho
  have ho := getD_look ho rfl
  split at h1
  case h_2 => exact h1.fail_inv.elim
  rename_i g hg
  split at h1
  case h_2 => exact h1.fail_inv.elim
  rename_i hhl
  obtain ⟨et, h2⟩ := h1.test_inv
  obtain rfl := of_decide_eq_true et
  split at h2
  case h_2 => exact h2.fail_inv.elim
  rename_i q hq
  obtain ⟨v0, vs, rfl⟩ : ∃ v0 vs, vals = v0 :: vs := by
    cases vals with
    | nil => simp at hlen
    | cons v0 vs => exact ⟨v0, vs, rfl⟩
  have hv0 : VR P G F c (.sub o i g.tok) v0 := hx 0 _ _ rfl rfl
  cases h2 with
  | call _ _ _ _ r0 os0 _ _ hs h3 =>
  have common : c.os[nb]? = some .free → ∃ m1, Tr G F c ⟨c.w, m1, (setObj c.os o (.usr q.1 q.2)).set nb (.arr g.k (g.xs.getD i []) true)⟩ ∧ OK P G F N ⟨c.w, m1, (setObj c.os o (.usr q.1 q.2)).set nb (.arr g.k (g.xs.getD i []) true)⟩ ∧
      (∀ (j : Nat) (d : AV G.T) (v : Value), (AV.own nb :: rest)[j]? = some d → (v0 :: vs)[j]? = some v → VR P G F ⟨c.w, m1, (setObj c.os o (.usr q.1 q.2)).set nb (.arr g.k (g.xs.getD i []) true)⟩ d v) ∧ (∃ β1 : Blk, m1[o]? = some β1 ∧ β1.z.hs[i]? = some v0 ∧ β1.z.tok = g.tok + 1) ∧
      ((setObj c.os o (.usr q.1 q.2)).set nb (.arr g.k (g.xs.getD i []) true)).getD nb .free = .arr g.k (g.xs.getD i []) true := fun hnb0 => by
    obtain ⟨m1, t1, ok1, hv1, hb⟩ := chk_ok L ok ho hg hhl hv0 hnb0 hq
    have hln := (List.getElem?_eq_some_iff.1 hnb0).1
    refine ⟨m1, t1, ok1, fun j d v hd hv => ?_, hb, ?_⟩
    · cases j with
      | zero => simp at hd hv; subst hd; subst hv; exact hv1
      | succ j => exact (hx (j + 1) d v (by simpa using hd) hv).mono t1
    · rw [List.getD, List.getElem?_set_self (by simpa [setObj] using hln)]; rfl
  have hlo := (List.getElem?_eq_some_iff.1 ho).1
  dsimp only at h3
  split at h3
  · rename_i v k' ys
    obtain ⟨ys', l1, l2, rfl, g1, g2⟩ := h3.bind_inv
    obtain ⟨g1, -⟩ := g1.ofOpt_inv
    obtain ⟨rfl, rfl⟩ := castL_inv g1
    split at g2
    case h_2 => exact g2.fail_inv.elim
    rename_i q2 hq2
    obtain ⟨rfl, -⟩ := g2.pure_inv
    have hnb0 := hnb 0 (by simp)
    rw [Nat.add_zero] at hnb0
    have hln := (List.getElem?_eq_some_iff.1 hnb0).1
    have hne : o ≠ nb := fun e => by rw [e, hnb0] at ho; cases ho
    obtain ⟨m1, t1, ok1, hx1, ⟨β1, hb1, hb2, hb3⟩, hat⟩ := common hnb0
    have hrun := callN_run (P := P) (nb1 := nb + 1) hat hmode hlit hjn hs (by simp) (by simp) rfl rfl
    refine (callN_ok (c := ⟨c.w, m1, _⟩) (nb := nb + 1) (vals := v0 :: vs) L ok1 (by simp [setObj]; omega) (fun j hj => by simp at hj) hrun (by simpa using hlen) hx1).mono ?_
    rintro e w' ⟨v', m', rfl, t2, ok2, hr2⟩
    have hos : addObjs (setObjs ((setObj c.os o (.usr q.1 q.2)).set nb (.arr g.k (g.xs.getD i []) true)) ([nb].zip (([AObj.arr g.k ys' true].map (renO (backIn [nb] (nb + 1)))).take 1))) (nb + 1) (([AObj.arr g.k ys' true].map (renO (backIn [nb] (nb + 1)))).drop 1) = (setObj c.os o (.usr q.1 q.2)).set nb (.arr g.k ys' true) := by
      show ((setObj c.os o (.usr q.1 q.2)).set nb _).set nb (.arr g.k ys' true) = _
      rw [List.set_set]
    have t2 : Tr G F _ ⟨w', m', _⟩ := t2
    simp only at t2 ok2 hr2
    rw [hos] at t2 ok2 hr2
    have ho2 : ((setObj c.os o (.usr q.1 q.2)).set nb (.arr g.k ys' true))[o]? = some (.usr q.1 q.2) := by
      rw [List.getElem?_set_ne (Ne.symm hne)]; exact List.getElem?_set_self hlo
    have hp2 : ((setObj c.os o (.usr q.1 q.2)).set nb (.arr g.k ys' true))[nb]? = some (.arr g.k ys' true) := List.getElem?_set_self (by simpa [setObj] using hln)
    have ho1 : ((setObj c.os o (.usr q.1 q.2)).set nb (.arr g.k (g.xs.getD i []) true))[o]? = some (.usr q.1 q.2) := by
      rw [List.getElem?_set_ne (Ne.symm hne)]; exact List.getElem?_set_self hlo
    obtain ⟨β2, hm2, ble⟩ : ∃ β2, m'[o]? = some β2 ∧ BLe β1 β2 := by
      obtain ⟨x', e1, e2⟩ := t2.extM o _ ho1 (by simp)
      rcases e2 with rfl | ⟨_, e3⟩
      · have e1 : ((setObj c.os o (.usr q.1 q.2)).set nb (.arr g.k ys' true))[o]? = some .dead := e1
        rw [ho2] at e1; cases e1
      · exact e3 β1 hb1
    have hg2 : G.gr q.1 q.2 = some { g with tok := g.tok + 1, hl := some i } := L.grg _ q hq
    obtain ⟨b, bl, gr2⟩ := L.gru q.1 q.2 _ hg2 _ _ (ok2.obj _ _ _ ho2 hm2).1
    have htok : β2.z.tok = β1.z.tok := by rw [gr2.tok, hb3]
    obtain ⟨m3, t3, ok3⟩ := back_ok (c := ⟨w', m', _⟩) L ok2 ho2 hm2 hg2 rfl hp2 ((hx1 0 _ _ rfl rfl).mono t2) (by rw [ble.hs htok]; exact hb2) hq2
    have hos3 : setObj (setObj ((setObj c.os o (.usr q.1 q.2)).set nb (.arr g.k ys' true)) nb .dead) o (.usr q2.1 q2.2) = addObjs (setObjs c.os [(o, .usr q2.1 q2.2)]) nb [.dead] := by
      simp only [setObjs, addObjs, setObj, List.set_set]
      rw [List.set_comm _ _ (Ne.symm hne), List.set_set]
    have t3 : Tr G F _ ⟨w', m3, _⟩ := t3
    simp only at t3 ok3
    rw [hos3] at t3 ok3
    exact ⟨v', m3, rfl, (t1.trans ok1 t2).trans ok2 t3, ok3, hr2.mono t3⟩
  · rename_i k' ys
    obtain ⟨rfl, -⟩ := h3.pure_inv
    have hnb0 := hnb 0 (by simp)
    rw [Nat.add_zero] at hnb0
    have hnb1 := hnb 1 (by simp)
    have hln := (List.getElem?_eq_some_iff.1 hnb0).1
    have hln1 := (List.getElem?_eq_some_iff.1 hnb1).1
    have hne1 : o ≠ nb + 1 := fun e => by rw [e, hnb1] at ho; cases ho
    obtain ⟨m1, t1, ok1, hx1, -, hat⟩ := common hnb0
    have hrun := callN_run (P := P) (nb1 := nb + 1) hat hmode hlit hjn hs (by simp) (by simp) rfl rfl
    refine (callN_ok (c := ⟨c.w, m1, _⟩) (nb := nb + 1) (vals := v0 :: vs) L ok1 (by simp [setObj]; omega) (fun j hj => by
      have hj : j = 0 := by simpa using hj
      subst hj
      show ((setObj c.os o (.usr q.1 q.2)).set nb _)[nb + 1 + 0]? = _
      rw [Nat.add_zero, List.getElem?_set_ne (by omega)]
      unfold setObj
      rw [List.getElem?_set_ne hne1]; exact hnb1) hrun (by simpa using hlen) hx1).mono ?_
    rintro e w' ⟨v', m', rfl, t2, ok2, hr2⟩
    have hos : addObjs (setObjs ((setObj c.os o (.usr q.1 q.2)).set nb (.arr g.k (g.xs.getD i []) true)) ([nb].zip (([AObj.dead, AObj.arr k' ys true].map (renO (backIn [nb] (nb + 1)))).take 1))) (nb + 1) (([AObj.dead, AObj.arr k' ys true].map (renO (backIn [nb] (nb + 1)))).drop 1) = addObjs (setObjs c.os [(o, .usr q.1 q.2)]) nb [.dead, .arr k' ys true] := by
      show (((setObj c.os o (.usr q.1 q.2)).set nb _).set nb .dead).set (nb + 1) (.arr k' ys true) = _
      rw [List.set_set]; rfl
    have t2 : Tr G F _ ⟨w', m', _⟩ := t2
    simp only at t2 ok2 hr2
    rw [hos] at t2 ok2 hr2
    have hd : renV (backIn [nb] (nb + 1)) (AV.own 1 : AV G.T) = .own (nb + 1) := rfl
    rw [hd] at hr2
    exact ⟨v', m', rfl, t1.trans ok1 t2, ok2, hr2⟩
  · exact h3.fail_inv.elim

theorem callV_ok {nb : Nat} {f : FuncId} {args : List (AV G.T)} {vals : List Value} {r : OpRes G.T G.U} {l : List Nat} (L : Laws P G) (ok : OK P G F N c) (hnb0 : nb ≤ c.os.length) (hnb : ∀ i, i < r.new.length → c.os[nb + i]? = some .free)
    (h : Runs P G c.os (callV G nb f args) l r) (hlen : args.length = vals.length) (hx : ∀ (i : Nat) (d : AV G.T) (v : Value), args[i]? = some d → vals[i]? = some v → VR P G F c d v) :
    G.fn f = true ∧ Calls P f vals.toArray c.w fun e w' => ∃ v m', e = .returned v ∧ Tr G F c ⟨w', m', addObjs (setObjs c.os r.upd) nb r.new⟩ ∧ OK P G F N ⟨w', m', addObjs (setObjs c.os r.upd) nb r.new⟩ ∧
      VR P G F ⟨w', m', addObjs (setObjs c.os r.upd) nb r.new⟩ r.d v := by
  unfold callV at h
  split at h
  case isFalse => exact h.fail_inv.elim
  rename_i hfn
  refine ⟨hfn, ?_⟩
  split at h
  · exact callZ_ok L ok hnb h hlen hx
  · split at h
    · split at h
      · exact callS_ok L ok hnb h hlen hx
      · exact callN_ok L ok hnb0 hnb h hlen hx
    · exact callN_ok L ok hnb0 hnb h hlen hx

end
end Go.Proofs.Ytjfmfpnnjgfffaa.Am
