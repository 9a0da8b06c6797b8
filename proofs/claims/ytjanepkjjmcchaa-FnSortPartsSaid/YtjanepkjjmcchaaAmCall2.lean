/- The abstract machine: calls, whole. -/
import Derived.Test.YtjanepkjjmcchaaAmCall
namespace Go.Proofs.Ytjanepkjjmcchaa.Am
open Go
set_option autoImplicit false
set_option linter.unusedVariables false
set_option linter.unusedSectionVars false
set_option linter.unusedSimpArgs false

section
variable {P : Program} {G : Sig} {F F' N : Nat → Prop} {c c' c'' : Cf G}

theorem Frz.mut {os os' : List (AObj G.T G.U)} (h : Frz os os') {o : Nat} {obj : AObj G.T G.U} (ho : os'[o]? = some obj) (hm : isMut obj = true) : os[o]? = some obj := by
  rcases h.back ho with h1 | ⟨k, xs, wr, _, rfl⟩
  · exact h1
  · simp [isMut] at hm

theorem Frz.live {os os' : List (AObj G.T G.U)} (h : Frz os os') {o : Nat} {obj : AObj G.T G.U} (ho : os'[o]? = some obj) (hl : isLive obj = true) : ∃ obj0, os[o]? = some obj0 ∧ isLive obj0 = true := by
  rcases h.back ho with h1 | ⟨k, xs, wr, h1, rfl⟩
  · exact ⟨_, h1, hl⟩
  · exact ⟨_, h1, rfl⟩

/-- what a frozen row says of its memory is what the row said -/
theorem ObjR.frz {β : Blk} {k : Nat} {xs : List (G.T k)} {wr wr' : Bool} (h : ObjR P G F c β (.arr k xs wr)) : ObjR P G F c β (.arr k xs wr') := h

theorem renO_notlive {ρ : Nat → Option Nat} {x : AObj G.T G.U} (h : ¬ isLive x = true) (hf : x ≠ .free) : renO ρ x = .dead := by cases x <;> simp_all [isLive, renO]
theorem notlive {x : AObj G.T G.U} (h : ¬ isLive x = true) : x = .dead ∨ x = .free := by cases x <;> simp_all [isLive]

set_option maxHeartbeats 4000000 in
theorem callV_ok {nb : Nat} {f : FuncId} {args : List (AV G.T)} {vals : List Value} {r : OpRes G.T G.U} {l : List Nat} (L : Laws P G) (ok : OK P G F N c) (hnb0 : nb ≤ c.os.length) (hnb : ∀ i, i < r.new.length → c.os[nb + i]? = some .free)
    (h : Runs P G c.os (callV G nb f args) l r) (hlen : args.length = vals.length) (hx : ∀ (i : Nat) (d : AV G.T) (v : Value), args[i]? = some d → vals[i]? = some v → VR P G F c d v) :
    G.fn f = true ∧ Calls P f vals.toArray c.w fun e w' => ∃ v m', e = .returned v ∧ Tr G F c ⟨w', m', addObjs (setObjs c.os r.upd) nb r.new⟩ ∧ OK P G F N ⟨w', m', addObjs (setObjs c.os r.upd) nb r.new⟩ ∧
      VR P G F ⟨w', m', addObjs (setObjs c.os r.upd) nb r.new⟩ r.d v := by
  unfold callV at h
  split at h
  case isFalse => exact h.fail_inv.elim
  rename_i hfn
  refine ⟨hfn, ?_⟩
  obtain ⟨⟨args', fr0⟩, l1, l2, rfl, g1, g2⟩ := h.bind_inv
  obtain ⟨rs, l3, l4, rfl, g3, g4⟩ := g2.bind_inv
  simp only at g4
  clear h g2
  split at g4
  case isFalse => exact g4.fail_inv.elim
  rename_i hdis
  cases g4 with
  | call _ _ _ _ r0 os0 _ _ hs g5 =>
  simp only at g5
  split at g5
  case isFalse => exact g5.fail_inv.elim
  rename_i hle
  split at g5
  case isFalse => exact g5.fail_inv.elim
  rename_i hle3
  obtain ⟨rfl, -⟩ := g5.pure_inv
  clear g5

  -- names
  let ns : List Nat := rs.map (·.1)
  have hnsdef : rs.map (·.1) = ns := rfl
  rw [hnsdef] at hs hle hle3 hdis
  obtain ⟨hnd, hrs⟩ := reach_ok g3 (by simp) (fun p hp => by simp at hp)
  have hnd : ns.Nodup := hnd
  obtain ⟨s1, s2, s3⟩ := snaps_ok ok g1 hlen hx
  obtain ⟨hfz, hfu⟩ := frz_setObjs s2
  let cs : Cf G := ⟨c.w, c.m, setObjs c.os fr0⟩
  have okS : OK P G F N cs := hfz.ok ok
  have hfrlt : ∀ p ∈ fr0, p.1 < c.os.length := fun p hp => by
    obtain ⟨_, _, _, h, _⟩ := s2 p hp
    exact (List.getElem?_eq_some_iff.1 h).1
  have hdis' : ∀ p ∈ fr0, p.1 ∉ ns := fun p hp => by
    have := List.all_eq_true.1 hdis p hp
    exact lmem_false (by simpa using this)
  have hcs : ∀ o, o ∈ ns → cs.os[o]? = c.os[o]? := fun o ho => setObjs_other fun p hp e => hdis' p hp (e ▸ ho)
  have hnsj : ∀ (j o : Nat), ns[j]? = some o → ∃ x, rs[j]? = some (o, x) ∧ isLive x = true ∧ c.os[o]? = some x := by
    intro j o hj
    simp only [ns, List.getElem?_map, Option.map_eq_some_iff] at hj
    obtain ⟨p, hp, rfl⟩ := hj
    have := hrs p (List.mem_of_getElem? hp)
    exact ⟨p.2, hp, this.1, this.2⟩
  have hnslt : ∀ o ∈ ns, o < c.os.length := fun o ho => by
    obtain ⟨j, hj⟩ := mem_get? ho
    obtain ⟨x, _, _, h⟩ := hnsj j o hj
    exact (List.getElem?_eq_some_iff.1 h).1
  have hnsinj : ∀ (j j' o : Nat), ns[j]? = some o → ns[j']? = some o → j = j' := fun j j' o h h' => by
    have e : ns[j]? = ns[j']? := h.trans h'.symm
    exact (List.getElem?_inj (List.getElem?_eq_some_iff.1 h).1 hnd).1 e
  -- the callee's view
  let hat : Cf G := ⟨c.w, ns.map fun o => c.m.getD o ⟨none, 0, []⟩, rs.map fun p => renO (posIn ns) p.2⟩
  have hatinv : ∀ (j : Nat) (y : AObj G.T G.U) (β : Blk), hat.os[j]? = some y → hat.m[j]? = some β → ∃ o x, ns[j]? = some o ∧ c.os[o]? = some x ∧ isLive x = true ∧ y = renO (posIn ns) x ∧ c.m[o]? = some β := by
    intro j y β h1 h2
    simp only [hat, List.getElem?_map, Option.map_eq_some_iff] at h1 h2
    obtain ⟨p, hp, rfl⟩ := h1
    obtain ⟨o, ho, rfl⟩ := h2
    obtain ⟨x, hx1, hx2, hx3⟩ := hnsj j o ho
    rw [hp] at hx1; cases hx1
    have hlt : o < c.m.length := by rw [ok.len]; exact (List.getElem?_eq_some_iff.1 hx3).1
    exact ⟨o, x, ho, hx3, hx2, rfl, by simp [List.getD, hlt]⟩
  let Fh : Nat → Prop := fun b => F b ∨ ∃ (o : Nat) (obj : AObj G.T G.U) (β : Blk), o ∉ ns ∧ cs.os[o]? = some obj ∧ c.m[o]? = some β ∧ isMut obj = true ∧ b ∈ β.fp
  have avHat : ∀ b, Av G Fh hat b → Av G F cs b := by
    rintro b ((hf | ⟨o, obj, β, _, h2, h3, h4, h5⟩) | ⟨j, y, β, h1, h2, h3, h4⟩)
    · exact .inl hf
    · exact .inr ⟨o, obj, β, h2, h3, h4, h5⟩
    · obtain ⟨o, x, ho, hx1, hx2, rfl, hx3⟩ := hatinv j y β h1 h2
      rw [renO_mut] at h3
      exact .inr ⟨o, x, β, by rw [hcs o (List.mem_of_getElem? ho)]; exact hx1, hx3, h3, h4⟩
  have renH : RenOK (posIn ns) cs hat := by
    intro o j hj obj hobj _
    have hj := posIn_inv hj
    rw [hcs o (List.mem_of_getElem? hj)] at hobj
    obtain ⟨x, hx1, hx2, hx3⟩ := hnsj j o hj
    rw [hobj] at hx3; cases hx3
    have hlt : o < c.m.length := by rw [ok.len]; exact (List.getElem?_eq_some_iff.1 hobj).1
    refine ⟨renO (posIn ns) obj, by simp [hat, hx1], .inr ⟨renO_same.2 (Same.refl_live hx2), ?_⟩⟩
    show (ns.map fun o => c.m.getD o ⟨none, 0, []⟩)[j]? = c.m[o]?
    simp [hj, List.getD, hlt]
  have okH : OK P G Fh (Nof hat) hat := by
    constructor
    · simp [hat, ns]
    · intro j y β h1 h2
      obtain ⟨o, x, ho, hx1, hx2, rfl, hx3⟩ := hatinv j y β h1 h2
      have := okS.obj o x β (by rw [hcs o (List.mem_of_getElem? ho)]; exact hx1) hx3
      exact ObjR.ren (c := cs) (c' := hat) L rfl renH this fun _ b hb => avHat b hb
    · intro j y β h1 h2 hl b hb
      obtain ⟨o, x, ho, hx1, hx2, rfl, hx3⟩ := hatinv j y β h1 h2
      obtain ⟨h5, h6⟩ := ok.own o x β hx1 hx3 hx2 b hb
      refine ⟨?_, h6⟩
      rintro (hf | ⟨o', obj, β', h7, h8, h9, h10, h11⟩)
      · exact h5 hf
      · have h8' := hfz.mut h8 h10
        exact ok.apart o o' x obj β β' hx1 h8' hx3 h9 hx2 (isMut_live h10) (fun e => h7 (e ▸ List.mem_of_getElem? ho)) b hb h11
    · intro j y β h1 h2 hm b hb hN
      exact hN.2 j y β h1 h2 hm hb
    · intro j j' y y' β β' h1 h2 h3 h4 hl hl' hne b hb hb'
      obtain ⟨o, x, ho, hx1, hx2, rfl, hx3⟩ := hatinv j y β h1 h3
      obtain ⟨o', x', ho', hx1', hx2', rfl, hx3'⟩ := hatinv j' y' β' h2 h4
      exact ok.apart o o' x x' β β' hx1 hx1' hx3 hx3' hx2 hx2' (fun e => hne (hnsinj j j' o ho (e ▸ ho'))) b hb hb'
    · rintro b ((hf | ⟨o, obj, β, _, h2, h3, h4, h5⟩) | hN)
      · exact ok.low b (.inl hf)
      · exact (okS.own o obj β h2 h3 (isMut_live h4) b h5).2
      · exact hN.1
    · intro b v hb
      refine ⟨(ok.gl b v hb).1, ?_⟩
      rintro ⟨j, y, β, h1, h2, h3, h4⟩
      obtain ⟨o, x, ho, hx1, hx2, rfl, hx3⟩ := hatinv j y β h1 h2
      exact (ok.gl b v hb).2 ⟨o, x, β, hx1, hx3, hx2, h4⟩
  have hargs : ∀ (i : Nat) (d : AV G.T) (v : Value), (renL (posIn ns) args')[i]? = some d → vals[i]? = some v → VR P G Fh hat d v := by
    intro i d v hd hv
    obtain ⟨e, he, rfl⟩ := renL_get hd
    have := s3 _ hfz hfu i e v he hv
    exact VR.ren (c := cs) (c' := hat) L rfl renH this fun _ b hb => avHat b hb
  refine (hs Fh c.w hat.m vals okH (by rw [renL_length, s1, hlen]) hargs).mono ?_
  rintro e w' ⟨v, mh, rfl, tH, okH', hv⟩
  -- back
  let hat' : Cf G := ⟨w', mh, os0⟩
  have hn : ns.length = hat.os.length := by simp [hat, ns]
  let imm : Bool := hasImm r0 || os0.any (hasImmO G.flat)
  let fr : List (Nat × AObj G.T G.U) := if imm then fr0 else []
  have hfrsub : ∀ p ∈ fr, p ∈ fr0 := fun p hp => by
    simp only [fr] at hp; split at hp
    · exact hp
    · simp at hp
  have hfrimm : imm = true → fr = fr0 := fun hi => by simp [fr, hi]
  obtain ⟨hfzx, -⟩ := frz_setObjs (upd := fr) (os := c.os) fun p hp => s2 p (hfrsub p hp)
  have hfrlt' : ∀ p ∈ fr, p.1 < c.os.length := fun p hp => hfrlt p (hfrsub p hp)
  let os1 : List (AObj G.T G.U) := os0.map (renO (backIn ns nb))
  let upd : List (Nat × AObj G.T G.U) := fr ++ ns.zip (os1.take ns.length)
  have hl0 : (setObjs c.os upd).length = c.os.length := setObjs_len
  have hl1 : (setObjs c.os fr).length = c.os.length := setObjs_len
  let new : List (AObj G.T G.U) := os1.drop ns.length
  have hnew : new.length = os0.length - ns.length := by simp [new, os1]
  have hroom : nb + new.length ≤ c.os.length := by
    by_cases h0 : new.length = 0
    · rw [h0]; exact hnb0
    · have := (List.getElem?_eq_some_iff.1 (hnb (new.length - 1) (by show _ < new.length; omega))).1
      omega
  have hfree : ∀ o, nb ≤ o → o < nb + new.length → c.os[o]? = some .free := fun o h1 h2 => by
    have := hnb (o - nb) (by show _ < new.length; omega)
    rwa [Nat.add_sub_cancel' h1] at this
  have hnsfree : ∀ o ∈ ns, o < nb ∨ nb + new.length ≤ o := fun o ho => by
    apply Classical.byContradiction
    intro hh
    have h1 := hfree o (by omega) (by omega)
    obtain ⟨j, hj⟩ := mem_get? ho
    obtain ⟨x, _, h2, h3⟩ := hnsj j o hj
    rw [h1] at h3; cases h3; simp [isLive] at h2
  let m2 : List Blk := setM c.m nb (mh.drop ns.length)
  let c2 : Cf G := ⟨w', m2, addObjs (setObjs c.os upd) nb new⟩
  have hmlen : mh.length = os0.length := okH'.len
  -- the objects
  have hmdrop : (mh.drop ns.length).length = new.length := by rw [hnew]; simp [hmlen]
  have osRest : ∀ o, (o < nb ∨ nb + new.length ≤ o) → o ∉ ns → c2.os[o]? = (setObjs c.os fr)[o]? := by
    intro o ho hne
    show (addObjs (setObjs c.os upd) nb new)[o]? = _
    rw [addObjs_other ho, show upd = fr ++ ns.zip (os1.take ns.length) from rfl, setObjs_append]
    exact setObjs_other fun p hp e => hne (e ▸ zip_fst hp)
  have osHat : ∀ (j o : Nat) (x : AObj G.T G.U), ns[j]? = some o → os0[j]? = some x → c2.os[o]? = some (renO (backIn ns nb) x) := by
    intro j o x hj hxj
    have hjn : j < ns.length := (List.getElem?_eq_some_iff.1 hj).1
    show (addObjs (setObjs c.os upd) nb new)[o]? = _
    rw [addObjs_other (hnsfree o (List.mem_of_getElem? hj)), show upd = fr ++ ns.zip (os1.take ns.length) from rfl, setObjs_append]
    refine setObjs_zip hnd (fun n hn => by rw [hl1]; exact hnslt n hn) hj ?_
    rw [List.getElem?_take, if_pos hjn]; simp [os1, hxj]
  have osNew : ∀ (i : Nat) (x : AObj G.T G.U), os0[ns.length + i]? = some x → c2.os[nb + i]? = some (renO (backIn ns nb) x) := by
    intro i x hi
    refine addObjs_new (by rw [hl0]; exact hroom) ?_
    simp [new, os1, hi]
  have mOld : ∀ o, (o < nb ∨ nb + new.length ≤ o) → c2.m[o]? = c.m[o]? := by
    intro o ho
    exact setM_other (by rw [hmdrop]; exact ho)
  have mNew : ∀ (i : Nat) (x : AObj G.T G.U), os0[ns.length + i]? = some x → c2.m[nb + i]? = mh[ns.length + i]? := by
    intro i x hi
    have hlt : ns.length + i < mh.length := by rw [hmlen]; exact (List.getElem?_eq_some_iff.1 hi).1
    have h1 : (mh.drop ns.length)[i]? = some mh[ns.length + i] := by rw [List.getElem?_drop]; simp [hlt]
    have : c2.m[nb + i]? = some mh[ns.length + i] := setM_new (by rw [hmdrop, ok.len]; exact hroom) h1
    rw [this]; simp [hlt]
  -- a live object, whence it is
  have hatM : ∀ (j o : Nat) (x : AObj G.T G.U), ns[j]? = some o → os0[j]? = some x → isLive x = true → mh[j]? = c.m[o]? := by
    intro j o x hj hxj hl
    obtain ⟨y, hy1, hy2, hy3⟩ := hnsj j o hj
    have hlt : o < c.m.length := by rw [ok.len]; exact (List.getElem?_eq_some_iff.1 hy3).1
    obtain ⟨x', h1, h2⟩ := tH.ext j (renO (posIn ns) y) (by simp [hat, hy1]) (live_nf (by rw [renO_live]; exact hy2))
    have h1 : os0[j]? = some x' := h1
    rw [hxj] at h1; cases h1
    rcases h2 with rfl | ⟨_, h2⟩
    · simp [isLive] at hl
    · have h2 : mh[j]? = hat.m[j]? := h2
      rw [h2]; simp [hat, hj, List.getD, hlt]
  have CL : ∀ (o : Nat) (obj : AObj G.T G.U) (β : Blk), c2.os[o]? = some obj → c2.m[o]? = some β → isLive obj = true →
      (∃ j x, os0[j]? = some x ∧ mh[j]? = some β ∧ obj = renO (backIn ns nb) x ∧ backIn ns nb j = some o) ∨ (o ∉ ns ∧ (o < nb ∨ nb + new.length ≤ o) ∧ (setObjs c.os fr)[o]? = some obj ∧ c.m[o]? = some β) := by
    intro o obj β h1 h2 hl
    by_cases h3 : o < nb ∨ nb + new.length ≤ o
    · rw [mOld o h3] at h2
      by_cases ho : o ∈ ns
      · left
        obtain ⟨j, hj⟩ := mem_get? ho
        have hjn : j < ns.length := (List.getElem?_eq_some_iff.1 hj).1
        have hjo : j < os0.length := by omega
        have hx : os0[j]? = some os0[j] := by simp [hjo]
        have e := osHat j o _ hj hx
        rw [h1] at e; cases e
        rw [renO_live] at hl
        exact ⟨j, os0[j], hx, (hatM j o _ hj hx hl).trans h2, rfl, by simp [backIn, hj]⟩
      · right
        rw [osRest o h3 ho] at h1
        exact ⟨ho, h3, h1, h2⟩
    · left
      have hlt : ns.length + (o - nb) < os0.length := by omega
      have hx : os0[ns.length + (o - nb)]? = some os0[ns.length + (o - nb)] := by simp [hlt]
      have e := osNew (o - nb) _ hx
      have e2 := mNew (o - nb) _ hx
      rw [Nat.add_sub_cancel' (by omega)] at e e2
      rw [h1] at e; cases e
      rw [e2] at h2
      refine ⟨ns.length + (o - nb), _, hx, h2, rfl, ?_⟩
      have : ns[ns.length + (o - nb)]? = none := List.getElem?_eq_none (by omega)
      simp [backIn, this]; omega
  have renB : RenOK (backIn ns nb) hat' c2 := by
    intro j o hj x hxj hxf
    have hxj : os0[j]? = some x := hxj
    unfold backIn at hj
    split at hj
    · rename_i o' ho'
      cases hj
      refine ⟨_, osHat j o x ho' hxj, ?_⟩
      by_cases hl : isLive x = true
      · refine .inr ⟨renO_same.2 (Same.refl_live hl), ?_⟩
        rw [mOld o (hnsfree o (List.mem_of_getElem? ho'))]
        exact (hatM j o x ho' hxj hl).symm
      · exact .inl (renO_notlive hl hxf)
    · rename_i hnone
      cases hj
      have hge : ns.length ≤ j := List.getElem?_eq_none_iff.1 hnone
      have hxj' : os0[ns.length + (j - ns.length)]? = some x := by rw [Nat.add_sub_cancel' hge]; exact hxj
      refine ⟨_, osNew (j - ns.length) x hxj', ?_⟩
      by_cases hl : isLive x = true
      · refine .inr ⟨renO_same.2 (Same.refl_live hl), ?_⟩
        rw [mNew _ x hxj', Nat.add_sub_cancel' hge]
      · exact .inl (renO_notlive hl hxf)
  have avBack : imm = true → ∀ b, Av G F c2 b → Av G Fh hat' b := by
    rintro hi b (hf | ⟨o, obj, β, h1, h2, h3, h4⟩)
    · exact .inl (.inl hf)
    · rcases CL o obj β h1 h2 (isMut_live h3) with ⟨j, x, h5, h6, rfl, _⟩ | ⟨h5, h6, h7, h8⟩
      · rw [renO_mut] at h3
        exact .inr ⟨j, x, β, h5, h6, h3, h4⟩
      · rw [hfrimm hi] at h7
        exact .inl (.inr ⟨o, obj, β, h5, h7, h8, h3, h4⟩)
  have mutHat : ∀ b, (∃ (j : Nat) (y : AObj G.T G.U) (β : Blk), hat.os[j]? = some y ∧ hat.m[j]? = some β ∧ isMut y = true ∧ b ∈ β.fp) → ∃ (o : Nat) (x : AObj G.T G.U) (β : Blk), o ∈ ns ∧ c.os[o]? = some x ∧ c.m[o]? = some β ∧ isMut x = true ∧ b ∈ β.fp := by
    rintro b ⟨j, y, β, h1, h2, h3, h4⟩
    obtain ⟨o, x, ho, hx1, hx2, rfl, hx3⟩ := hatinv j y β h1 h2
    rw [renO_mut] at h3
    exact ⟨o, x, β, List.mem_of_getElem? ho, hx1, hx3, h3, h4⟩
  have keep : ∀ b, b < c.w.heap.size → (∀ (o : Nat) (x : AObj G.T G.U) (β : Blk), o ∈ ns → c.os[o]? = some x → c.m[o]? = some β → isMut x = true → b ∉ β.fp) → w'.heap[b]? = c.w.heap[b]? := by
    intro b hb hh
    refine tH.keep b hb fun j y β h1 h2 h3 h4 => ?_
    obtain ⟨o, x, β', a1, a2, a3, a4, a5⟩ := mutHat b ⟨j, y, β, h1, h2, h3, h4⟩
    exact hh o x β' a1 a2 a3 a4 a5
  have FhAv : ∀ b, Av G Fh hat b → Av G F c b := by
    intro b hb
    rcases avHat b hb with hf | ⟨o, obj, β, h1, h2, h3, h4⟩
    · exact .inl hf
    · exact .inr ⟨o, obj, β, hfz.mut h1 h3, h2, h3, h4⟩
  have tr : Tr G F c c2 := {
    sys := tH.sys
    size := tH.size
    keep := fun b hb hh => keep b hb fun o x β _ h1 h2 h3 => hh o x β h1 h2 h3
    ext := fun o obj ho hf => by
      have hlt : o < nb ∨ nb + new.length ≤ o := by
        apply Classical.byContradiction
        intro hh
        have h1 := hfree o (by omega) (by omega)
        rw [h1] at ho; cases ho; exact hf rfl
      by_cases hin : o ∈ ns
      · obtain ⟨j, hj⟩ := mem_get? hin
        obtain ⟨y, hy1, hy2, hy3⟩ := hnsj j o hj
        rw [ho] at hy3; cases hy3
        obtain ⟨x', h1, h2⟩ := tH.ext j (renO (posIn ns) obj) (by simp [hat, hy1]) (live_nf (by rw [renO_live]; exact hy2))
        have h1 : os0[j]? = some x' := h1
        refine ⟨_, osHat j o x' hj h1, ?_⟩
        rcases h2 with rfl | ⟨h2, _⟩
        · exact .inl rfl
        · exact .inr ⟨renO_same.2 (renO_same'.1 h2), mOld o hlt⟩
      · rw [osRest o hlt hin, mOld o hlt]
        rcases hfzx.2 o obj ho with h1 | ⟨k, xs, wr, rfl, h1⟩
        · refine ⟨obj, h1, ?_⟩
          by_cases hd : obj = .dead
          · exact .inl hd
          · exact .inr ⟨Same.refl_live' hd hf, rfl⟩
        · exact ⟨_, h1, .inr ⟨by simp [Same], rfl⟩⟩
    av := fun b hb hh => by
      rcases hh with hf | ⟨o, obj, β, h1, h2, h3, h4⟩
      · exact .inl hf
      · rcases CL o obj β h1 h2 (isMut_live h3) with ⟨j, x, h5, h6, rfl, _⟩ | ⟨h5, h6, h7, h8⟩
        · rw [renO_mut] at h3
          exact FhAv b (tH.av b hb (.inr ⟨j, x, β, h5, h6, h3, h4⟩))
        · exact .inr ⟨o, obj, β, hfzx.mut h7 h3, h8, h3, h4⟩
    lv := fun b hb hh => by
      obtain ⟨o, obj, β, h1, h2, h3, h4⟩ := hh
      rcases CL o obj β h1 h2 h3 with ⟨j, x, h5, h6, rfl, _⟩ | ⟨h5, h6, h7, h8⟩
      · rw [renO_live] at h3
        obtain ⟨j', y, β', a1, a2, a3, a4⟩ := tH.lv b hb ⟨j, x, β, h5, h6, h3, h4⟩
        obtain ⟨o', x', ho', hx1, hx2, rfl, hx3⟩ := hatinv j' y β' a1 a2
        exact ⟨o', x', β', hx1, hx3, hx2, a4⟩
      · obtain ⟨obj0, h9, h10⟩ := hfzx.live h7 h3
        exact ⟨o, obj0, β, h9, h8, h10, h4⟩ }
  have restFar : ∀ (o : Nat) (obj : AObj G.T G.U) (β : Blk), o ∉ ns → c.os[o]? = some obj → c.m[o]? = some β → isLive obj = true → ∀ b ∈ β.fp, w'.heap[b]? = c.w.heap[b]? := by
    intro o obj β hne h1 h2 h3 b hb
    refine keep b (ok.own o obj β h1 h2 h3 b hb).2 fun o' x β' hin h4 h5 h6 hb' => ?_
    exact ok.apart o o' obj x β β' h1 h4 h2 h5 h3 (isMut_live h6) (fun e => hne (e ▸ hin)) b hb hb'
  have hatLv : ∀ (j : Nat) (x : AObj G.T G.U) (β : Blk), os0[j]? = some x → mh[j]? = some β → isLive x = true → ∀ b ∈ β.fp, b < c.w.heap.size → ∃ (o : Nat) (y : AObj G.T G.U) (β' : Blk), o ∈ ns ∧ c.os[o]? = some y ∧ c.m[o]? = some β' ∧ isLive y = true ∧ b ∈ β'.fp := by
    intro j x β h1 h2 h3 b hb hlt
    obtain ⟨j', y, β', a1, a2, a3, a4⟩ := tH.lv b hlt ⟨j, x, β, h1, h2, h3, hb⟩
    obtain ⟨o', x', ho', hx1, hx2, rfl, hx3⟩ := hatinv j' y β' a1 a2
    exact ⟨o', x', β', List.mem_of_getElem? ho', hx1, hx3, hx2, a4⟩
  have hatRest : ∀ (j : Nat) (x : AObj G.T G.U) (β : Blk), os0[j]? = some x → mh[j]? = some β → isLive x = true → ∀ (o : Nat) (obj : AObj G.T G.U) (β' : Blk), o ∉ ns → c.os[o]? = some obj → c.m[o]? = some β' → isLive obj = true → ∀ b ∈ β.fp, b ∉ β'.fp := by
    intro j x β h1 h2 h3 o obj β' hne h4 h5 h6 b hb hb'
    have hlt := (ok.own o obj β' h4 h5 h6 b hb').2
    obtain ⟨o2, y, β2, a1, a2, a3, a4, a5⟩ := hatLv j x β h1 h2 h3 b hb hlt
    exact ok.apart o2 o y obj β2 β' a2 h4 a3 h5 a4 h6 (fun e => hne (e ▸ a1)) b a5 hb'
  have ok2 : OK P G F N c2 := by
    constructor
    · show (setM c.m nb (mh.drop ns.length)).length = (addObjs (setObjs c.os upd) nb new).length
      rw [setM_len, addObjs_len, hl0, ok.len]
    · intro o obj β h1 h2
      by_cases hl : isLive obj = true
      · rcases CL o obj β h1 h2 hl with ⟨j, x, h5, h6, rfl, _⟩ | ⟨h5, h6, h7, h8⟩
        · refine (okH'.obj j x β h5 h6).ren (c := hat') (c' := c2) L rfl renB fun hi b hb => avBack ?_ b hb
          simp only [imm, Bool.or_eq_true]
          exact .inr (List.any_eq_true.2 ⟨x, List.mem_of_getElem? h5, hi⟩)
        · rcases hfzx.back h7 with h9 | ⟨k, xs, wr, h9, rfl⟩
          · exact (ok.obj o obj β h9 h8).mono tr fun hl b hb => restFar o obj β h5 h9 h8 hl b hb
          · exact ((ok.obj o _ β h9 h8).frz (wr' := false)).mono tr fun hl b hb => restFar o _ β h5 h9 h8 rfl b hb
      · rcases notlive hl with rfl | rfl <;> trivial
    · intro o obj β h1 h2 hl b hb
      rcases CL o obj β h1 h2 hl with ⟨j, x, h5, h6, rfl, _⟩ | ⟨h5, h6, h7, h8⟩
      · rw [renO_live] at hl
        obtain ⟨a1, a2⟩ := okH'.own j x β h5 h6 hl b hb
        exact ⟨fun hf => a1 (.inl hf), a2⟩
      · obtain ⟨obj0, h9, h10⟩ := hfzx.live h7 hl
        obtain ⟨a1, a2⟩ := ok.own o obj0 β h9 h8 h10 b hb
        exact ⟨a1, Nat.lt_of_lt_of_le a2 tH.size⟩
    · intro o obj β h1 h2 hm b hb hN
      rcases CL o obj β h1 h2 (isMut_live hm) with ⟨j, x, h5, h6, rfl, _⟩ | ⟨h5, h6, h7, h8⟩
      · rw [renO_mut] at hm
        have hlt := ok.low b (.inr hN)
        have a1 := okH'.wr j x β h5 h6 hm b hb
        have a2 : ¬ ∀ (o : Nat) (obj : AObj G.T G.U) (β : Blk), hat.os[o]? = some obj → hat.m[o]? = some β → isMut obj = true → b ∉ β.fp := fun hh => a1 ⟨hlt, hh⟩
        have a3 : ∃ (j : Nat) (y : AObj G.T G.U) (β : Blk), hat.os[j]? = some y ∧ hat.m[j]? = some β ∧ isMut y = true ∧ b ∈ β.fp := by
          apply Classical.byContradiction
          intro hno
          exact a2 fun o obj β h1 h2 h3 h4 => hno ⟨o, obj, β, h1, h2, h3, h4⟩
        obtain ⟨o', x', β', b1, b2, b3, b4, b5⟩ := mutHat b a3
        exact ok.wr o' x' β' b2 b3 b4 b b5 hN
      · exact ok.wr o obj β (hfzx.mut h7 hm) h8 hm b hb hN
    · intro o o' x1 x2 β1 β2 h1 h2 h3 h4 hl1 hl2 hne b hb hb'
      rcases CL o x1 β1 h1 h3 hl1 with ⟨j, y, h5, h6, rfl, hj⟩ | ⟨h5, h6, h7, h8⟩
      · rw [renO_live] at hl1
        rcases CL o' x2 β2 h2 h4 hl2 with ⟨j', y', h5', h6', rfl, hj'⟩ | ⟨h5', h6', h7', h8'⟩
        · rw [renO_live] at hl2
          refine okH'.apart j j' y y' β1 β2 h5 h5' h6 h6' hl1 hl2 (fun e => ?_) b hb hb'
          subst e; rw [hj] at hj'; cases hj'; exact hne rfl
        · obtain ⟨obj0, h9, h10⟩ := hfzx.live h7' hl2
          exact hatRest j y β1 h5 h6 hl1 o' obj0 β2 h5' h9 h8' h10 b hb hb'
      · obtain ⟨obj0, h9, h10⟩ := hfzx.live h7 hl1
        rcases CL o' x2 β2 h2 h4 hl2 with ⟨j', y', h5', h6', rfl, hj'⟩ | ⟨h5', h6', h7', h8'⟩
        · rw [renO_live] at hl2
          exact hatRest j' y' β2 h5' h6' hl2 o obj0 β1 h5 h9 h8 h10 b hb' hb
        · obtain ⟨obj0', h9', h10'⟩ := hfzx.live h7' hl2
          exact ok.apart o o' obj0 obj0' β1 β2 h9 h9' h8 h8' h10 h10' hne b hb hb'
    · intro b hb
      exact Nat.lt_of_lt_of_le (ok.low b hb) tH.size
    · exact ok.gl.step tr
  exact ⟨v, m2, rfl, tr, ok2, VR.ren (c := hat') (c' := c2) L rfl renB hv fun hi b hb => avBack (by simp only [imm, hi, Bool.true_or]) b hb⟩

end
end Go.Proofs.Ytjanepkjjmcchaa.Am
