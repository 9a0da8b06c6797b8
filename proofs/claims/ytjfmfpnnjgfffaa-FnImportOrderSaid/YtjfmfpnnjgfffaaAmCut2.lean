/- The abstract machine: cutting and conversions, whole. -/
import Derived.Test.YtjfmfpnnjgfffaaAmCut
namespace Go.Proofs.Ytjfmfpnnjgfffaa.Am
open Go
set_option autoImplicit false
set_option linter.unusedVariables false
set_option linter.unusedSectionVars false
set_option linter.unusedSimpArgs false

section
variable {P : Program} {G : Sig} {F N : Nat → Prop} {c c' c'' : Cf G}

theorem slice_run {t e : TypeId} {i : TypeInfo} {a : Option Addr} {n cap l h m : Nat} {lo hi mx : Option Value} (hu : P.underlying t = some (.slice e)) (hi' : P.info? e = some i)
    (hb : (Instr.sliceBounds true n cap lo hi mx).run P c.w = .ok (l, h, m) c.w) :
    (Instr.sliceAt t (.slice a n cap) lo hi mx).run P c.w = .ok (.slice (if m = l then a else a.map (·.add (l * i.size))) (h - l) (m - l)) c.w := by
  unfold Instr.sliceAt
  rw [run_ok (run_underlying' hu c.w)]
  simp only
  unfold Instr.slice
  rw [run_ok (run_underlying' hu c.w)]
  simp only [Sem.run_bind, hb, Result.andThen_ok, run_sizeOf' hi', Sem.run_pure]

theorem imm_cut {k a b cap : Nat} {xs : List (G.T k)} {base : Option Addr} {i : TypeInfo} (hi : P.info? (G.E k) = some i) (h : VR P G F c (.imm k xs) (.slice base xs.length cap)) (hab : a ≤ b) (hb : b ≤ xs.length) (hti : G.tight k = false) :
    VR P G F c (.imm k ((xs.take b).drop a)) (.slice (if cap = a then base else base.map (·.add (a * i.size))) (b - a) (cap - a)) := by
  have hsz : esz P G k = i.size := by simp [esz, szT, hi]
  cases h with
  | imm _ _ _ _ f hk hcap hc hv =>
    have hlen : ((xs.take b).drop a).length = b - a := by simp; omega
    have hget : ∀ (j : Nat) (x : G.T k), ((xs.take b).drop a)[j]? = some x → xs[a + j]? = some x := by
      intro j x hx
      rw [List.getElem?_drop, List.getElem?_take] at hx
      split at hx
      · exact hx
      · cases hx
    have := VR.imm (P := P) (F := F) (c := c) k ((xs.take b).drop a) (if cap = a then base else base.map (·.add (a * i.size))) (cap - a) (fun r j => f (a + r) j) hk (by rw [hlen]; omega)
      (fun r x hx j d hd => by
        obtain ⟨ad, rfl, h1, h2⟩ := hc _ _ (hget r x hx) j d hd
        have hlt : a + r < xs.length := (List.getElem?_eq_some_iff.1 (hget r x hx)).1
        rw [if_neg (by omega)]
        refine ⟨ad.add (a * i.size), rfl, by rw [add_block]; exact h1, ?_⟩
        rw [add_add, hsz]
        rw [hsz] at h2
        rw [show a * i.size + (r * i.size + j) = (a + r) * i.size + j from by rw [Nat.add_mul]; omega]; exact h2)
      (fun r x hx j d hd => hv _ _ (hget r x hx) j d hd) (fun h => by rw [hti] at h; cases h)
    rwa [hlen] at this

theorem imm_old (L : Laws P G) {d : AV G.T} {v : Value} (h : VR P G F c d v) : ∀ k xs, d = .imm k xs → VR P G F c (.old k xs) v := by
  induction h with
  | imm k xs a cap f hk hcap hc hv _ ih =>
    intro k' xs' e
    cases e
    refine .old k xs a cap f hk hcap (fun i x hx j d hd => ?_) (fun i x hx j d hd => ?_)
    · obtain ⟨ad, h1, h2, h3⟩ := hc i x hx j d hd
      exact ⟨ad, h1, fun h => h2 (.inr h), h3⟩
    · rcases L.leaf k hk x j d hd with ⟨u, rfl, _⟩ | ⟨k', ys, rfl, _⟩
      · rw [(hv i x hx j _ hd).lit_inv]; exact .lit _
      · exact ih i x hx j _ hd k' ys rfl
  | _ => intro k xs e; cases e

theorem strict_ret {os : List (AObj G.T G.U)} {w : List Nat} {r : OpRes G.T G.U} (g : Runs P G os (match G.strict with | true => .fail | false => ret G .nil0) w r) : G.strict = false ∧ Runs P G os (ret G .nil0) w r := by
  cases h : G.strict with
  | true => rw [h] at g; exact g.fail_inv.elim
  | false => rw [h] at g; exact ⟨rfl, g⟩
theorem old_cut {k a b cap : Nat} {xs : List (G.T k)} {base : Option Addr} {i : TypeInfo} (hi : P.info? (G.E k) = some i) (h : VR P G F c (.old k xs) (.slice base xs.length cap)) (hab : a ≤ b) (hb : b ≤ xs.length) :
    VR P G F c (.old k ((xs.take b).drop a)) (.slice (if cap = a then base else base.map (·.add (a * i.size))) (b - a) (cap - a)) := by
  have hsz : esz P G k = i.size := by simp [esz, szT, hi]
  cases h with
  | old _ _ _ _ f hk hcap hc hv =>
    have hlen : ((xs.take b).drop a).length = b - a := by simp; omega
    have hget : ∀ (j : Nat) (x : G.T k), ((xs.take b).drop a)[j]? = some x → xs[a + j]? = some x := by
      intro j x hx
      rw [List.getElem?_drop, List.getElem?_take] at hx
      split at hx
      · exact hx
      · cases hx
    have := VR.old (P := P) (F := F) (c := c) k ((xs.take b).drop a) (if cap = a then base else base.map (·.add (a * i.size))) (cap - a) (fun r j => f (a + r) j) hk (by rw [hlen]; omega)
      (fun r x hx j d hd => by
        obtain ⟨ad, rfl, h1, h2⟩ := hc _ _ (hget r x hx) j d hd
        have hlt : a + r < xs.length := (List.getElem?_eq_some_iff.1 (hget r x hx)).1
        rw [if_neg (by omega)]
        refine ⟨ad.add (a * i.size), rfl, by rw [add_block]; exact h1, ?_⟩
        rw [add_add, hsz]
        rw [hsz] at h2
        rw [show a * i.size + (r * i.size + j) = (a + r) * i.size + j from by rw [Nat.add_mul]; omega]; exact h2)
      (fun r x hx j d hd => hv _ _ (hget r x hx) j d hd)
    rwa [hlen] at this

theorem sliceV_ok {nb : Nat} {t : TypeId} {x : AV G.T} {v : Value} {lo hi mx : Option (AV G.T)} {vlo vhi vmx : Option Value} {r : OpRes G.T G.U} {lg : List Nat} (L : Laws P G) (ok : OK P G F N c)
    (h : Runs P G c.os (sliceV P G t x lo hi mx) lg r) (hx : VR P G F c x v) (h1 : ORel P G F c lo vlo) (h2 : ORel P G F c hi vhi) (h3 : ORel P G F c mx vmx) :
    OpTo P G F N c (Instr.sliceAt t v vlo vhi vmx) (addObjs (setObjs c.os r.upd) nb r.new) r.d := by
  have plain : ∀ {d : AV G.T} {u : Value} {lg : List Nat}, Runs P G c.os (ret G d) lg r → (Instr.sliceAt t v vlo vhi vmx).run P c.w = .ok u c.w → VR P G F c d u → OpTo P G F N c (Instr.sliceAt t v vlo vhi vmx) (addObjs (setObjs c.os r.upd) nb r.new) r.d := by
    intro d u lg hr he hv
    obtain ⟨rfl, -⟩ := Runs.pure_inv hr
    exact ⟨u, c.w, c.m, he, Tr.refl F c, ok, hv⟩
  unfold sliceV at h
  split at h
  · -- a string
    rename_i s hu
    obtain rfl := hx.lit_inv
    split at h
    · exact h.fail_inv.elim
    · rcases cut0_ok h h1 h2 h3 (Nat.le_refl s.size) false with ⟨_, _, g, _⟩ | ⟨a, b, lg', -, hab, hb, -, -, g, hbd⟩
      · exact g.fail_inv.elim
      · cases vmx with
        | some v => exact h3.elim
        | none =>
          refine plain g ?_ (.lit _)
          unfold Instr.sliceAt
          rw [run_ok (run_underlying' hu c.w)]
          simp only
          unfold Instr.slice
          rw [run_ok (run_underlying' hu c.w)]
          simp only [Option.isSome_none, Bool.false_eq_true, if_false, Sem.run_bind, hbd, Result.andThen_ok, Sem.run_pure, Int.toNat_natCast]
  · -- nil
    rename_i e hu
    split at h
    case h_2 => exact h.fail_inv.elim
    rename_i k0 hk0
    obtain ⟨hkn, hE⟩ := L.kd _ _ hk0
    obtain ⟨i, hi', -⟩ := L.bytes k0 hkn
    rw [hE] at hi'
    cases hx with
    | nil0 a0 hst =>
      rcases cut0_ok (n := 0) (cap := 0) h h1 h2 h3 (Nat.le_refl _) true with ⟨_, _, g, _, hbd, _⟩ | ⟨a, b, lg', -, hab, hb, -, -, g, hbd⟩
      · exact plain g (slice_run hu hi' hbd) (.nil0 _ fun h => by simp [hst h])
      · have ha : a = 0 := by omega
        have hb' : b = 0 := by omega
        subst ha hb'
        exact plain g (slice_run hu hi' hbd) (.nil0 _ fun h => by simp [hst h])
  · -- a plain list
    rename_i e k xs hu
    split at h
    case h_2 => exact h.fail_inv.elim
    rename_i k0 hk0
    split at h
    case isFalse => exact h.fail_inv.elim
    rename_i hkk; subst hkk
    obtain ⟨hkn, hE⟩ := L.kd _ _ hk0
    obtain ⟨i, hi', -⟩ := L.bytes k hkn
    have hie := hi'
    rw [hE] at hi'
    have hx0 := hx
    cases hx with
    | imm _ _ a0 cap f hk hcap hc hv =>
      rcases cut0_ok h h1 h2 h3 hcap true with ⟨_, _, g, _, hbd, _⟩ | ⟨a, b, lg', -, hab, hb, -, -, g, hbd⟩
      · obtain ⟨hf, g⟩ := strict_ret g
        exact plain g (slice_run hu hi' hbd) (.nil0 _ fun h => by rw [hf] at h; cases h)
      · split at g
        · refine plain g (slice_run hu hi' hbd) ?_
          have := old_cut hie (imm_old L hx0 _ _ rfl) hab hb
          simpa using this
        · rename_i hti
          refine plain g (slice_run hu hi' hbd) ?_
          have := imm_cut hie hx0 hab hb hti
          simpa using this
  · -- a row that is read alone
    rename_i e k xs hu
    split at h
    case h_2 => exact h.fail_inv.elim
    rename_i k0 hk0
    split at h
    case isFalse => exact h.fail_inv.elim
    rename_i hkk; subst hkk
    obtain ⟨hkn, hE⟩ := L.kd _ _ hk0
    obtain ⟨i, hi', -⟩ := L.bytes k hkn
    have hie := hi'
    rw [hE] at hi'
    have hx0 := hx
    cases hx with
    | old _ _ a0 cap f hk hcap hc hv =>
      rcases cut0_ok h h1 h2 h3 hcap true with ⟨_, _, g, _, hbd, _⟩ | ⟨a, b, lg', -, hab, hb, -, -, g, hbd⟩
      · obtain ⟨hf, g⟩ := strict_ret g
        exact plain g (slice_run hu hi' hbd) (.nil0 _ fun h => by rw [hf] at h; cases h)
      · refine plain g (slice_run hu hi' hbd) ?_
        have := old_cut hie hx0 hab hb
        simpa using this
  · -- a row of its own
    rename_i e o hu
    obtain ⟨l', rfl, g0⟩ := h.look_inv
    clear h
    split at g0
    case h_2 => exact g0.fail_inv.elim
    rename_i k xs wr ho
    have ho := getD_look ho rfl
    split at g0
    case h_2 => exact g0.fail_inv.elim
    rename_i k0 hk0
    split at g0
    case isFalse => exact g0.fail_inv.elim
    rename_i hkk; subst hkk
    obtain ⟨hkn, hE⟩ := L.kd _ _ hk0
    obtain ⟨i, hi', -⟩ := L.bytes k hkn
    have hie := hi'
    rw [hE] at hi'
    cases hx with
    | ownDead _ _ _ _ hd => rw [ho] at hd; cases hd
    | ownNil _ k2 wr2 β b0 ho' hm hb hst =>
      rw [ho] at ho'; cases ho'
      rcases cut0_ok (n := 0) (cap := 0) g0 h1 h2 h3 (Nat.le_refl _) true with ⟨_, _, g, _, hbd, _⟩ | ⟨a, b, lg', -, hab, hb2, -, -, g, hbd⟩
      · obtain ⟨hf, g⟩ := strict_ret g
        exact plain g (slice_run hu hi' hbd) (.nil0 _ fun h => by rw [hf] at h; cases h)
      · have ha : a = 0 := by omega
        have hb' : b = 0 := by omega
        subst ha hb'
        split at g
        · exact plain g (slice_run hu hi' hbd) (.preNil o _ k wr β _ ho hm hb fun h => by simp [hst h])
        · split at g
          · exact plain g (slice_run hu hi' hbd) (.sufEnd o _ k [] wr _ _ ho (by simp))
          · split at g
            case h_1 => exact g.fail_inv.elim
            rename_i hti
            obtain ⟨rfl, -⟩ := g.pure_inv
            have hfz := frz_set ho
            exact ⟨_, c.w, c.m, slice_run hu hi' hbd, hfz.tr (F := F), hfz.ok ok, VR_imm_of_nil hkn _⟩
    | own _ k2 xs2 wr2 β b0 cap ho' hm hb hcap hn =>
      rw [ho] at ho'; cases ho'
      rcases cut0_ok g0 h1 h2 h3 hcap true with ⟨_, _, g, _, hbd, _⟩ | ⟨a, b, lg', -, hab, hb2, hlo, hhi, g, hbd⟩
      · obtain ⟨hf, g⟩ := strict_ret g
        exact plain g (slice_run hu hi' hbd) (.nil0 _ fun h => by rw [hf] at h; cases h)
      · split at g
        · have ha := hlo rfl
          subst ha
          refine plain g (slice_run hu hi' hbd) ?_
          simp only [Nat.zero_mul, Nat.sub_zero, Option.map_some, add_zero, ite_self, Int.toNat_natCast]
          exact .pre o b k xs wr β b0 cap ho hm hb hb2 (by omega) hn
        · split at g
          · have hbn : b = xs.length := hhi rfl
            subst hbn
            refine plain g (slice_run hu hi' hbd) ?_
            by_cases hax : a = xs.length
            · subst hax
              rw [Nat.sub_self]
              exact .sufEnd o _ k xs wr _ _ ho (by simp)
            · rw [if_neg (by omega)]
              have hsz : esz P G k = i.size := by simp [esz, szT, hie]
              have hv : VR P G F c (.suf o a) (.slice (some ⟨b0, a * esz P G k, none⟩) (xs.length - a) (cap - a)) := .suf o a k xs wr β b0 (cap - a) ho hm hb (by omega)
              rw [hsz] at hv
              simp only [Option.map_some, add_plain, Nat.zero_add, Int.toNat_natCast]
              exact hv
          · split at g
            case h_1 => exact g.fail_inv.elim
            rename_i hti
            obtain ⟨rfl, -⟩ := g.pure_inv
            have hfz := frz_set ho
            have hlt := (List.getElem?_eq_some_iff.1 ho).1
            have ho2 : (setObj c.os o (.arr k xs false))[o]? = some (.arr k xs false) := by rw [setObj_lt hlt]; simp [hlt]
            have himm := VR_imm_of_arr (n := xs.length) (cap := cap) (hfz.ok ok) ho2 hm hb (Nat.le_refl _) hcap (fun h => by rw [hti] at h; cases h)
            rw [List.take_length] at himm
            have := imm_cut hie himm hab hb2 hti
            refine ⟨_, c.w, c.m, slice_run hu hi' hbd, hfz.tr (F := F), hfz.ok ok, ?_⟩
            simp only [Int.toNat_natCast]
            exact this
  · -- the beginning of a row of its own
    rename_i e o n hu
    obtain ⟨l', rfl, g0⟩ := h.look_inv
    clear h
    split at g0
    case h_2 => exact g0.fail_inv.elim
    rename_i k xs wr ho
    have ho := getD_look ho rfl
    split at g0
    case h_2 => exact g0.fail_inv.elim
    rename_i k0 hk0
    split at g0
    case isFalse => exact g0.fail_inv.elim
    rename_i hkk; subst hkk
    obtain ⟨hkn, hE⟩ := L.kd _ _ hk0
    obtain ⟨i, hi', -⟩ := L.bytes k hkn
    have hie := hi'
    rw [hE] at hi'
    cases hx with
    | preDead _ _ _ _ _ hd => rw [ho] at hd; cases hd
    | preNil _ _ k2 wr2 β b0 ho' hm hb hst =>
      rw [ho] at ho'; cases ho'
      rw [List.length_nil, Nat.min_zero] at g0
      rcases cut0_ok (n := 0) (cap := 0) g0 h1 h2 h3 (Nat.le_refl _) true with ⟨_, _, g, _, hbd, _⟩ | ⟨a, b, lg', -, hab, hb2, -, -, g, hbd⟩
      · obtain ⟨hf, g⟩ := strict_ret g
        exact plain g (slice_run hu hi' hbd) (.nil0 _ fun h => by rw [hf] at h; cases h)
      · have ha : a = 0 := by omega
        have hb' : b = 0 := by omega
        subst ha hb'
        split at g
        · exact plain g (slice_run hu hi' hbd) (.preNil o _ k wr β _ ho hm hb fun h => by simp [hst h])
        · split at g
          case h_1 => exact g.fail_inv.elim
          rename_i hti
          obtain ⟨rfl, -⟩ := g.pure_inv
          have hfz := frz_set ho
          exact ⟨_, c.w, c.m, slice_run hu hi' hbd, hfz.tr (F := F), hfz.ok ok, VR_imm_of_nil hkn _⟩
    | pre _ _ k2 xs2 wr2 β b0 cap ho' hm hb hle hcap hn =>
      rw [ho] at ho'; cases ho'
      rw [Nat.min_eq_left hle] at g0
      rcases cut0_ok g0 h1 h2 h3 hcap true with ⟨_, _, g, _, hbd, _⟩ | ⟨a, b, lg', -, hab, hb2, hlo, hhi, g, hbd⟩
      · obtain ⟨hf, g⟩ := strict_ret g
        exact plain g (slice_run hu hi' hbd) (.nil0 _ fun h => by rw [hf] at h; cases h)
      · split at g
        · have ha := hlo rfl
          subst ha
          refine plain g (slice_run hu hi' hbd) ?_
          simp only [Nat.zero_mul, Nat.sub_zero, Option.map_some, add_zero, ite_self, Int.toNat_natCast]
          exact .pre o b k xs wr β b0 cap ho hm hb (by omega) (by omega) hn
        · split at g
          case h_1 => exact g.fail_inv.elim
          rename_i hti
          obtain ⟨rfl, -⟩ := g.pure_inv
          have hfz := frz_set ho
          have hlt := (List.getElem?_eq_some_iff.1 ho).1
          have ho2 : (setObj c.os o (.arr k xs false))[o]? = some (.arr k xs false) := by rw [setObj_lt hlt]; simp [hlt]
          have himm := VR_imm_of_arr (n := n) (cap := cap) (hfz.ok ok) ho2 hm hb hle hcap (fun h => by rw [hti] at h; cases h)
          have hl2 : (xs.take n).length = n := by simp; omega
          have himm' : VR P G F ⟨c.w, c.m, setObj c.os o (.arr k xs false)⟩ (.imm k (xs.take n)) (.slice (some ⟨b0, 0, none⟩) (xs.take n).length cap) := by rw [hl2]; exact himm
          have := imm_cut hie himm' hab (by rw [hl2]; exact hb2) hti
          rw [List.take_take, Nat.min_eq_left hb2] at this
          refine ⟨_, c.w, c.m, slice_run hu hi' hbd, hfz.tr (F := F), hfz.ok ok, ?_⟩
          simp only [Int.toNat_natCast]
          exact this
  · exact h.fail_inv.elim

theorem clearV_ok {nb : Nat} {t ty : TypeId} {x : AV G.T} {vx : Value} {r : OpRes G.T G.U} {l : List Nat} (L : Laws P G) (ok : OK P G F N c)
    (h : Runs P G c.os (clearV P G t x) l r) (hx : VR P G F c x vx) :
    OpTo P G F N c (Builtin.clear_ #[t] ty #[vx]) (addObjs (setObjs c.os r.upd) nb r.new) .undef ∧ r.d = .undef := by
  unfold clearV at h
  split at h
  case h_2 => exact h.fail_inv.elim
  rename_i o i
  obtain ⟨k0, l1, l2, rfl, g1, g2⟩ := h.bind_inv
  obtain ⟨hkt, -⟩ := g1.ofOpt_inv
  obtain ⟨l3, rfl, g3⟩ := g2.look_inv
  clear g2
  split at g3
  case h_2 => exact g3.fail_inv.elim
  rename_i k xs ho
  have ho := getD_look ho rfl
  split at g3
  case isFalse => exact g3.fail_inv.elim
  rename_i hkk
  subst hkk
  obtain ⟨rfl, -⟩ := g3.pure_inv
  refine ⟨?_, rfl⟩
  obtain ⟨e, inf, hu, hE, hk, hi, hsz, hb0, hb1⟩ := kindOf_ok L hkt
  obtain ⟨z, hz1, -, -⟩ := L.df k hk
  obtain ⟨hzs, hzr⟩ := zero_row (F := F) (c := c) L hk hz1
  rw [hE, hi] at hz1
  have hz1 : inf.zero = some z := hz1
  have hlt := (List.getElem?_eq_some_iff.1 ho).1
  show OpTo P G F N c _ (setObj c.os o (.arr k (xs.take i ++ List.replicate (xs.length - i) (G.df k)) true)) _
  have run0 : ∀ (ad : Option Addr) (cap : Nat), (Builtin.clear_ #[t] ty #[.slice ad 0 cap]).run P c.w = .ok (.tuple #[]) c.w := by
    intro ad cap
    unfold Builtin.clear_
    simp only [List.getElem?_toArray, List.getElem?_cons_zero, Sem.run_bind, run_underlying' hu, Result.andThen_ok]
    cases ad <;> rfl
  cases hx with
  | sufDead _ _ _ _ _ hd => rw [ho] at hd; cases hd
  | sufEnd _ _ k2 xs2 wr2 a cap ho' hi2 =>
    rw [ho] at ho'; cases ho'
    have e1 : xs.take i ++ List.replicate (xs.length - i) (G.df k) = xs := by
      rw [List.take_of_length_le hi2, Nat.sub_eq_zero_of_le hi2]; simp
    have e2 : setObj c.os o (.arr k xs true) = c.os := by
      rw [setObj_lt hlt]
      apply List.ext_getElem?
      intro j
      by_cases hj : o = j
      · subst hj; rw [List.getElem?_set_self hlt, ho]
      · rw [List.getElem?_set_ne hj]
    rw [e1, e2]
    exact ⟨_, c.w, c.m, run0 a cap, Tr.refl F c, ok, .undef _⟩
  | suf _ _ k2 xs2 wr2 β b cap ho' hm hb hle =>
    rw [ho] at ho'; cases ho'
    obtain ⟨hkk, hob⟩ := ok.obj _ _ _ ho hm
    rcases hob with ⟨hb', -, -⟩ | ⟨b', cs, hb', hfp, hheap, hcs, hsle, hrow⟩
    · rw [hb] at hb'; cases hb'
    rw [hb] at hb'; cases hb'
    let news : Array Value := Builtin.zeroCells z.cells (xs.length - i)
    have hns : news.size = (xs.length - i) * esz P G k := by simp [news, Builtin.zeroCells, hzs]
    have hmul : i * esz P G k + (xs.length - i) * esz P G k = xs.length * esz P G k := by rw [← Nat.add_mul]; congr 1; omega
    have hfit : i * esz P G k + news.toList.length ≤ cs.size := by
      rw [Array.length_toList, hns, hmul, hcs]; exact hsle
    have hget : ∀ (q j : Nat), q < xs.length - i → j < esz P G k → news[q * esz P G k + j]? = z.cells[j]? := by
      intro q j hq hj
      refine made_get z.cells ((xs.length - i) * z.cells.size) q (esz P G k) j hzs hj ?_
      rw [hzs]
      have : (q + 1) * esz P G k ≤ (xs.length - i) * esz P G k := Nat.mul_le_mul_right _ hq
      rw [Nat.add_mul] at this; omega
    have hone : ∀ v ∈ news.toList, v.oneCell' = true := by
      intro v hv
      obtain ⟨p, hp⟩ := List.getElem?_of_mem hv
      have hp : news[p]? = some v := by simpa using hp
      have hpos := L.pos k hk
      have hplt : p < (xs.length - i) * esz P G k := by rw [← hns]; exact (Array.getElem?_eq_some_iff.1 hp).1
      have hq : p / esz P G k < xs.length - i := Nat.div_lt_of_lt_mul (by rw [Nat.mul_comm]; exact hplt)
      have hj : p % esz P G k < esz P G k := Nat.mod_lt _ hpos
      have := hget (p / esz P G k) (p % esz P G k) hq hj
      rw [Nat.mul_comm, Nat.div_add_mod, hp] at this
      have hd : (G.op k (G.df k))[p % esz P G k]? = some ((G.op k (G.df k))[p % esz P G k]'(by rw [L.len k hk]; exact hj)) := by simp [L.len k hk, hj]
      exact leaf_one L hk hd (hzr _ v _ this.symm hd)
    have hst := store_cells (P := P) (c := c) hheap hfit hone
    let w' := c.w.setRow b (splice cs.toList (i * esz P G k) news.toList).toArray
    have ch : Chg c o β (.arr k xs true) (.arr k (xs.take i ++ List.replicate (xs.length - i) (G.df k)) true) w' := {
      ho := ho, hm := hm, mu := rfl, sys := ⟨rfl, rfl, rfl⟩, size := by simp [w'],
      keep := fun b2 hb2 => setRow_other c.w b b2 _ (by rintro rfl; exact hb2 (by simp [hfp])), same := by simp [Same]; omega, fz := frozen_setRow hheap }
    have tr := ch.tr (F := F)
    have hfit' : i * esz P G k + news.toList.length ≤ cs.toList.length := by simpa using hfit
    have hl1 : (xs.take i).length = i := by simp; omega
    have hob : ObjR P G F (chgCf c o (.arr k (xs.take i ++ List.replicate (xs.length - i) (G.df k)) true) w') β (.arr k (xs.take i ++ List.replicate (xs.length - i) (G.df k)) true) := by
      refine ⟨hk, .inr ⟨b, (splice cs.toList (i * esz P G k) news.toList).toArray, hb, hfp, ?_, ?_, ?_, ?_⟩⟩
      · exact setRow_heap c.w b cs _ _ _ hheap
      · simp only [List.size_toArray]; rw [splice_length _ _ _ hfit']; simpa using hcs
      · rw [List.length_append, hl1, List.length_replicate, show i + (xs.length - i) = xs.length by omega]; exact hsle
      · intro q y hy j d hd
        have hj : j < esz P G k := by rw [← L.len k hk y]; exact (List.getElem?_eq_some_iff.1 hd).1
        rw [List.getElem?_append, hl1] at hy
        simp only [List.getElem?_toArray]
        rw [splice_get _ _ _ hfit']
        split at hy
        · rename_i hq
          rw [List.getElem?_take, if_pos hq] at hy
          obtain ⟨v, hv, hvr⟩ := hrow q y hy j d hd
          refine ⟨v, ?_, hvr.mono tr⟩
          rw [if_neg (by
            have : (q + 1) * esz P G k ≤ i * esz P G k := Nat.mul_le_mul_right _ hq
            rw [Nat.add_mul] at this; omega)]
          simpa using hv
        · rename_i hq
          rw [List.getElem?_replicate] at hy
          split at hy
          case isFalse => cases hy
          rename_i hq2
          cases hy
          have hvj : z.cells[j]? = some (z.cells[j]'(by omega)) := by simp [hzs, hj]
          refine ⟨_, ?_, (hzr j _ d hvj hd).mono tr⟩
          have h1 := Nat.mul_le_mul_right (esz P G k) (Nat.le_of_not_lt hq)
          have he : q * esz P G k + j - i * esz P G k = (q - i) * esz P G k + j := by rw [Nat.sub_mul]; omega
          have h2 := hget (q - i) j hq2 hj
          have h3 := (Array.getElem?_eq_some_iff.1 (h2.trans hvj)).1
          rw [if_pos ⟨by omega, by rw [Array.length_toList]; omega⟩, he, Array.getElem?_toList, h2]
          exact hvj
    refine ⟨_, w', c.m, ?_, tr, ch.ok ok hob, .undef (.tuple #[])⟩
    have hpl : xs.length - i ≠ 0 := by omega
    unfold Builtin.clear_
    simp only [List.getElem?_toArray, List.getElem?_cons_zero, Sem.run_bind, run_underlying' hu, Result.andThen_ok]
    obtain ⟨m, hm2⟩ : ∃ m, xs.length - i = m + 1 := ⟨xs.length - i - 1, by omega⟩
    simp only [hm2]
    simp only [zeroValue, Sem.run_bind, run_typeInfo' hi, Result.andThen_ok, hz1, Sem.run_pure]
    rw [← hm2]
    rw [hst]
    rfl

theorem capV_ok {t : TypeId} {at_ : Array TypeId} {ty : TypeId} {x d : AV G.T} {v : Value} {l : List Nat} (h : Runs P G c.os (capV P G t x) l d) (hx : VR P G F c x v) (ha : at_[0]? = some t) :
    VOp P G F c (Builtin.cap_ at_ ty #[v]) d := by
  unfold capV at h
  split at h
  case h_2 => exact h.fail_inv.elim
  split at h
  case h_2 => exact h.fail_inv.elim
  rename_i e hu
  obtain ⟨rfl, -⟩ := h.pure_inv
  cases hx with
  | nil0 a _ =>
    refine ⟨_, ?_, .lit _⟩
    unfold Builtin.cap_
    simp only [ha, List.getElem?_toArray, List.getElem?_cons_zero]
    rw [run_ok (run_underlying' hu c.w)]
    rfl

theorem mapM_some {α β : Type} {f : α → Option β} : ∀ {xs : List α} {ys : List β}, xs.mapM f = some ys → xs.length = ys.length ∧ ∀ (i : Nat) (x : α), xs[i]? = some x → ∃ y, f x = some y ∧ ys[i]? = some y
  | [], ys, h => by simp at h; subst h; exact ⟨rfl, fun i x hx => by simp at hx⟩
  | a :: xs, ys, h => by
    rw [List.mapM_cons] at h
    simp only [Option.bind_eq_bind, Option.bind_eq_some_iff, Option.pure_def, Option.some.injEq] at h
    obtain ⟨b, h1, ys', h2, rfl⟩ := h
    obtain ⟨h3, h4⟩ := mapM_some h2
    refine ⟨by simp [h3], fun i x hx => ?_⟩
    cases i with
    | zero => simp at hx; subst hx; exact ⟨b, h1, rfl⟩
    | succ i => simp at hx; exact h4 i x hx

theorem mapM_all {α β : Type} {f : α → Option β} {g : α → β} (h : ∀ y, f y = some (g y)) : ∀ xs : List α, xs.mapM f = some (xs.map g)
  | [] => rfl
  | y :: ys => by rw [List.mapM_cons, h, mapM_all h ys]; rfl

theorem convV_ok {s t : TypeId} {x d : AV G.T} {v : Value} {l : List Nat} (L : Laws P G) (ok : OK P G F N c) (h : Runs P G c.os (convV P G s t x) l d) (hx : VR P G F c x v) : VOp P G F c (convert s t v) d := by
  unfold convV at h
  split at h
  · rename_i k0 k k1 n hs ht
    obtain rfl := hx.lit_inv
    obtain ⟨rfl, -⟩ := h.pure_inv
    refine ⟨_, ?_, .lit _⟩
    unfold convert
    rw [run_ok (run_underlying' hs c.w), run_ok (run_underlying' ht c.w)]
    rfl
  · rename_i b hs ht
    obtain rfl := hx.lit_inv
    obtain ⟨rfl, -⟩ := h.pure_inv
    refine ⟨_, ?_, .lit _⟩
    unfold convert
    rw [run_ok (run_underlying' hs c.w), run_ok (run_underlying' ht c.w)]
    rfl
  · rename_i e hs ht
    split at h
    case h_2 => exact h.fail_inv.elim
    rename_i k he hk
    split at h
    case isFalse => exact h.fail_inv.elim
    rename_i hu8k
    obtain ⟨xs, l1, l2, rfl, g1, g2⟩ := h.bind_inv
    obtain ⟨rfl, -⟩ := g2.pure_inv
    have hby : ∀ y, (match G.op k y with | [.lit (.int .u8 n)] => some n | _ => none) = some (byteOf G k y) := fun y => by
      obtain ⟨n, hn⟩ := L.u8 k hu8k y
      simp only [byteOf, hn]
    generalize hnsd : xs.map (byteOf G k) = ns
    have hns : xs.mapM (fun y => match G.op k y with | [.lit (.int .u8 n)] => some n | _ => none) = some ns := by
      rw [← hnsd]
      exact mapM_all hby xs
    obtain ⟨hkn, hE⟩ := L.kd _ _ hk
    obtain ⟨a, cap, rfl, hcap, hh⟩ := content_ok L ok g1 hx
    obtain ⟨hlen, hget⟩ := mapM_some hns
    have hop : ∀ (y : G.T k) (n : Int), (match G.op k y with | [.lit (.int .u8 n)] => some n | _ => none) = some n → G.op k y = [.lit (.int .u8 n)] := by
      intro y n hy
      split at hy
      · rename_i q; cases hy; assumption
      · cases hy
    have hu8 : P.underlying e = some (.int .u8) := he
    have hcells : ∀ ad, a = some ad → (loadCells ad xs.length).run P c.w = .ok (ns.map (Value.int .u8)).toArray c.w := by
      rintro ad rfl
      have := run_loadCells_list (P := P) c.w ad (ns.map (Value.int .u8)) (fun j u hu => by
        simp only [List.getElem?_map, Option.map_eq_some_iff] at hu
        obtain ⟨n, hn, rfl⟩ := hu
        have hj : j < xs.length := by rw [hlen]; exact (List.getElem?_eq_some_iff.1 hn).1
        obtain ⟨n', h1, h2⟩ := hget j xs[j] (by simp [hj])
        rw [hn] at h2; cases h2
        have h3 := hop _ _ h1
        have hsz : esz P G k = 1 := by rw [← L.len k hkn xs[j], h3]; rfl
        obtain ⟨ad', u, e1, h4, h5⟩ := hh j xs[j] (by simp [hj]) 0 (.lit (.int .u8 n)) (by rw [h3]; rfl)
        cases e1
        obtain rfl := h5.lit_inv
        rw [hsz] at h4; simpa using h4)
      rw [List.length_map, ← hlen] at this
      exact this
    refine ⟨.string (bytesOfInts ns), ?_, .lit _⟩
    unfold convert
    rw [run_ok (run_underlying' hs c.w), run_ok (run_underlying' ht c.w)]
    cases a with
    | none =>
      have hx0 : xs = [] := by
        cases xs with
        | nil => rfl
        | cons y ys =>
          obtain ⟨n', h1, h2⟩ := hget 0 y rfl
          obtain ⟨ad', u, e1, -⟩ := hh 0 y rfl 0 (.lit (.int .u8 n')) (by rw [hop _ _ h1]; rfl)
          cases e1
      subst hx0
      have : ns = [] := List.eq_nil_of_length_eq_zero (by simpa using hlen.symm)
      subst this
      simp only [Sem.run_bind, run_underlying' hu8, Result.andThen_ok]
      rfl
    | some ad =>
      have hr := run_bytesToString (P := P) c.w ad xs.length cap ns (hcells ad rfl)
      simp only [Sem.run_bind, run_underlying' hu8, Result.andThen_ok, hr]
      rw [foldl_push_bytes]
      simp [bytesOfInts, ByteArray.empty, ByteArray.emptyWithCapacity]
      rfl
  · exact h.fail_inv.elim

end
end Go.Proofs.Ytjfmfpnnjgfffaa.Am
