/- The abstract machine: cutting and conversions, whole. -/
import Derived.Test.YtdfnlaikelijeaaAmCut
namespace Go.Proofs.Ytdfnlaikelijeaa.Am
open Go
set_option autoImplicit false
set_option linter.unusedVariables false
set_option linter.unusedSectionVars false
set_option linter.unusedSimpArgs false

section
variable {P : Program} {G : Sig} {F N : Nat → Prop} {c c' c'' : Cf G}

theorem slice_run {t e : TypeId} {i : TypeInfo} {a : Option Addr} {n cap l h m : Nat} {lo hi mx : Option Value} (hu : P.underlying t = some (.slice e)) (hi' : P.info? e = some i)
    (hb : (Instr.sliceBounds true n cap lo hi mx).run P c.w = .ok (l, h, m) c.w) :
    (Instr.sliceAt t (.slice a n cap) lo hi mx).run P c.w = .ok (.slice (if m = l then a else a.map (·.add (l * i.size))) (h - l) (m - l)) c.w := by
  unfold Instr.sliceAt
  rw [run_ok (run_underlying' hu c.w)]
  simp only
  unfold Instr.slice
  rw [run_ok (run_underlying' hu c.w)]
  simp only [Sem.run_bind, hb, Result.andThen_ok, run_sizeOf' hi', Sem.run_pure]

theorem imm_cut {k a b cap : Nat} {xs : List (G.T k)} {base : Option Addr} {i : TypeInfo} (hi : P.info? (G.E k) = some i) (h : VR P G F c (.imm k xs) (.slice base xs.length cap)) (hab : a ≤ b) (hb : b ≤ xs.length) :
    VR P G F c (.imm k ((xs.take b).drop a)) (.slice (if cap = a then base else base.map (·.add (a * i.size))) (b - a) (cap - a)) := by
  have hsz : esz P G k = i.size := by simp [esz, szT, hi]
  cases h with
  | imm _ _ _ _ f hk hcap hc hv =>
    have hlen : ((xs.take b).drop a).length = b - a := by simp; omega
    have hget : ∀ (j : Nat) (x : G.T k), ((xs.take b).drop a)[j]? = some x → xs[a + j]? = some x := by
      intro j x hx
      rw [List.getElem?_drop, List.getElem?_take] at hx
      split at hx
      · exact hx
      · cases hx
    have := VR.imm (P := P) (F := F) (c := c) k ((xs.take b).drop a) (if cap = a then base else base.map (·.add (a * i.size))) (cap - a) (fun r j => f (a + r) j) hk (by rw [hlen]; omega)
      (fun r x hx j d hd => by
        obtain ⟨ad, rfl, h1, h2⟩ := hc _ _ (hget r x hx) j d hd
        have hlt : a + r < xs.length := (List.getElem?_eq_some_iff.1 (hget r x hx)).1
        rw [if_neg (by omega)]
        refine ⟨ad.add (a * i.size), rfl, by rw [add_block]; exact h1, ?_⟩
        rw [add_add, hsz]
        rw [hsz] at h2
        rw [show a * i.size + (r * i.size + j) = (a + r) * i.size + j from by rw [Nat.add_mul]; omega]; exact h2)
      (fun r x hx j d hd => hv _ _ (hget r x hx) j d hd)
    rwa [hlen] at this

theorem sliceV_ok {nb : Nat} {t : TypeId} {x : AV G.T} {v : Value} {lo hi mx : Option (AV G.T)} {vlo vhi vmx : Option Value} {r : OpRes G.T G.U} {lg : List Nat} (L : Laws P G) (ok : OK P G F N c)
    (h : Runs P G c.os (sliceV P G t x lo hi mx) lg r) (hx : VR P G F c x v) (h1 : ORel P G F c lo vlo) (h2 : ORel P G F c hi vhi) (h3 : ORel P G F c mx vmx) :
    OpTo P G F N c (Instr.sliceAt t v vlo vhi vmx) (addObjs (setObjs c.os r.upd) nb r.new) r.d := by
  have plain : ∀ {d : AV G.T} {u : Value} {lg : List Nat}, Runs P G c.os (ret G d) lg r → (Instr.sliceAt t v vlo vhi vmx).run P c.w = .ok u c.w → VR P G F c d u → OpTo P G F N c (Instr.sliceAt t v vlo vhi vmx) (addObjs (setObjs c.os r.upd) nb r.new) r.d := by
    intro d u lg hr he hv
    obtain ⟨rfl, -⟩ := Runs.pure_inv hr
    exact ⟨u, c.w, c.m, he, Tr.refl F c, ok, hv⟩
  unfold sliceV at h
  split at h
  · -- a string
    rename_i s hu
    obtain rfl := hx.lit_inv
    split at h
    · exact h.fail_inv.elim
    · rcases cut0_ok h h1 h2 h3 (Nat.le_refl s.size) false with ⟨_, _, g, _⟩ | ⟨a, b, lg', -, hab, hb, -, g, hbd⟩
      · exact g.fail_inv.elim
      · cases vmx with
        | some v => exact h3.elim
        | none =>
          refine plain g ?_ (.lit _)
          unfold Instr.sliceAt
          rw [run_ok (run_underlying' hu c.w)]
          simp only
          unfold Instr.slice
          rw [run_ok (run_underlying' hu c.w)]
          simp only [Option.isSome_none, Bool.false_eq_true, if_false, Sem.run_bind, hbd, Result.andThen_ok, Sem.run_pure, Int.toNat_natCast]
  · -- nil
    rename_i e hu
    split at h
    case h_2 => exact h.fail_inv.elim
    rename_i k0 hk0
    obtain ⟨hkn, hE⟩ := L.kd _ _ hk0
    obtain ⟨i, hi', -⟩ := L.bytes k0 hkn
    rw [hE] at hi'
    cases hx with
    | nil0 a0 =>
      rcases cut0_ok (n := 0) (cap := 0) h h1 h2 h3 (Nat.le_refl _) true with ⟨_, _, g, _, hbd, _⟩ | ⟨a, b, lg', -, hab, hb, -, g, hbd⟩
      · exact plain g (slice_run hu hi' hbd) (.nil0 _)
      · have ha : a = 0 := by omega
        have hb' : b = 0 := by omega
        subst ha hb'
        exact plain g (slice_run hu hi' hbd) (.nil0 _)
  · -- a plain list
    rename_i e k xs hu
    split at h
    case h_2 => exact h.fail_inv.elim
    rename_i k0 hk0
    split at h
    case isFalse => exact h.fail_inv.elim
    rename_i hkk; subst hkk
    obtain ⟨hkn, hE⟩ := L.kd _ _ hk0
    obtain ⟨i, hi', -⟩ := L.bytes k hkn
    have hie := hi'
    rw [hE] at hi'
    have hx0 := hx
    cases hx with
    | imm _ _ a0 cap f hk hcap hc hv =>
      rcases cut0_ok h h1 h2 h3 hcap true with ⟨_, _, g, _, hbd, _⟩ | ⟨a, b, lg', -, hab, hb, -, g, hbd⟩
      · exact plain g (slice_run hu hi' hbd) (.nil0 _)
      · refine plain g (slice_run hu hi' hbd) ?_
        have := imm_cut hie hx0 hab hb
        simpa using this
  · -- a row of its own
    rename_i e o hu
    obtain ⟨l', rfl, g0⟩ := h.look_inv
    clear h
    split at g0
    case h_2 => exact g0.fail_inv.elim
    rename_i k xs wr ho
    have ho := getD_look ho rfl
    split at g0
    case h_2 => exact g0.fail_inv.elim
    rename_i k0 hk0
    split at g0
    case isFalse => exact g0.fail_inv.elim
    rename_i hkk; subst hkk
    obtain ⟨hkn, hE⟩ := L.kd _ _ hk0
    obtain ⟨i, hi', -⟩ := L.bytes k hkn
    have hie := hi'
    rw [hE] at hi'
    cases hx with
    | ownDead _ _ _ _ hd => rw [ho] at hd; cases hd
    | ownNil _ k2 wr2 β b0 ho' hm hb =>
      rw [ho] at ho'; cases ho'
      rcases cut0_ok (n := 0) (cap := 0) g0 h1 h2 h3 (Nat.le_refl _) true with ⟨_, _, g, _, hbd, _⟩ | ⟨a, b, lg', -, hab, hb2, -, g, hbd⟩
      · exact plain g (slice_run hu hi' hbd) (.nil0 _)
      · have ha : a = 0 := by omega
        have hb' : b = 0 := by omega
        subst ha hb'
        split at g
        · exact plain g (slice_run hu hi' hbd) (.preNil o _ k wr β _ ho hm hb)
        · obtain ⟨rfl, -⟩ := g.pure_inv
          have hfz := frz_set ho
          exact ⟨_, c.w, c.m, slice_run hu hi' hbd, hfz.tr (F := F), hfz.ok ok, VR_imm_of_nil hkn _⟩
    | own _ k2 xs2 wr2 β b0 cap ho' hm hb hcap hn =>
      rw [ho] at ho'; cases ho'
      rcases cut0_ok g0 h1 h2 h3 hcap true with ⟨_, _, g, _, hbd, _⟩ | ⟨a, b, lg', -, hab, hb2, hlo, g, hbd⟩
      · exact plain g (slice_run hu hi' hbd) (.nil0 _)
      · split at g
        · have ha := hlo rfl
          subst ha
          refine plain g (slice_run hu hi' hbd) ?_
          simp only [Nat.zero_mul, Nat.sub_zero, Option.map_some, add_zero, ite_self, Int.toNat_natCast]
          exact .pre o b k xs wr β b0 cap ho hm hb hb2 (by omega)
        · obtain ⟨rfl, -⟩ := g.pure_inv
          have hfz := frz_set ho
          have hlt := (List.getElem?_eq_some_iff.1 ho).1
          have ho2 : (setObj c.os o (.arr k xs false))[o]? = some (.arr k xs false) := by rw [setObj_lt hlt]; simp [hlt]
          have himm := VR_imm_of_arr (n := xs.length) (cap := cap) (hfz.ok ok) ho2 hm hb (Nat.le_refl _) hcap
          rw [List.take_length] at himm
          have := imm_cut hie himm hab hb2
          refine ⟨_, c.w, c.m, slice_run hu hi' hbd, hfz.tr (F := F), hfz.ok ok, ?_⟩
          simp only [Int.toNat_natCast]
          exact this
  · -- the beginning of a row of its own
    rename_i e o n hu
    obtain ⟨l', rfl, g0⟩ := h.look_inv
    clear h
    split at g0
    case h_2 => exact g0.fail_inv.elim
    rename_i k xs wr ho
    have ho := getD_look ho rfl
    split at g0
    case h_2 => exact g0.fail_inv.elim
    rename_i k0 hk0
    split at g0
    case isFalse => exact g0.fail_inv.elim
    rename_i hkk; subst hkk
    obtain ⟨hkn, hE⟩ := L.kd _ _ hk0
    obtain ⟨i, hi', -⟩ := L.bytes k hkn
    have hie := hi'
    rw [hE] at hi'
    cases hx with
    | preDead _ _ _ _ _ hd => rw [ho] at hd; cases hd
    | preNil _ _ k2 wr2 β b0 ho' hm hb =>
      rw [ho] at ho'; cases ho'
      rw [List.length_nil, Nat.min_zero] at g0
      rcases cut0_ok (n := 0) (cap := 0) g0 h1 h2 h3 (Nat.le_refl _) true with ⟨_, _, g, _, hbd, _⟩ | ⟨a, b, lg', -, hab, hb2, -, g, hbd⟩
      · exact plain g (slice_run hu hi' hbd) (.nil0 _)
      · have ha : a = 0 := by omega
        have hb' : b = 0 := by omega
        subst ha hb'
        split at g
        · exact plain g (slice_run hu hi' hbd) (.preNil o _ k wr β _ ho hm hb)
        · obtain ⟨rfl, -⟩ := g.pure_inv
          have hfz := frz_set ho
          exact ⟨_, c.w, c.m, slice_run hu hi' hbd, hfz.tr (F := F), hfz.ok ok, VR_imm_of_nil hkn _⟩
    | pre _ _ k2 xs2 wr2 β b0 cap ho' hm hb hle hcap =>
      rw [ho] at ho'; cases ho'
      rw [Nat.min_eq_left hle] at g0
      rcases cut0_ok g0 h1 h2 h3 hcap true with ⟨_, _, g, _, hbd, _⟩ | ⟨a, b, lg', -, hab, hb2, hlo, g, hbd⟩
      · exact plain g (slice_run hu hi' hbd) (.nil0 _)
      · split at g
        · have ha := hlo rfl
          subst ha
          refine plain g (slice_run hu hi' hbd) ?_
          simp only [Nat.zero_mul, Nat.sub_zero, Option.map_some, add_zero, ite_self, Int.toNat_natCast]
          exact .pre o b k xs wr β b0 cap ho hm hb (by omega) (by omega)
        · obtain ⟨rfl, -⟩ := g.pure_inv
          have hfz := frz_set ho
          have hlt := (List.getElem?_eq_some_iff.1 ho).1
          have ho2 : (setObj c.os o (.arr k xs false))[o]? = some (.arr k xs false) := by rw [setObj_lt hlt]; simp [hlt]
          have himm := VR_imm_of_arr (n := n) (cap := cap) (hfz.ok ok) ho2 hm hb hle hcap
          have hl2 : (xs.take n).length = n := by simp; omega
          have himm' : VR P G F ⟨c.w, c.m, setObj c.os o (.arr k xs false)⟩ (.imm k (xs.take n)) (.slice (some ⟨b0, 0, none⟩) (xs.take n).length cap) := by rw [hl2]; exact himm
          have := imm_cut hie himm' hab (by rw [hl2]; exact hb2)
          rw [List.take_take, Nat.min_eq_left hb2] at this
          refine ⟨_, c.w, c.m, slice_run hu hi' hbd, hfz.tr (F := F), hfz.ok ok, ?_⟩
          simp only [Int.toNat_natCast]
          exact this
  · exact h.fail_inv.elim

theorem mapM_some {α β : Type} {f : α → Option β} : ∀ {xs : List α} {ys : List β}, xs.mapM f = some ys → xs.length = ys.length ∧ ∀ (i : Nat) (x : α), xs[i]? = some x → ∃ y, f x = some y ∧ ys[i]? = some y
  | [], ys, h => by simp at h; subst h; exact ⟨rfl, fun i x hx => by simp at hx⟩
  | a :: xs, ys, h => by
    rw [List.mapM_cons] at h
    simp only [Option.bind_eq_bind, Option.bind_eq_some_iff, Option.pure_def, Option.some.injEq] at h
    obtain ⟨b, h1, ys', h2, rfl⟩ := h
    obtain ⟨h3, h4⟩ := mapM_some h2
    refine ⟨by simp [h3], fun i x hx => ?_⟩
    cases i with
    | zero => simp at hx; subst hx; exact ⟨b, h1, rfl⟩
    | succ i => simp at hx; exact h4 i x hx

theorem mapM_all {α β : Type} {f : α → Option β} {g : α → β} (h : ∀ y, f y = some (g y)) : ∀ xs : List α, xs.mapM f = some (xs.map g)
  | [] => rfl
  | y :: ys => by rw [List.mapM_cons, h, mapM_all h ys]; rfl

theorem convV_ok {s t : TypeId} {x d : AV G.T} {v : Value} {l : List Nat} (L : Laws P G) (ok : OK P G F N c) (h : Runs P G c.os (convV P G s t x) l d) (hx : VR P G F c x v) : VOp P G F c (convert s t v) d := by
  unfold convV at h
  split at h
  · rename_i k0 k k1 n hs ht
    obtain rfl := hx.lit_inv
    obtain ⟨rfl, -⟩ := h.pure_inv
    refine ⟨_, ?_, .lit _⟩
    unfold convert
    rw [run_ok (run_underlying' hs c.w), run_ok (run_underlying' ht c.w)]
    rfl
  · rename_i b hs ht
    obtain rfl := hx.lit_inv
    obtain ⟨rfl, -⟩ := h.pure_inv
    refine ⟨_, ?_, .lit _⟩
    unfold convert
    rw [run_ok (run_underlying' hs c.w), run_ok (run_underlying' ht c.w)]
    rfl
  · rename_i e hs ht
    split at h
    case h_2 => exact h.fail_inv.elim
    rename_i k he hk
    split at h
    case isFalse => exact h.fail_inv.elim
    rename_i hu8k
    obtain ⟨xs, l1, l2, rfl, g1, g2⟩ := h.bind_inv
    obtain ⟨rfl, -⟩ := g2.pure_inv
    have hby : ∀ y, (match G.op k y with | [.lit (.int .u8 n)] => some n | _ => none) = some (byteOf G k y) := fun y => by
      obtain ⟨n, hn⟩ := L.u8 k hu8k y
      simp only [byteOf, hn]
    generalize hnsd : xs.map (byteOf G k) = ns
    have hns : xs.mapM (fun y => match G.op k y with | [.lit (.int .u8 n)] => some n | _ => none) = some ns := by
      rw [← hnsd]
      exact mapM_all hby xs
    obtain ⟨hkn, hE⟩ := L.kd _ _ hk
    obtain ⟨a, cap, rfl, hcap, hh⟩ := content_ok ok g1 hx
    obtain ⟨hlen, hget⟩ := mapM_some hns
    have hop : ∀ (y : G.T k) (n : Int), (match G.op k y with | [.lit (.int .u8 n)] => some n | _ => none) = some n → G.op k y = [.lit (.int .u8 n)] := by
      intro y n hy
      split at hy
      · rename_i q; cases hy; assumption
      · cases hy
    have hu8 : P.underlying e = some (.int .u8) := he
    have hcells : ∀ ad, a = some ad → (loadCells ad xs.length).run P c.w = .ok (ns.map (Value.int .u8)).toArray c.w := by
      rintro ad rfl
      have := run_loadCells_list (P := P) c.w ad (ns.map (Value.int .u8)) (fun j u hu => by
        simp only [List.getElem?_map, Option.map_eq_some_iff] at hu
        obtain ⟨n, hn, rfl⟩ := hu
        have hj : j < xs.length := by rw [hlen]; exact (List.getElem?_eq_some_iff.1 hn).1
        obtain ⟨n', h1, h2⟩ := hget j xs[j] (by simp [hj])
        rw [hn] at h2; cases h2
        have h3 := hop _ _ h1
        have hsz : esz P G k = 1 := by rw [← L.len k hkn xs[j], h3]; rfl
        obtain ⟨ad', u, e1, h4, h5⟩ := hh j xs[j] (by simp [hj]) 0 (.lit (.int .u8 n)) (by rw [h3]; rfl)
        cases e1
        obtain rfl := h5.lit_inv
        rw [hsz] at h4; simpa using h4)
      rw [List.length_map, ← hlen] at this
      exact this
    refine ⟨.string (bytesOfInts ns), ?_, .lit _⟩
    unfold convert
    rw [run_ok (run_underlying' hs c.w), run_ok (run_underlying' ht c.w)]
    cases a with
    | none =>
      have hx0 : xs = [] := by
        cases xs with
        | nil => rfl
        | cons y ys =>
          obtain ⟨n', h1, h2⟩ := hget 0 y rfl
          obtain ⟨ad', u, e1, -⟩ := hh 0 y rfl 0 (.lit (.int .u8 n')) (by rw [hop _ _ h1]; rfl)
          cases e1
      subst hx0
      have : ns = [] := List.eq_nil_of_length_eq_zero (by simpa using hlen.symm)
      subst this
      simp only [Sem.run_bind, run_underlying' hu8, Result.andThen_ok]
      rfl
    | some ad =>
      have hr := run_bytesToString (P := P) c.w ad xs.length cap ns (hcells ad rfl)
      simp only [Sem.run_bind, run_underlying' hu8, Result.andThen_ok, hr]
      rw [foldl_push_bytes]
      simp [bytesOfInts, ByteArray.empty, ByteArray.emptyWithCapacity]
      rfl
  · exact h.fail_inv.elim

end
end Go.Proofs.Ytdfnlaikelijeaa.Am
