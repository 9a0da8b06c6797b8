/- The abstract machine: lengths, slices, indices, conversions. -/
import Derived.Test.YtjfmfpnnjgfffaaAmVal2
namespace Go.Proofs.Ytjfmfpnnjgfffaa.Am
open Go
set_option autoImplicit false
set_option linter.unusedVariables false
set_option linter.unusedSectionVars false
set_option linter.unusedSimpArgs false

section
variable {P : Program} {G : Sig} {F N : Nat → Prop} {c : Cf G}

/-- cells from an address on read as a list -/
def Holds (P : Program) (G : Sig) (F : Nat → Prop) (c : Cf G) (a : Option Addr) (k : Nat) (ys : List (G.T k)) : Prop :=
  ∀ (i : Nat) (x : G.T k), ys[i]? = some x → ∀ (j : Nat) (d : AV G.T), (G.op k x)[j]? = some d → ∃ ad u, a = some ad ∧ c.w.cell? (ad.add (i * esz P G k + j)) = some u ∧ VR P G F c d u

theorem add_plain (b x n : Nat) : (⟨b, x, none⟩ : Addr).add n = ⟨b, x + n, none⟩ := by unfold Addr.add; split <;> simp_all

theorem arr_holds {o k : Nat} {xs : List (G.T k)} {wr : Bool} {β : Blk} {b : Nat} (ok : OK P G F N c) (h : c.os[o]? = some (.arr k xs wr)) (hm : c.m[o]? = some β) (hb : β.b = some b) :
    Holds P G F c (some ⟨b, 0, none⟩) k xs := by
  obtain ⟨hk, hh⟩ := ok.obj _ _ _ h hm
  rcases hh with ⟨hb', -, rfl⟩ | ⟨b', cs, hb', hfp, hh, hn, hle, hrow⟩
  · rw [hb] at hb'; cases hb'
  · rw [hb] at hb'; cases hb'
    intro i x hx j d hd
    obtain ⟨u, hu, hr⟩ := hrow i x hx j d hd
    refine ⟨_, u, rfl, ?_, hr⟩
    rw [add_plain]; simpa [World.cell?, hh] using hu

theorem content_ok {k : Nat} {x : AV G.T} {ys : List (G.T k)} {l : List Nat} {v : Value} (L : Laws P G) (ok : OK P G F N c) (h : Runs P G c.os (content G k x) l ys) (hx : VR P G F c x v) :
    ∃ a cap, v = .slice a ys.length cap ∧ ys.length ≤ cap ∧ Holds P G F c a k ys := by
  unfold content at h
  split at h
  · obtain ⟨rfl, -⟩ := h.pure_inv
    cases hx with
    | nil0 a ha => exact ⟨a, 0, rfl, Nat.le_refl _, fun i x hx => by simp at hx⟩
  · obtain ⟨h, -⟩ := h.ofOpt_inv
    obtain ⟨rfl, rfl⟩ := castL_inv h
    cases hx with
    | imm _ _ a cap f hk hcap hc hv =>
      refine ⟨a, cap, rfl, hcap, fun i x hx j d hd => ?_⟩
      obtain ⟨ad, h1, h2, h3⟩ := hc i x hx j d hd
      exact ⟨ad, f i j, h1, h3, hv i x hx j d hd⟩
  · split at h
    · rename_i hfl
      obtain ⟨h, -⟩ := h.ofOpt_inv
      obtain ⟨rfl, rfl⟩ := castL_inv h
      cases hx with
      | old _ _ a cap f hk hcap hc hv =>
        refine ⟨a, cap, rfl, hcap, fun i x hx j d hd => ?_⟩
        obtain ⟨ad, h1, h2, h3⟩ := hc i x hx j d hd
        have h4 := hv i x hx j d hd
        obtain ⟨v, rfl⟩ := L.flat _ hfl _ j d hd
        exact ⟨ad, f i j, h1, h3, h4⟩
    · exact h.fail_inv.elim
  · obtain ⟨l', rfl, h1⟩ := h.look_inv
    clear h
    split at h1
    · rename_i o i t x0 u y ho
      have ho := getD_look ho rfl
      split at h1
      · rename_i g hg
        split at h1
        · rename_i hhl
          obtain ⟨h2, h1⟩ := h1.test_inv
          have h2 := of_decide_eq_true h2
          obtain ⟨h1, -⟩ := h1.ofOpt_inv
          obtain ⟨hk2, hy⟩ := castL_inv h1
          subst hk2
          have hy : ys = g.xs.getD i [] := hy
          subst hy
          cases hx with
          | subDead _ _ _ _ hd => rw [ho] at hd; cases hd
          | sub _ _ _ u2 y2 β v ho' hm ht hr =>
            rw [ho] at ho'; cases ho'
            obtain ⟨b, bl, gr⟩ := L.gru u y g hg _ _ (ok.obj _ _ _ ho hm).1
            have hr := hr (gr.tok.trans h2)
            have hlt : i < g.xs.length := by rw [← gr.len]; exact (List.getElem?_eq_some_iff.1 hr).1
            have hxi : g.xs[i]? = some g.xs[i] := List.getElem?_eq_getElem hlt
            have hgd : g.xs.getD i [] = g.xs[i] := by simp [List.getD, hlt]
            rw [hgd]
            rcases gr.inn i v _ hr hxi (by rw [hhl]; simp) with ⟨h3, -, a, rfl, -⟩ | ⟨bi, cs, cap, h3, rfl, h4, h5, h6, h7⟩
            · rw [h3]; exact ⟨a, 0, rfl, Nat.le_refl _, fun i x hx => by simp at hx⟩
            · refine ⟨_, cap, rfl, h4, fun q z hz j d hd => ?_⟩
              obtain ⟨w0, rfl, h8⟩ := h7 q z hz j d hd
              refine ⟨⟨bi, 0, none⟩, w0, rfl, ?_, .lit _⟩
              have hadd : (⟨bi, 0, none⟩ : Addr).add (q * esz P G g.k + j) = ⟨bi, q * esz P G g.k + j, none⟩ := by unfold Addr.add; split <;> simp_all
              rw [hadd]; simpa [World.cell?, h5] using h8
        · exact h1.fail_inv.elim
      · exact h1.fail_inv.elim
    · exact h1.fail_inv.elim
  · obtain ⟨l', rfl, h1⟩ := h.look_inv
    clear h
    split at h1
    · rename_i o k' xs wr ho
      have ho := getD_look ho rfl
      obtain ⟨h1, -⟩ := h1.ofOpt_inv
      obtain ⟨rfl, rfl⟩ := castL_inv h1
      cases hx with
      | ownDead _ _ _ _ hd => rw [ho] at hd; cases hd
      | ownNil _ k2 wr2 β a ho' hm hb ha => rw [ho] at ho'; cases ho'; exact ⟨a, 0, rfl, Nat.le_refl _, fun i x hx => by simp at hx⟩
      | own _ k2 xs2 wr2 β b cap ho' hm hb hcap hn =>
        rw [ho] at ho'; cases ho'
        exact ⟨_, cap, rfl, hcap, arr_holds ok ho hm hb⟩
    · exact h1.fail_inv.elim
  · obtain ⟨l', rfl, h1⟩ := h.look_inv
    clear h
    split at h1
    · rename_i o n k' xs wr ho
      have ho := getD_look ho rfl
      obtain ⟨h2, -⟩ := h1.ofOpt_inv
      simp only [Option.map_eq_some_iff] at h2
      obtain ⟨zs, h2, rfl⟩ := h2
      obtain ⟨rfl, rfl⟩ := castL_inv h2
      cases hx with
      | preDead _ _ _ _ _ hd => rw [ho] at hd; cases hd
      | preNil _ _ k2 wr2 β a ho' hm hb ha => rw [ho] at ho'; cases ho'; exact ⟨a, 0, by simp, by simp, fun i x hx => by simp at hx⟩
      | pre _ n2 k2 xs2 wr2 β b cap ho' hm hb hle hcap =>
        rw [ho] at ho'; cases ho'
        have e : ∀ n, n ≤ zs.length → (zs.take n).length = n := fun n h => by simp; omega
        refine ⟨some ⟨b, 0, none⟩, cap, by rw [e _ hle], by rw [e _ hle]; exact hcap, fun i x hx j d hd => ?_⟩
        rw [List.getElem?_take] at hx
        split at hx
        · exact arr_holds ok ho hm hb i x hx j d hd
        · cases hx
    · exact h1.fail_inv.elim
  · exact h.fail_inv.elim

theorem VOp.pure {v : Value} {d : AV G.T} (h : VR P G F c d v) : VOp P G F c (Pure.pure v) d := ⟨v, rfl, h⟩

theorem unV_ok {op : UnOp} {x d : AV G.T} {v : Value} {l : List Nat} (h : Runs P G c.os (unV G op x) l d) (hx : VR P G F c x v) : VOp P G F c (Op.unary op v) d := by
  unfold unV at h
  split at h
  · obtain rfl := hx.lit_inv
    split at h
    · obtain ⟨rfl, -⟩ := h.pure_inv; exact ⟨_, rfl, .lit _⟩
    · exact h.fail_inv.elim
  · obtain rfl := hx.lit_inv
    split at h
    · obtain ⟨rfl, -⟩ := h.pure_inv; exact ⟨_, rfl, .lit _⟩
    · exact h.fail_inv.elim
  · exact h.fail_inv.elim

theorem lenV_ok {t : TypeId} {at_ : Array TypeId} {ty : TypeId} {x d : AV G.T} {v : Value} {l : List Nat} (L : Laws P G) (ok : OK P G F N c) (h : Runs P G c.os (lenV P G t x) l d) (hx : VR P G F c x v) (ha : at_[0]? = some t) :
    VOp P G F c (Builtin.len_ at_ ty #[v]) d := by
  have key : ∀ (dd : TypeDesc) (u : Value), P.underlying t = some dd → (∀ n : Nat, (match dd, v with | .string, .string s => s.size = n | .slice _, .slice _ m _ => m = n | _, _ => False) →
      (Builtin.len_ at_ ty #[v]).run P c.w = .ok (.int .i64 (n : Int)) c.w) := by
    intro dd u hu n hn
    unfold Builtin.len_
    simp only [ha, List.getElem?_toArray, List.getElem?_cons_zero]
    rw [run_ok (run_underlying' hu c.w)]
    cases dd <;> cases v <;> simp_all [goInt]
  unfold lenV at h
  split at h
  · rename_i s
    obtain rfl := hx.lit_inv
    split at h
    · rename_i hu
      obtain ⟨rfl, -⟩ := h.pure_inv
      exact ⟨_, key _ undef hu s.size rfl, .lit _⟩
    · exact h.fail_inv.elim
  · split at h
    · rename_i e hu
      obtain ⟨rfl, -⟩ := h.pure_inv
      cases hx with
      | nil0 a ha => exact ⟨_, key _ undef hu 0 rfl, .lit _⟩
    · exact h.fail_inv.elim
  · split at h
    · rename_i e hu
      obtain ⟨rfl, -⟩ := h.pure_inv
      cases hx with
      | imm _ _ a cap f hk hcap hc hv => exact ⟨_, key _ undef hu _ rfl, .lit _⟩
    · exact h.fail_inv.elim
  · split at h
    · rename_i e hu
      obtain ⟨rfl, -⟩ := h.pure_inv
      cases hx with
      | old _ _ a cap f hk hcap hc hv => exact ⟨_, key _ undef hu _ rfl, .lit _⟩
    · exact h.fail_inv.elim
  · split at h
    · rename_i e hu
      obtain ⟨rfl, -⟩ := h.pure_inv
      cases hx with
      | jkDead _ _ _ a cap hd ha => exact ⟨_, key _ undef hu _ rfl, .lit _⟩
      | jk _ _ _ u y β a n cap ho hm hr ha => cases hr; exact ⟨_, key _ undef hu _ rfl, .lit _⟩
    · exact h.fail_inv.elim
  · split at h
    · rename_i e hu
      obtain ⟨l', rfl, h1⟩ := h.look_inv
      clear h
      split at h1
      · rename_i o k xs wr ho
        have ho := getD_look ho rfl
        obtain ⟨rfl, -⟩ := h1.pure_inv
        cases hx with
        | ownDead _ _ _ _ hd => rw [ho] at hd; cases hd
        | ownNil _ k2 wr2 β a ho' hm hb ha => rw [ho] at ho'; cases ho'; exact ⟨_, key _ undef hu 0 rfl, .lit _⟩
        | own _ k2 xs2 wr2 β b cap ho' hm hb hcap hn => rw [ho] at ho'; cases ho'; exact ⟨_, key _ undef hu _ rfl, .lit _⟩
      · exact h1.fail_inv.elim
    · exact h.fail_inv.elim
  · split at h
    · rename_i e hu
      obtain ⟨l', rfl, h1⟩ := h.look_inv
      clear h
      split at h1
      · rename_i o n k xs wr ho
        have ho := getD_look ho rfl
        obtain ⟨rfl, -⟩ := h1.pure_inv
        cases hx with
        | preDead _ _ _ _ _ hd => rw [ho] at hd; cases hd
        | preNil _ _ k2 wr2 β a ho' hm hb ha => rw [ho] at ho'; cases ho'; simp only [List.length_nil, Nat.min_zero]; exact ⟨_, key _ undef hu 0 rfl, .lit _⟩
        | pre _ _ k2 xs2 wr2 β b cap ho' hm hb hle hcap => rw [ho] at ho'; cases ho'; rw [Nat.min_eq_left hle]; exact ⟨_, key _ undef hu _ rfl, .lit _⟩
      · exact h1.fail_inv.elim
    · exact h.fail_inv.elim
  · split at h
    · rename_i e hu
      obtain ⟨l', rfl, h1⟩ := h.look_inv
      clear h
      split at h1
      · rename_i o i t' x00 x0 u y ho
        have ho := getD_look ho rfl
        split at h1
        · rename_i g hg
          split at h1
          · rename_i hhl
            obtain ⟨h2, h1⟩ := h1.test_inv
            have h2 := of_decide_eq_true h2
            obtain ⟨rfl, -⟩ := h1.pure_inv
            cases hx with
            | subDead _ _ _ _ hd => rw [ho] at hd; cases hd
            | sub _ _ _ u2 y2 β v ho' hm ht hr =>
              rw [ho] at ho'; cases ho'
              obtain ⟨b, bl, gr⟩ := L.gru u y g hg _ _ (ok.obj _ _ _ ho hm).1
              have hr := hr (gr.tok.trans h2)
              have hlt : i < g.xs.length := by rw [← gr.len]; exact (List.getElem?_eq_some_iff.1 hr).1
              have hxi : g.xs[i]? = some g.xs[i] := List.getElem?_eq_getElem hlt
              have hgd : g.xs.getD i [] = g.xs[i] := by simp [List.getD, hlt]
              rw [hgd]
              rcases gr.inn i v _ hr hxi (by rw [hhl]; simp) with ⟨h3, -, a, rfl, -⟩ | ⟨bi, cs, cap, h3, rfl, h4, h5, h6, h7⟩
              · rw [h3]; exact ⟨_, key _ undef hu 0 rfl, .lit _⟩
              · exact ⟨_, key _ undef hu _ rfl, .lit _⟩
          · exact h1.fail_inv.elim
        · exact h1.fail_inv.elim
      · exact h1.fail_inv.elim
    · exact h.fail_inv.elim
  · split at h
    · rename_i e hu
      obtain ⟨l', rfl, h1⟩ := h.look_inv
      clear h
      split at h1
      · rename_i o j u y ho
        have ho := getD_look ho rfl
        split at h1
        · rename_i k xs hrt
          obtain ⟨rfl, -⟩ := h1.pure_inv
          cases hx with
          | refDead _ _ _ hd => rw [ho] at hd; cases hd
          | ref _ _ u2 y2 β v ho' hm hr =>
            rw [ho] at ho'; cases ho'
            have tr := L.zrt u y _ _ (ok.obj _ _ _ ho hm).1 _ _ _ hrt hr
            cases tr with
            | imm _ _ a cap f hk hcap hc hv => exact ⟨_, key _ undef hu _ rfl, .lit _⟩
        · exact h1.fail_inv.elim
      · exact h1.fail_inv.elim
    · exact h.fail_inv.elim
  · exact h.fail_inv.elim

theorem strOf_get {s : ByteArray} {i : Nat} (h : i < s.size) : s[i]? = some (s[i]'h) ∧ (((s[i]'h).toNat : Nat) : Int) = strOf s i := by
  constructor
  · exact getElem?_pos s i h
  · simp [strOf, h]

theorem indexV_ok {t : TypeId} {x d : AV G.T} {v iv : Value} {i : Int} {k : IntKind} {l : List Nat} (h : Runs P G c.os (indexV P G t x i) l d) (hx : VR P G F c x v) (hi : iv = .int k i) :
    VOp P G F c (Instr.index t v iv) d := by
  subst hi
  unfold indexV at h
  split at h
  · rename_i s hu
    obtain rfl := hx.lit_inv
    obtain ⟨h0, h'⟩ := h.test_inv
    obtain ⟨h1, h'⟩ := h'.test_inv
    obtain ⟨rfl, -⟩ := h'.pure_inv
    have h0 := of_decide_eq_true h0
    have h1 := of_decide_eq_true h1
    have hlt : i.toNat < s.size := by omega
    obtain ⟨hg, he⟩ := strOf_get hlt
    refine ⟨_, ?_, .lit _⟩
    unfold Instr.index
    simp only [asIntOf, Sem.run_bind, Sem.run_pure, Result.andThen_ok, run_underlying' hu, h0, if_true, hg, he]
  · exact h.fail_inv.elim

theorem vInt_ok {x : AV G.T} {v : Value} {n : Int} {l : List Nat} (h : Runs P G c.os (vInt G x) l n) (hx : VR P G F c x v) : ∃ k, v = .int k n := by
  unfold vInt at h
  split at h
  · obtain ⟨rfl, -⟩ := h.pure_inv
    obtain rfl := hx.lit_inv
    exact ⟨_, rfl⟩
  · exact h.fail_inv.elim

theorem indexAddrV_ok {t : TypeId} {x d : AV G.T} {v : Value} {i : Int} {k : IntKind} {l : List Nat} (L : Laws P G) (ok : OK P G F N c) (h : Runs P G c.os (indexAddrV P G t x i) l d) (hx : VR P G F c x v) :
    VOp P G F c (Instr.indexAt t v (.int k i)) d := by
  unfold indexAddrV at h
  split at h
  · exact h.fail_inv.elim
  · rename_i e he
    have hu : P.underlying t = some (.slice e) := by
      unfold elemT at he
      split at he
      · rename_i e' hu; cases he; exact hu
      · cases he
    have key : ∀ (a : Addr) (n cap : Nat) (sz : Nat), v = .slice (some a) n cap → 0 ≤ i → i < (n : Int) → (sizeOf e).run P c.w = .ok sz c.w →
        (Instr.indexAt t v (.int k i)).run P c.w = .ok (.pointer (some (a.add (i.toNat * sz)))) c.w := by
      rintro a n cap sz rfl h0 h1 hs
      unfold Instr.indexAt
      simp only [asIntOf, Sem.run_bind, Sem.run_pure, Result.andThen_ok, run_underlying' hu, hs]
      simp [h0, h1, hs]
    split at h
    · split at h
      case h_2 => exact h.fail_inv.elim
      rename_i o j
      split at h
      case h_2 => exact h.fail_inv.elim
      split at h
      case isFalse => exact h.fail_inv.elim
      rename_i hsz1
      have hs1 : (sizeOf e).run P c.w = .ok 1 c.w := by
        cases hh : P.info? e with
        | none => simp [szT, hh] at hsz1
        | some ii => rw [run_sizeOf' hh c.w]; simp [szT, hh] at hsz1; rw [hsz1]
      obtain ⟨l', rfl, h1⟩ := h.look_inv
      split at h1
      case h_2 => exact h1.fail_inv.elim
      rename_i u y ho
      have ho := getD_look ho rfl
      split at h1
      case h_2 => exact h1.fail_inv.elim
      rename_i g hg
      obtain ⟨h0, h2⟩ := h1.test_inv
      obtain ⟨h3, h4⟩ := h2.test_inv
      obtain ⟨rfl, -⟩ := h4.pure_inv
      have h0 := of_decide_eq_true h0
      have h3 := of_decide_eq_true h3
      cases hx with
      | refDead _ _ _ hd => rw [ho] at hd; cases hd
      | ref _ _ u2 y2 β v ho' hm hr =>
        rw [ho] at ho'; cases ho'
        obtain ⟨b, bl, gr⟩ := L.mru u y g hg _ _ (ok.obj _ _ _ ho hm).1
        obtain ⟨cap, -, hh⟩ := gr.head
        rw [hr] at hh; cases hh
        refine ⟨_, key _ g.xs.length cap _ rfl h0 h3 hs1, ?_⟩
        have := VR.zel (P := P) (F := F) (c := c) o G.k1 i.toNat 0 u y β ⟨b, 0, none⟩ g.xs.length cap ho hm hr (by omega)
        rw [Nat.add_zero, gr.one] at this
        exact this
    · rename_i k0 hk0
      obtain ⟨hk0n, hE⟩ := L.kd _ _ hk0
      obtain ⟨ii, hii⟩ := L.bytes k0 hk0n
      have hs : (sizeOf e).run P c.w = .ok (esz P G k0) c.w := by
        rw [← hE, run_sizeOf' hii.1 c.w]; simp [esz, szT, hii.1]
      split at h
      · rename_i k' xs
        split at h
        · rename_i hkk; subst hkk
          obtain ⟨h0, h'⟩ := h.test_inv
          obtain ⟨h1, h'⟩ := h'.test_inv
          obtain ⟨rfl, -⟩ := h'.pure_inv
          have h0 := of_decide_eq_true h0
          have h1 := of_decide_eq_true h1
          have hlt : i.toNat < xs.length := by omega
          have hgd : xs.getD i.toNat (G.df k') = xs[i.toNat] := by simp [List.getD, hlt]
          have hxi : xs[i.toNat]? = some xs[i.toNat] := by simp [hlt]
          cases hx with
          | imm _ _ a cap f hk hcap hc hv =>
            have hlen := L.len k' hk xs[i.toNat]
            have hpos := L.pos k' hk
            have hl0 : 0 < (G.op k' xs[i.toNat]).length := by omega
            have hsome : (G.op k' xs[i.toNat])[0]? = some (G.op k' xs[i.toNat])[0] := by simp [hl0]
            obtain ⟨ad, rfl, -, -⟩ := hc _ _ hxi _ _ hsome
            refine ⟨_, key ad xs.length cap _ rfl h0 h1 hs, ?_⟩
            rw [hgd]
            have := VR.pel (P := P) (F := F) (c := c) k' xs[i.toNat] 0 (ad.add (i.toNat * esz P G k')) (f i.toNat) hk (fun j d hd => by
              obtain ⟨ad', e1, h2, h3⟩ := hc _ _ hxi j d hd
              cases e1
              rw [add_block, add_add]; exact ⟨h2, h3⟩) (fun j d hd => hv _ _ hxi j d hd)
            rw [add_zero] at this
            exact this
        · exact h.fail_inv.elim
      · rename_i k' xs
        split at h
        · rename_i hkk; subst hkk
          obtain ⟨h0, h'⟩ := h.test_inv
          obtain ⟨h1, h'⟩ := h'.test_inv
          obtain ⟨rfl, -⟩ := h'.pure_inv
          have h0 := of_decide_eq_true h0
          have h1 := of_decide_eq_true h1
          have hlt : i.toNat < xs.length := by omega
          have hgd : xs.getD i.toNat (G.df k') = xs[i.toNat] := by simp [List.getD, hlt]
          have hxi : xs[i.toNat]? = some xs[i.toNat] := by simp [hlt]
          cases hx with
          | old _ _ a cap f hk hcap hc hv =>
            have hlen := L.len k' hk xs[i.toNat]
            have hpos := L.pos k' hk
            have hl0 : 0 < (G.op k' xs[i.toNat]).length := by omega
            have hsome : (G.op k' xs[i.toNat])[0]? = some (G.op k' xs[i.toNat])[0] := by simp [hl0]
            obtain ⟨ad, rfl, -, -⟩ := hc _ _ hxi _ _ hsome
            refine ⟨_, key ad xs.length cap _ rfl h0 h1 hs, ?_⟩
            rw [hgd]
            have := VR.pol (P := P) (F := F) (c := c) k' xs[i.toNat] 0 (ad.add (i.toNat * esz P G k')) (f i.toNat) hk (fun j d hd => by
              obtain ⟨ad', e1, h2, h3⟩ := hc _ _ hxi j d hd
              cases e1
              rw [add_block, add_add]; exact ⟨h2, h3⟩) (fun j d hd => hv _ _ hxi j d hd)
            rw [add_zero] at this
            exact this
        · exact h.fail_inv.elim
      · rename_i o k' xs
        split at h
        · rename_i hkk; subst hkk
          obtain ⟨h0, h'⟩ := h.test_inv
          obtain ⟨h1, h'⟩ := h'.test_inv
          obtain ⟨rfl, -⟩ := h'.pure_inv
          have h0 := of_decide_eq_true h0
          have h1 := of_decide_eq_true h1
          have hlt : i.toNat < xs.length := by omega
          have hgd : xs.getD i.toNat (G.df k') = xs[i.toNat] := by simp [List.getD, hlt]
          have hxi : xs[i.toNat]? = some xs[i.toNat] := by simp [hlt]
          cases hx with
          | jkDead _ _ _ a cap hd ha =>
            obtain ⟨ad, rfl⟩ := ha (by omega)
            exact ⟨_, key ad xs.length cap _ rfl h0 h1 hs, .jelDead _ _ _ _ _ hd⟩
          | jk _ _ _ u y β a n cap ho hm hr ha =>
            obtain ⟨ad, rfl⟩ := ha (by omega)
            cases hr with
            | imm _ _ _ _ f hk hcap hl hss hv =>
              refine ⟨_, key ad xs.length cap _ rfl h0 h1 hs, ?_⟩
              rw [hgd]
              have := VR.jel (P := P) (F := F) (c := c) o k' xs[i.toNat] 0 u y β (ad.add (i.toNat * esz P G k')) ho hm ⟨fun j v hv2 => by
                obtain ⟨ad', e1, h2⟩ := hl _ _ hxi j v hv2
                cases e1
                rw [add_add]; exact h2, fun j k2 ys hv2 => by
                obtain ⟨ad', e1, h2⟩ := hss _ _ hxi j k2 ys hv2
                cases e1
                rw [add_add]; exact ⟨_, h2, hv _ _ hxi j k2 ys hv2⟩⟩
              rw [add_zero] at this
              exact this
        · exact h.fail_inv.elim
      · rename_i o j
        split at h
        case h_2 => exact h.fail_inv.elim
        obtain ⟨l', rfl, h1⟩ := h.look_inv
        clear h
        split at h1
        · rename_i u y ho
          have ho := getD_look ho rfl
          split at h1
          · rename_i g hg
            split at h1
            · rename_i hkk; subst hkk
              obtain ⟨h0, h'⟩ := h1.test_inv
              obtain ⟨h2, h'⟩ := h'.test_inv
              obtain ⟨rfl, -⟩ := h'.pure_inv
              have h0 := of_decide_eq_true h0
              have h2 := of_decide_eq_true h2
              cases hx with
              | refDead _ _ _ hd => rw [ho] at hd; cases hd
              | ref _ _ u2 y2 β v ho' hm hr =>
                rw [ho] at ho'; cases ho'
                obtain ⟨b, bl, gr⟩ := L.gru u y g hg _ _ (ok.obj _ _ _ ho hm).1
                obtain ⟨cap, -, hh⟩ := gr.head
                rw [hr] at hh; cases hh
                refine ⟨_, key _ g.xs.length cap _ rfl h0 h2 hs, ?_⟩
                have := VR.zel (P := P) (F := F) (c := c) o g.K i.toNat 0 u y β ⟨b, 0, none⟩ g.xs.length cap ho hm hr (by omega)
                rw [Nat.add_zero] at this
                exact this
            · exact h1.fail_inv.elim
          split at h1
          · rename_i k' xs hrt
            split at h1
            · rename_i hkk; subst hkk
              obtain ⟨h0, h'⟩ := h1.test_inv
              obtain ⟨h2, h'⟩ := h'.test_inv
              obtain ⟨rfl, -⟩ := h'.pure_inv
              have h0 := of_decide_eq_true h0
              have h2 := of_decide_eq_true h2
              have hlt : i.toNat < xs.length := by omega
              cases hx with
              | refDead _ _ _ hd => rw [ho] at hd; cases hd
              | ref _ _ u2 y2 β v ho' hm hr =>
                rw [ho] at ho'; cases ho'
                have tr := L.zrt u y _ _ (ok.obj _ _ _ ho hm).1 0 _ _ (by rw [hrt]; rfl) hr
                cases tr with
                | imm _ _ a cap f hk hcap hc hv =>
                  have hxi : xs[i.toNat]? = some xs[i.toNat] := List.getElem?_eq_getElem hlt
                  have hlen := L.len k' hk xs[i.toNat]
                  have hpos := L.pos k' hk
                  have hsome : (G.op k' xs[i.toNat])[0]? = some (G.op k' xs[i.toNat])[0] := List.getElem?_eq_getElem (by omega)
                  obtain ⟨ad, rfl, -, -⟩ := hc _ _ hxi _ _ hsome
                  refine ⟨_, key ad xs.length cap _ rfl h0 h2 hs, ?_⟩
                  have := VR.zel (P := P) (F := F) (c := c) o k' i.toNat 0 u y β ad xs.length cap ho hm hr hlt
                  rw [Nat.add_zero] at this
                  exact this
            · exact h1.fail_inv.elim
          · exact h1.fail_inv.elim
        · exact h1.fail_inv.elim
      · rename_i o i' tk
        obtain ⟨l', rfl, h1⟩ := h.look_inv
        clear h
        split at h1
        case h_2 => exact h1.fail_inv.elim
        rename_i u y ho
        have ho := getD_look ho rfl
        split at h1
        case h_2 => exact h1.fail_inv.elim
        rename_i g hg
        split at h1
        case h_2 => exact h1.fail_inv.elim
        rename_i hhl
        split at h1
        case isFalse => exact h1.fail_inv.elim
        rename_i hkk; subst hkk
        obtain ⟨et, h2⟩ := h1.test_inv
        obtain ⟨h0, h3⟩ := h2.test_inv
        obtain ⟨h4, h5⟩ := h3.test_inv
        obtain ⟨rfl, -⟩ := h5.pure_inv
        have et := of_decide_eq_true et
        have h0 := of_decide_eq_true h0
        have h4 := of_decide_eq_true h4
        cases hx with
        | subDead _ _ _ _ hd => rw [ho] at hd; cases hd
        | sub _ _ _ u2 y2 β v ho' hm ht hr hv1 hv2 =>
          rw [ho] at ho'; cases ho'
          obtain ⟨b, bl, gr⟩ := L.gru u y g hg _ _ (ok.obj _ _ _ ho hm).1
          have h3 := hr (by rw [gr.tok]; exact et)
          have hlt : i' < g.xs.length := by rw [← gr.len]; exact (List.getElem?_eq_some_iff.1 h3).1
          have hxi : g.xs[i']? = some g.xs[i'] := List.getElem?_eq_getElem hlt
          have hgd : g.xs.getD i' [] = g.xs[i'] := by simp [List.getD, hlt]
          rw [hgd] at h4
          rcases gr.inn i' _ _ h3 hxi (by rw [hhl]; simp) with ⟨e, -⟩ | ⟨bi, cs, cap, -, e, -⟩
          · rw [e] at h4; simp at h4; omega
          · subst e
            refine ⟨_, key ⟨bi, 0, none⟩ _ cap _ rfl h0 h4 hs, ?_⟩
            have := VR.spe (P := P) (F := F) (c := c) o g.k i' tk i.toNat 0 u y β ((⟨bi, 0, none⟩ : Addr).add (i.toNat * esz P G g.k)) ho hm ht (fun _ => ⟨⟨bi, 0, none⟩, _, cap, h3, by omega, rfl⟩)
            rw [add_zero] at this
            exact this
      · rename_i o
        obtain ⟨l', rfl, h1⟩ := h.look_inv
        clear h
        split at h1
        · rename_i k' xs wr ho
          split at h1
          · rename_i hkk; subst hkk
            have ho := getD_look ho rfl
            obtain ⟨h0, h'⟩ := h1.test_inv
            obtain ⟨h2, h'⟩ := h'.test_inv
            obtain ⟨rfl, -⟩ := h'.pure_inv
            have h0 := of_decide_eq_true h0
            have h2 := of_decide_eq_true h2
            cases hx with
            | ownDead _ _ _ _ hd => rw [ho] at hd; cases hd
            | ownNil _ k2 wr2 β a ho' hm hb ha => rw [ho] at ho'; cases ho'; simp at h2; omega
            | own _ k2 xs2 wr2 β b cap ho' hm hb hcap hn =>
              rw [ho] at ho'; cases ho'
              refine ⟨_, key _ xs.length cap _ rfl h0 h2 hs, ?_⟩
              rw [add_plain, Nat.zero_add]
              exact .elem o i.toNat 0 k' xs wr β b ho hm hb (by omega)
          · exact h1.fail_inv.elim
        · exact h1.fail_inv.elim
      · rename_i o n
        obtain ⟨l', rfl, h1⟩ := h.look_inv
        clear h
        split at h1
        · rename_i k' xs wr ho
          split at h1
          · rename_i hkk; subst hkk
            have ho := getD_look ho rfl
            obtain ⟨h0, h'⟩ := h1.test_inv
            obtain ⟨h2, h'⟩ := h'.test_inv
            obtain ⟨rfl, -⟩ := h'.pure_inv
            have h0 := of_decide_eq_true h0
            have h2 := of_decide_eq_true h2
            cases hx with
            | preDead _ _ _ _ _ hd => rw [ho] at hd; cases hd
            | preNil _ _ k2 wr2 β a ho' hm hb ha => rw [ho] at ho'; cases ho'; simp at h2; omega
            | pre _ _ k2 xs2 wr2 β b cap ho' hm hb hle hcap =>
              rw [ho] at ho'; cases ho'
              rw [Nat.min_eq_left hle] at h2
              refine ⟨_, key _ n cap _ rfl h0 h2 hs, ?_⟩
              rw [add_plain, Nat.zero_add]
              exact .elem o i.toNat 0 k' xs wr β b ho hm hb (by omega)
          · exact h1.fail_inv.elim
        · exact h1.fail_inv.elim
      · exact h.fail_inv.elim

end
end Go.Proofs.Ytjfmfpnnjgfffaa.Am
