/- The abstract machine: loads, parts, lengths, addresses, slices. -/
import Derived.Test.YtjfmfpnnjgfffaaAmVal
import Derived.Laws.Cells
namespace Go.Proofs.Ytjfmfpnnjgfffaa.Am
open Go
set_option autoImplicit false
set_option linter.unusedVariables false
set_option linter.unusedSectionVars false
set_option linter.unusedSimpArgs false

section
variable {P : Program} {G : Sig} {F N : Nat → Prop} {c : Cf G}

theorem info_of_underlying {t : TypeId} {d : TypeDesc} (h : P.underlying t = some d) : ∃ i, P.info? t = some i := by
  unfold Program.underlying at h
  cases hh : P.info? t with
  | none => simp [hh] at h
  | some i => exact ⟨i, rfl⟩

theorem partOf_load {t : TypeId} {ds : List (AV G.T)} {off : Nat} {d : AV G.T} {l : List Nat} {a : Addr} (h : Runs P G c.os (partOf P G t ds off) l d)
    (hr : ∀ (j : Nat) (e : AV G.T), ds[j]? = some e → ∃ v, c.w.cell? (a.add j) = some v ∧ VR P G F c e v) : VOp P G F c (loadVar t (a.add off)) d := by
  unfold partOf at h
  split at h
  · exact h.fail_inv.elim
  · rename_i dd hu
    obtain ⟨i, hi⟩ := info_of_underlying hu
    have hsz : szT P t = i.size := by simp [szT, hi]
    split at h
    · rename_i ha
      split at h
      · rename_i hle
        obtain ⟨rfl, -⟩ := h.pure_inv
        -- the cells
        have hex : ∀ j, j < i.size → ∃ v, c.w.cell? (a.add (off + j)) = some v := by
          intro j hj
          have : off + j < ds.length := by omega
          obtain ⟨v, hv, -⟩ := hr (off + j) ds[off + j] (by simp [this])
          exact ⟨v, hv⟩
        let f : Nat → Value := fun j => (c.w.cell? (a.add (off + j))).getD undef
        let cells : List Value := (List.range i.size).map f
        have hcells : ∀ j v, cells[j]? = some v → c.w.cell? ((a.add off).add j) = some v := by
          intro j v hv
          simp only [cells, List.getElem?_map, Option.map_eq_some_iff] at hv
          obtain ⟨j', hj', rfl⟩ := hv
          have hlt : j < i.size := by
            have := (List.getElem?_eq_some_iff.1 hj').1
            simpa using this
          have : j' = j := by simp [hlt] at hj'; exact hj'.symm
          subst this
          obtain ⟨v, hv⟩ := hex j' hlt
          rw [add_add, hv]; simp [f, hv]
        have hl := run_loadCells_list (P := P) c.w (a.add off) cells hcells
        have hlen : cells.length = i.size := by simp [cells]
        rw [hlen] at hl
        refine ⟨.agg cells.toArray, ?_, ?_⟩
        · unfold loadVar
          rw [run_ok (aggT_run (by simp [hu]) ha c.w)]
          simp only [if_true, Sem.run_bind, run_sizeOf' hi, Result.andThen_ok, hl]
          rfl
        · refine .agg _ _ (by simp [hlen]; omega) fun j e v he hv => ?_
          rw [List.getElem?_take] at he
          split at he
          · rename_i hj
            rw [List.getElem?_drop] at he
            obtain ⟨u, hu1, hu2⟩ := hr _ _ he
            have h2 := hcells j v (by simpa using hv)
            rw [add_add, hu1] at h2
            cases h2; exact hu2
          · cases he
      · exact h.fail_inv.elim
    · rename_i ha
      split at h
      · rename_i v hv
        obtain ⟨rfl, -⟩ := h.pure_inv
        obtain ⟨u, hu1, hu2⟩ := hr _ _ hv
        refine ⟨u, ?_, hu2⟩
        unfold loadVar
        rw [run_ok (aggT_run (by simp [hu]) (by simpa using ha) c.w)]
        simp [hu1]
      · exact h.fail_inv.elim

theorem partOf_part {t : TypeId} {ds : List (AV G.T)} {off : Nat} {d : AV G.T} {l : List Nat} {vs : Array Value} (h : Runs P G c.os (partOf P G t ds off) l d)
    (hr : VR P G F c (.agg ds) (.agg vs)) : VOp P G F c (part t vs off) d := by
  obtain ⟨vs', e, hn, hr⟩ := hr.agg_inv; cases e
  unfold partOf at h
  split at h
  · exact h.fail_inv.elim
  · rename_i dd hu
    obtain ⟨i, hi⟩ := info_of_underlying hu
    have hsz : szT P t = i.size := by simp [szT, hi]
    split at h
    · rename_i ha
      split at h
      · rename_i hle
        obtain ⟨rfl, -⟩ := h.pure_inv
        refine ⟨_, ?_, .agg _ (vs.extract off (off + i.size)) (by simp; omega) fun j e v he hv => ?_⟩
        · unfold part
          rw [run_ok (aggT_run (by simp [hu]) ha c.w)]
          simp only [if_true, Sem.run_bind, run_sizeOf' hi, Result.andThen_ok]
          rfl
        · rw [List.getElem?_take] at he
          split at he
          · rw [List.getElem?_drop] at he
            refine hr _ _ _ he ?_
            rw [Array.getElem?_extract] at hv
            split at hv
            · exact hv
            · cases hv
          · cases he
      · exact h.fail_inv.elim
    · rename_i ha
      split at h
      · rename_i v hv
        obtain ⟨rfl, -⟩ := h.pure_inv
        have hlt : off < vs.size := by rw [← hn]; exact (List.getElem?_eq_some_iff.1 hv).1
        have hvv : vs[off]? = some vs[off] := by simp [hlt]
        exact ⟨_, part_run (by simpa using ha) (by simp [hu]) hvv c.w, hr _ _ _ hv hvv⟩
      · exact h.fail_inv.elim

theorem getD_look {o : Nat} {obj : AObj G.T G.U} (h : c.os.getD o .free = obj) (hl : isLive obj = true) : c.os[o]? = some obj := by
  rw [List.getD] at h
  cases hh : c.os[o]? with
  | none => rw [hh] at h; simp at h; subst h; simp [isLive] at hl
  | some x => rw [hh] at h; simp at h; rw [h]

theorem jr_some (L : Laws P G) {z : Zn} {k : Nat} {xs : List (G.T k)} {a : Option Addr} {n cap : Nat} (h : JR P G z (.imm k xs) (.slice a n cap)) : 0 < xs.length → ∃ ad, a = some ad := fun h0 => by
  cases h with
  | imm _ _ _ _ f hk hcap hl hs hv =>
    have hx : xs[0]? = some xs[0] := by simp [h0]
    have hlen := L.len k hk xs[0]
    have hpos := L.pos k hk
    have hsome : (G.op k xs[0])[0]? = some (G.op k xs[0])[0] := List.getElem?_eq_getElem (by omega)
    rcases L.leaf k hk xs[0] 0 _ hsome with ⟨v, e, _⟩ | ⟨k', ys, e, _⟩
    · rw [e] at hsome; obtain ⟨ad, h1, _⟩ := hl 0 _ hx 0 v hsome; exact ⟨ad, h1⟩
    · rw [e] at hsome; obtain ⟨ad, h1, _⟩ := hs 0 _ hx 0 k' ys hsome; exact ⟨ad, h1⟩

theorem mapL_inv {α β : Type} {f : α → RdG G β} : ∀ {xs : List α} {ys : List β} {l : List Nat}, Runs P G c.os (Rd.mapL f xs) l ys → ys.length = xs.length ∧ ∀ (i : Nat) (x : α) (y : β), xs[i]? = some x → ys[i]? = some y → ∃ l', Runs P G c.os (f x) l' y
  | [], ys, l, h => by
    obtain ⟨rfl, -⟩ := h.pure_inv
    exact ⟨rfl, fun i x y hx => by simp at hx⟩
  | a :: xs, ys, l, h => by
    obtain ⟨b, l1, l2, rfl, h1, h2⟩ := Runs.bind_inv h
    obtain ⟨bs, l3, l4, rfl, h3, h4⟩ := Runs.bind_inv h2
    obtain ⟨rfl, -⟩ := h4.pure_inv
    obtain ⟨g1, g2⟩ := mapL_inv h3
    refine ⟨by simp [g1], fun i x y hx hy => ?_⟩
    cases i with
    | zero => simp at hx hy; subst hx; subst hy; exact ⟨_, h1⟩
    | succ i => simp at hx hy; exact g2 i x y hx hy
theorem nil1_ok {x d : AV G.T} {v : Value} {l : List Nat} (h : Runs P G c.os (nil1 G x) l d) (hx : VR P G F c x v) (hst : G.strict = true → ∀ k, G.tight k = false) : VR P G F c d v := by
  unfold nil1 at h
  split at h
  · rename_i k xs
    split at h
    · rename_i hti
      obtain ⟨h0, h1⟩ := h.test_inv
      obtain ⟨rfl, -⟩ := h1.pure_inv
      have h0 := of_decide_eq_true h0
      cases hx with
      | imm _ _ a cap f hk hcap hc hv ht =>
        have e1 : xs.length = 0 := by omega
        rw [e1, ht hti e1]
        exact .nil0 a fun h => by rw [hst h k] at hti; cases hti
    · obtain ⟨rfl, -⟩ := h.pure_inv; exact hx
  · obtain ⟨rfl, -⟩ := h.pure_inv; exact hx

theorem loadV_ok {t : TypeId} {x d : AV G.T} {v : Value} {l : List Nat} (L : Laws P G) (ok : OK P G F N c) (h : Runs P G c.os (loadV P G t x) l d) (hx : VR P G F c x v) : VOp P G F c (Instr.loadAt t v) d := by
  unfold loadV at h
  split at h
  · rename_i o off
    obtain ⟨l', rfl, h1⟩ := h.look_inv
    clear h
    split at h1
    · rename_i bt ds ho
      have ho := getD_look ho rfl
      cases hx with
      | ptrDead _ _ _ hd => rw [ho] at hd; cases hd
      | ptr _ _ obj β b ho' hl hm hb =>
        rw [ho] at ho'; cases ho'
        obtain ⟨b', cs, hb', hfp, hh, hn, hrow⟩ := ok.obj _ _ _ ho hm
        rw [hb] at hb'; cases hb'
        have := partOf_load (a := ⟨b, 0, none⟩) (F := F) h1 fun j e he => by
          obtain ⟨u, hu, hr⟩ := hrow j e he
          refine ⟨u, ?_, hr⟩
          have ha : (⟨b, 0, none⟩ : Addr).add j = ⟨b, j, none⟩ := by unfold Addr.add; split <;> simp_all
          rw [ha]; simpa [World.cell?, hh] using hu
        have ha : (⟨b, 0, none⟩ : Addr).add off = ⟨b, off, none⟩ := by unfold Addr.add; split <;> simp_all
        rw [ha] at this
        exact this
    · exact h1.fail_inv.elim
  · rename_i o i off
    obtain ⟨l', rfl, h1⟩ := h.look_inv
    clear h
    split at h1
    · rename_i k xs wr ho
      have ho := getD_look ho rfl
      cases hx with
      | elemDead _ _ _ _ _ hd => rw [ho] at hd; cases hd
      | elem _ _ _ k' xs' wr' β b ho' hm hb hi =>
        rw [ho] at ho'; cases ho'
        obtain ⟨hk, hh⟩ := ok.obj _ _ _ ho hm
        rcases hh with ⟨hb', -, rfl⟩ | ⟨b', cs, hb', hfp, hh, hn, hle, hrow⟩
        · rw [hb] at hb'; cases hb'
        · rw [hb] at hb'; cases hb'
          have hxi : xs[i]? = some xs[i] := by simp [hi]
          have hgd : xs.getD i (G.df k) = xs[i] := by simp [List.getD, hi]
          rw [hgd] at h1
          have hadd : ∀ j, (⟨b, i * esz P G k, none⟩ : Addr).add j = ⟨b, i * esz P G k + j, none⟩ := fun j => by unfold Addr.add; split <;> simp_all
          split at h1
          · obtain ⟨ds, l1, l2, rfl, h2, h3⟩ := h1.bind_inv
            obtain ⟨g1, g2⟩ := mapL_inv h2
            have := partOf_load (a := ⟨b, i * esz P G k, none⟩) (F := F) h3 fun j e he => by
              have hlt : j < (G.op k xs[i]).length := by rw [← g1]; exact (List.getElem?_eq_some_iff.1 he).1
              have he0 : (G.op k xs[i])[j]? = some (G.op k xs[i])[j] := List.getElem?_eq_getElem hlt
              obtain ⟨u, hu, hr⟩ := hrow i _ hxi j _ he0
              obtain ⟨l3, h4⟩ := g2 j _ e he0 he
              refine ⟨u, ?_, nil1_ok h4 hr L.tst⟩
              rw [hadd]; simpa [World.cell?, hh] using hu
            rw [hadd] at this
            exact this
          · have := partOf_load (a := ⟨b, i * esz P G k, none⟩) (F := F) h1 fun j e he => by
              obtain ⟨u, hu, hr⟩ := hrow i _ hxi j e he
              refine ⟨u, ?_, hr⟩
              rw [hadd]; simpa [World.cell?, hh] using hu
            rw [hadd] at this
            exact this
    · exact h1.fail_inv.elim
  · rename_i k x off
    cases hx with
    | pel _ _ _ ad f hk hc hv =>
      exact partOf_load (a := ad) (F := F) h fun j e he => ⟨f j, (hc j e he).2, hv j e he⟩
  · rename_i k x off
    cases hx with
    | pol _ _ _ ad f hk hc hv =>
      exact partOf_load (a := ad) (F := F) h fun j e he => by
        simp only [List.getElem?_map, Option.map_eq_some_iff] at he
        obtain ⟨d, hd, rfl⟩ := he
        exact ⟨f j, (hc j d hd).2, hv j d hd⟩
  · rename_i o k i off
    obtain ⟨l', rfl, h1⟩ := h.look_inv
    clear h
    split at h1
    · rename_i u y ho
      have ho := getD_look ho rfl
      split at h1
      · rename_i g hg
        split at h1
        case isFalse => exact h1.fail_inv.elim
        rename_i hko
        obtain ⟨rfl, rfl⟩ := hko
        split at h1
        case h_1 => exact h1.fail_inv.elim
        rename_i dd hu
        split at h1
        case h_1 => exact h1.fail_inv.elim
        rename_i hag
        obtain ⟨rfl, -⟩ := h1.pure_inv
        cases hx with
        | zelDead _ _ _ _ _ hd => rw [ho] at hd; cases hd
        | zel _ _ _ _ u2 y2 β ad n cap ho' hm hr hi =>
          rw [ho] at ho'; cases ho'
          obtain ⟨b, bl, gr⟩ := L.mru u y g hg _ _ (ok.obj _ _ _ ho hm).1
          obtain ⟨cap2, -, hh⟩ := gr.head
          rw [hr] at hh; cases hh
          obtain ⟨cs, e, hc1, hc2, hc3⟩ := gr.cells
          have hlt : i < β.z.hs.length := by rw [gr.len]; exact hi
          have hsi : β.z.hs[i]? = some β.z.hs[i] := List.getElem?_eq_getElem hlt
          have hxi : g.xs[i]? = some g.xs[i] := List.getElem?_eq_getElem hi
          have hcell := hc3 i _ hsi
          have hadd : (⟨b, 0, none⟩ : Addr).add (i * esz P G G.k1 + 0) = ⟨b, i, none⟩ := by
            rw [gr.one]; unfold Addr.add; split <;> simp_all
          have hv1 : (β.z.hs[i]).oneCell' = true ∧ (β.z.hs[i]).cells = #[β.z.hs[i]] := by
            have := gr.inn i _ _ hsi hxi
            cases hx : g.xs[i] with
            | none => rw [hx] at this; rw [this.2]; exact ⟨rfl, rfl⟩
            | some es => rw [hx] at this; obtain ⟨bm, -, e2, -⟩ := this; rw [e2]; exact ⟨rfl, rfl⟩
          refine ⟨β.z.hs[i], ?_, .sub o i g.tok u y β _ ho hm (Nat.le_of_eq gr.tok.symm) (fun _ => hsi) hv1.1 hv1.2⟩
          rw [hadd]
          show (loadVar t ⟨b, i, none⟩).run P c.w = _
          unfold loadVar
          rw [run_ok (aggT_run (by simp [hu]) hag c.w)]
          have : c.w.cell? ⟨b, i, none⟩ = some β.z.hs[i] := by simpa [World.cell?, hc1] using hcell
          simp [this]
      split at h1
      · rename_i g hg
        split at h1
        case h_2 => exact h1.fail_inv.elim
        rename_i hhl
        split at h1
        case isFalse => exact h1.fail_inv.elim
        rename_i hko
        obtain ⟨rfl, rfl⟩ := hko
        split at h1
        case h_1 => exact h1.fail_inv.elim
        rename_i dd hu
        split at h1
        case h_1 => exact h1.fail_inv.elim
        rename_i hag
        obtain ⟨rfl, -⟩ := h1.pure_inv
        cases hx with
        | zelDead _ _ _ _ _ hd => rw [ho] at hd; cases hd
        | zel _ _ _ _ u2 y2 β ad n cap ho' hm hr hi =>
          rw [ho] at ho'; cases ho'
          obtain ⟨b, bl, gr⟩ := L.gru u y g hg _ _ (ok.obj _ _ _ ho hm).1
          obtain ⟨cap2, -, hh⟩ := gr.head
          rw [hr] at hh; cases hh
          obtain ⟨cs, hc1, hc2, hc3⟩ := gr.cells
          have hlt : i < β.z.hs.length := by rw [gr.len]; exact hi
          have hsi : β.z.hs[i]? = some β.z.hs[i] := List.getElem?_eq_getElem hlt
          have hxi : g.xs[i]? = some g.xs[i] := List.getElem?_eq_getElem hi
          have hcell := hc3 i _ hsi
          have hadd : (⟨b, 0, none⟩ : Addr).add (i * esz P G g.K + 0) = ⟨b, i, none⟩ := by
            rw [gr.one]; unfold Addr.add; split <;> simp_all
          have hv1 : (β.z.hs[i]).oneCell' = true ∧ (β.z.hs[i]).cells = #[β.z.hs[i]] := by
            rcases gr.inn i _ _ hsi hxi (by rw [hhl]; simp) with ⟨-, -, a, e, -⟩ | ⟨bi, cs', cap', -, e, -⟩ <;> rw [e] <;> exact ⟨rfl, rfl⟩
          refine ⟨β.z.hs[i], ?_, .sub o i g.tok u y β _ ho hm (Nat.le_of_eq gr.tok.symm) (fun _ => hsi) hv1.1 hv1.2⟩
          rw [hadd]
          show (loadVar t ⟨b, i, none⟩).run P c.w = _
          unfold loadVar
          rw [run_ok (aggT_run (by simp [hu]) hag c.w)]
          have : c.w.cell? ⟨b, i, none⟩ = some β.z.hs[i] := by simpa [World.cell?, hc1] using hcell
          simp [this]
      split at h1
      · rename_i k' xs hrt
        split at h1
        · rename_i hkf
          obtain ⟨rfl, hfl⟩ := hkf
          cases hx with
          | zelDead _ _ _ _ _ hd => rw [ho] at hd; cases hd
          | zel _ _ _ _ u2 y2 β ad n cap ho' hm hr hi =>
            rw [ho] at ho'; cases ho'
            have tr := L.zrt u y _ _ (ok.obj _ _ _ ho hm).1 0 _ _ (by rw [hrt]; rfl) hr
            cases tr with
            | imm _ _ _ _ f hk hcap hc hv =>
              have hxi : xs[i]? = some xs[i] := List.getElem?_eq_getElem hi
              have hgd : xs.getD i (G.df k') = xs[i] := by simp [List.getD, hi]
              rw [hgd] at h1
              have := partOf_load (a := ad.add (i * esz P G k')) (F := F) h1 fun j e he => by
                obtain ⟨ad', e1, -, h3⟩ := hc i _ hxi j e he
                cases e1
                refine ⟨f i j, by rw [add_add]; exact h3, ?_⟩
                obtain ⟨v, rfl⟩ := L.flat k' hfl _ j e he
                have h4 := hv i _ hxi j _ he
                cases h4; exact .lit _
              rw [add_add] at this
              exact this
        · exact h1.fail_inv.elim
      · exact h1.fail_inv.elim
    · exact h1.fail_inv.elim
  · rename_i o k i tk j off
    obtain ⟨l', rfl, h1⟩ := h.look_inv
    clear h
    split at h1
    case h_2 => exact h1.fail_inv.elim
    rename_i u y ho
    have ho := getD_look ho rfl
    split at h1
    case h_2 => exact h1.fail_inv.elim
    rename_i g hg
    split at h1
    case h_2 => exact h1.fail_inv.elim
    rename_i hhl
    split at h1
    case isFalse => exact h1.fail_inv.elim
    rename_i hkk; subst hkk
    obtain ⟨et, h2⟩ := h1.test_inv
    have et := of_decide_eq_true et
    cases hx with
    | speDead _ _ _ _ _ _ _ hd => rw [ho] at hd; cases hd
    | spe _ _ _ _ _ _ u2 y2 β ad ho' hm ht hr =>
      rw [ho] at ho'; cases ho'
      obtain ⟨b, bl, gr⟩ := L.gru u y g hg _ _ (ok.obj _ _ _ ho hm).1
      obtain ⟨a, n, cap, h3, h4, rfl⟩ := hr (by rw [gr.tok]; exact et)
      have hlt : i < g.xs.length := by rw [← gr.len]; exact (List.getElem?_eq_some_iff.1 h3).1
      have hxi : g.xs[i]? = some g.xs[i] := List.getElem?_eq_getElem hlt
      have hgd : g.xs.getD i [] = g.xs[i] := by simp [List.getD, hlt]
      rw [hgd] at h2
      rcases gr.inn i _ _ h3 hxi (by rw [hhl]; simp) with ⟨-, -, a', e, -⟩ | ⟨bi, cs, cap', -, e, h5, h6, h7, h8⟩
      · cases e; omega
      · cases e
        have hyj : (g.xs[i])[j]? = some (g.xs[i])[j] := List.getElem?_eq_getElem h4
        have hgj : (g.xs[i]).getD j (G.df g.k) = (g.xs[i])[j] := by simp [List.getD, h4]
        rw [hgj] at h2
        have := partOf_load (a := (⟨bi, 0, none⟩ : Addr).add (j * esz P G g.k)) (F := F) h2 fun q e he => by
          obtain ⟨u, h9, h10⟩ := h8 j _ hyj q e he
          subst h9
          refine ⟨u, ?_, .lit _⟩
          rw [add_add]
          have hadd : (⟨bi, 0, none⟩ : Addr).add (j * esz P G g.k + q) = ⟨bi, j * esz P G g.k + q, none⟩ := by unfold Addr.add; split <;> simp_all
          rw [hadd]; simpa [World.cell?, h6] using h10
        exact this
  · rename_i o k x off
    split at h
    · exact h.fail_inv.elim
    · rename_i dd hu
      split at h
      · exact h.fail_inv.elim
      · rename_i hag
        split at h
        · rename_i k' ys hop
          obtain ⟨l', rfl, h1⟩ := h.look_inv
          clear h
          split at h1
          · rename_i u y ho
            have ho := getD_look ho rfl
            split at h1
            · rename_i q hq
              obtain ⟨rfl, -⟩ := h1.pure_inv
              cases hx with
              | jelDead _ _ _ _ _ hd => rw [ho] at hd; cases hd
              | jel _ _ _ _ u2 y2 β ad ho' hm hr =>
                rw [ho] at ho'; cases ho'
                obtain ⟨w, hw1, hw2⟩ := hr.2 off k' ys hop
                have hcell := L.zjs u y q hq _ _ (ok.obj _ _ _ ho hm).1 _ _ hw1
                refine ⟨w, ?_, ?_⟩
                · show (loadVar t (ad.add off)).run P c.w = _
                  unfold loadVar
                  rw [run_ok (aggT_run (by simp [hu]) hag c.w)]
                  simp [hcell]
                · cases hw2 with
                  | imm _ _ a cap f hk hcap hl hs hv => exact .jk o k' ys u y β a _ cap ho hm (.imm k' ys a cap f hk hcap hl hs hv) (jr_some L (.imm k' ys a cap f hk hcap hl hs hv))
            · exact h1.fail_inv.elim
          · exact h1.fail_inv.elim
        · exact h.fail_inv.elim
  · exact h.fail_inv.elim

theorem fieldsOf_some {s : TypeId} {f off : Nat} {ft : TypeId} (h : (fieldsOf P s)[f]? = some (off, ft)) : ∃ fs fd, P.underlying s = some (.struct fs) ∧ fs[f]? = some fd ∧ fd.offset = off ∧ fd.type = ft := by
  unfold fieldsOf at h
  split at h
  · rename_i fs hu
    simp only [List.getElem?_map, Option.map_eq_some_iff, Array.getElem?_toList] at h
    obtain ⟨fd, h1, h2⟩ := h
    cases h2
    exact ⟨fs, fd, hu, h1, rfl, rfl⟩
  · simp at h

theorem fieldV_ok {t : TypeId} {x d : AV G.T} {v : Value} {f : Nat} {l : List Nat} (h : Runs P G c.os (fieldV P G t x f) l d) (hx : VR P G F c x v) : VOp P G F c (Instr.field t v f) d := by
  unfold fieldV at h
  split at h
  · rename_i off ft cs hf
    obtain ⟨fs, fd, hu, hfd, rfl, rfl⟩ := fieldsOf_some hf
    obtain ⟨vs, rfl, -, -⟩ := hx.agg_inv
    obtain ⟨u, h1, h2⟩ := partOf_part h hx
    refine ⟨u, ?_, h2⟩
    unfold Instr.field
    rw [run_ok (run_underlying' hu c.w)]
    simp [hfd, asAgg, h1]
  · exact h.fail_inv.elim

theorem fieldPlace_run {f : Field} {i : TypeInfo} (hi : P.info? f.type = some i) (hs : i.size ≠ 0) (a : Addr) (w : World) : (fieldPlace a f).run P w = .ok (a.add f.offset) w := by
  unfold fieldPlace
  rw [run_ok (run_sizeOf' hi w)]
  simp [hs]

theorem fieldAddrV_ok {s : TypeId} {x d : AV G.T} {v : Value} {f : Nat} {l : List Nat} (h : Runs P G c.os (fieldAddrV P G s x f) l d) (hx : VR P G F c x v) : VOp P G F c (Instr.fieldAt s v f) d := by
  unfold fieldAddrV at h
  split at h
  · exact h.fail_inv.elim
  · rename_i off ft hf
    obtain ⟨fs, fd, hu, hfd, rfl, rfl⟩ := fieldsOf_some hf
    split at h
    · exact h.fail_inv.elim
    · rename_i hsz
      have hi : ∃ i, P.info? fd.type = some i := by
        cases hh : P.info? fd.type with
        | none => simp [szT, hh] at hsz
        | some i => exact ⟨i, rfl⟩
      obtain ⟨i, hi⟩ := hi
      have hs : i.size ≠ 0 := by simpa [szT, hi] using hsz
      have key : ∀ a : Addr, (Instr.fieldAt s (.pointer (some a)) f).run P c.w = .ok (.pointer (some (a.add fd.offset))) c.w := by
        intro a
        unfold Instr.fieldAt
        rw [run_ok (run_underlying' hu c.w)]
        simp [hfd, Instr.sureAddr, fieldPlace_run hi hs]
      split at h
      · rename_i o a
        obtain ⟨rfl, -⟩ := h.pure_inv
        have hadd : ∀ (b x : Nat), (⟨b, x, none⟩ : Addr).add fd.offset = ⟨b, x + fd.offset, none⟩ := fun b x => by unfold Addr.add; split <;> simp_all
        cases hx with
        | ptrDead _ _ b hd =>
          refine ⟨_, key _, ?_⟩
          rw [hadd]; exact .ptrDead _ _ _ hd
        | ptr _ _ obj β b ho' hl hm hb =>
          refine ⟨_, key _, ?_⟩
          rw [hadd]
          exact .ptr _ _ obj β b ho' hl hm hb
      · rename_i o i' a
        obtain ⟨rfl, -⟩ := h.pure_inv
        have hadd : ∀ (b x : Nat), (⟨b, x, none⟩ : Addr).add fd.offset = ⟨b, x + fd.offset, none⟩ := fun b x => by unfold Addr.add; split <;> simp_all
        cases hx with
        | elemDead _ _ _ b x hd =>
          refine ⟨_, key _, ?_⟩
          rw [hadd]; exact .elemDead _ _ _ _ _ hd
        | elem _ _ _ k xs wr β b ho' hm hb hi =>
          refine ⟨_, key _, ?_⟩
          rw [hadd, Nat.add_assoc]
          exact .elem _ _ _ k xs wr β b ho' hm hb hi
      · rename_i k y a
        obtain ⟨rfl, -⟩ := h.pure_inv
        cases hx with
        | pel _ _ _ ad f' hk hc hv =>
          refine ⟨_, key _, ?_⟩
          rw [add_add]
          exact .pel _ _ _ ad f' hk hc hv
      · rename_i k y a
        obtain ⟨rfl, -⟩ := h.pure_inv
        cases hx with
        | pol _ _ _ ad f' hk hc hv =>
          refine ⟨_, key _, ?_⟩
          rw [add_add]
          exact .pol _ _ _ ad f' hk hc hv
      · rename_i o k y a
        obtain ⟨rfl, -⟩ := h.pure_inv
        cases hx with
        | jelDead _ _ _ _ ad hd => exact ⟨_, key _, .jelDead _ _ _ _ _ hd⟩
        | jel _ _ _ _ u2 y2 β ad ho' hm hr =>
          refine ⟨_, key _, ?_⟩
          rw [add_add]
          exact .jel _ _ _ _ u2 y2 β ad ho' hm hr
      · rename_i o k i a
        obtain ⟨rfl, -⟩ := h.pure_inv
        cases hx with
        | zelDead _ _ _ _ ad hd => exact ⟨_, key _, .zelDead _ _ _ _ _ hd⟩
        | zel _ _ _ _ u2 y2 β ad n cap ho' hm hr hi =>
          refine ⟨_, key _, ?_⟩
          rw [add_add, Nat.add_assoc]
          exact .zel _ _ _ _ u2 y2 β ad n cap ho' hm hr hi
      · rename_i o k i tk q a
        obtain ⟨rfl, -⟩ := h.pure_inv
        cases hx with
        | speDead _ _ _ _ _ _ ad hd => exact ⟨_, key _, .speDead _ _ _ _ _ _ _ hd⟩
        | spe _ _ _ _ _ _ u2 y2 β ad ho' hm ht hr =>
          refine ⟨_, key _, ?_⟩
          rw [add_add]
          exact .spe _ _ _ _ _ _ u2 y2 β ad ho' hm ht hr
      · exact h.fail_inv.elim

theorem blOf_rel {eq em : Bool} {a : Option Addr} (h : em = false → a.isNone = false) : VR P G F c (blOf G eq em) (.bool (if eq then a.isNone else !a.isNone)) := by
  cases eq
  · exact .bl _ _ _ (fun e => by have := h (by simpa using e); simp [this]) (fun _ => rfl)
  · exact .bl _ _ _ (fun e => by cases e) (fun e => by cases em; · rw [if_pos rfl] at e; rw [h rfl] at e; cases e
                                                       · rfl)
theorem eqNil_run {t el : TypeId} {eq : Bool} {a b : Option Addr} {n cap i j : Nat} {op : BinOp} {xo yo : Operand} (hu : P.underlying t = some (.slice el)) (ho : op = if eq then .eql else .neq) (hb : b = none) :
    (do eqGuard op t xo yo (.slice a n cap) (.slice b i j); binOp op t (.slice a n cap) (.slice b i j)).run P c.w = .ok (.bool (if eq then a.isNone else !a.isNone)) c.w := by
  subst hb
  have he : (Op.equal t (.slice a n cap) (.slice none i j)).run P c.w = .ok a.isNone c.w := by
    unfold Op.equal
    show (Op.equalIn (9999 + 1) t _ _).run P c.w = _
    unfold Op.equalIn
    rw [run_ok (run_underlying' hu c.w)]
    cases a <;> rfl
  have hg : (eqGuard op t xo yo (.slice a n cap) (.slice none i j)).run P c.w = .ok () c.w := by
    unfold eqGuard; simp only [Sem.run_bind]; split <;> rfl
  rw [run_ok hg]
  cases eq <;> (subst ho; simp [binOp, Sem.run_bind, he])
theorem eqNil_ok (L : Laws P G) {eq : Bool} {op : BinOp} {t : TypeId} {x d : AV G.T} {vx vy : Value} {xo yo : Operand} {l : List Nat} (h : Runs P G c.os (eqNilV P G eq t x) l d) (hop : op = if eq then .eql else .neq)
    (hx : VR P G F c x vx) (hy : ∃ i j, vy = .slice none i j) : VOp P G F c (do eqGuard op t xo yo vx vy; binOp op t vx vy) d := by
  obtain ⟨i, j, rfl⟩ := hy
  unfold eqNilV at h
  split at h
  · rename_i el hu
    split at h
    · cases hx with
      | nil0 a ha =>
        obtain ⟨rfl, -⟩ := h.pure_inv
        exact ⟨_, eqNil_run hu hop rfl, blOf_rel (by simp)⟩
    · rename_i k xs
      obtain ⟨rfl, -⟩ := h.pure_inv
      cases hx with
      | imm _ _ a cap f hk hcap hc hv =>
        refine ⟨_, eqNil_run hu hop rfl, blOf_rel fun e => ?_⟩
        cases xs with
        | nil => simp at e
        | cons x xs =>
          have hl := L.len k hk x
          have hp := L.pos k hk
          obtain ⟨ad, rfl, -⟩ := hc 0 x rfl 0 _ (List.getElem?_eq_getElem (by omega))
          rfl
    · rename_i k xs
      obtain ⟨rfl, -⟩ := h.pure_inv
      cases hx with
      | old _ _ a cap f hk hcap hc hv =>
        refine ⟨_, eqNil_run hu hop rfl, blOf_rel fun e => ?_⟩
        cases xs with
        | nil => simp at e
        | cons x xs =>
          have hl := L.len k hk x
          have hp := L.pos k hk
          obtain ⟨ad, rfl, -⟩ := hc 0 x rfl 0 _ (List.getElem?_eq_getElem (by omega))
          rfl
    · rename_i o
      obtain ⟨l', hl', h3⟩ := h.look_inv
      clear h
      split at h3
      · rename_i k xs wr hq
        have hq := getD_look hq rfl
        obtain ⟨rfl, -⟩ := h3.pure_inv
        cases hx with
        | ownDead _ _ _ _ hd => rw [hq] at hd; cases hd
        | ownNil _ k2 wr2 β a ho' hm hb ha =>
          rw [hq] at ho'; cases ho'
          exact ⟨_, eqNil_run hu hop rfl, blOf_rel (by simp)⟩
        | own _ k2 xs2 wr2 β b cap ho' hm hb hcap hn =>
          exact ⟨_, eqNil_run hu hop rfl, blOf_rel (fun _ => rfl)⟩
      · exact h3.fail_inv.elim
    · exact h.fail_inv.elim
  · exact h.fail_inv.elim
theorem nilTest_inv {op : BinOp} {y : Operand} {b : Bool} (h : nilTest op y = some b) : (op = if b then .eql else .neq) ∧ ∃ i j, y = .const (.slice none i j) := by
  unfold nilTest at h
  split at h
  · cases h; exact ⟨rfl, _, _, rfl⟩
  · cases h; exact ⟨rfl, _, _, rfl⟩
  · cases h

end
end Go.Proofs.Ytjfmfpnnjgfffaa.Am
