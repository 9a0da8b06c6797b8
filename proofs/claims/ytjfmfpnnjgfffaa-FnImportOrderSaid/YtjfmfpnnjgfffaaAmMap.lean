/- The abstract machine: maps in the cells of a row. -/
import Derived.Test.YtjfmfpnnjgfffaaAmGrw
import Derived.MapKept
namespace Go.Proofs.Ytjfmfpnnjgfffaa.Am
open Go
set_option autoImplicit false
set_option linter.unusedVariables false
set_option linter.unusedSectionVars false
set_option linter.unusedSimpArgs false

section
variable {P : Program} {G : Sig} {F N : Nat → Prop} {c c' c'' : Cf G}

/-- an object changes, and where it lies -/
structure Up (c : Cf G) (o : Nat) (β β' : Blk) (u u' : Nat) (y : G.U u) (y' : G.U u') (w' : World) : Prop where
  ho : c.os[o]? = some (.usr u y)
  hm : c.m[o]? = some β
  sys : w'.os = c.w.os ∧ w'.tape = c.w.tape ∧ w'.output = c.w.output
  size : w'.heap.size = c.w.heap.size
  keep : ∀ b, b ∉ β.fp → w'.heap[b]? = c.w.heap[b]?
  fz : ∀ a : Addr, c.w.frozen? a = false → w'.frozen? a = false
  sub : ∀ b ∈ β'.fp, b ∈ β.fp
  le : BLe β β'
def upCf (c : Cf G) (o : Nat) (β' : Blk) (u' : Nat) (y' : G.U u') (w' : World) : Cf G := ⟨w', c.m.set o β', setObj c.os o (.usr u' y')⟩
variable {o : Nat} {β β' : Blk} {u u' : Nat} {y : G.U u} {y' : G.U u'} {w' : World}
theorem Up.inv (h : Up c o β β' u u' y y' w') (hl : c.m.length = c.os.length) {j : Nat} {z : AObj G.T G.U} {γ : Blk} (h1 : (upCf c o β' u' y' w').os[j]? = some z) (h2 : (upCf c o β' u' y' w').m[j]? = some γ) :
    (j = o ∧ z = .usr u' y' ∧ γ = β') ∨ (j ≠ o ∧ c.os[j]? = some z ∧ c.m[j]? = some γ) := by
  have h1 : (c.os.set o (.usr u' y'))[j]? = some z := h1
  have h2 : (c.m.set o β')[j]? = some γ := h2
  have hlo : o < c.os.length := (List.getElem?_eq_some_iff.1 h.ho).1
  by_cases e1 : o = j
  · subst e1
    rw [List.getElem?_set_self hlo] at h1
    rw [List.getElem?_set_self (by omega)] at h2
    cases h1; cases h2; exact .inl ⟨rfl, rfl, rfl⟩
  · rw [List.getElem?_set_ne e1] at h1 h2
    exact .inr ⟨Ne.symm e1, h1, h2⟩
theorem Up.tr (h : Up c o β β' u u' y y' w') (hl : c.m.length = c.os.length) : Tr G F c (upCf c o β' u' y' w') where
  sys := h.sys
  size := by show _ ≤ w'.heap.size; rw [h.size]; exact Nat.le_refl _
  keep := fun b hb hh => h.keep b (hh o _ β h.ho h.hm rfl)
  ext := fun j z hj hf => by
    have hlo : o < c.os.length := (List.getElem?_eq_some_iff.1 h.ho).1
    by_cases e : o = j
    · subst e
      rw [h.ho] at hj; cases hj
      refine ⟨.usr u' y', List.getElem?_set_self hlo, .inr ⟨trivial, .inr ⟨rfl, rfl, ?_⟩⟩⟩
      intro γ hγ
      rw [h.hm] at hγ; cases hγ
      exact ⟨β', List.getElem?_set_self (by omega), h.le⟩
    · refine ⟨z, by show (c.os.set o _)[j]? = _; rw [List.getElem?_set_ne e]; exact hj, ?_⟩
      by_cases hd : z = .dead
      · exact .inl hd
      · exact .inr ⟨Same.refl_live' hd hf, .inl (by show (c.m.set o _)[j]? = _; rw [List.getElem?_set_ne e])⟩
  mv := fun b hb hh => by
    obtain ⟨j, z, γ, h1, h2, h3, h4⟩ := hh
    rcases h.inv hl h1 h2 with ⟨rfl, rfl, rfl⟩ | ⟨_, h5, h6⟩
    · exact ⟨_, _, β, h.ho, h.hm, rfl, h.sub b h4⟩
    · exact ⟨j, z, γ, h5, h6, h3, h4⟩
  fz := h.fz
  lv := fun b hb hh => by
    obtain ⟨j, z, γ, h1, h2, h3, h4⟩ := hh
    rcases h.inv hl h1 h2 with ⟨rfl, rfl, rfl⟩ | ⟨_, h5, h6⟩
    · exact ⟨_, _, β, h.ho, h.hm, rfl, h.sub b h4⟩
    · exact ⟨j, z, γ, h5, h6, h3, h4⟩
theorem Up.ok (h : Up c o β β' u u' y y' w') (ok : OK P G F N c) (h1 : ObjR P G F (upCf c o β' u' y' w') β' (.usr u' y')) : OK P G F N (upCf c o β' u' y' w') where
  len := by unfold upCf setObj; simp [ok.len]
  obj := fun j z γ a1 a2 => by
    rcases h.inv ok.len a1 a2 with ⟨rfl, rfl, rfl⟩ | ⟨e1, h5, h6⟩
    · exact h1
    · refine (ok.obj j z γ h5 h6).mono (h.tr ok.len) fun hl b hb => h.keep b fun hb2 => ?_
      exact ok.apart j o z _ γ β h5 h.ho h6 h.hm hl rfl e1 b hb hb2
  own := fun j z γ a1 a2 hl b hb => by
    have : ¬ F b ∧ b < c.w.heap.size := by
      rcases h.inv ok.len a1 a2 with ⟨rfl, rfl, rfl⟩ | ⟨e1, h5, h6⟩
      · exact ok.own _ _ β h.ho h.hm rfl b (h.sub b hb)
      · exact ok.own j z γ h5 h6 hl b hb
    exact ⟨this.1, by show b < w'.heap.size; rw [h.size]; exact this.2⟩
  wr := fun j z γ a1 a2 hl b hb => by
    rcases h.inv ok.len a1 a2 with ⟨rfl, rfl, rfl⟩ | ⟨e1, h5, h6⟩
    · exact ok.wr _ _ β h.ho h.hm rfl b (h.sub b hb)
    · exact ok.wr j z γ h5 h6 hl b hb
  apart := fun j j' z z' γ γ' a1 a2 a3 a4 l1 l2 hne b hb hb' => by
    rcases h.inv ok.len a1 a3 with ⟨rfl, rfl, rfl⟩ | ⟨e1, h5, h6⟩
    · rcases h.inv ok.len a2 a4 with ⟨rfl, rfl, rfl⟩ | ⟨e3, h7, h8⟩
      · exact hne rfl
      · exact ok.apart _ j' _ z' β γ' h.ho h7 h.hm h8 rfl l2 (Ne.symm e3) b (h.sub b hb) hb'
    · rcases h.inv ok.len a2 a4 with ⟨rfl, rfl, rfl⟩ | ⟨e3, h7, h8⟩
      · exact ok.apart j _ z _ γ β h5 h.ho h6 h.hm l1 rfl e1 b hb (h.sub b hb')
      · exact ok.apart j j' z z' γ γ' h5 h7 h6 h8 l1 l2 hne b hb hb'
  low := fun b hb => by show b < w'.heap.size; rw [h.size]; exact ok.low b hb
  gl := ok.gl.step (h.tr (F := F) ok.len)

/-- rows of no maps -/
theorem makeM_ok {nb : Nat} {t : TypeId} {kl kc : IntKind} {l cp : Int} {q : (u' : Nat) × G.U u'} (L : Laws P G) (ok : OK P G F N c) (hnb : c.os[nb]? = some .free) (hg : G.mkm t = true)
    (h0 : 0 ≤ l) (h1 : l ≤ cp) (h2 : cp ≤ (maxSz : Nat)) (hq : G.mrm ⟨0, List.replicate l.toNat none⟩ = some q) :
    OpTo P G F N c (Instr.makeSlice t (.int kl l) (.int kc cp)) (setObj c.os nb (.usr q.1 q.2)) (.ref nb 0) := by
  obtain ⟨hone, e', i, hu, hi, hz1, hsz, hb0, hb1⟩ := L.mkmt t hg
  unfold maxSz at h2
  have hbytes : (i.bytes : Int) * cp ≤ 281474976710656 := by
    have : (i.bytes : Int) * cp ≤ 1024 * 68719476736 := Int.mul_le_mul (by omega) (by omega) (by omega) (by omega)
    omega
  have hr := Go.run_make (P := P) c.w t e' i (.map none) hu hi hz1 kl kc l cp h0 h1 hbytes (by omega)
  let cs := madeCells (Value.map none).cells (cp.toNat * i.size)
  let w1 := c.w.alloc (.cells cs e')
  let β : Blk := ⟨some c.w.heap.size, cs.size, [c.w.heap.size], { rt := [.slice (some ⟨c.w.heap.size, 0, none⟩) l.toNat cp.toNat], tok := 0, hs := List.replicate l.toNat (.map none) }⟩
  have s4 : w1.heap = c.w.heap.push (.cells cs e' (0, 0)) := rfl
  have n : New c nb β (.usr q.1 q.2) w1 := {
    nb := hnb, sys := ⟨rfl, rfl, rfl⟩, size := by rw [s4]; simp, keep := fun b hb => by rw [s4, Array.getElem?_push, if_neg (by omega)]
    fp := fun b hb => by simp [β] at hb; subst hb; rw [s4]; simp
    fz := fun a ha => frozen_alloc _ _ _ _ ha }
  have hh : w1.heap[c.w.heap.size]? = some (.cells cs e' (0, 0)) := by rw [s4]; simp
  have hszc : cs.size = cp.toNat := by show (madeCells (Value.map none).cells (cp.toNat * i.size)).size = _; rw [size_madeCells, hsz, Nat.mul_one]
  have gr : MR P G ⟨0, List.replicate l.toNat none⟩ w1 β c.w.heap.size (fun _ => none) := {
    one := hone, tok := rfl, len := by simp [β], head := ⟨cp.toNat, by simp; omega, by simp [β]⟩, outb := by simp [β]
    cells := ⟨cs, e', hh, by simp; omega, fun j v hj => by
      simp only [β, List.getElem?_replicate] at hj
      split at hj
      case isFalse => cases hj
      rename_i hjl
      cases hj
      have := made_get (Value.map none).cells (cp.toNat * i.size) j 1 0 rfl (by omega) (by rw [hsz]; omega)
      rw [Nat.mul_one, Nat.add_zero] at this
      show (madeCells (Value.map none).cells (cp.toNat * i.size))[j]? = _
      rw [this]; rfl⟩
    inj := fun _ _ _ _ h => by cases h
    inb := fun _ _ h => by cases h
    inn := fun j v x hj hy => by
      simp only [β, List.getElem?_replicate] at hj hy
      split at hj
      case isFalse => cases hj
      rename_i hjl
      rw [if_pos hjl] at hy
      cases hj; cases hy
      exact ⟨rfl, rfl⟩ }
  have hob : ObjR P G F (newCf c nb β (.usr q.1 q.2) w1) β (.usr q.1 q.2) := ⟨L.mrmu _ q hq _ _ _ _ gr, fun w2 hw => L.mrmu _ q hq _ _ _ _ (gr.mono hw)⟩
  obtain ⟨a1, a2⟩ := n.at_nb ok.len
  exact ⟨_, _, (newCf c nb β (.usr q.1 q.2) w1).m, hr, n.tr ok.len, n.ok ok hob, .ref nb 0 q.1 q.2 β _ a1 a2 rfl rfl rfl⟩

/-- a new map -/
theorem makeMap_ok {nb : Nat} {t : TypeId} {q : (u' : Nat) × G.U u'} (L : Laws P G) (ok : OK P G F N c) (hnb : c.os[nb]? = some .free) (hq : G.mfm [] = some q) :
    OpTo P G F N c (Instr.makeMap t none) (setObj c.os nb (.usr q.1 q.2)) (.ref nb 0) := by
  let w1 := c.w.alloc (.map #[] 0)
  let β : Blk := ⟨some c.w.heap.size, 0, [c.w.heap.size], { rt := [.map (some c.w.heap.size)] }⟩
  have s4 : w1.heap = c.w.heap.push (.map #[] 0) := rfl
  have hh : w1.heap[c.w.heap.size]? = some (.map #[] 0) := by rw [s4]; simp
  have n : New c nb β (.usr q.1 q.2) w1 := {
    nb := hnb, sys := ⟨rfl, rfl, rfl⟩, size := by rw [s4]; simp, keep := fun b hb => by rw [s4, Array.getElem?_push, if_neg (by omega)]
    fp := fun b hb => by simp [β] at hb; subst hb; rw [s4]; simp
    fz := fun a ha => by
      by_cases h1 : a.block < c.w.heap.size
      · exact frozen_block (by rw [s4, Array.getElem?_push, if_neg (by omega)]) ha
      · by_cases h2 : a.block = c.w.heap.size
        · unfold World.frozen?; rw [h2, hh]
        · unfold World.frozen?; rw [s4, Array.getElem?_eq_none (by simp; omega)] }
  have mf : MF w1 β c.w.heap.size [] := ⟨by simp [β], rfl, #[], 0, hh, rfl⟩
  have hob : ObjR P G F (newCf c nb β (.usr q.1 q.2) w1) β (.usr q.1 q.2) := ⟨L.mfmu _ q hq _ _ _ mf, fun w2 hw => L.mfmu _ q hq _ _ _ (mf.mono hw)⟩
  obtain ⟨a1, a2⟩ := n.at_nb ok.len
  refine ⟨.map (some c.w.heap.size), w1, (newCf c nb β (.usr q.1 q.2) w1).m, ?_, n.tr ok.len, n.ok ok hob, .ref nb 0 q.1 q.2 β _ a1 a2 rfl rfl rfl⟩
  simp [Instr.makeMap, Result.andThen]
  rfl

/-- a map goes into a cell -/
theorem putM_gr {w w' : World} {β β' : Blk} {b i : Nat} {bl : Nat → Option Nat} {g : Mrw} {x : Option (List (ByteArray × Int))} {v : Value} {ob : Option Nat} (gr : MR P G g w β b bl) (hi : i < g.xs.length)
    (hin : InM w ob v x) (hob : ∀ bi, ob = some bi → bi ∈ β'.fp ∧ bi ∉ β.fp) (hfp : ∀ x ∈ β.fp, x ∈ β'.fp) (hrt : β'.z.rt = β.z.rt) (htok : β'.z.tok = g.tok + 1) (hhs : β'.z.hs = β.z.hs.set i v)
    (hw : w' = w.setCell ⟨b, i, none⟩ v) : ∃ bl', MR P G ⟨g.tok + 1, g.xs.set i x⟩ w' β' b bl' := by
  obtain ⟨cs, e, c1, c2, c3⟩ := gr.cells
  have hbo : ∀ b2, b2 ≠ b → w'.heap[b2]? = w.heap[b2]? := fun b2 h => by rw [hw]; exact heap_setCell_other w _ b2 v h
  have hobb : ∀ bi, ob = some bi → bi ≠ b := fun bi e h => (hob bi e).2 (h ▸ gr.outb)
  refine ⟨fun j => if j = i then ob else bl j, {
    one := gr.one, tok := htok, len := by rw [hhs]; simp [gr.len], head := by rw [hrt]; simpa using gr.head
    outb := hfp b gr.outb, cells := ⟨cs.setIfInBounds i v, e, by rw [hw]; exact cells_set c1, by simpa using c2, fun j u hj => ?_⟩, inj := fun j j' bi hne h3 h4 => ?_, inb := fun j bi h3 => ?_, inn := fun j u zs h3 h4 => ?_ }⟩
  · rw [hhs] at hj
    by_cases e : i = j
    · subst e
      rw [List.getElem?_set_self (by rw [gr.len]; exact hi)] at hj
      rw [Array.getElem?_setIfInBounds_self_of_lt (by omega)]; exact hj
    · rw [List.getElem?_set_ne e] at hj
      rw [Array.getElem?_setIfInBounds_ne e]
      exact c3 j u hj
  · by_cases e : j = i
    · by_cases e' : j' = i
      · exact hne (e.trans e'.symm)
      · simp only [if_pos e] at h3; simp only [if_neg e'] at h4
        exact (hob bi h3).2 (gr.inb j' bi h4).1
    · simp only [if_neg e] at h3
      by_cases e' : j' = i
      · simp only [if_pos e'] at h4
        exact (hob bi h4).2 (gr.inb j bi h3).1
      · simp only [if_neg e'] at h4; exact gr.inj j j' bi hne h3 h4
  · by_cases e : j = i
    · simp only [if_pos e] at h3; exact ⟨(hob bi h3).1, hobb bi h3⟩
    · simp only [if_neg e] at h3; exact ⟨hfp bi (gr.inb j bi h3).1, (gr.inb j bi h3).2⟩
  · rw [hhs] at h3
    by_cases e : i = j
    · subst e
      rw [List.getElem?_set_self (by rw [gr.len]; exact hi)] at h3
      have h4 : (g.xs.set i x)[i]? = some zs := h4
      rw [List.getElem?_set_self hi] at h4
      cases h3; cases h4
      simp only [if_true]
      exact hin.mono fun bi hb => hbo bi (hobb bi hb)
    · rw [List.getElem?_set_ne e] at h3
      have h4 : (g.xs.set i x)[j]? = some zs := h4
      rw [List.getElem?_set_ne e] at h4
      simp only [if_neg (Ne.symm e)]
      exact (gr.inn j u zs h3 h4).mono fun bi hb => hbo bi (gr.inb j bi hb).2

theorem store_cell {w : World} {b i : Nat} {cs : Array Value} {e : TypeId} {t : TypeId} {ti : TypeInfo} {v : Value} (c1 : w.heap[b]? = some (.cells cs e (0, 0))) (hi : i < cs.size) (hti : P.info? t = some ti) (hsz : ti.size = 1) (hv1 : v.oneCell' = true ∧ v.cells = #[v]) :
    (do Instr.storeAt t (.pointer (some ⟨b, i, none⟩)) v; pure undef : Sem Value).run P w = .ok undef (w.setCell ⟨b, i, none⟩ v) := by
  have hcell : w.cell? ⟨b, i, none⟩ = some (cs[i]'hi) := by simp [World.cell?, c1, hi]
  have hfr : w.frozen? ⟨b, i, none⟩ = false := frozen_zero c1
  have hst : (store ((⟨b, i, none⟩ : Addr).add 0) v).run P w = .ok () (w.setCell ⟨b, i, none⟩ v) := by
    show (store ⟨b, i, none⟩ v).run P w = _
    rw [run_store P w _ v _ hv1.1]
    simp [hcell, hfr]
  have e : (storeVar t ⟨b, i, none⟩ v).run P w = .ok () (w.setCell ⟨b, i, none⟩ v) := by
    unfold storeVar
    simp only [Sem.run_bind, run_sizeOf' hti, Result.andThen_ok]
    rw [if_neg (by rw [hv1.2, hsz]; simp), hv1.2]
    simp only [storeCells, Sem.run_bind, hst, Result.andThen_ok]
    rfl
  simp only [Instr.storeAt, Instr.sureAddr, Sem.run_bind, Sem.run_pure, Result.andThen_ok, e]

theorem putM_ok {o p i u u2 : Nat} {t : TypeId} {y : G.U u} {y2 : G.U u2} {g : Mrw} {es : List (ByteArray × Int)} {q : (u' : Nat) × G.U u'} {v va : Value} (L : Laws P G) (ok : OK P G F N c) (ho : c.os[o]? = some (.usr u y)) (hg : G.mr u y = some g)
    (hp : c.os[p]? = some (.usr u2 y2)) (hf : G.mf u2 y2 = some es) (hne : p ≠ o) (hx : VR P G F c (.zel o G.k1 i 0) va) (hv : VR P G F c (.ref p 0) v) {ti : TypeInfo} (hi : P.info? t = some ti) (hsz : ti.size = 1)
    (hq : G.mrm ⟨g.tok + 1, g.xs.set i (some es)⟩ = some q) :
    OpTo P G F N c (do Instr.storeAt t va v; pure undef) (setObj (setObj c.os p .dead) o (.usr q.1 q.2)) .undef := by
  cases hx with
  | zelDead _ _ _ _ _ hd => rw [ho] at hd; cases hd
  | zel _ _ _ _ u3 y3 β ad n cap ho' hm hr hlt =>
    rw [ho] at ho'; cases ho'
    obtain ⟨b, bl, gr⟩ := L.mru u y g hg _ _ (ok.obj _ _ _ ho hm).1
    obtain ⟨cap2, -, hh⟩ := gr.head
    rw [hr] at hh; cases hh
    cases hv with
    | refDead _ _ _ hd => rw [hp] at hd; cases hd
    | ref _ _ u4 y4 βp v hp' hmp hrp h1 h2 =>
    rw [hp] at hp'; cases hp'
    obtain ⟨bm, mf⟩ := L.mfu u2 y2 es hf _ _ (ok.obj _ _ _ hp hmp).1
    obtain ⟨mf1, mf2, mf3⟩ := mf
    rw [hrp] at mf2; cases mf2
    obtain ⟨cs, e, c1, c2, c3⟩ := gr.cells
    have hadd : (⟨b, 0, none⟩ : Addr).add (i * esz P G G.k1 + 0) = ⟨b, i, none⟩ := by
      rw [gr.one]; unfold Addr.add; split <;> simp_all
    rw [hadd]
    let w' := c.w.setCell ⟨b, i, none⟩ (.map (some bm))
    let β' : Blk := { β with fp := β.fp ++ βp.fp, z := { β.z with tok := g.tok + 1, hs := β.z.hs.set i (.map (some bm)) } }
    obtain ⟨bl', gr'⟩ := putM_gr (w' := w') (β' := β') (x := some es) (ob := some bm) gr hlt ⟨bm, rfl, rfl, mf3⟩ (fun bi e => by cases e; exact ⟨List.mem_append_right _ mf1, fun h => ok.apart p o _ _ _ β hp ho hmp hm rfl rfl hne bm mf1 h⟩) (fun x hx => List.mem_append_left _ hx) rfl rfl rfl rfl
    have J : Jn c o p β β' βp u q.1 y q.2 (.usr u2 y2) w' := {
      ho := ho, hm := hm, hp := hp, hmp := hmp, mu := rfl, ne := hne, sys := ⟨rfl, rfl, rfl⟩, size := by simp [w'],
      keep := fun b2 hb2 => heap_setCell_other c.w _ b2 _ (fun e => hb2 (e ▸ gr.outb)), fz := fun x hx => by simp only [w', World.frozen?_setCell]; exact hx
      sub := fun x hx => List.mem_append.1 hx
      le := ⟨rfl, rfl, rfl, rfl, rfl, by show β.z.tok ≤ g.tok + 1; rw [gr.tok]; omega, fun e => by have h1 : g.tok + 1 = β.z.tok := e; rw [gr.tok] at h1; omega⟩ }
    have hobj : ObjR P G F (jnCf c o p β' q.1 q.2 w') β' (.usr q.1 q.2) := ⟨L.mrmu _ q hq _ _ _ _ gr', fun w2 hw => L.mrmu _ q hq _ _ _ _ (gr'.mono hw)⟩
    exact ⟨undef, w', _, store_cell c1 (by omega) hi hsz ⟨rfl, rfl⟩, J.tr ok.len, J.ok ok hobj, .undef _⟩

theorem nilM_ok {o i u : Nat} {t : TypeId} {y : G.U u} {g : Mrw} {q : (u' : Nat) × G.U u'} {va : Value} (L : Laws P G) (ok : OK P G F N c) (ho : c.os[o]? = some (.usr u y)) (hg : G.mr u y = some g)
    (hx : VR P G F c (.zel o G.k1 i 0) va) {ti : TypeInfo} (hi : P.info? t = some ti) (hsz : ti.size = 1) (hq : G.mrm ⟨g.tok + 1, g.xs.set i none⟩ = some q) :
    OpTo P G F N c (do Instr.storeAt t va (.map none); pure undef) (setObj c.os o (.usr q.1 q.2)) .undef := by
  cases hx with
  | zelDead _ _ _ _ _ hd => rw [ho] at hd; cases hd
  | zel _ _ _ _ u3 y3 β ad n cap ho' hm hr hlt =>
    rw [ho] at ho'; cases ho'
    obtain ⟨b, bl, gr⟩ := L.mru u y g hg _ _ (ok.obj _ _ _ ho hm).1
    obtain ⟨cap2, -, hh⟩ := gr.head
    rw [hr] at hh; cases hh
    obtain ⟨cs, e, c1, c2, c3⟩ := gr.cells
    have hadd : (⟨b, 0, none⟩ : Addr).add (i * esz P G G.k1 + 0) = ⟨b, i, none⟩ := by
      rw [gr.one]; unfold Addr.add; split <;> simp_all
    rw [hadd]
    let w' := c.w.setCell ⟨b, i, none⟩ (.map none)
    let β' : Blk := { β with z := { β.z with tok := g.tok + 1, hs := β.z.hs.set i (.map none) } }
    obtain ⟨bl', gr'⟩ := putM_gr (w' := w') (β' := β') (x := none) (ob := none) gr hlt ⟨rfl, rfl⟩ (fun bi e => by cases e) (fun x hx => hx) rfl rfl rfl rfl
    have U : Up c o β β' u q.1 y q.2 w' := {
      ho := ho, hm := hm, sys := ⟨rfl, rfl, rfl⟩, size := by simp [w'],
      keep := fun b2 hb2 => heap_setCell_other c.w _ b2 _ (fun e => hb2 (e ▸ gr.outb)), fz := fun x hx => by simp only [w', World.frozen?_setCell]; exact hx
      sub := fun x hx => hx
      le := ⟨rfl, rfl, rfl, rfl, rfl, by show β.z.tok ≤ g.tok + 1; rw [gr.tok]; omega, fun e => by have h1 : g.tok + 1 = β.z.tok := e; rw [gr.tok] at h1; omega⟩ }
    have hobj : ObjR P G F (upCf c o β' q.1 q.2 w') β' (.usr q.1 q.2) := ⟨L.mrmu _ q hq _ _ _ _ gr', fun w2 hw => L.mrmu _ q hq _ _ _ _ (gr'.mono hw)⟩
    exact ⟨undef, w', _, store_cell c1 (by omega) hi hsz ⟨rfl, rfl⟩, U.tr ok.len, U.ok ok hobj, .undef _⟩

theorem nilG_ok {o i u : Nat} {t : TypeId} {y : G.U u} {g : Grw G.T} {q : (u' : Nat) × G.U u'} {va v : Value} (L : Laws P G) (ok : OK P G F N c) (ho : c.os[o]? = some (.usr u y)) (hg : G.gr u y = some g) (hhl : g.hl = none)
    (hx : VR P G F c (.zel o g.K i 0) va) (hv : VR P G F c .nil0 v) {ti : TypeInfo} (hi : P.info? t = some ti) (hsz : ti.size = 1) (hq : G.grm { g with tok := g.tok + 1, xs := g.xs.set i [] } = some q) :
    OpTo P G F N c (do Instr.storeAt t va v; pure undef) (setObj c.os o (.usr q.1 q.2)) .undef := by
  cases hx with
  | zelDead _ _ _ _ _ hd => rw [ho] at hd; cases hd
  | zel _ _ _ _ u3 y3 β ad n cap ho' hm hr hlt =>
    rw [ho] at ho'; cases ho'
    obtain ⟨b, bl, gr⟩ := L.gru u y g hg _ _ (ok.obj _ _ _ ho hm).1
    obtain ⟨cap2, -, hh⟩ := gr.head
    rw [hr] at hh; cases hh
    obtain ⟨cs, c1, c2, c3⟩ := gr.cells
    cases hv with
    | nil0 a ha =>
    have hadd : (⟨b, 0, none⟩ : Addr).add (i * esz P G g.K + 0) = ⟨b, i, none⟩ := by
      rw [gr.one]; unfold Addr.add; split <;> simp_all
    rw [hadd]
    let w' := c.w.setCell ⟨b, i, none⟩ (.slice a 0 0)
    let β' : Blk := { β with z := { β.z with tok := g.tok + 1, hs := β.z.hs.set i (.slice a 0 0) } }
    obtain ⟨bl', gr'⟩ := put_gr (w' := w') (β' := β') (ys := []) (ob := none) gr (fun j _ h => by rw [hhl] at h; cases h) hlt (.inl ⟨rfl, rfl, a, rfl, ha⟩) (fun bi e => by cases e) (fun x hx => hx) rfl rfl rfl rfl
    have gr'' : GR P G { g with tok := g.tok + 1, xs := g.xs.set i [] } w' β' b bl' := by rw [hhl]; exact gr'
    have U : Up c o β β' u q.1 y q.2 w' := {
      ho := ho, hm := hm, sys := ⟨rfl, rfl, rfl⟩, size := by simp [w'],
      keep := fun b2 hb2 => heap_setCell_other c.w _ b2 _ (fun e => hb2 (e ▸ gr.outb)), fz := fun x hx => by simp only [w', World.frozen?_setCell]; exact hx
      sub := fun x hx => hx
      le := ⟨rfl, rfl, rfl, rfl, rfl, by show β.z.tok ≤ g.tok + 1; rw [gr.tok]; omega, fun e => by have h1 : g.tok + 1 = β.z.tok := e; rw [gr.tok] at h1; omega⟩ }
    have hobj : ObjR P G F (upCf c o β' q.1 q.2 w') β' (.usr q.1 q.2) := ⟨L.grmu _ q hq _ _ _ _ gr'', fun w2 hw => L.grmu _ q hq _ _ _ _ (gr''.mono hw)⟩
    exact ⟨undef, w', _, store_cell c1 (by omega) hi hsz ⟨rfl, rfl⟩, U.tr ok.len, U.ok ok hobj, .undef _⟩

-- entries ---------------------------------------------------------------------------------------------------------------------------------------
def mfind (s : ByteArray) : List (ByteArray × Int) → Nat → Option (Nat × Int)
  | [], _ => none
  | p :: l, i => match s == p.1 with | true => some (i, p.2) | false => mfind s l (i + 1)
theorem findNow_eq {s : ByteArray} : ∀ (E : List MapEntry) (es : List (ByteArray × Int)) (i : Nat), E.map (fun e => (e.key, e.val)) = es.map (fun p => (Value.string p.1, Value.int .i64 p.2)) →
    Instr.findNow .string (.string s) E i = some ((mfind s es i).map fun q => (q.1, Value.int .i64 q.2))
  | [], [], i, h => rfl
  | [], p :: es, i, h => by simp at h
  | e :: E, [], i, h => by simp at h
  | e :: E, p :: es, i, h => by
    simp only [List.map_cons, List.cons.injEq, Prod.mk.injEq] at h
    have hn : Instr.sameNow .string (.string s) e.key = some (s == p.1) := by rw [h.1.1]; rfl
    simp only [Instr.findNow, hn, mfind]
    cases s == p.1 with
    | true => simp [h.1.2]
    | false => exact findNow_eq E es (i + 1) h.2
theorem mfind_none {s : ByteArray} {v : Int} : ∀ (es : List (ByteArray × Int)) (i : Nat), mfind s es i = none → mget s es = none ∧ mset s v es = es ++ [(s, v)]
  | [], i, h => ⟨rfl, rfl⟩
  | p :: es, i, h => by
    simp only [mfind] at h
    simp only [mget, mset]
    split at h
    · cases h
    · rename_i hb
      rw [hb]
      obtain ⟨h1, h2⟩ := mfind_none (v := v) es (i + 1) h
      exact ⟨h1, by simp only; rw [h2]; rfl⟩
theorem mfind_some {s : ByteArray} {v : Int} : ∀ (es : List (ByteArray × Int)) (i j : Nat) (x : Int), mfind s es i = some (j, x) → i ≤ j ∧ mget s es = some x ∧ es.modify (j - i) (fun _ => (s, v)) = mset s v es ∧ ∃ p, es[j - i]? = some p ∧ s = p.1
  | [], i, j, x, h => by simp [mfind] at h
  | p :: es, i, j, x, h => by
    simp only [mfind] at h
    simp only [mget, mset]
    split at h
    · rename_i hb
      cases h
      rw [hb]
      exact ⟨Nat.le_refl _, rfl, by simp, p, by simp, (MapKept.bytes_beq _ _).1 hb⟩
    · rename_i hb
      rw [hb]
      obtain ⟨h1, h2, h3, p', h4, h5⟩ := mfind_some (v := v) es (i + 1) j x h
      have e : j - i = (j - (i + 1)) + 1 := by omega
      refine ⟨by omega, h2, ?_, p', ?_, h5⟩
      · rw [e]; simp only [List.modify_succ_cons]; rw [h3]
      · rw [e]; simpa using h4
theorem str_key {s : ByteArray} : MapKept.IsKey .string (.string s) := by simp [MapKept.IsKey]

theorem mapUp_run {w : World} {t ke ve : TypeId} {bm : Nat} {es : List (ByteArray × Int)} {s : ByteArray} {v : Int} (ht : P.underlying t = some (.map ke ve)) (hk : P.underlying ke = some .string) (hm : MapAt w bm es) :
    ∃ ob, (Instr.mapUpdate t (.map (some bm)) (.string s) (.int .i64 v)).run P w = .ok () { w with heap := w.heap.setIfInBounds bm ob } ∧ (∃ E k, ob = .map E k ∧ E.toList.map (fun e => (e.key, e.val)) = (mset s v es).map fun p => (Value.string p.1, Value.int .i64 p.2)) := by
  obtain ⟨E, clock, hb, hE⟩ := hm
  have h1 := findNow_eq (s := s) E.toList es 0 hE
  cases hf : mfind s es 0 with
  | none =>
    rw [hf] at h1
    obtain ⟨-, h2⟩ := mfind_none (v := v) es 0 hf
    refine ⟨.map (E.push { key := .string s, val := .int .i64 v, born := clock }) (clock + 1), ?_, _, _, rfl, ?_⟩
    · simp [Instr.mapUpdate, run_underlying ht, MapKept.run_getObj_map hb, MapKept.run_checkKey hk str_key, MapKept.run_findKey hk h1, MapKept.run_setObj_map _ hb, Result.andThen]
    · rw [h2]; simp [hE]
  | some q =>
    obtain ⟨j, x⟩ := q
    rw [hf] at h1
    obtain ⟨-, -, h3, p, h4, h5⟩ := mfind_some (v := v) es 0 j x hf
    rw [Nat.sub_zero] at h3 h4
    have hlen : E.toList.length = es.length := by have := congrArg List.length hE; simpa using this
    have hlt : j < es.length := (List.getElem?_eq_some_iff.1 h4).1
    have hje : E[j]? = some (E[j]'(by rw [← hlen] at hlt; simpa using hlt)) := by simp
    have hkey : (E[j]'(by rw [← hlen] at hlt; simpa using hlt)).key = .string s := by
      have h6 := congrArg (fun l => l[j]?) hE
      simp only [List.getElem?_map, h4, Option.map_some] at h6
      rw [show E.toList[j]? = some (E[j]'(by rw [← hlen] at hlt; simpa using hlt)) by simp] at h6
      simp only [Option.map_some, Option.some.injEq, Prod.mk.injEq] at h6
      rw [h6.1, h5]
    refine ⟨.map (E.modify j fun e => { e with key := .string s, val := .int .i64 v }) clock, ?_, _, _, rfl, ?_⟩
    · simp [Instr.mapUpdate, run_underlying ht, MapKept.run_getObj_map hb, MapKept.run_checkKey hk str_key, MapKept.run_findKey hk h1, hje, hkey, MapKept.run_keyThatStays str_key, MapKept.run_setObj_map _ hb, Result.andThen]
    · rw [← h3, Array.toList_modify]
      apply List.ext_getElem?
      intro m
      have h6 := congrArg (fun l => l[m]?) hE
      simp only [List.getElem?_map, List.getElem?_modify] at h6 ⊢
      by_cases e : j = m
      · simp only [if_pos e]
        cases h7 : E.toList[m]? with
        | none =>
          rw [h7] at h6
          cases h8 : es[m]? with
          | none => rfl
          | some p' => rw [h8] at h6; simp at h6
        | some e' =>
          rw [h7] at h6
          cases h8 : es[m]? with
          | none => rw [h8] at h6; simp at h6
          | some p' => rfl
      · simp only [if_neg e]
        simpa using h6
theorem look_run {w : World} {t ke ve : TypeId} {x : Value} {bm : Nat} {es : List (ByteArray × Int)} {s : ByteArray} {co : Bool} (ht : P.underlying t = some (.map ke ve)) (hk : P.underlying ke = some .string) (hz : (P.info? ve).bind (·.zero) = some (.int .i64 0))
    (hm : (x = .map none ∧ es = []) ∨ ∃ bm, x = .map (some bm) ∧ MapAt w bm es) :
    (Instr.lookup t x (.string s) co).run P w = .ok (match co with | true => .tuple #[.int .i64 ((mget s es).getD 0), .bool (mget s es).isSome] | false => .int .i64 ((mget s es).getD 0)) w := by
  obtain ⟨ti, h1, h2⟩ := Option.bind_eq_some_iff.1 hz
  have hzv : (zeroValue ve).run P w = .ok (.int .i64 0) w := by simp [zeroValue, run_typeInfo' h1, h2, Result.andThen]
  rcases hm with ⟨rfl, rfl⟩ | ⟨bm, rfl, E, clock, hb, hE⟩
  · have h3 : Instr.findNow .string (.string s) ([] : List MapEntry) 0 = some none := rfl
    cases co <;> simp [Instr.lookup, run_underlying ht, MapKept.run_checkKey hk str_key, MapKept.run_findKey hk h3, hzv, Result.andThen, mget]
  · have h3 := findNow_eq (s := s) E.toList es 0 hE
    cases hf : mfind s es 0 with
    | none =>
      rw [hf] at h3
      obtain ⟨h4, -⟩ := mfind_none (v := 0) es 0 hf
      rw [h4]
      cases co <;> simp [Instr.lookup, run_underlying ht, MapKept.run_getObj_map hb, MapKept.run_checkKey hk str_key, MapKept.run_findKey hk h3, hzv, Result.andThen]
    | some q =>
      obtain ⟨j, x⟩ := q
      rw [hf] at h3
      obtain ⟨-, h4, -⟩ := mfind_some (v := 0) es 0 j x hf
      rw [h4]
      cases co <;> simp [Instr.lookup, run_underlying ht, MapKept.run_getObj_map hb, MapKept.run_checkKey hk str_key, MapKept.run_findKey hk h3, Result.andThen]

theorem mapUp_ok {t : TypeId} {m k x : AV G.T} {vm vk vx : Value} {r : OpRes G.T G.U} {l : List Nat} {nb : Nat} (L : Laws P G) (ok : OK P G F N c) (h : Runs P G c.os (mapUpV G t m k x) l r) (hm : VR P G F c m vm) (hk : VR P G F c k vk) (hx : VR P G F c x vx) :
    OpTo P G F N c (do Instr.mapUpdate t vm vk vx; pure undef) (addObjs (setObjs c.os r.upd) nb r.new) r.d ∧ r.d = .undef := by
  unfold mapUpV at h
  split at h
  case h_2 => exact h.fail_inv.elim
  rename_i o i tk s v
  split at h
  case h_2 => exact h.fail_inv.elim
  rename_i hmp
  obtain ⟨ke, ve, ht, hke, hz⟩ := L.mptt t hmp
  obtain ⟨l', rfl, h1⟩ := h.look_inv
  split at h1
  case h_2 => exact h1.fail_inv.elim
  rename_i u y ho
  have ho := getD_look ho rfl
  split at h1
  case h_2 => exact h1.fail_inv.elim
  rename_i g hg
  obtain ⟨et, h2⟩ := h1.test_inv
  obtain ⟨hs, h3⟩ := h2.test_inv
  split at h3
  case h_2 => exact h3.fail_inv.elim
  rename_i q hq
  obtain ⟨rfl, -⟩ := h3.pure_inv
  have et := of_decide_eq_true et
  refine ⟨?_, rfl⟩
  obtain rfl := hk.lit_inv
  obtain rfl := hx.lit_inv
  cases hm with
  | subDead _ _ _ _ hd => rw [ho] at hd; cases hd
  | sub _ _ _ u2 y2 β vm ho' hmm ht' hr hv1 hv2 =>
    rw [ho] at ho'; cases ho'
    obtain ⟨b, bl, gr⟩ := L.mru u y g hg _ _ (ok.obj _ _ _ ho hmm).1
    have hsi := hr (by rw [gr.tok]; exact et)
    have hlt : i < g.xs.length := by rw [← gr.len]; exact (List.getElem?_eq_some_iff.1 hsi).1
    have hxi : g.xs[i]? = some g.xs[i] := List.getElem?_eq_getElem hlt
    have hgd : g.xs.getD i none = g.xs[i] := by simp [List.getD, hlt]
    rw [hgd] at hs hq
    obtain ⟨es, hes⟩ := Option.isSome_iff_exists.1 hs
    rw [hes] at hq hxi
    simp only [Option.getD_some] at hq
    obtain ⟨bm, hbl, rfl, hma⟩ := gr.inn i _ _ hsi hxi
    obtain ⟨ob, hrun, E, k, hob, hE⟩ := mapUp_run (s := s) (v := v) ht hke hma
    obtain ⟨E0, k0, hb0, -⟩ := hma
    have hbfp := gr.inb i bm hbl
    let w' : World := { c.w with heap := c.w.heap.setIfInBounds bm ob }
    have hself : w'.heap[bm]? = some ob := (MapKept.heap_set hb0).1
    have hoth : ∀ b2, b2 ≠ bm → w'.heap[b2]? = c.w.heap[b2]? := (MapKept.heap_set hb0).2
    have gr' : MR P G ⟨g.tok, g.xs.set i (some (mset s v es))⟩ w' β b bl := {
      one := gr.one, tok := gr.tok, len := by simp [gr.len], head := by simpa using gr.head, outb := gr.outb
      cells := by
        obtain ⟨cs, e, c1, c2, c3⟩ := gr.cells
        exact ⟨cs, e, (hoth b (Ne.symm hbfp.2)).trans c1, by simpa using c2, c3⟩
      inj := gr.inj, inb := gr.inb
      inn := fun j u x h5 h6 => by
        have h6 : (g.xs.set i (some (mset s v es)))[j]? = some x := h6
        by_cases e : i = j
        · subst e
          rw [List.getElem?_set_self hlt] at h6
          cases h6
          rw [hsi] at h5; cases h5
          exact ⟨bm, hbl, rfl, E, k, by rw [hself, hob], hE⟩
        · rw [List.getElem?_set_ne e] at h6
          exact (gr.inn j u x h5 h6).mono fun bi hbi => hoth bi fun e2 => gr.inj i j bm e hbl (by rw [hbi, e2]) }
    have U : Up c o β β u q.1 y q.2 w' := {
      ho := ho, hm := hmm, sys := ⟨rfl, rfl, rfl⟩, size := by simp [w'], keep := fun b2 hb2 => hoth b2 (fun e => hb2 (e ▸ hbfp.1))
      fz := fun a ha => by
        by_cases e : a.block = bm
        · unfold World.frozen?; rw [e, hself, hob]
        · exact frozen_block (hoth _ e) ha
      sub := fun x hx => hx, le := BLe.refl β }
    have hobj : ObjR P G F (upCf c o β q.1 q.2 w') β (.usr q.1 q.2) := ⟨L.mrmu _ q hq _ _ _ _ gr', fun w2 hw => L.mrmu _ q hq _ _ _ _ (gr'.mono hw)⟩
    refine ⟨undef, w', _, ?_, U.tr ok.len, U.ok ok hobj, .undef _⟩
    simp only [Sem.run_bind, hrun, Result.andThen_ok, Sem.run_pure]
    rfl

theorem look_ok {t : TypeId} {x k d : AV G.T} {vx vk : Value} {co : Bool} {l : List Nat} (L : Laws P G) (ok : OK P G F N c) (h : Runs P G c.os (lookV G t x k co) l d) (hx : VR P G F c x vx) (hk : VR P G F c k vk) : VOp P G F c (Instr.lookup t vx vk co) d := by
  unfold lookV at h
  split at h
  case h_2 => exact h.fail_inv.elim
  rename_i o i tk s
  split at h
  case h_2 => exact h.fail_inv.elim
  rename_i hmp
  obtain ⟨ke, ve, ht, hke, hz⟩ := L.mptt t hmp
  obtain ⟨l', rfl, h1⟩ := h.look_inv
  split at h1
  case h_2 => exact h1.fail_inv.elim
  rename_i u y ho
  have ho := getD_look ho rfl
  split at h1
  case h_2 => exact h1.fail_inv.elim
  rename_i g hg
  obtain ⟨et, h2⟩ := h1.test_inv
  obtain ⟨rfl, -⟩ := h2.pure_inv
  have et := of_decide_eq_true et
  obtain rfl := hk.lit_inv
  cases hx with
  | subDead _ _ _ _ hd => rw [ho] at hd; cases hd
  | sub _ _ _ u2 y2 β vm ho' hmm ht' hr hv1 hv2 =>
    rw [ho] at ho'; cases ho'
    obtain ⟨b, bl, gr⟩ := L.mru u y g hg _ _ (ok.obj _ _ _ ho hmm).1
    have hsi := hr (by rw [gr.tok]; exact et)
    have hlt : i < g.xs.length := by rw [← gr.len]; exact (List.getElem?_eq_some_iff.1 hsi).1
    have hxi : g.xs[i]? = some g.xs[i] := List.getElem?_eq_getElem hlt
    have hgd : g.xs.getD i none = g.xs[i] := by simp [List.getD, hlt]
    rw [hgd]
    have hin := gr.inn i _ _ hsi hxi
    have hm : (vx = .map none ∧ (g.xs[i]).getD [] = []) ∨ ∃ bm, vx = .map (some bm) ∧ MapAt c.w bm ((g.xs[i]).getD []) := by
      cases hc : g.xs[i] with
      | none => rw [hc] at hin; exact .inl ⟨hin.2, rfl⟩
      | some es => rw [hc] at hin; obtain ⟨bm, -, e, h6⟩ := hin; exact .inr ⟨bm, e, h6⟩
    refine ⟨_, look_run (bm := 0) (s := s) (co := co) ht hke hz hm, ?_⟩
    cases co with
    | true =>
      refine .tup _ _ rfl fun j d v hd hv => ?_
      match j, hd, hv with
      | 0, hd, hv => cases hd; cases hv; exact .lit _
      | 1, hd, hv => cases hd; cases hv; exact .lit _
      | j + 2, hd, hv => simp at hd
    | false => exact .lit _
end
end Go.Proofs.Ytjfmfpnnjgfffaa.Am
