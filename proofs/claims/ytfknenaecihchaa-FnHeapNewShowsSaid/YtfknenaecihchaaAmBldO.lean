/- strings.Builder in the middle of a variable, on the abstract machine: copyCheck, String. -/
import Derived.Test.YtfknenaecihchaaAmSig
import Derived.Test.YtfknenaecihchaaAmHeapSig
import Derived.Shelf.Strings.Builder1
namespace Go.Proofs.Ytfknenaecihchaa.Am
open Go
set_option autoImplicit false
set_option linter.unusedVariables false
set_option linter.unusedSimpArgs false

set_option maxHeartbeats 1000000 in
set_option maxRecDepth 100000 in
theorem cc_used (b : Nat) (w : World) (h0 : w.cell? ⟨b, 1, none⟩ = some (.pointer (some ⟨b, 1, none⟩))) :
    Calls Try.prog 102 #[.pointer (some ⟨b, 1, none⟩)] w fun e w' => e = .returned (.tuple #[]) ∧ w' = w := by
  obtain ⟨j, hj, _⟩ := Option.map_eq_some_iff.1 (show (Try.prog.info? 75).map (·.size) = some 2 from by kernel_rfl)
  go_enter Try.func102, Try.ntmps102
  go_wp2
  rw [Lib.run_neq_ptr_same w _ Try.underlying73 hj]
  go_wp2
  go_end0
  exact ⟨rfl, rfl⟩

set_option maxHeartbeats 1000000 in
set_option maxRecDepth 100000 in
theorem cc_fresh (b : Nat) (w : World) (h0 : w.cell? ⟨b, 1, none⟩ = some (.pointer none)) (hsh : w.shape? b = some (78, 4)) (hfz : w.frozen? ⟨b, 1, none⟩ = false) :
    Calls Try.prog 102 #[.pointer (some ⟨b, 1, none⟩)] w fun e w' => e = .returned (.tuple #[]) ∧ w' = w.setCell ⟨b, 1, none⟩ (.pointer (some ⟨b, 1, none⟩)) := by
  obtain ⟨j, hj, hjs⟩ := Option.map_eq_some_iff.1 (show (Try.prog.info? 75).map (·.size) = some 2 from by kernel_rfl)
  have hl : liesAt Try.prog Try.prog.depth 78 (4 / Try.prog.cellsOf 78) 1 75 1 = true := by kernel_rfl
  go_enter Try.func102, Try.ntmps102
  go_wp2
  rw [Lib.run_to_unsafe w ⟨b, 1, none⟩ Try.underlying73 Try.underlying128 hj (by rw [hjs]; decide) hsh (show 1 < 4 by decide)]
  simp only [Result.andThen]
  rw [Oper.upon_value]
  go_wp2
  rw [run_callFunc_extern Try.func111 (by kernel_rfl) (by kernel_rfl) (by kernel_rfl) (e := Extern.AbiNoEscape.same) (by kernel_rfl)]
  rw [Lib.run_noEscape]
  simp only [Result.andThen]
  rw [Oper.upon_value]
  go_wp2
  rw [Lib.run_from_unsafe w ⟨b, 1, none⟩ Try.underlying128 Try.underlying73 hj hsh hl]
  simp only [Result.andThen]
  rw [Oper.upon_value]
  go_wp2
  go_end0
  exact ⟨rfl, rfl⟩

set_option maxHeartbeats 1000000 in
set_option maxRecDepth 100000 in
theorem str_some (b g : Nat) (hd p ins : Value) (l : List UInt8) (cap : Nat) (cur : Array Value) (w : World) (h0 : l ≠ []) (hbk : w.heap[b]? = some (.cells #[hd, p, .slice (some ⟨g, 0, none⟩) l.length cap, ins] 78 (0, 0)))
    (hg : w.heap[g]? = some (.cells cur 5 (0, 0))) (hcap : l.length ≤ cap) (hcur : cap ≤ cur.size) (h63 : l.length ≤ 9223372036854775807) (hc : ∀ (j : Nat) (x : UInt8), l[j]? = some x → cur[j]? = some (.int .u8 x.toNat)) :
    Calls Try.prog 53 #[.pointer (some ⟨b, 1, none⟩)] w fun e w' => e = .returned (.string ⟨l.toArray⟩) ∧ w' = w.drew.freeze ⟨g, 0, none⟩ l.length := by
  have hl0 : l.length ≠ 0 := by simpa using h0
  have mixed : Try.prog.follows .mixedOrders = true := by kernel_rfl
  have c1 : w.drew.cell? ⟨b, 2, none⟩ = some (.slice (some ⟨g, 0, none⟩) l.length cap) := by
    have : w.drew.heap[b]? = some (.cells #[hd, p, .slice (some ⟨g, 0, none⟩) l.length cap, ins] 78 (0, 0)) := hbk
    rw [Lib.cell_of_heap this]; rfl
  have hSD : (Builtin.unsafeSliceData_ #[22] 109 #[.slice (some ⟨g, 0, none⟩) l.length cap]).run Try.prog w.drew = .ok (.pointer (some ⟨g, 0, none⟩)) w.drew :=
    Lib.run_unsafeSliceData_row _ _ _ _ _ _ (by omega)
  have hUS : (Builtin.unsafeString_ #[109, 3] 9 #[.pointer (some ⟨g, 0, none⟩), .int .i64 l.length]).run Try.prog w.drew = .ok (.string ⟨l.toArray⟩) (w.drew.freeze ⟨g, 0, none⟩ l.length) := by
    refine Lib.run_unsafeString_row w.drew 109 3 9 5 Try.underlying109 (by kernel_rfl) g cur.size (by have hg' : w.drew.heap[g]? = some (.cells cur 5 (0, 0)) := hg; simp [World.shape?, hg']) l h0 (by omega) h63 ?_
    intro j x hx
    have hg' : w.drew.heap[g]? = some (.cells cur 5 (0, 0)) := hg
    have := hc j x hx
    by_cases hj : j = 0
    · subst hj; simpa [World.cell?, Addr.add, hg'] using this
    · simpa [World.cell?, Addr.add, hg', hj] using this
  go_enter Try.func53, Try.ntmps53
  go_wp2
  go_region_o
  all_goals (go_wp2; go_ret; exact ⟨rfl, rfl⟩)

set_option maxHeartbeats 1000000 in
set_option maxRecDepth 100000 in
theorem str_none (b : Nat) (hd p ins : Value) (a : Option Addr) (cap : Nat) (w : World) (hbk : w.heap[b]? = some (.cells #[hd, p, .slice a 0 cap, ins] 78 (0, 0))) (ha : ∀ ad, a = some ad → ∃ sh, w.shape? ad.block = some sh) :
    Calls Try.prog 53 #[.pointer (some ⟨b, 1, none⟩)] w fun e w' => e = .returned (.string ⟨#[]⟩) ∧ RowKit.Below w.heap.size w w' := by
  have mixed : Try.prog.follows .mixedOrders = true := by kernel_rfl
  have hb : b < w.heap.size := (Array.getElem?_eq_some_iff.1 hbk).1
  have c1 : w.drew.cell? ⟨b, 2, none⟩ = some (.slice a 0 cap) := by
    have : w.drew.heap[b]? = some (.cells #[hd, p, .slice a 0 cap, ins] 78 (0, 0)) := hbk
    rw [Lib.cell_of_heap this]; rfl
  obtain ⟨q, w1, hSD, c2, hbel⟩ : ∃ q w1, (Builtin.unsafeSliceData_ #[22] 109 #[.slice a 0 cap]).run Try.prog w.drew = .ok (.pointer q) w1 ∧ w1.cell? ⟨b, 2, none⟩ = some (.slice a 0 cap) ∧ RowKit.Below w.heap.size w w1 := by
    cases a with
    | none => exact ⟨none, w.drew, Lib.run_unsafeSliceData_nil _ _ _ _ _, c1, ⟨rfl, rfl, rfl, Nat.le_refl _, fun _ _ => rfl⟩⟩
    | some ad =>
      by_cases hc : cap = 0
      · subst hc
        obtain ⟨sh, hsh⟩ := ha ad rfl
        have hsh' : w.drew.shape? ad.block = some sh := hsh
        refine ⟨_, _, Lib.run_unsafeSliceData_zero _ _ _ 5 Try.underlying109 ad 0 sh hsh', ?_, ⟨rfl, rfl, rfl, by simp, fun k hk => (RowKit.Below.heap_alloc w.drew _ k hk).trans rfl⟩⟩
        have hbk' : w.drew.heap[b]? = some (.cells #[hd, p, .slice (some ad) 0 0, ins] 78 (0, 0)) := hbk
        have := RowKit.Below.heap_alloc w.drew (.view ad 5) b hb
        rw [hbk'] at this
        rw [Lib.cell_of_heap this]; rfl
      · exact ⟨some ad, w.drew, Lib.run_unsafeSliceData_row _ _ _ _ _ _ hc, c1, ⟨rfl, rfl, rfl, Nat.le_refl _, fun _ _ => rfl⟩⟩
  have hUS : (Builtin.unsafeString_ #[109, 3] 9 #[.pointer q, .int .i64 0]).run Try.prog w1 = .ok (.string .empty) w1 := Lib.run_unsafeString_none _ _ _ _ _
  go_enter Try.func53, Try.ntmps53
  go_wp2
  go_region_o
  all_goals (go_wp2; go_ret; exact ⟨rfl, hbel⟩)

/-- blocks that nobody had -/
theorem below_ok {P : Program} {G : Sig} {F N : Nat → Prop} {c : Cf G} {w' : World} (ok : OK P G F N c) (hb : RowKit.Below c.w.heap.size c.w w') : Tr G F c ⟨w', c.m, c.os⟩ ∧ OK P G F N ⟨w', c.m, c.os⟩ := by
  have t : Tr G F c ⟨w', c.m, c.os⟩ := {
    sys := ⟨hb.os, hb.tape, hb.output⟩, size := hb.size, keep := fun b h _ => hb.block b h
    ext := fun o obj ho hf => by
      refine ⟨obj, ho, ?_⟩
      by_cases hd : obj = .dead
      · exact .inl hd
      · exact .inr ⟨Same.refl_live' hd hf, rfl⟩
    av := fun b _ h => h
    lv := fun b _ h => h }
  refine ⟨t, ?_⟩
  constructor
  · exact ok.len
  · intro j y β h1 h2
    exact (ok.obj j y β h1 h2).mono t fun hl b hm => hb.block b (ok.own j y β h1 h2 hl b hm).2
  · intro j y β h1 h2 hy b hm
    have := ok.own j y β h1 h2 hy b hm
    exact ⟨this.1, Nat.lt_of_lt_of_le this.2 hb.size⟩
  · exact ok.wr
  · exact ok.apart
  · exact fun b h => Nat.lt_of_lt_of_le (ok.low b h) hb.size
  · exact ok.gl.step t

/-- an object that is no more, its blocks changed -/
theorem die {P : Program} {G : Sig} {F N : Nat → Prop} {c : Cf G} {o : Nat} {β : Blk} {x : AObj G.T G.U} {w' : World} (ok : OK P G F N c) (ho : c.os[o]? = some x) (hm : c.m[o]? = some β) (mu : isMut x = true)
    (sys : w'.os = c.w.os ∧ w'.tape = c.w.tape ∧ w'.output = c.w.output) (size : w'.heap.size = c.w.heap.size) (keep : ∀ b, b ∉ β.fp → w'.heap[b]? = c.w.heap[b]?) :
    Tr G F c ⟨w', c.m, setObj c.os o .dead⟩ ∧ OK P G F N ⟨w', c.m, setObj c.os o .dead⟩ := by
  have hlt : o < c.os.length := (List.getElem?_eq_some_iff.1 ho).1
  have t : Tr G F c ⟨w', c.m, setObj c.os o .dead⟩ := {
    sys := sys, size := by show _ ≤ w'.heap.size; omega, keep := fun b hb hh => keep b (hh o x β ho hm mu)
    ext := fun o' obj ho' hf => by
      show ∃ obj', (setObj c.os o .dead)[o']? = some obj' ∧ _
      unfold setObj
      by_cases e : o' = o
      · subst e; exact ⟨.dead, by simp [hlt], .inl rfl⟩
      · refine ⟨obj, by rw [List.getElem?_set_ne (Ne.symm e)]; exact ho', ?_⟩
        by_cases hd : obj = .dead
        · exact .inl hd
        · exact .inr ⟨Same.refl_live' hd hf, rfl⟩
    av := fun b hb h => by
      rcases h with h | ⟨o', obj, β', h1, h2, h3, h4⟩
      · exact .inl h
      · rcases kill_inv hlt h1 with rfl | ⟨hne, h5⟩
        · simp [isMut] at h3
        · exact .inr ⟨o', obj, β', h5, h2, h3, h4⟩
    lv := fun b hb h => by
      obtain ⟨o', obj, β', h1, h2, h3, h4⟩ := h
      rcases kill_inv hlt h1 with rfl | ⟨hne, h5⟩
      · simp [isLive] at h3
      · exact ⟨o', obj, β', h5, h2, h3, h4⟩ }
  refine ⟨t, ?_⟩
  constructor
  · show c.m.length = (setObj c.os o .dead).length
    unfold setObj; simp [ok.len]
  · intro j y β' h1 h2
    rcases kill_inv hlt h1 with rfl | ⟨hne, h5⟩
    · trivial
    · refine (ok.obj j y β' h5 h2).mono t fun hl b hb => keep b fun hb' => ?_
      exact ok.apart j o y x β' β h5 ho h2 hm hl (isMut_live mu) hne b hb hb'
  · intro j y β' h1 h2 hy b hb
    rcases kill_inv hlt h1 with rfl | ⟨hne, h5⟩
    · simp [isLive] at hy
    · have := ok.own j y β' h5 h2 hy b hb
      exact ⟨this.1, by show b < w'.heap.size; omega⟩
  · intro j y β' h1 h2 hy b hb
    rcases kill_inv hlt h1 with rfl | ⟨hne, h5⟩
    · simp [isMut] at hy
    · exact ok.wr j y β' h5 h2 hy b hb
  · intro j j' y y' β1 β2 h1 h2 h3 h4 hy hy' hne b hb hb'
    rcases kill_inv hlt h1 with rfl | ⟨_, h5⟩
    · simp [isLive] at hy
    rcases kill_inv hlt h2 with rfl | ⟨_, h6⟩
    · simp [isLive] at hy'
    exact ok.apart j j' y y' β1 β2 h5 h6 h3 h4 hy hy' hne b hb hb'
  · intro b hb; have := ok.low b hb; show b < w'.heap.size; omega
  · exact ok.gl.step t


def hShL : ShL := .cons (.imm 4) (.cons (.nsp 0 1) (.cons (.own 1) (.cons (.own 2) .nil)))
abbrev hCs (hs : List Obj) : List (AV G.T) := [.imm 4 (hs : List (G.T 4)), .nsp 0 1, .own 1, .own 2]
theorem list_one {α : Type} {l : List α} (h : 1 = l.length) : ∃ a, l = [a] := by
  match l, h with | [a], _ => exact ⟨a, rfl⟩
theorem arr4_of {cs : Array Value} (h : cs.size = 4) : ∃ a p q r, cs = #[a, p, q, r] := by
  obtain ⟨l⟩ := cs
  match l, h with | [a, p, q, r], _ => exact ⟨a, p, q, r, rfl⟩

noncomputable def L102 (hs : List Obj) (xs ins : List Int) : Option (Unit × ((List Obj × (Unit × (Unit × (Unit × Unit)))) × (List Int × (List Int × Unit)))) := some ((), ((hs, ((), ((), ((), ())))), (xs, (ins, ()))))
noncomputable def L102e : Ent G := ⟨102, .cons (.ptr 0 1) .nil, [.box 78 hShL, .arr 1 true, .arr 0 true], .tup .nil, [.box 78 hShL, .arr 1 true, .arr 0 true], fun x y => some ((), y)⟩
theorem L102_ok : EntOK Try.prog G L102e := by
  intro x y z hz
  cases hz
  intro F w m vals ok hlen hargs
  obtain ⟨v, rfl⟩ := list_one (l := vals) hlen
  have hv : VR Try.prog G F ⟨w, m, encO G L102e.aos y⟩ (.ptr 0 1) v := hargs 0 _ v rfl rfl
  obtain ⟨⟨hs, yb⟩, yr⟩ := y
  have h0 : (encO G L102e.aos ((hs, yb), yr))[0]? = some (.box 78 (hCs hs)) := rfl
  show Calls Try.prog 102 [v].toArray w fun e w' => ∃ v m', e = .returned v ∧ Tr G F ⟨w, m, encO G L102e.aos ((hs, yb), yr)⟩ ⟨w', m', encO G L102e.aos ((hs, yb), yr)⟩ ∧ OK Try.prog G F (Nof ⟨w, m, encO G L102e.aos ((hs, yb), yr)⟩) ⟨w', m', encO G L102e.aos ((hs, yb), yr)⟩ ∧ VR Try.prog G F ⟨w', m', encO G L102e.aos ((hs, yb), yr)⟩ (.tup []) v
  generalize hos : encO G L102e.aos ((hs, yb), yr) = os at *
  cases hv with
  | ptrDead _ _ _ hd => rw [h0] at hd; cases hd
  | ptr _ _ obj β b ho hl hm hb =>
    rw [h0] at ho; cases ho
    obtain ⟨b', cs, hb', hfp, hh, hn, hrow⟩ := ok.obj 0 _ β h0 hm
    rw [hb] at hb'; cases hb'
    have hh : w.heap[b]? = some (.cells cs 78 (0, 0)) := hh
    obtain ⟨c0, p, q, c3, rfl⟩ := arr4_of (by simpa using hn)
    obtain ⟨p', hp', hp⟩ := hrow 1 (.nsp 0 1) rfl
    cases (show p = p' from by simpa using hp')
    have hbl := (ok.own 0 _ β h0 hm rfl b (by simp [hfp])).2
    have used : p = .pointer (some ⟨b, 1, none⟩) → Calls Try.prog 102 #[.pointer (some ⟨b, 1, none⟩)] w fun e w' => ∃ v m', e = .returned v ∧ Tr G F ⟨w, m, os⟩ ⟨w', m', os⟩ ∧ OK Try.prog G F (Nof ⟨w, m, os⟩) ⟨w', m', os⟩ ∧ VR Try.prog G F ⟨w', m', os⟩ (.tup []) v := by
      rintro rfl
      refine (cc_used b w (by rw [Lib.cell_of_heap hh]; rfl)).mono ?_
      rintro e w' ⟨rfl, rfl⟩
      exact ⟨_, m, rfl, Tr.refl F _, ok, .tup _ _ rfl (by simp)⟩
    cases hp with
    | nspDead _ _ _ hd => rw [h0] at hd; cases hd
    | nsp _ _ obj β2 b2 ho2 hl2 hm2 hb2 =>
      have hm2 : m[0]? = some β2 := hm2
      have hm : m[0]? = some β := hm
      rw [hm] at hm2; cases hm2
      rw [hb] at hb2; cases hb2
      exact used rfl
    | nspNil _ _ =>
      refine (cc_fresh b w (by rw [Lib.cell_of_heap hh]; rfl) (by simp [World.shape?, hh]) (Lib.frozen_of_heap hh 1)).mono ?_
      rintro e w' ⟨rfl, rfl⟩
      have hh' : (w.setCell ⟨b, 1, none⟩ (.pointer (some ⟨b, 1, none⟩))).heap[b]? = some (.cells #[c0, .pointer (some ⟨b, 1, none⟩), q, c3] 78 (0, 0)) := by
        simp [World.setCell, Array.getElem?_modify, hh]
      have ch : Chg ⟨w, m, os⟩ 0 β (.box 78 (hCs hs)) (.box 78 (hCs hs)) (w.setCell ⟨b, 1, none⟩ (.pointer (some ⟨b, 1, none⟩))) := {
        ho := h0, hm := hm, mu := rfl, sys := ⟨rfl, rfl, rfl⟩, size := by simp [World.setCell]
        keep := fun b2 hb2 => by
          have : b ≠ b2 := by rintro rfl; exact hb2 (by simp [hfp])
          simp [World.setCell, Array.getElem?_modify, this]
        same := trivial }
      have tr := ch.tr (F := F)
      have es : setObj os 0 (.box 78 (hCs hs)) = os := by rw [← hos]; rfl
      have hob : ObjR Try.prog G F (chgCf ⟨w, m, os⟩ 0 (.box 78 (hCs hs)) (w.setCell ⟨b, 1, none⟩ (.pointer (some ⟨b, 1, none⟩)))) β (.box 78 (hCs hs)) := by
        refine ⟨b, _, hb, hfp, hh', rfl, fun j d hd => ?_⟩
        match j, hd with
        | 0, hd =>
          cases hd
          obtain ⟨u, hu, hr⟩ := hrow 0 (.imm 4 (hs : List (G.T 4))) rfl
          exact ⟨u, by simpa using hu, hr.mono tr⟩
        | 1, hd => cases hd; exact ⟨_, rfl, .nsp 0 1 (.box 78 (hCs hs)) β b (by show (setObj os 0 _)[0]? = _; rw [es]; exact h0) rfl hm hb⟩
        | 2, hd =>
          cases hd
          obtain ⟨u, hu, hr⟩ := hrow 2 (.own 1) rfl
          exact ⟨u, by simpa using hu, hr.mono tr⟩
        | 3, hd =>
          cases hd
          obtain ⟨u, hu, hr⟩ := hrow 3 (.own 2) rfl
          exact ⟨u, by simpa using hu, hr.mono tr⟩
        | j + 4, hd => simp at hd
      have ok2 := ch.ok ok hob
      unfold chgCf at tr ok2
      rw [es] at tr ok2
      exact ⟨_, m, rfl, tr, ok2, .tup _ _ rfl (by simp)⟩

def byteOk (n : Int) : Bool := decide (0 ≤ n) && decide (n < 256)
noncomputable def L53 (hs : List Obj) (xs ins : List Int) : Option (ByteArray × ((List Obj × (Unit × (Unit × (Unit × Unit)))) × (Unit × (List Int × Unit)))) := bif decide (xs.length ≤ maxSz) && xs.all byteOk then some (bytesOfInts xs, ((hs, ((), ((), ((), ())))), ((), (ins, ())))) else none
noncomputable def L53e : Ent G := ⟨53, .cons (.ptr 0 1) .nil, [.box 78 hShL, .arr 1 true, .arr 0 true], .str, [.box 78 hShL, .dead, .arr 0 true], fun x y => L53 y.1.1 y.2.1 y.2.2.1⟩
theorem arr_inj {T U : Nat → Type} {k k' : Nat} {xs : List (T k)} {ys : List (T k')} {v v' : Bool} (h : some (AObj.arr k xs v : AObj T U) = some (.arr k' ys v')) : ∃ e : k = k', e ▸ xs = ys := by cases h; exact ⟨rfl, rfl⟩
theorem L53_core (hs : List Obj) (xs ins : List Int) (hlen2 : xs.length ≤ maxSz) (hall : xs.all byteOk = true) :
    SoundCall Try.prog G 53 [.ptr 0 1] [.box 78 (hCs hs), .arr 1 xs true, .arr 0 ins true] (.lit (.string (bytesOfInts xs))) [.box 78 (hCs hs), .dead, .arr 0 ins true] := by
  intro F w m vals ok hlen hargs
  obtain ⟨v, rfl⟩ := list_one (l := vals) hlen
  have hv := hargs 0 _ v rfl rfl
  generalize hos : ([.box 78 (hCs hs), .arr 1 xs true, .arr 0 ins true] : List (AObj G.T G.U)) = os at ok hargs hv ⊢
  have h0 : os[0]? = some (.box 78 (hCs hs)) := by rw [← hos]; rfl
  have h1 : os[1]? = some (.arr 1 xs true) := by rw [← hos]; rfl
  have hos2 : ([.box 78 (hCs hs), .dead, .arr 0 ins true] : List (AObj G.T G.U)) = setObj os 1 .dead := by rw [← hos]; rfl
  rw [hos2]
  cases hv with
  | ptrDead _ _ _ hd => rw [h0] at hd; cases hd
  | ptr _ _ obj β b ho hl hm hb =>
    rw [h0] at ho; cases ho
    obtain ⟨b', cs, hb', hfp, hh, hn, hrow⟩ := ok.obj 0 _ β h0 hm
    rw [hb] at hb'; cases hb'
    have hh : w.heap[b]? = some (.cells cs 78 (0, 0)) := hh
    obtain ⟨c0, p, q, c3, rfl⟩ := arr4_of (by simpa using hn)
    obtain ⟨q', hq', hq⟩ := hrow 2 (.own 1) rfl
    cases (show q = q' from by simpa using hq')
    cases hq with
    | ownDead _ _ _ _ hd => rw [h1] at hd; cases hd
    | ownNil _ k wr γ a ho2 hm2 hb2 ha =>
      obtain ⟨e3, e4⟩ := arr_inj (h1.symm.trans ho2)
      subst e3
      have e4 : xs = [] := e4
      subst e4
      have ea : a = none := ha rfl
      subst ea
      refine (str_none b c0 p c3 none 0 w hh (fun ad h => by cases h)).mono ?_
      rintro e w' ⟨rfl, hbel⟩
      obtain ⟨tr1, ok1⟩ := below_ok (c := ⟨w, m, os⟩) ok hbel
      obtain ⟨tr2, ok2⟩ := die (w' := w') ok1 h1 hm2 rfl ⟨rfl, rfl, rfl⟩ rfl (fun _ _ => rfl)
      exact ⟨_, m, rfl, tr1.trans ok1 tr2, ok2, .lit _⟩
    | own _ k xs2 wr γ g cap ho2 hm2 hb2 hcap hcn =>
      obtain ⟨e3, e4⟩ := arr_inj (h1.symm.trans ho2)
      subst e3
      have e4 : xs = xs2 := e4
      subst e4
      obtain ⟨hk, hor⟩ := ok.obj 1 _ γ h1 hm2
      rcases hor with ⟨hnn, _⟩ | ⟨g', cur, hg', hfg, hhg, hszg, hle, hcell⟩
      · rw [hb2] at hnn; cases hnn
      rw [hb2] at hg'; cases hg'
      have e1 : esz Try.prog G 1 = 1 := by kernel_rfl
      rw [e1] at hle hcn
      have hhg : w.heap[g]? = some (.cells cur 5 (0, 0)) := hhg
      by_cases hne : xs = []
      · subst hne
        refine (str_none b c0 p c3 (some ⟨g, 0, none⟩) cap w hh (fun ad h => by cases h; exact ⟨_, by simp [World.shape?, hhg]; rfl⟩)).mono ?_
        rintro e w' ⟨rfl, hbel⟩
        obtain ⟨tr1, ok1⟩ := below_ok (c := ⟨w, m, os⟩) ok hbel
        obtain ⟨tr2, ok2⟩ := die (w' := w') ok1 h1 hm2 rfl ⟨rfl, rfl, rfl⟩ rfl (fun _ _ => rfl)
        exact ⟨_, m, rfl, tr1.trans ok1 tr2, ok2, .lit _⟩
      let l : List UInt8 := List.map (fun n : Int => UInt8.ofNat n.toNat) xs
      have hll : l.length = List.length (α := Int) xs := List.length_map ..
      have hl0 : l ≠ [] := by
        intro e
        have : List.length (α := Int) xs = 0 := by rw [← hll, e]; rfl
        have hx : xs = [] := List.eq_nil_of_length_eq_zero this
        exact hne hx
      have hcells : ∀ (j : Nat) (x : UInt8), l[j]? = some x → cur[j]? = some (.int .u8 x.toNat) := by
        intro j x hx
        have hx : (List.map (fun n : Int => UInt8.ofNat n.toNat) xs)[j]? = some x := hx
        rw [List.getElem?_map, Option.map_eq_some_iff] at hx
        obtain ⟨n, hn1, rfl⟩ := hx
        obtain ⟨u, hu, hr⟩ := hcell j n hn1 0 (.lit (.int .u8 n)) rfl
        cases hr
        rw [e1] at hu
        have hr2 : byteOk n = true := List.all_eq_true.1 hall n (List.mem_of_getElem? hn1)
        simp only [byteOk, Bool.and_eq_true, decide_eq_true_eq] at hr2
        have : ((UInt8.ofNat n.toNat).toNat : Int) = n := by
          simp [UInt8.toNat_ofNat']; omega
        rw [this]; simpa using hu
      refine (str_some b g c0 p c3 l cap cur w hl0 (by rw [hll]; exact hh) hhg (by rw [hll]; exact hcap) (by rw [hszg]; omega) (by rw [hll]; unfold maxSz at hlen2; exact Nat.le_trans hlen2 (by omega)) hcells).mono ?_
      rintro e w' ⟨rfl, rfl⟩
      have hkeep : ∀ b2, b2 ∉ γ.fp → (w.drew.freeze ⟨g, 0, none⟩ l.length).heap[b2]? = w.heap[b2]? := fun b2 hb2 => by
        have : g ≠ b2 := by rintro rfl; exact hb2 (by simp [hfg])
        unfold World.freeze
        split
        · rfl
        · show (Array.modify w.heap g _)[b2]? = _
          simp [Array.getElem?_modify, this]
      have hsz : (w.drew.freeze ⟨g, 0, none⟩ l.length).heap.size = w.heap.size := by
        unfold World.freeze
        split
        · rfl
        · show (Array.modify w.heap g _).size = _
          simp
      obtain ⟨tr, ok'⟩ := die (w' := w.drew.freeze ⟨g, 0, none⟩ l.length) ok h1 hm2 rfl (by unfold World.freeze; split <;> exact ⟨rfl, rfl, rfl⟩) hsz hkeep
      exact ⟨_, m, rfl, tr, ok', .lit _⟩
theorem L53_some {hs : List Obj} {xs ins : List Int} {z : ByteArray × ((List Obj × (Unit × (Unit × (Unit × Unit)))) × (Unit × (List Int × Unit)))} (h : L53 hs xs ins = some z) : xs.length ≤ maxSz ∧ xs.all byteOk = true ∧ z = (bytesOfInts xs, ((hs, ((), ((), ((), ())))), ((), (ins, ())))) := by
  unfold L53 at h
  cases hc : (decide (xs.length ≤ maxSz) && xs.all byteOk) with
  | false => rw [hc] at h; cases h
  | true =>
    rw [hc] at h; cases h
    simp only [Bool.and_eq_true, decide_eq_true_eq] at hc
    exact ⟨hc.1, hc.2, rfl⟩
theorem L53_ok : EntOK Try.prog G L53e := by
  rintro x ⟨⟨hs, yb⟩, xs, ins, yu⟩ z hz
  obtain ⟨h1, h2, rfl⟩ := L53_some (hs := hs) (xs := xs) (ins := ins) (z := z) hz
  exact L53_core hs xs ins h1 h2
end Go.Proofs.Ytfknenaecihchaa.Am
