/- strings.Builder on the abstract machine: copyCheck, String. -/
import Derived.Test.YtmbpcjacbnloaaaAmSig
import Derived.Test.YtmbpcjacbnloaaaAmLexSig
import Derived.Shelf.Strings.Builder1
namespace Go.Proofs.Ytmbpcjacbnloaaa.Am
open Go
set_option autoImplicit false
set_option linter.unusedVariables false
set_option linter.unusedSimpArgs false

set_option maxHeartbeats 1000000 in
set_option maxRecDepth 100000 in
theorem cc_used (b : Nat) (w : World) (h0 : w.cell? ⟨b, 0, none⟩ = some (.pointer (some ⟨b, 0, none⟩))) :
    Calls Try.prog 27 #[.pointer (some ⟨b, 0, none⟩)] w fun e w' => e = .returned (.tuple #[]) ∧ w' = w := by
  obtain ⟨j, hj, _⟩ := Option.map_eq_some_iff.1 (show (Try.prog.info? 50).map (·.size) = some 2 from by kernel_rfl)
  go_enter Try.func27, Try.ntmps27
  go_wp2
  rw [Lib.run_neq_ptr_same w _ Try.underlying48 hj]
  go_wp2
  go_end0
  exact ⟨rfl, rfl⟩

set_option maxHeartbeats 1000000 in
set_option maxRecDepth 100000 in
theorem cc_fresh (b : Nat) (w : World) (h0 : w.cell? ⟨b, 0, none⟩ = some (.pointer none)) (hsh : w.shape? b = some (50, 2)) (hfz : w.frozen? ⟨b, 0, none⟩ = false) :
    Calls Try.prog 27 #[.pointer (some ⟨b, 0, none⟩)] w fun e w' => e = .returned (.tuple #[]) ∧ w' = w.setCell ⟨b, 0, none⟩ (.pointer (some ⟨b, 0, none⟩)) := by
  obtain ⟨j, hj, hjs⟩ := Option.map_eq_some_iff.1 (show (Try.prog.info? 50).map (·.size) = some 2 from by kernel_rfl)
  have hl : liesAt Try.prog Try.prog.depth 50 (2 / Try.prog.cellsOf 50) 0 50 1 = true := by kernel_rfl
  go_enter Try.func27, Try.ntmps27
  go_wp2
  rw [Lib.run_to_unsafe w ⟨b, 0, none⟩ Try.underlying48 Try.underlying65 hj (by rw [hjs]; decide) hsh (Nat.zero_lt_succ 1)]
  simp only [Result.andThen]
  rw [Oper.upon_value]
  go_wp2
  rw [run_callFunc_extern Try.func36 (by kernel_rfl) (by kernel_rfl) (by kernel_rfl) (e := Extern.AbiNoEscape.same) (by kernel_rfl)]
  rw [Lib.run_noEscape]
  simp only [Result.andThen]
  rw [Oper.upon_value]
  go_wp2
  rw [Lib.run_from_unsafe w ⟨b, 0, none⟩ Try.underlying65 Try.underlying48 hj hsh hl]
  simp only [Result.andThen]
  rw [Oper.upon_value]
  go_wp2
  go_end0
  exact ⟨rfl, rfl⟩

set_option maxHeartbeats 1000000 in
set_option maxRecDepth 100000 in
theorem str_some (b g : Nat) (p : Value) (l : List UInt8) (cap : Nat) (cur : Array Value) (w : World) (h0 : l ≠ []) (hbk : w.heap[b]? = some (.cells #[p, .slice (some ⟨g, 0, none⟩) l.length cap] 50 (0, 0)))
    (hg : w.heap[g]? = some (.cells cur 5 (0, 0))) (hcap : l.length ≤ cap) (hcur : cap ≤ cur.size) (h63 : l.length ≤ 9223372036854775807) (hc : ∀ (j : Nat) (x : UInt8), l[j]? = some x → cur[j]? = some (.int .u8 x.toNat)) :
    Calls Try.prog 20 #[.pointer (some ⟨b, 0, none⟩)] w fun e w' => e = .returned (.string ⟨l.toArray⟩) ∧ w' = w.drew.freeze ⟨g, 0, none⟩ l.length := by
  have hl0 : l.length ≠ 0 := by simpa using h0
  have mixed : Try.prog.follows .mixedOrders = true := by kernel_rfl
  have c1 : w.drew.cell? ⟨b, 1, none⟩ = some (.slice (some ⟨g, 0, none⟩) l.length cap) := by
    have : w.drew.heap[b]? = some (.cells #[p, .slice (some ⟨g, 0, none⟩) l.length cap] 50 (0, 0)) := hbk
    rw [Lib.cell_of_heap this]; rfl
  have hSD : (Builtin.unsafeSliceData_ #[22] 60 #[.slice (some ⟨g, 0, none⟩) l.length cap]).run Try.prog w.drew = .ok (.pointer (some ⟨g, 0, none⟩)) w.drew :=
    Lib.run_unsafeSliceData_row _ _ _ _ _ _ (by omega)
  have hUS : (Builtin.unsafeString_ #[60, 3] 9 #[.pointer (some ⟨g, 0, none⟩), .int .i64 l.length]).run Try.prog w.drew = .ok (.string ⟨l.toArray⟩) (w.drew.freeze ⟨g, 0, none⟩ l.length) := by
    refine Lib.run_unsafeString_row w.drew 60 3 9 5 Try.underlying60 (by kernel_rfl) g cur.size (by have hg' : w.drew.heap[g]? = some (.cells cur 5 (0, 0)) := hg; simp [World.shape?, hg']) l h0 (by omega) h63 ?_
    intro j x hx
    have hg' : w.drew.heap[g]? = some (.cells cur 5 (0, 0)) := hg
    have := hc j x hx
    by_cases hj : j = 0
    · subst hj; simpa [World.cell?, Addr.add, hg'] using this
    · simpa [World.cell?, Addr.add, hg', hj] using this
  go_enter Try.func20, Try.ntmps20
  go_wp2
  go_region_o
  all_goals (go_wp2; go_ret; exact ⟨rfl, rfl⟩)

set_option maxHeartbeats 1000000 in
set_option maxRecDepth 100000 in
theorem str_none (b : Nat) (p : Value) (a : Option Addr) (cap : Nat) (w : World) (hbk : w.heap[b]? = some (.cells #[p, .slice a 0 cap] 50 (0, 0))) (ha : ∀ ad, a = some ad → ∃ sh, w.shape? ad.block = some sh) :
    Calls Try.prog 20 #[.pointer (some ⟨b, 0, none⟩)] w fun e w' => e = .returned (.string ⟨#[]⟩) ∧ RowKit.Below w.heap.size w w' := by
  have mixed : Try.prog.follows .mixedOrders = true := by kernel_rfl
  have hb : b < w.heap.size := (Array.getElem?_eq_some_iff.1 hbk).1
  have c1 : w.drew.cell? ⟨b, 1, none⟩ = some (.slice a 0 cap) := by
    have : w.drew.heap[b]? = some (.cells #[p, .slice a 0 cap] 50 (0, 0)) := hbk
    rw [Lib.cell_of_heap this]; rfl
  obtain ⟨q, w1, hSD, c2, hbel⟩ : ∃ q w1, (Builtin.unsafeSliceData_ #[22] 60 #[.slice a 0 cap]).run Try.prog w.drew = .ok (.pointer q) w1 ∧ w1.cell? ⟨b, 1, none⟩ = some (.slice a 0 cap) ∧ RowKit.Below w.heap.size w w1 := by
    cases a with
    | none => exact ⟨none, w.drew, Lib.run_unsafeSliceData_nil _ _ _ _ _, c1, ⟨rfl, rfl, rfl, Nat.le_refl _, fun _ _ => rfl⟩⟩
    | some ad =>
      by_cases hc : cap = 0
      · subst hc
        obtain ⟨sh, hsh⟩ := ha ad rfl
        have hsh' : w.drew.shape? ad.block = some sh := hsh
        refine ⟨_, _, Lib.run_unsafeSliceData_zero _ _ _ 5 Try.underlying60 ad 0 sh hsh', ?_, ⟨rfl, rfl, rfl, by simp, fun k hk => (RowKit.Below.heap_alloc w.drew _ k hk).trans rfl⟩⟩
        have hbk' : w.drew.heap[b]? = some (.cells #[p, .slice (some ad) 0 0] 50 (0, 0)) := hbk
        have := RowKit.Below.heap_alloc w.drew (.view ad 5) b hb
        rw [hbk'] at this
        rw [Lib.cell_of_heap this]; rfl
      · exact ⟨some ad, w.drew, Lib.run_unsafeSliceData_row _ _ _ _ _ _ hc, c1, ⟨rfl, rfl, rfl, Nat.le_refl _, fun _ _ => rfl⟩⟩
  have hUS : (Builtin.unsafeString_ #[60, 3] 9 #[.pointer q, .int .i64 0]).run Try.prog w1 = .ok (.string .empty) w1 := Lib.run_unsafeString_none _ _ _ _ _
  go_enter Try.func20, Try.ntmps20
  go_wp2
  go_region_o
  all_goals (go_wp2; go_ret; exact ⟨rfl, hbel⟩)

/-- blocks that nobody had -/
theorem below_ok {P : Program} {G : Sig} {F N : Nat → Prop} {c : Cf G} {w' : World} (ok : OK P G F N c) (hb : RowKit.Below c.w.heap.size c.w w') : Tr G F c ⟨w', c.m, c.os⟩ ∧ OK P G F N ⟨w', c.m, c.os⟩ := by
  have t : Tr G F c ⟨w', c.m, c.os⟩ := {
    sys := ⟨hb.os, hb.tape, hb.output⟩, size := hb.size, keep := fun b h _ => hb.block b h
    ext := fun o obj ho hf => by
      refine ⟨obj, ho, ?_⟩
      by_cases hd : obj = .dead
      · exact .inl hd
      · exact .inr ⟨Same.refl_live' hd hf, rfl⟩
    av := fun b _ h => h
    lv := fun b _ h => h }
  refine ⟨t, ?_⟩
  constructor
  · exact ok.len
  · intro j y β h1 h2
    exact (ok.obj j y β h1 h2).mono t fun hl b hm => hb.block b (ok.own j y β h1 h2 hl b hm).2
  · intro j y β h1 h2 hy b hm
    have := ok.own j y β h1 h2 hy b hm
    exact ⟨this.1, Nat.lt_of_lt_of_le this.2 hb.size⟩
  · exact ok.wr
  · exact ok.apart
  · exact fun b h => Nat.lt_of_lt_of_le (ok.low b h) hb.size
  · exact ok.gl.step t

/-- an object that is no more, its blocks changed -/
theorem die {P : Program} {G : Sig} {F N : Nat → Prop} {c : Cf G} {o : Nat} {β : Blk} {x : AObj G.T G.U} {w' : World} (ok : OK P G F N c) (ho : c.os[o]? = some x) (hm : c.m[o]? = some β) (mu : isMut x = true)
    (sys : w'.os = c.w.os ∧ w'.tape = c.w.tape ∧ w'.output = c.w.output) (size : w'.heap.size = c.w.heap.size) (keep : ∀ b, b ∉ β.fp → w'.heap[b]? = c.w.heap[b]?) :
    Tr G F c ⟨w', c.m, setObj c.os o .dead⟩ ∧ OK P G F N ⟨w', c.m, setObj c.os o .dead⟩ := by
  have hlt : o < c.os.length := (List.getElem?_eq_some_iff.1 ho).1
  have t : Tr G F c ⟨w', c.m, setObj c.os o .dead⟩ := {
    sys := sys, size := by show _ ≤ w'.heap.size; omega, keep := fun b hb hh => keep b (hh o x β ho hm mu)
    ext := fun o' obj ho' hf => by
      show ∃ obj', (setObj c.os o .dead)[o']? = some obj' ∧ _
      unfold setObj
      by_cases e : o' = o
      · subst e; exact ⟨.dead, by simp [hlt], .inl rfl⟩
      · refine ⟨obj, by rw [List.getElem?_set_ne (Ne.symm e)]; exact ho', ?_⟩
        by_cases hd : obj = .dead
        · exact .inl hd
        · exact .inr ⟨Same.refl_live' hd hf, rfl⟩
    av := fun b hb h => by
      rcases h with h | ⟨o', obj, β', h1, h2, h3, h4⟩
      · exact .inl h
      · rcases kill_inv hlt h1 with rfl | ⟨hne, h5⟩
        · simp [isMut] at h3
        · exact .inr ⟨o', obj, β', h5, h2, h3, h4⟩
    lv := fun b hb h => by
      obtain ⟨o', obj, β', h1, h2, h3, h4⟩ := h
      rcases kill_inv hlt h1 with rfl | ⟨hne, h5⟩
      · simp [isLive] at h3
      · exact ⟨o', obj, β', h5, h2, h3, h4⟩ }
  refine ⟨t, ?_⟩
  constructor
  · show c.m.length = (setObj c.os o .dead).length
    unfold setObj; simp [ok.len]
  · intro j y β' h1 h2
    rcases kill_inv hlt h1 with rfl | ⟨hne, h5⟩
    · trivial
    · refine (ok.obj j y β' h5 h2).mono t fun hl b hb => keep b fun hb' => ?_
      exact ok.apart j o y x β' β h5 ho h2 hm hl (isMut_live mu) hne b hb hb'
  · intro j y β' h1 h2 hy b hb
    rcases kill_inv hlt h1 with rfl | ⟨hne, h5⟩
    · simp [isLive] at hy
    · have := ok.own j y β' h5 h2 hy b hb
      exact ⟨this.1, by show b < w'.heap.size; omega⟩
  · intro j y β' h1 h2 hy b hb
    rcases kill_inv hlt h1 with rfl | ⟨hne, h5⟩
    · simp [isMut] at hy
    · exact ok.wr j y β' h5 h2 hy b hb
  · intro j j' y y' β1 β2 h1 h2 h3 h4 hy hy' hne b hb hb'
    rcases kill_inv hlt h1 with rfl | ⟨_, h5⟩
    · simp [isLive] at hy
    rcases kill_inv hlt h2 with rfl | ⟨_, h6⟩
    · simp [isLive] at hy'
    exact ok.apart j j' y y' β1 β2 h5 h6 h3 h4 hy hy' hne b hb hb'
  · intro b hb; have := ok.low b hb; show b < w'.heap.size; omega
  · exact ok.gl.step t

def bShL : ShL := .cons (.nsp 0) (.cons (.own 1) .nil)
theorem list_one {α : Type} {l : List α} (h : 1 = l.length) : ∃ a, l = [a] := by
  match l, h with | [a], _ => exact ⟨a, rfl⟩

theorem arr2_of {cs : Array Value} (h : cs.size = 2) : ∃ p q, cs = #[p, q] := by
  obtain ⟨l⟩ := cs
  match l, h with | [p, q], _ => exact ⟨p, q, rfl⟩

noncomputable def L27 (xs : List Int) : Option (Unit × (Unit × Unit × Unit) × List Int × Unit) := some ((), ((), (), ()), xs, ())
noncomputable def L27e : Ent G := ⟨27, .cons (.ptr 0 0) .nil, [.box 50 bShL, .arr 1 true], .tup .nil, [.box 50 bShL, .arr 1 true], fun x y => some ((), y)⟩
theorem L27_ok : EntOK Try.prog G L27e := by
  intro x y z hz
  cases hz
  intro F w m vals ok hlen hargs
  obtain ⟨v, rfl⟩ := list_one (l := vals) hlen
  have hv : VR Try.prog G F ⟨w, m, encO G L27e.aos y⟩ (.ptr 0 0) v := hargs 0 _ v rfl rfl
  have h0 : (encO G L27e.aos y)[0]? = some (.box 50 [.nsp 0, .own 1]) := rfl
  cases hv with
  | ptrDead _ _ _ hd => rw [h0] at hd; cases hd
  | ptr _ _ obj β b ho hl hm hb =>
    rw [h0] at ho; cases ho
    obtain ⟨b', cs, hb', hfp, hh, hn, hrow⟩ := ok.obj 0 _ β h0 hm
    rw [hb] at hb'; cases hb'
    have hh : w.heap[b]? = some (.cells cs 50 (0, 0)) := hh
    obtain ⟨p, q, rfl⟩ := arr2_of (by simpa using hn)
    obtain ⟨p', hp', hp⟩ := hrow 0 (.nsp 0) rfl
    cases (show p = p' from by simpa using hp')
    have hbl := (ok.own 0 _ β h0 hm rfl b (by simp [hfp])).2
    have used : p = .pointer (some ⟨b, 0, none⟩) → Calls Try.prog 27 #[.pointer (some ⟨b, 0, none⟩)] w fun e w' => ∃ v m', e = .returned v ∧ Tr G F ⟨w, m, encO G L27e.aos y⟩ ⟨w', m', encO G L27e.aos y⟩ ∧ OK Try.prog G F (Nof ⟨w, m, encO G L27e.aos y⟩) ⟨w', m', encO G L27e.aos y⟩ ∧ VR Try.prog G F ⟨w', m', encO G L27e.aos y⟩ (.tup []) v := by
      rintro rfl
      refine (cc_used b w (by rw [Lib.cell_of_heap hh]; rfl)).mono ?_
      rintro e w' ⟨rfl, rfl⟩
      exact ⟨_, m, rfl, Tr.refl F _, ok, .tup _ _ rfl (by simp)⟩
    cases hp with
    | nspDead _ _ hd => rw [h0] at hd; cases hd
    | nsp _ obj β2 b2 ho2 hl2 hm2 hb2 =>
      have hm2 : m[0]? = some β2 := hm2
      have hm : m[0]? = some β := hm
      rw [hm] at hm2; cases hm2
      rw [hb] at hb2; cases hb2
      exact used rfl
    | nspNil _ =>
      refine (cc_fresh b w (by rw [Lib.cell_of_heap hh]; rfl) (by simp [World.shape?, hh]) (Lib.frozen_of_heap hh 0)).mono ?_
      rintro e w' ⟨rfl, rfl⟩
      have hh' : (w.setCell ⟨b, 0, none⟩ (.pointer (some ⟨b, 0, none⟩))).heap[b]? = some (.cells #[.pointer (some ⟨b, 0, none⟩), q] 50 (0, 0)) := by
        simp [World.setCell, Array.getElem?_modify, hh]
      have ch : Chg ⟨w, m, encO G L27e.aos y⟩ 0 β (.box 50 [.nsp 0, .own 1]) (.box 50 [.nsp 0, .own 1]) (w.setCell ⟨b, 0, none⟩ (.pointer (some ⟨b, 0, none⟩))) := {
        ho := h0, hm := hm, mu := rfl, sys := ⟨rfl, rfl, rfl⟩, size := by simp [World.setCell]
        keep := fun b2 hb2 => by
          have : b ≠ b2 := by rintro rfl; exact hb2 (by simp [hfp])
          simp [World.setCell, Array.getElem?_modify, this]
        same := trivial }
      have tr := ch.tr (F := F)
      have es : setObj (encO G L27e.aos y) 0 (.box 50 [.nsp 0, .own 1]) = encO G L27e.aos y := rfl
      have hob : ObjR Try.prog G F (chgCf ⟨w, m, encO G L27e.aos y⟩ 0 (.box 50 [.nsp 0, .own 1]) (w.setCell ⟨b, 0, none⟩ (.pointer (some ⟨b, 0, none⟩)))) β (.box 50 [.nsp 0, .own 1]) := by
        refine ⟨b, _, hb, hfp, hh', rfl, fun j d hd => ?_⟩
        match j, hd with
        | 0, hd => cases hd; exact ⟨_, rfl, .nsp 0 (.box 50 [.nsp 0, .own 1]) β b rfl rfl hm hb⟩
        | 1, hd =>
          cases hd
          obtain ⟨u, hu, hr⟩ := hrow 1 (.own 1) rfl
          exact ⟨u, by simpa using hu, hr.mono tr⟩
        | j + 2, hd => simp at hd
      exact ⟨_, m, rfl, tr, ch.ok ok hob, .tup _ _ rfl (by simp)⟩

def byteOk (n : Int) : Bool := decide (0 ≤ n) && decide (n < 256)
noncomputable def L20 (xs : List Int) : Option (ByteArray × (Unit × Unit × Unit) × Unit × Unit) := bif decide (xs.length ≤ maxSz) && xs.all byteOk then some (bytesOfInts xs, ((), (), ()), (), ()) else none
noncomputable def L20e : Ent G := ⟨20, .cons (.ptr 0 0) .nil, [.box 50 bShL, .arr 1 true], .str, [.box 50 bShL, .dead], fun x y => L20 y.2.1⟩
theorem L20_some {xs : List Int} {z : ByteArray × (Unit × Unit × Unit) × Unit × Unit} (h : L20 xs = some z) : xs.length ≤ maxSz ∧ xs.all byteOk = true ∧ z = (bytesOfInts xs, ((), (), ()), (), ()) := by
  unfold L20 at h
  cases hc : (decide (xs.length ≤ maxSz) && xs.all byteOk) with
  | false => rw [hc] at h; cases h
  | true =>
    rw [hc] at h; cases h
    simp only [Bool.and_eq_true, decide_eq_true_eq] at hc
    exact ⟨hc.1, hc.2, rfl⟩
theorem arr_inj {T U : Nat → Type} {k k' : Nat} {xs : List (T k)} {ys : List (T k')} {v v' : Bool} (h : some (AObj.arr k xs v : AObj T U) = some (.arr k' ys v')) : ∃ e : k = k', e ▸ xs = ys := by cases h; exact ⟨rfl, rfl⟩
theorem L20_core (xs : List Int) (hlen2 : xs.length ≤ maxSz) (hall : xs.all byteOk = true) :
    SoundCall Try.prog G 20 [.ptr 0 0] [.box 50 [.nsp 0, .own 1], .arr 1 xs true] (.lit (.string (bytesOfInts xs))) [.box 50 [.nsp 0, .own 1], .dead] := by
  intro F w m vals ok hlen hargs
  obtain ⟨v, rfl⟩ := list_one (l := vals) hlen
  have hv := hargs 0 _ v rfl rfl
  generalize hos : ([.box 50 [.nsp 0, .own 1], .arr 1 xs true] : List (AObj G.T G.U)) = os at ok hargs hv ⊢
  have h0 : os[0]? = some (.box 50 [.nsp 0, .own 1]) := by rw [← hos]; rfl
  have h1 : os[1]? = some (.arr 1 xs true) := by rw [← hos]; rfl
  have hos2 : ([.box 50 [.nsp 0, .own 1], .dead] : List (AObj G.T G.U)) = setObj os 1 .dead := by rw [← hos]; rfl
  rw [hos2]
  cases hv with
  | ptrDead _ _ _ hd => rw [h0] at hd; cases hd
  | ptr _ _ obj β b ho hl hm hb =>
    rw [h0] at ho; cases ho
    obtain ⟨b', cs, hb', hfp, hh, hn, hrow⟩ := ok.obj 0 _ β h0 hm
    rw [hb] at hb'; cases hb'
    have hh : w.heap[b]? = some (.cells cs 50 (0, 0)) := hh
    obtain ⟨p, q, rfl⟩ := arr2_of (by simpa using hn)
    obtain ⟨q', hq', hq⟩ := hrow 1 (.own 1) rfl
    cases (show q = q' from by simpa using hq')
    cases hq with
    | ownDead _ _ _ _ hd => rw [h1] at hd; cases hd
    | ownNil _ k wr γ a ho2 hm2 hb2 ha =>
      obtain ⟨e3, e4⟩ := arr_inj (h1.symm.trans ho2)
      subst e3
      have e4 : xs = [] := e4
      subst e4
      have ea : a = none := ha rfl
      subst ea
      refine (str_none b p none 0 w hh (fun ad h => by cases h)).mono ?_
      rintro e w' ⟨rfl, hbel⟩
      obtain ⟨tr1, ok1⟩ := below_ok (c := ⟨w, m, os⟩) ok hbel
      obtain ⟨tr2, ok2⟩ := die (w' := w') ok1 h1 hm2 rfl ⟨rfl, rfl, rfl⟩ rfl (fun _ _ => rfl)
      exact ⟨_, m, rfl, tr1.trans ok1 tr2, ok2, .lit _⟩
    | own _ k xs2 wr γ g cap ho2 hm2 hb2 hcap hcn =>
      obtain ⟨e3, e4⟩ := arr_inj (h1.symm.trans ho2)
      subst e3
      have e4 : xs = xs2 := e4
      subst e4
      obtain ⟨hk, hor⟩ := ok.obj 1 _ γ h1 hm2
      rcases hor with ⟨hnn, _⟩ | ⟨g', cur, hg', hfg, hhg, hszg, hle, hcell⟩
      · rw [hb2] at hnn; cases hnn
      rw [hb2] at hg'; cases hg'
      have e1 : esz Try.prog G 1 = 1 := by kernel_rfl
      rw [e1] at hle hcn
      have hhg : w.heap[g]? = some (.cells cur 5 (0, 0)) := hhg
      by_cases hne : xs = []
      · subst hne
        refine (str_none b p (some ⟨g, 0, none⟩) cap w hh (fun ad h => by cases h; exact ⟨_, by simp [World.shape?, hhg]; rfl⟩)).mono ?_
        rintro e w' ⟨rfl, hbel⟩
        obtain ⟨tr1, ok1⟩ := below_ok (c := ⟨w, m, os⟩) ok hbel
        obtain ⟨tr2, ok2⟩ := die (w' := w') ok1 h1 hm2 rfl ⟨rfl, rfl, rfl⟩ rfl (fun _ _ => rfl)
        exact ⟨_, m, rfl, tr1.trans ok1 tr2, ok2, .lit _⟩
      let l : List UInt8 := List.map (fun n : Int => UInt8.ofNat n.toNat) xs
      have hll : l.length = List.length (α := Int) xs := List.length_map ..
      have hl0 : l ≠ [] := by
        intro e
        have : List.length (α := Int) xs = 0 := by rw [← hll, e]; rfl
        have hx : xs = [] := List.eq_nil_of_length_eq_zero this
        exact hne hx
      have hcells : ∀ (j : Nat) (x : UInt8), l[j]? = some x → cur[j]? = some (.int .u8 x.toNat) := by
        intro j x hx
        have hx : (List.map (fun n : Int => UInt8.ofNat n.toNat) xs)[j]? = some x := hx
        rw [List.getElem?_map, Option.map_eq_some_iff] at hx
        obtain ⟨n, hn1, rfl⟩ := hx
        obtain ⟨u, hu, hr⟩ := hcell j n hn1 0 (.lit (.int .u8 n)) rfl
        cases hr
        rw [e1] at hu
        have hr2 : byteOk n = true := List.all_eq_true.1 hall n (List.mem_of_getElem? hn1)
        simp only [byteOk, Bool.and_eq_true, decide_eq_true_eq] at hr2
        have : ((UInt8.ofNat n.toNat).toNat : Int) = n := by
          simp [UInt8.toNat_ofNat']; omega
        rw [this]; simpa using hu
      refine (str_some b g p l cap cur w hl0 (by rw [hll]; exact hh) hhg (by rw [hll]; exact hcap) (by rw [hszg]; omega) (by rw [hll]; unfold maxSz at hlen2; exact Nat.le_trans hlen2 (by omega)) hcells).mono ?_
      rintro e w' ⟨rfl, rfl⟩
      have hkeep : ∀ b2, b2 ∉ γ.fp → (w.drew.freeze ⟨g, 0, none⟩ l.length).heap[b2]? = w.heap[b2]? := fun b2 hb2 => by
        have : g ≠ b2 := by rintro rfl; exact hb2 (by simp [hfg])
        unfold World.freeze
        split
        · rfl
        · show (Array.modify w.heap g _)[b2]? = _
          simp [Array.getElem?_modify, this]
      have hsz : (w.drew.freeze ⟨g, 0, none⟩ l.length).heap.size = w.heap.size := by
        unfold World.freeze
        split
        · rfl
        · show (Array.modify w.heap g _).size = _
          simp
      obtain ⟨tr, ok'⟩ := die (w' := w.drew.freeze ⟨g, 0, none⟩ l.length) ok h1 hm2 rfl (by unfold World.freeze; split <;> exact ⟨rfl, rfl, rfl⟩) hsz hkeep
      refine ⟨_, m, rfl, tr, ok', ?_⟩
      exact .lit _
theorem L20_ok : EntOK Try.prog G L20e := by
  rintro x ⟨yb, xs, yu⟩ z hz
  obtain ⟨hlen2, hall, rfl⟩ := L20_some (xs := xs) (z := z) hz
  exact L20_core xs hlen2 hall
end Go.Proofs.Ytmbpcjacbnloaaa.Am
