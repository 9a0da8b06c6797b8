/- What the library does, off the shelf. -/
import Derived.Test.YtmbpcjacbnloaaaDoorAmTextSig
import Derived.Shelf.Strings.SplitShaped
import Derived.Shelf.Strings.Shaped
import Derived.Shelf.Strings.OnBuilder
namespace Go.Proofs
open Go.Shelf
def Tryd.lays146_ren : Go.Shelf.Ren := ⟨fun | 146 => 21 | 221 => 31 | 268 => 36 | 138 => 37 | 143 => 26 | 195 => 44 | 197 => 45 | 218 => 46 | 219 => 33 | 260 => 49 | 217 => 38 | 225 => 39 | 224 => 40 | 267 => 41 | 266 => 47 | 314 => 48 | n => n, fun | 9 => 9 | 31 => 28 | 3 => 3 | 4 => 4 | 0 => 0 | 105 => 64 | 21 => 21 | 5 => 5 | 46 => 59 | 119 => 69 | 139 => 72 | 138 => 71 | 146 => 67 | 51 => 66 | n => n, fun | 1 => 0 | 3 => 1 | 4 => 2 | n => n⟩
theorem Tryd.lays146 : Go.Proofs.LaysM.n146 Tryd.prog Tryd.lays146_ren := {
  mixed := by kernel_rfl
  f138 := Tryd.func37.trans (congrArg some (by kernel_rfl))
  f143 := Tryd.func26.trans (congrArg some (by kernel_rfl))
  f146 := Tryd.func21.trans (congrArg some (by kernel_rfl))
  f195 := Tryd.func44.trans (congrArg some (by kernel_rfl))
  f197 := Tryd.func45.trans (congrArg some (by kernel_rfl))
  f217 := Tryd.func38.trans (congrArg some (by kernel_rfl))
  f218 := Tryd.func46.trans (congrArg some (by kernel_rfl))
  f219 := Tryd.func33.trans (congrArg some (by kernel_rfl))
  f221 := Tryd.func31.trans (congrArg some (by kernel_rfl))
  f224 := Tryd.func40.trans (congrArg some (by kernel_rfl))
  f225 := Tryd.func39.trans (congrArg some (by kernel_rfl))
  f260 := Tryd.func49.trans (congrArg some (by kernel_rfl))
  f266 := Tryd.func47.trans (congrArg some (by kernel_rfl))
  f267 := Tryd.func41.trans (congrArg some (by kernel_rfl))
  f268 := Tryd.func36.trans (congrArg some (by kernel_rfl))
  f314 := Tryd.func48.trans (congrArg some (by kernel_rfl))
  t0 := Tryd.underlying0
  a0 := Tryd.isAgg0
  z0 := Tryd.sizeOf0
  v0 := Tryd.zeroValue0
  t3 := Tryd.underlying3
  a3 := Tryd.isAgg3
  z3 := Tryd.sizeOf3
  v3 := Tryd.zeroValue3
  t4 := Tryd.underlying4
  a4 := Tryd.isAgg4
  z4 := Tryd.sizeOf4
  v4 := Tryd.zeroValue4
  t5 := Tryd.underlying5
  a5 := Tryd.isAgg5
  z5 := Tryd.sizeOf5
  v5 := Tryd.zeroValue5
  t9 := Tryd.underlying9
  a9 := Tryd.isAgg9
  z9 := Tryd.sizeOf9
  v9 := Tryd.zeroValue9
  t21 := Tryd.underlying21
  a21 := Tryd.isAgg21
  z21 := Tryd.sizeOf21
  v21 := Tryd.zeroValue21
  t31 := Tryd.underlying28
  a31 := Tryd.isAgg28
  z31 := Tryd.sizeOf28
  v31 := Tryd.zeroValue28
  t46 := Tryd.underlying59
  a46 := Tryd.isAgg59
  z46 := Tryd.sizeOf59
  v46 := Tryd.zeroValue59
  t51 := Tryd.underlying66
  a51 := Tryd.isAgg66
  z51 := Tryd.sizeOf66
  v51 := Tryd.zeroValue66
  t105 := Tryd.underlying64
  a105 := Tryd.isAgg64
  z105 := Tryd.sizeOf64
  v105 := Tryd.zeroValue64
  t119 := Tryd.underlying69
  a119 := Tryd.isAgg69
  z119 := Tryd.sizeOf69
  t138 := Tryd.underlying71
  a138 := Tryd.isAgg71
  z138 := Tryd.sizeOf71
  v138 := Tryd.zeroValue71
  t139 := Tryd.underlying72
  a139 := Tryd.isAgg72
  z139 := Tryd.sizeOf72
  v139 := Tryd.zeroValue72
  t146 := Tryd.underlying67
  a146 := Tryd.isAgg67
  z146 := Tryd.sizeOf67
  v146 := Tryd.zeroValue67
  g1 := by kernel_rfl
  g3 := by kernel_rfl
  g4 := by kernel_rfl
  i0 := by kernel_rfl
  i3 := by kernel_rfl
  i4 := by kernel_rfl
  i5 := by kernel_rfl
  i9 := by kernel_rfl
  i21 := by kernel_rfl
  i31 := by kernel_rfl
  i46 := by kernel_rfl
  i51 := by kernel_rfl
  i105 := by kernel_rfl
  i138 := by kernel_rfl
  i139 := by kernel_rfl
  i146 := by kernel_rfl
  m1 := by kernel_rfl
  s1_3 := fun w h => Go.Proofs.cell_of_shapedOpen_int (zero := #[.int .i64 0]) (t := 3) h (of_decide_eq_true (by kernel_rfl)) (by kernel_rfl) rfl (by kernel_rfl) (by kernel_rfl) Tryd.underlying3
  m3 := by kernel_rfl
  m4 := by kernel_rfl }
def Tryd.lays143_ren : Go.Shelf.Ren := ⟨fun | 143 => 26 | 219 => 33 | 217 => 38 | 225 => 39 | 224 => 40 | 267 => 41 | 266 => 47 | 314 => 48 | n => n, fun | 9 => 9 | 3 => 3 | 4 => 4 | 5 => 5 | 46 => 59 | 146 => 67 | 51 => 66 | n => n, fun | 1 => 0 | n => n⟩
theorem Tryd.lays143 : Go.Proofs.LaysM.n143 Tryd.prog Tryd.lays143_ren := {
  mixed := by kernel_rfl
  f143 := Tryd.func26.trans (congrArg some (by kernel_rfl))
  f217 := Tryd.func38.trans (congrArg some (by kernel_rfl))
  f219 := Tryd.func33.trans (congrArg some (by kernel_rfl))
  f224 := Tryd.func40.trans (congrArg some (by kernel_rfl))
  f225 := Tryd.func39.trans (congrArg some (by kernel_rfl))
  f266 := Tryd.func47.trans (congrArg some (by kernel_rfl))
  f267 := Tryd.func41.trans (congrArg some (by kernel_rfl))
  f314 := Tryd.func48.trans (congrArg some (by kernel_rfl))
  t3 := Tryd.underlying3
  a3 := Tryd.isAgg3
  z3 := Tryd.sizeOf3
  v3 := Tryd.zeroValue3
  t4 := Tryd.underlying4
  a4 := Tryd.isAgg4
  z4 := Tryd.sizeOf4
  v4 := Tryd.zeroValue4
  t5 := Tryd.underlying5
  a5 := Tryd.isAgg5
  z5 := Tryd.sizeOf5
  v5 := Tryd.zeroValue5
  t9 := Tryd.underlying9
  a9 := Tryd.isAgg9
  z9 := Tryd.sizeOf9
  v9 := Tryd.zeroValue9
  t46 := Tryd.underlying59
  a46 := Tryd.isAgg59
  z46 := Tryd.sizeOf59
  v46 := Tryd.zeroValue59
  t51 := Tryd.underlying66
  a51 := Tryd.isAgg66
  z51 := Tryd.sizeOf66
  v51 := Tryd.zeroValue66
  t146 := Tryd.underlying67
  a146 := Tryd.isAgg67
  z146 := Tryd.sizeOf67
  v146 := Tryd.zeroValue67
  g1 := by kernel_rfl
  i3 := by kernel_rfl
  i4 := by kernel_rfl
  i5 := by kernel_rfl
  i9 := by kernel_rfl
  i46 := by kernel_rfl
  i51 := by kernel_rfl
  i146 := by kernel_rfl
  m1 := by kernel_rfl
  s1_3 := fun w h => Go.Proofs.cell_of_shapedOpen_int (zero := #[.int .i64 0]) (t := 3) h (of_decide_eq_true (by kernel_rfl)) (by kernel_rfl) rfl (by kernel_rfl) (by kernel_rfl) Tryd.underlying3 }
def Tryd.lays156_ren : Go.Shelf.Ren := ⟨fun | 156 => 20 | 165 => 28 | 166 => 29 | 169 => 30 | 240 => 34 | 241 => 35 | 276 => 42 | 277 => 43 | n => n, fun | 31 => 28 | 9 => 9 | 3 => 3 | 4 => 4 | 0 => 0 | 20 => 20 | 72 => 46 | 76 => 50 | 70 => 44 | 37 => 25 | 75 => 49 | 127 => 56 | 164 => 60 | 5 => 5 | 80 => 41 | n => n, fun | n => n⟩
theorem Tryd.lays156 : Go.Proofs.Lays.n156 Tryd.prog Tryd.lays156_ren := {
  mixed := by kernel_rfl
  f156 := Tryd.func20.trans (congrArg some (by kernel_rfl))
  f165 := Tryd.func28.trans (congrArg some (by kernel_rfl))
  f166 := Tryd.func29.trans (congrArg some (by kernel_rfl))
  f169 := Tryd.func30.trans (congrArg some (by kernel_rfl))
  f240 := Tryd.func34.trans (congrArg some (by kernel_rfl))
  f241 := Tryd.func35.trans (congrArg some (by kernel_rfl))
  f276 := Tryd.func42.trans (congrArg some (by kernel_rfl))
  f277 := Tryd.func43.trans (congrArg some (by kernel_rfl))
  t0 := Tryd.underlying0
  a0 := Tryd.isAgg0
  z0 := Tryd.sizeOf0
  v0 := Tryd.zeroValue0
  t3 := Tryd.underlying3
  a3 := Tryd.isAgg3
  z3 := Tryd.sizeOf3
  v3 := Tryd.zeroValue3
  t4 := Tryd.underlying4
  a4 := Tryd.isAgg4
  z4 := Tryd.sizeOf4
  v4 := Tryd.zeroValue4
  t9 := Tryd.underlying9
  a9 := Tryd.isAgg9
  z9 := Tryd.sizeOf9
  v9 := Tryd.zeroValue9
  t20 := Tryd.underlying20
  a20 := Tryd.isAgg20
  z20 := Tryd.sizeOf20
  v20 := Tryd.zeroValue20
  t31 := Tryd.underlying28
  a31 := Tryd.isAgg28
  z31 := Tryd.sizeOf28
  v31 := Tryd.zeroValue28
  t37 := Tryd.underlying25
  a37 := Tryd.isAgg25
  z37 := Tryd.sizeOf25
  v37 := Tryd.zeroValue25
  t70 := Tryd.underlying44
  a70 := Tryd.isAgg44
  z70 := Tryd.sizeOf44
  v70 := Tryd.zeroValue44
  t72 := Tryd.underlying46
  a72 := Tryd.isAgg46
  z72 := Tryd.sizeOf46
  v72 := Tryd.zeroValue46
  t75 := Tryd.underlying49
  a75 := Tryd.isAgg49
  z75 := Tryd.sizeOf49
  v75 := Tryd.zeroValue49
  t76 := Tryd.underlying50
  a76 := Tryd.isAgg50
  z76 := Tryd.sizeOf50
  v76 := Tryd.zeroValue50
  t127 := Tryd.underlying56
  a127 := Tryd.isAgg56
  z127 := Tryd.sizeOf56
  v127 := Tryd.zeroValue56
  t164 := Tryd.underlying60
  a164 := Tryd.isAgg60
  z164 := Tryd.sizeOf60
  v164 := Tryd.zeroValue60 }
theorem Tryd.Builder_Extra_156 : Builder.Extra Tryd.prog Tryd.lays156_ren where
  sizeBuilder := by kernel_rfl
  liesBuilder := by kernel_rfl
  t5 := Tryd.underlying5
  a5 := Tryd.isAgg5
  z5 := Tryd.sizeOf5
  v5 := Tryd.zeroValue5
  infoByte := by kernel_rfl
  cellsByte := by kernel_rfl
  sizeByte := by kernel_rfl
  neB5 := by decide
end Go.Proofs
namespace Go.Proofs.YtmbpcjacbnloaaaDoor.Am
open Go Go.Proofs.Tryd
set_option autoImplicit false
set_option linter.unusedVariables false

theorem glib {F N : Nat → Prop} {w : World} {m : List Blk} (ok : OK prog G F N ⟨w, m, []⟩) : ∃ x : Int, w.cell? ⟨0, 0, none⟩ = some (.int .i64 x) := by
  obtain ⟨⟨v, h1, x, h2⟩, -⟩ := ok.gl 0 (fun v => ∃ m, v = .int .i64 m) rfl
  exact ⟨x, by rw [← h2]; exact h1⟩
theorem lib_ok {F N : Nat → Prop} {w w' : World} {m : List Blk} (ok : OK prog G F N ⟨w, m, []⟩) (hb : RowKit.Below w.heap.size w w') :
    Tr G F ⟨w, m, []⟩ ⟨w', m, []⟩ ∧ OK prog G F N ⟨w', m, []⟩ := by
  have tr : Tr G F ⟨w, m, []⟩ ⟨w', m, []⟩ := {
    sys := ⟨hb.os, hb.tape, hb.output⟩
    size := hb.size
    keep := fun b h _ => hb.block b h
    ext := fun o obj h => by simp at h
    av := fun b h hh => by
      rcases hh with hh | ⟨o, obj, β, h1, _⟩
      · exact .inl hh
      · simp at h1
    lv := fun b h hh => by obtain ⟨o, obj, β, h1, _⟩ := hh; simp at h1 }
  exact ⟨tr, { len := ok.len, obj := (fun o obj β h => by simp at h), own := (fun o obj β h => by simp at h), wr := (fun o obj β h => by simp at h), apart := (fun o o' obj obj' β β' h => by simp at h),
                low := (fun b h => Nat.lt_of_lt_of_le (ok.low b h) hb.size), gl := ok.gl.step tr }⟩
theorem esz2 : esz prog G 2 = 1 := (laws.len 2 (by decide) (⟨#[]⟩ : ByteArray)).symm
theorem two {l : List Value} (h : 2 = l.length) : ∃ a b, l = [a, b] := by
  match l, h with | [a, b], _ => exact ⟨a, b, rfl⟩
theorem op2 (x : ByteArray) {j : Nat} {d : AV G.T} (h : (G.op 2 x)[j]? = some d) : j = 0 ∧ d = .lit (.string x) := by
  match j, h with
  | 0, h => cases h; exact ⟨rfl, rfl⟩
  | j + 1, h => exact absurd h (by show ([] : List (AV G.T))[j]? ≠ _; simp)
/-- strings in a block of their own -/
theorem strs_new {F N : Nat → Prop} {w : World} {m : List Blk} {t : TypeId} (xs : List ByteArray) (ok : OK prog G F N ⟨w, m, []⟩) :
    VR prog G F ⟨w.alloc (.cells (xs.map Value.string).toArray t), m, []⟩ (.imm 2 (xs : List (G.T 2))) (.slice (some ⟨w.heap.size, 0, none⟩) xs.length xs.length) := by
  have hh : (w.alloc (.cells (xs.map Value.string).toArray t)).heap[w.heap.size]? = some (.cells (xs.map Value.string).toArray t (0, 0)) := heap_alloc_new w _
  refine VR.imm (P := prog) (G := G) 2 (xs : List (G.T 2)) (some ⟨w.heap.size, 0, none⟩) xs.length (fun i _ => .string (xs.getD i ⟨#[]⟩)) (by decide) (Nat.le_refl _) (fun i x hx j d hd => ?_) (fun i x hx j d hd => ?_)
  · obtain ⟨rfl, rfl⟩ := op2 x hd
    have hx' : xs[i]? = some x := hx
    refine ⟨_, rfl, ?_, ?_⟩
    · rintro (hf | ⟨o, obj, β, h, _⟩)
      · exact absurd (ok.low _ (.inl hf)) (Nat.lt_irrefl _)
      · simp at h
    · rw [esz2, add_plain]
      simp only [World.cell?, hh, Option.isSome_none, Bool.false_eq_true, if_false]
      simp [List.getD, hx']
      rfl
  · obtain ⟨rfl, rfl⟩ := op2 x hd
    have hx' : xs[i]? = some x := hx
    have e : xs.getD i ⟨#[]⟩ = x := by rw [List.getD, hx']; rfl
    rw [e]; exact .lit _

-- strings.Split ------------------------------------------------------------------------------------------------------------------
def splitF (s sep : ByteArray) : Option (List ByteArray × Unit) := bif decide (s.size < 4294967281) && decide (1 ≤ sep.size) then some (Lib.splitB sep 0 (Lib.countB s sep) s, ()) else none
theorem split_core {F N : Nat → Prop} {w : World} {m : List Blk} {s sep : ByteArray} {z : List ByteArray × Unit} (hz : splitF s sep = some z) (ok : OK prog G F N ⟨w, m, []⟩) :
    Calls prog 21 #[.string s, .string sep] w fun e w' => ∃ v m', e = .returned v ∧ Tr G F ⟨w, m, []⟩ ⟨w', m', []⟩ ∧ OK prog G F N ⟨w', m', []⟩ ∧ VR prog G F ⟨w', m', []⟩ (.imm 2 (z.1 : List (G.T 2))) v := by
  unfold splitF at hz
  cases hc : (decide (s.size < 4294967281) && decide (1 ≤ sep.size)) with
  | false => rw [hc] at hz; cases hz
  | true =>
  rw [hc] at hz
  cases hz
  simp only [Bool.and_eq_true, decide_eq_true_eq] at hc
  obtain ⟨mx, hm⟩ := glib (m := m) ok
  have L := Tryd.lays146
  refine (Any.strings_Split { L with } L.i9 s sep mx w hc.1 hm hc.2).mono ?_
  rintro e w' ⟨rfl, rfl⟩
  have hl := Lib.splitB_all sep hc.2 0 _ s rfl
  rw [← hl]
  generalize Lib.splitB sep 0 (Lib.countB s sep) s = xs
  have hb : RowKit.Below w.heap.size w (w.alloc (.cells (xs.map Value.string).toArray 9)) := ⟨rfl, rfl, rfl, by simp, fun k hk => RowKit.Below.heap_alloc w _ k hk⟩
  obtain ⟨tr, ok'⟩ := lib_ok ok hb
  exact ⟨_, m, rfl, tr, ok', strs_new xs ok⟩
noncomputable def splitE : Ent G := ⟨21, .cons .str (.cons .str .nil), [], .imm 2, [], fun x y => splitF x.1 x.2.1⟩
theorem split_ok : EntOK prog G splitE := by
  intro x y z hz F w m vals ok hlen hargs
  obtain ⟨a, b, rfl⟩ := two (l := vals) hlen
  have h1 := (hargs 0 (.lit (.string x.1)) a rfl rfl).lit_inv
  have h2 := (hargs 1 (.lit (.string x.2.1)) b rfl rfl).lit_inv
  subst h1 h2
  exact split_core hz ok

-- strings.Index ----------------------------------------------------------------------------------------------------------------------
def indexF (s sub : ByteArray) : Option (Int × Unit) := bif decide (s.size < 4294967281) then some (Lib.index s.data.toList sub.data.toList, ()) else none
theorem index_core {F N : Nat → Prop} {w : World} {m : List Blk} {s sep : ByteArray} {z : Int × Unit} (hz : indexF s sep = some z) (ok : OK prog G F N ⟨w, m, []⟩) :
    Calls prog 26 #[.string s, .string sep] w fun e w' => ∃ v m', e = .returned v ∧ Tr G F ⟨w, m, []⟩ ⟨w', m', []⟩ ∧ OK prog G F N ⟨w', m', []⟩ ∧ VR prog G F ⟨w', m', []⟩ (.lit (.int .i64 z.1)) v := by
  unfold indexF at hz
  cases hc : decide (s.size < 4294967281) with
  | false => rw [hc] at hz; cases hz
  | true =>
  rw [hc] at hz
  cases hz
  obtain ⟨mx, hm⟩ := glib (m := m) ok
  have L := Tryd.lays143
  refine (Any.strings_Index { L with } s sep mx w (of_decide_eq_true hc) hm).mono ?_
  rintro e w' ⟨rfl, rfl⟩
  exact ⟨_, m, rfl, Tr.refl F _, ok, .lit _⟩
noncomputable def indexE : Ent G := ⟨26, .cons .str (.cons .str .nil), [], .int .i64, [], fun x y => indexF x.1 x.2.1⟩
theorem index_ok : EntOK prog G indexE := by
  intro x y z hz F w m vals ok hlen hargs
  obtain ⟨a, b, rfl⟩ := two (l := vals) hlen
  have h1 := (hargs 0 (.lit (.string x.1)) a rfl rfl).lit_inv
  have h2 := (hargs 1 (.lit (.string x.2.1)) b rfl rfl).lit_inv
  subst h1 h2
  exact index_core hz ok

-- strings.Join -------------------------------------------------------------------------------------------------------------------------
def joinB (xs : List ByteArray) (sep : ByteArray) : ByteArray := ⟨(Lib.join (xs.map (·.data.toList)) sep.data.toList).toArray⟩
def joinF (xs : List ByteArray) (sep : ByteArray) : Option (ByteArray × Unit) := bif decide (xs.length ≤ 140737488355328) && decide ((joinB xs sep).size ≤ 140737488355328) then some (joinB xs sep, ()) else none
theorem join_core {F N : Nat → Prop} {w : World} {m : List Blk} {xs : List ByteArray} {sep : ByteArray} {v : Value} {z : ByteArray × Unit} (hz : joinF xs sep = some z) (ok : OK prog G F N ⟨w, m, []⟩) (hv : VR prog G F ⟨w, m, []⟩ (.imm 2 (xs : List (G.T 2))) v) :
    Calls prog 20 #[v, .string sep] w fun e w' => ∃ v m', e = .returned v ∧ Tr G F ⟨w, m, []⟩ ⟨w', m', []⟩ ∧ OK prog G F N ⟨w', m', []⟩ ∧ VR prog G F ⟨w', m', []⟩ (.lit (.string z.1)) v := by
  unfold joinF at hz
  cases hc : (decide (xs.length ≤ 140737488355328) && decide ((joinB xs sep).size ≤ 140737488355328)) with
  | false => rw [hc] at hz; cases hz
  | true =>
  rw [hc] at hz
  cases hz
  simp only [Bool.and_eq_true, decide_eq_true_eq] at hc
  have L := Tryd.lays156
  cases hv with
  | imm _ _ a cap f hk hcap hcc hvv =>
  have hcell : ∀ (i : Nat) (x : ByteArray), xs[i]? = some x → ∃ ad, a = some ad ∧ w.cell? (ad.add i) = some (.string x) := by
    intro i x hx
    obtain ⟨ad, h1, _, h3⟩ := hcc i x hx 0 (.lit (.string x)) rfl
    have h4 := (hvv i x hx 0 (.lit (.string x)) rfl).lit_inv
    rw [h4, esz2, Nat.mul_one, Nat.add_zero] at h3
    exact ⟨ad, h1, h3⟩
  have fin : Calls prog 20 #[.slice a xs.length cap, .string sep] w fun e w' => e = .returned (.string (joinB xs sep)) ∧ RowKit.Below w.heap.size w w' := by
    match xs, hcell, hc, hcap with
    | [], _, _, _ =>
      refine (Any.strings_Join_none L Tryd.Builder_Extra_156 a cap sep w).mono ?_
      rintro e w' ⟨rfl, rfl⟩
      exact ⟨rfl, RowKit.Below.refl _ _⟩
    | x :: r, hcell, hc, hcap =>
      obtain ⟨ad, rfl, h0⟩ := hcell 0 x rfl
      obtain ⟨b, o, sp⟩ := ad
      have hlt := World.block_lt_of_cell? w _ h0
      have hsp : sp = none := by
        have h0' : w.cell? ⟨b, o, sp⟩ = some (.string x) := h0
        unfold World.cell? at h0'
        split at h0'
        · cases sp with
          | none => rfl
          | some q => simp at h0'
        · cases h0'
      subst hsp
      refine Any.strings_Join L Tryd.Builder_Extra_156 b o cap (x :: r) sep w (fun j y hy => ?_) hlt hc.1 hcap (by have := hc.2; simpa [joinB, ByteArray.size] using this)
      obtain ⟨ad, e1, e2⟩ := hcell j y hy
      cases e1
      rw [add_plain] at e2
      exact e2
  refine fin.mono ?_
  rintro e w' ⟨rfl, hb⟩
  obtain ⟨tr, ok'⟩ := lib_ok ok hb
  exact ⟨_, m, rfl, tr, ok', .lit _⟩
noncomputable def joinE : Ent G := ⟨20, .cons (.imm 2) (.cons .str .nil), [], .str, [], fun x y => joinF x.1 x.2.1⟩
theorem join_ok : EntOK prog G joinE := by
  intro x y z hz F w m vals ok hlen hargs
  obtain ⟨a, b, rfl⟩ := two (l := vals) hlen
  have h1 := hargs 0 (.imm 2 x.1) a rfl rfl
  have h2 := (hargs 1 (.lit (.string x.2.1)) b rfl rfl).lit_inv
  subst h2
  exact join_core hz ok h1
end Go.Proofs.YtmbpcjacbnloaaaDoor.Am
