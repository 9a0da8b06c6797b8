/- From what is handed to a law to the abstract machine: arguments of any shape. -/
import Derived.Test.YtjfmfpnnjgfffaaAmSigW
import Derived.ChangeArms
import Derived.DataReads
import Derived.Below
namespace Go.Proofs.Ytjfmfpnnjgfffaa.Am
open Go
set_option autoImplicit false
set_option linter.unusedVariables false
set_option linter.unusedSimpArgs false

def cdOk (P : Program) (tb : Tb) (t : TypeId) : Cd → Bool
  | .int k => match P.underlying t with | some (.int k') => decide (k' = k) | _ => false
  | .bool => match P.underlying t with | some .bool => true | _ => false
  | .str => match P.underlying t with | some .string => true | _ => false
  | .imm k => decide (k < tb.n) && (match P.underlying t with | some (.slice e) => Nat.beq e (tb.kd k).E | _ => false)
def cdsOk (P : Program) (tb : Tb) : Nat → List (Nat × TypeId) → List Cd → Bool
  | _, [], [] => true
  | i, f :: fs, c :: cs => Nat.beq f.1 i && Nat.beq (P.cellsOf f.2) 1 && cdOk P tb f.2 c && cdsOk P tb (i + 1) fs cs
  | _, _, _ => false
def tyOk (P : Program) (tb : Tb) (E : TypeId) (cs : List Cd) : Bool :=
  Nat.beq (P.cellsOf E) cs.length && (match P.underlying E with
  | some (.struct fs) => cdsOk P tb 0 (fs.toList.map fun f => (f.offset, f.type)) cs
  | some (.array _ _) => false
  | _ => match cs with | [c] => cdOk P tb E c | _ => false)
def tysOk (P : Program) (tb : Tb) : Nat → Bool
  | 0 => true
  | k + 1 => tyOk P tb (tb.kd k).E (tb.kd k).cds && decide (szT P (tb.kd k).E = P.cellsOf (tb.kd k).E) && tysOk P tb k
theorem tysOk_get {P : Program} {tb : Tb} : ∀ {n k : Nat}, tysOk P tb n = true → k < n → tyOk P tb (tb.kd k).E (tb.kd k).cds = true ∧ szT P (tb.kd k).E = P.cellsOf (tb.kd k).E
  | n + 1, k, h, hk => by
    simp only [tysOk, Bool.and_eq_true, decide_eq_true_eq] at h
    by_cases e : k = n
    · subst e; exact h.1
    · exact tysOk_get h.2 (by omega)
theorem cdsOk_len {P : Program} {tb : Tb} : ∀ {i : Nat} {fs : List (Nat × TypeId)} {cs : List Cd}, cdsOk P tb i fs cs = true → fs.length = cs.length
  | _, [], [], _ => rfl
  | i, f :: fs, c :: cs, h => by
    simp only [cdsOk, Bool.and_eq_true] at h
    simp [cdsOk_len h.2]
theorem cdsOk_get {P : Program} {tb : Tb} : ∀ {i : Nat} {fs : List (Nat × TypeId)} {cs : List Cd}, cdsOk P tb i fs cs = true → ∀ {j : Nat} {f : Nat × TypeId} {c : Cd}, fs[j]? = some f → cs[j]? = some c → f.1 = i + j ∧ P.cellsOf f.2 = 1 ∧ cdOk P tb f.2 c = true
  | i, f :: fs, c :: cs, h, 0, f', c', hf, hc => by
    simp only [cdsOk, Bool.and_eq_true] at h
    simp at hf hc; subst hf; subst hc
    exact ⟨Nat.eq_of_beq_eq_true h.1.1.1, Nat.eq_of_beq_eq_true h.1.1.2, h.1.2⟩
  | i, f :: fs, c :: cs, h, j + 1, f', c', hf, hc => by
    simp only [cdsOk, Bool.and_eq_true] at h
    simp at hf hc
    have := cdsOk_get h.2 hf hc
    exact ⟨by omega, this.2⟩

section
variable {H : Type} {enc : TypeId × Value → H} {P : Program} {base : Nat} {spare : Nat → Bool} {held : Bool}
variable {tb : Tb} {zc : List Cd} {fms : List (Fam tb.T)} {zn jn : FuncId → Bool} {ini : TypeId → List Ini} {mode : FuncId → List Bool} {suf : TypeId → Bool} {gl : Nat → Option (Value → Prop)} {strict : Bool}

abbrev G0 (P : Program) (tb : Tb) (zc : List Cd) (fms : List (Fam tb.T)) (zn jn : FuncId → Bool) (ini : TypeId → List Ini) (mode : FuncId → List Bool) (suf : TypeId → Bool) (gl : Nat → Option (Value → Prop)) (strict : Bool) : Sig := sigW P tb zc fms zn jn ini mode suf gl strict
abbrev VR0 (P : Program) (G : Sig) (W : World) (d : AV G.T) (v : Value) : Prop := VR P G (fun _ => False) ⟨W, [], []⟩ d v

/-- what is handed over is not longer than memory -/
inductive SmV (G : Sig) : AV G.T → Prop where
  | int (k : IntKind) (n : Int) (h : (Lit.int k n).wf = true) : SmV G (.lit (.int k n))
  | bool (b : Bool) : SmV G (.lit (.bool b))
  | str (s : ByteArray) (h : s.size ≤ maxLen) : SmV G (.lit (.string s))
  | imm (k : Nat) (xs : List (G.T k)) (h : xs.length ≤ maxLen) (hx : ∀ (i : Nat) (x : G.T k), xs[i]? = some x → ∀ (j : Nat) (d : AV G.T), (G.op k x)[j]? = some d → SmV G d) : SmV G (.imm k xs)
theorem SmV.len {G : Sig} {k : Nat} {xs : List (G.T k)} (h : SmV G (.imm k xs)) : xs.length ≤ 9223372036854775807 := by cases h with | imm _ _ h _ => exact h
theorem SmV.siz {G : Sig} {s : ByteArray} (h : SmV G (.lit (.string s))) : s.size ≤ 9223372036854775807 := by cases h with | str _ h => exact h
theorem SmV.rng {G : Sig} {n : Int} (h : SmV G (.lit (.int .i64 n))) : -9223372036854775808 ≤ n ∧ n ≤ 9223372036854775807 := by
  cases h with
  | int k n h =>
    simp only [Lit.wf, Bool.and_eq_true, decide_eq_true_eq] at h
    have e1 : IntKind.min .i64 = -9223372036854775808 := by decide
    have e2 : IntKind.max .i64 = 9223372036854775807 := by decide
    omega
theorem SmV.elt {G : Sig} {k : Nat} {xs : List (G.T k)} (h : SmV G (.imm k xs)) {i : Nat} {x : G.T k} (hx : xs[i]? = some x) {j : Nat} {d : AV G.T} (hd : (G.op k x)[j]? = some d) : SmV G d := by
  cases h with
  | imm k xs h hh => exact hh i x hx j d hd

/-- cells that hold what an element is made of -/
theorem no_av {G : Sig} {W : World} {b : Nat} : ¬ Av G (fun _ => False) (⟨W, [], []⟩ : Cf G) b := by
  rintro (h | ⟨o, obj, β, h, _⟩)
  · exact h
  · simp at h

theorem open_enc {G : Sig} {W : World} (cds : List Cd) (vs : List Value) (h : ∀ (j : Nat) (c : Cd), cds[j]? = some c → ∃ v, vs[j]? = some v ∧ ∃ y : c.den G.T, VR0 P G W (c.enc y) v ∧ SmV G (c.enc y)) :
    ∃ y : denC G.T cds, ∀ (j : Nat) (d : AV G.T), (encC cds y)[j]? = some d → ∃ v, vs[j]? = some v ∧ VR0 P G W d v ∧ SmV G d := by
  induction cds generalizing vs with
  | nil => exact ⟨(), fun j d hd => by simp [encC] at hd⟩
  | cons c cds ih =>
    obtain ⟨v, hv, y, hy⟩ := h 0 c rfl
    obtain ⟨ys, hys⟩ := ih (vs.drop 1) (fun j c' hc => by
      obtain ⟨v', h1, h2⟩ := h (j + 1) c' (by simpa using hc)
      exact ⟨v', by rw [List.getElem?_drop, Nat.add_comm]; exact h1, h2⟩)
    refine ⟨(y, ys), fun j d hd => ?_⟩
    cases j with
    | zero =>
      simp only [encC, List.getElem?_cons_zero, Option.some.injEq] at hd
      subst hd; exact ⟨v, hv, hy⟩
    | succ j =>
      simp only [encC, List.getElem?_cons_succ] at hd
      obtain ⟨v', h1, h2⟩ := hys j d hd
      rw [List.getElem?_drop, Nat.add_comm] at h1
      exact ⟨v', h1, h2⟩

theorem open_all (hok : tysOk P tb tb.n = true) (W : World) : ∀ (fuel : Nat),
    (∀ (t : TypeId) (c : Cd) (v : Value) (x : DataW H × List MemPlace), cdOk P tb t c = true → DataW.trod enc P W base spare held fuel t [v] = some x → ∃ y : c.den (G0 P tb zc fms zn jn ini mode suf gl strict).T, VR0 P (G0 P tb zc fms zn jn ini mode suf gl strict) W (c.enc y) v ∧ SmV (G0 P tb zc fms zn jn ini mode suf gl strict) (c.enc y)) ∧
    (∀ (E : TypeId) (cds : List Cd) (vs : List Value) (x : DataW H × List MemPlace), tyOk P tb E cds = true → DataW.trod enc P W base spare held fuel E vs = some x → vs.length = cds.length →
      ∃ y : denC (G0 P tb zc fms zn jn ini mode suf gl strict).T cds, ∀ (j : Nat) (d : AV (G0 P tb zc fms zn jn ini mode suf gl strict).T), (encC cds y)[j]? = some d → ∃ v, vs[j]? = some v ∧ VR0 P (G0 P tb zc fms zn jn ini mode suf gl strict) W d v ∧ SmV (G0 P tb zc fms zn jn ini mode suf gl strict) d)
  | 0 => ⟨fun t c v x _ h => by simp [DataW.trod] at h, fun E cds vs x _ h => by simp [DataW.trod] at h⟩
  | fuel + 1 => by
    obtain ⟨ih1, ih2⟩ := open_all hok W fuel
    have first : ∀ (t : TypeId) (c : Cd) (v : Value) (x : DataW H × List MemPlace), cdOk P tb t c = true → DataW.trod enc P W base spare held (fuel + 1) t [v] = some x → ∃ y : c.den (G0 P tb zc fms zn jn ini mode suf gl strict).T, VR0 P (G0 P tb zc fms zn jn ini mode suf gl strict) W (c.enc y) v ∧ SmV (G0 P tb zc fms zn jn ini mode suf gl strict) (c.enc y) := by
      intro t c v x hc h
      cases c with
      | int k =>
        simp only [cdOk] at hc
        split at hc
        · rename_i k' ht
          have hk := of_decide_eq_true hc
          subst hk
          obtain ⟨n, h1, _, hw⟩ := DataW.trod_int ht h
          simp at h1; subst h1
          exact ⟨n, .lit _, .int _ _ hw⟩
        · cases hc
      | bool =>
        simp only [cdOk] at hc
        split at hc
        · rename_i ht
          obtain ⟨n, h1, _⟩ := DataW.trod_bool ht h
          simp at h1; subst h1
          exact ⟨n, .lit _, .bool _⟩
        · cases hc
      | str =>
        simp only [cdOk] at hc
        split at hc
        · rename_i ht
          obtain ⟨n, h1, _, hw⟩ := DataW.trod_string ht h
          simp at h1; subst h1
          exact ⟨n, .lit _, .str _ hw⟩
        · cases hc
      | imm k =>
        simp only [cdOk, Bool.and_eq_true, decide_eq_true_eq] at hc
        obtain ⟨hk, hc⟩ := hc
        split at hc
        · rename_i e ht
          have he := Nat.eq_of_beq_eq_true hc
          obtain ⟨hty, hsz⟩ := tysOk_get hok hk
          have hty' := hty
          simp only [tyOk, Bool.and_eq_true] at hty'
          have hcl := Nat.eq_of_beq_eq_true hty'.1
          rcases DataW.trod_slice ht h with ⟨h0, _⟩ | ⟨a, len, cap, elems, rest, m, hm, hv, _, hb, hlc, hcm, hel, hcells, _, _⟩
          · simp at h0; subst h0
            exact ⟨[], .imm (P := P) (G := G0 P tb zc fms zn jn ini mode suf gl strict) k ([] : List (tb.T k)) none 0 (fun _ _ => undef) hk (Nat.le_refl 0) (fun i x hx => by cases hx) (fun i x hx => by cases hx) (fun _ _ => rfl), .imm k _ (Nat.zero_le _) (fun i x hx => by cases hx)⟩
          · simp at hv; subst hv
            have hm : fuel = m := by omega
            subst hm
            have each : ∀ i, i < len → ∃ (y : tb.T k) (g : Nat → Value), ∀ (j : Nat) (d : AV tb.T), ((G0 P tb zc fms zn jn ini mode suf gl strict).op k y)[j]? = some d → W.cell? (a.add (i * esz P (G0 P tb zc fms zn jn ini mode suf gl strict) k + j)) = some (g j) ∧ VR0 P (G0 P tb zc fms zn jn ini mode suf gl strict) W d (g j) ∧ SmV (G0 P tb zc fms zn jn ini mode suf gl strict) d := by
              intro i hi
              have h1 := hcells i hi
              rw [List.getElem?_eq_getElem (by omega), Option.bind_eq_some_iff] at h1
              obtain ⟨cs', hcs, hy⟩ := h1
              obtain ⟨_, hlen, hcell⟩ := World.cells?_some hcs
              rw [he] at hy hlen hcell
              obtain ⟨y, hy⟩ := ih2 _ _ _ _ hty hy (by omega)
              refine ⟨(tb.kd k).to y, fun j => cs'.getD j .nilFunc, fun j d hd => ?_⟩
              have hd' : (encC (tb.kd k).cds ((tb.kd k).fro ((tb.kd k).to y)))[j]? = some d := hd
              have e3 : (tb.kd k).fro ((tb.kd k).to y) = y := (tb.kd k).inv y
              rw [e3] at hd'
              obtain ⟨v, hv1, hv2, hv3⟩ := hy j d hd'
              have hj : j < cs'.length := (List.getElem?_eq_some_iff.1 hv1).1
              have e1 : esz P (G0 P tb zc fms zn jn ini mode suf gl strict) k = P.cellsOf (tb.kd k).E := hsz
              have e2 : cs'.getD j .nilFunc = v := by simp [List.getD, hv1]
              refine ⟨?_, by show VR0 P (G0 P tb zc fms zn jn ini mode suf gl strict) W d (cs'.getD j .nilFunc); rw [e2]; exact hv2, hv3⟩
              have := hcell j (by omega)
              rw [e1, ← add_add]
              show _ = some (cs'.getD j .nilFunc)
              rw [e2, this, hv1]
            have pick : ∃ (ys : Nat → tb.T k) (gs : Nat → Nat → Value), ∀ i, i < len → ∀ (j : Nat) (d : AV tb.T), ((G0 P tb zc fms zn jn ini mode suf gl strict).op k (ys i))[j]? = some d → W.cell? (a.add (i * esz P (G0 P tb zc fms zn jn ini mode suf gl strict) k + j)) = some (gs i j) ∧ VR0 P (G0 P tb zc fms zn jn ini mode suf gl strict) W d (gs i j) ∧ SmV (G0 P tb zc fms zn jn ini mode suf gl strict) d := by
              refine ⟨fun i => if h : i < len then Classical.choose (each i h) else (tb.kd k).to (dfC _), fun i => if h : i < len then Classical.choose (Classical.choose_spec (each i h)) else fun _ => .nilFunc, fun i hi => ?_⟩
              simp only [dif_pos hi]
              exact Classical.choose_spec (Classical.choose_spec (each i hi))
            obtain ⟨ys, gs, hyg⟩ := pick
            have hl : ((List.range len).map ys).length = len := by simp
            have get : ∀ {i : Nat} {x : tb.T k}, ((List.range len).map ys)[i]? = some x → i < len ∧ x = ys i := by
              intro i x hx
              have hi : i < len := by
                have := (List.getElem?_eq_some_iff.1 hx).1
                rw [hl] at this; exact this
              refine ⟨hi, ?_⟩
              rw [List.getElem?_map, List.getElem?_range hi] at hx
              simpa using hx.symm
            have key := VR.imm (P := P) (G := G0 P tb zc fms zn jn ini mode suf gl strict) (F := fun _ => False) (c := ⟨W, [], []⟩) k ((List.range len).map ys : List (tb.T k)) (some a) cap gs hk (Nat.le_trans (Nat.le_of_eq hl) hlc)
              (fun i x hx j d hd => by
                obtain ⟨hi, rfl⟩ := get hx
                exact ⟨a, rfl, no_av, (hyg i hi j d hd).1⟩)
              (fun i x hx j d hd => by
                obtain ⟨hi, rfl⟩ := get hx
                exact (hyg i hi j d hd).2.1) (fun h => by cases h)
            refine ⟨((List.range len).map ys : List (tb.T k)), ?_⟩
            rw [show List.length (α := (G0 P tb zc fms zn jn ini mode suf gl strict).T k) ((List.range len).map ys : List (tb.T k)) = len from hl] at key
            refine ⟨key, .imm k _ (Nat.le_trans (Nat.le_of_eq hl) (Nat.le_trans hlc hcm)) fun i x hx j d hd => ?_⟩
            obtain ⟨hi, rfl⟩ := get hx
            exact (hyg i hi j d hd).2.2
        · cases hc
    refine ⟨first, ?_⟩
    intro E cds vs x hty h hlen
    have hty' := hty
    simp only [tyOk, Bool.and_eq_true] at hty'
    obtain ⟨hcl, hty'⟩ := hty'
    have hcl := Nat.eq_of_beq_eq_true hcl
    split at hty'
    · rename_i fs ht
      obtain ⟨xs, m, hm, _, hvl, hxl, hf⟩ := DataW.trod_struct ht h
      have hm : fuel = m := by omega
      subst hm
      have hfl := cdsOk_len hty'
      refine open_enc cds vs fun j c hc => ?_
      have hj : j < cds.length := (List.getElem?_eq_some_iff.1 hc).1
      have hjf : j < fs.size := by
        have e := hfl
        simp at e; omega
      have hfj : fs[j]? = some fs[j] := by simp [hjf]
      obtain ⟨o1, o2, o3⟩ := cdsOk_get hty' (j := j) (f := (fs[j].offset, fs[j].type)) (c := c) (by simp [hjf]) hc
      have h1 := hf j _ hfj
      rw [o2, List.getElem?_eq_getElem (by omega)] at h1
      have hjv : j < vs.length := by omega
      have e : (vs.drop fs[j].offset).take 1 = [vs[j]] := by
        have o1' : fs[j].offset = j := by simpa using o1
        rw [o1', List.drop_eq_getElem_cons hjv]; rfl
      rw [e] at h1
      obtain ⟨y, hy⟩ := ih1 _ _ _ _ o3 h1
      exact ⟨vs[j], by simp [hjv], y, hy⟩
    · cases hty'
    · split at hty'
      · rename_i c _
        obtain ⟨v, rfl⟩ : ∃ v, vs = [v] := by
          match vs, hlen with
          | [v], _ => exact ⟨v, rfl⟩
        obtain ⟨y, hy⟩ := first E c v x hty' h
        refine open_enc [c] [v] fun j c' hc => ?_
        cases j with
        | zero => simp at hc; subst hc; exact ⟨v, rfl, y, hy⟩
        | succ j => simp at hc
      · cases hty'
theorem open_arg (hok : tysOk P tb tb.n = true) {W : World} {t : TypeId} {c : Cd} {v : Value} {d : DataW H} {ps : List MemPlace} (hc : cdOk P tb t c = true) {b0 : Nat} (hw : Value.okWide P W .any b0 t v) (h : DataW.Trod enc P W base spare held t v d ps) :
    ∃ y : c.den (G0 P tb zc fms zn jn ini mode suf gl strict).T, VR0 P (G0 P tb zc fms zn jn ini mode suf gl strict) W (c.enc y) v ∧ SmV (G0 P tb zc fms zn jn ini mode suf gl strict) (c.enc y) := by
  obtain ⟨fuel, h⟩ := h
  have e : v.cells.toList = [v] := by
    cases c with
    | int k =>
      simp only [cdOk] at hc
      split at hc
      · rename_i ht; obtain ⟨n, rfl⟩ := WideShapes.okWide_int ht hw; rfl
      · cases hc
    | bool =>
      simp only [cdOk] at hc
      split at hc
      · rename_i ht; obtain ⟨n, rfl⟩ := WideShapes.okWide_bool ht hw; rfl
      · cases hc
    | str =>
      simp only [cdOk] at hc
      split at hc
      · rename_i ht; obtain ⟨n, rfl⟩ := WideShapes.okWide_string ht hw; rfl
      · cases hc
    | imm k =>
      simp only [cdOk, Bool.and_eq_true] at hc
      have hc := hc.2
      split at hc
      · rename_i ht; obtain ⟨a, len, cap, rfl⟩ := WideShapes.okWide_slice ht hw; rfl
      · cases hc
  rw [e] at h
  exact (open_all hok W fuel).1 t c v _ hc h
theorem open_struct (hok : tysOk P tb tb.n = true) {W : World} {t : TypeId} {cds : List Cd} {v : Value} {d : DataW H} {ps : List MemPlace} {fs : Array Field} (ht : P.underlying t = some (.struct fs)) (hc : tyOk P tb t cds = true) {b0 : Nat} (hw : Value.okWide P W .any b0 t v) (h : DataW.Trod enc P W base spare held t v d ps) :
    ∃ y : denC (G0 P tb zc fms zn jn ini mode suf gl strict).T cds, VR0 P (G0 P tb zc fms zn jn ini mode suf gl strict) W (.agg (encC cds y)) v ∧ ∀ (j : Nat) (d : AV (G0 P tb zc fms zn jn ini mode suf gl strict).T), (encC cds y)[j]? = some d → SmV (G0 P tb zc fms zn jn ini mode suf gl strict) d := by
  obtain ⟨fuel, h⟩ := h
  obtain ⟨cs, rfl, hsz⟩ := WideShapes.okWide_struct ht hw
  have hc' := hc
  simp only [tyOk, Bool.and_eq_true] at hc'
  have hcl := Nat.eq_of_beq_eq_true hc'.1
  have e : (Value.agg cs).cells.toList = cs.toList := rfl
  rw [e] at h
  obtain ⟨y, hy⟩ := (open_all (zc := zc) (fms := fms) (zn := zn) (jn := jn) (ini := ini) (mode := mode) (suf := suf) (gl := gl) (strict := strict) hok W fuel).2 t cds cs.toList _ hc h (by simp; omega)
  refine ⟨y, .agg _ _ (by rw [encC_len]; omega) fun i d v hd hv => ?_, fun j d hd => (hy j d hd).choose_spec.2.2⟩
  obtain ⟨v', h1, h2, _⟩ := hy i d hd
  rw [Array.getElem?_toList, hv] at h1
  cases h1; exact h2
end

theorem no_objs0 {P : Program} {G : Sig} (W : World) (hg : ∀ b p, G.gl b = some p → ∃ v, W.cell? ⟨b, 0, none⟩ = some v ∧ p v) : OK P G (fun _ => False) (Nof (G := G) ⟨W, [], []⟩) ⟨W, [], []⟩ where
  len := rfl
  obj := fun o obj β h => by simp at h
  own := fun o obj β h => by simp at h
  wr := fun o obj β h => by simp at h
  apart := fun o o' obj obj' β β' h => by simp at h
  low := fun b h => h.elim (fun h => h.elim) fun h => h.1
  gl := fun b v h => ⟨hg b v h, fun ⟨o, obj, β, h1, _⟩ => by simp at h1⟩
theorem walkG {P : Program} {G : Sig} {f : FuncId} {sh : ShL} {F : sh.den G → denO G [] → Option ((Sh.bool).den G × denO G [])} (h : EntOK P G ⟨f, sh, [], .bool, [], F⟩) {W : World} (hg : ∀ b p, G.gl b = some p → ∃ v, W.cell? ⟨b, 0, none⟩ = some v ∧ p v) {args : List Value} {x : sh.den G}
    (hl : (sh.enc G x).length = args.length) (ha : ∀ (i : Nat) (d : AV G.T) (v : Value), (sh.enc G x)[i]? = some d → args[i]? = some v → VR0 P G W d v) (ht : F x () = some (true, ())) :
    Calls P f args.toArray W fun e W' => e = .returned (.bool true) ∧ RowKit.Below W.heap.size W W' := by
  have := h x () (true, ()) ht (fun _ => False) W [] args (no_objs0 W hg) hl ha
  refine this.mono ?_
  rintro e W' ⟨v, m', rfl, t, ok', hv⟩
  cases hv
  exact ⟨rfl, ⟨t.sys.1, t.sys.2.1, t.sys.2.2, t.size, fun k hk => t.keep k hk fun o obj β h => by cases h⟩⟩
theorem walkE {P : Program} {G : Sig} {f : FuncId} {sh : ShL} {F : sh.den G → denO G [] → Option ((Sh.bool).den G × denO G [])} (h : EntOK P G ⟨f, sh, [], .bool, [], F⟩) {W : World} {args : List Value} {x : sh.den G}
    (hl : (sh.enc G x).length = args.length) (ha : ∀ (i : Nat) (d : AV G.T) (v : Value), (sh.enc G x)[i]? = some d → args[i]? = some v → VR0 P G W d v) (ht : F x () = some (true, ())) (hg : ∀ b p, G.gl b = some p → ∃ v, W.cell? ⟨b, 0, none⟩ = some v ∧ p v := by intro b v h; cases h) :
    Calls P f args.toArray W fun e W' => e = .returned (.bool true) ∧ RowKit.Below W.heap.size W W' := walkG h hg hl ha ht
end Go.Proofs.Ytjfmfpnnjgfffaa.Am
