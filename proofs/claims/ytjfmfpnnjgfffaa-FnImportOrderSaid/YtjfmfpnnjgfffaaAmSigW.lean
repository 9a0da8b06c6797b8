/- The abstract machine: a signature with zones and grown rows. -/
import Derived.Test.YtjfmfpnnjgfffaaAmSig
namespace Go.Proofs.Ytjfmfpnnjgfffaa.Am
open Go
set_option autoImplicit false
set_option linter.unusedVariables false
set_option linter.unusedSimpArgs false

/-- grown rows of a type: kind of their elements, kind of the elements of these -/
structure Fam (T : Nat → Type) where
  t : TypeId
  K : Nat
  k : Nat
  conv : List (List (T k)) → List (T K)

section
variable {T : Nat → Type}
def GU (T : Nat → Type) : List (Fam T) → Nat → Type
  | [], _ => Unit
  | a :: l, 0 => Nat × List (List (T a.k))
  | a :: l, 1 => Nat × List (List (T a.k)) × Nat
  | _ :: l, u + 2 => GU T l u
def grU : (l : List (Fam T)) → (u : Nat) → GU T l u → Option (Grw T)
  | [], _, _ => none
  | a :: l, 0, x => some ⟨a.K, a.k, x.1, x.2, none⟩
  | a :: l, 1, x => some ⟨a.K, a.k, x.1, x.2.1, some x.2.2⟩
  | _ :: l, u + 2, x => grU l u x
def rtU : (l : List (Fam T)) → (u : Nat) → GU T l u → List (AV T)
  | [], _, _ => []
  | a :: l, 0, x => [.imm a.K (a.conv x.2)]
  | a :: l, 1, x => []
  | _ :: l, u + 2, x => rtU l u x
def castG {k k' : Nat} (h : k = k') (xs : List (List (T k))) : List (List (T k')) := h ▸ xs
def gmU : (l : List (Fam T)) → Grw T → Option ((u : Nat) × GU T l u)
  | [], _ => none
  | a :: l, g => if h : g.k = a.k ∧ g.K = a.K then some (match g.hl with
      | none => ⟨0, (g.tok, castG h.1 g.xs)⟩
      | some i => ⟨1, (g.tok, castG h.1 g.xs, i)⟩)
    else match gmU l g with
      | some q => some ⟨q.1 + 2, q.2⟩
      | none => none
def mkU : List (Fam T) → TypeId → Option (Nat × Nat)
  | [], _ => none
  | a :: l, t => match Nat.beq a.t t with | true => some (a.K, a.k) | false => mkU l t

theorem gmU_gr : ∀ {l : List (Fam T)} {g : Grw T} {q : (u : Nat) × GU T l u}, gmU l g = some q → grU l q.1 q.2 = some g
  | [], g, q, h => by simp [gmU] at h
  | a :: l, ⟨K, k, tok, xs, hl⟩, q, h => by
    unfold gmU at h
    split at h
    · rename_i he
      obtain ⟨e1, e2⟩ := he
      simp only at e1 e2
      subst e1; subst e2
      cases hl with
      | none => cases h; rfl
      | some i => cases h; rfl
    · split at h
      · rename_i q' hq
        cases h
        exact gmU_gr (l := l) hq
      · cases h
end

variable {P : Program} {tb : Tb} {ini : TypeId → List Ini} {mode : FuncId → List Bool} {suf : TypeId → Bool} {gl : Nat → Option (Value → Prop)} {strict : Bool}

structure FamOK (P : Program) (tb : Tb) (a : Fam tb.T) : Prop where
  hK : a.K < tb.n
  hk : a.k < tb.n
  t : (elemT P a.t).bind (fun e => tb.find e tb.n) = some a.K
  fl : flatC2 (tb.kd a.k).cds = true
  nf : flatC2 (tb.kd a.K).cds = false
  df : encC (tb.kd a.K).cds ((tb.kd a.K).fro ((tb.kd a.K).to (dfC _))) = [.imm a.k []]
  conv : ∀ xs, (a.conv xs).length = xs.length ∧ ∀ (i : Nat) (x : tb.T a.K), (a.conv xs)[i]? = some x → ∃ ys, xs[i]? = some ys ∧ encC (tb.kd a.K).cds ((tb.kd a.K).fro x) = [.imm a.k ys]

def UW (T : Nat → Type) (zc : List Cd) (fs : List (Fam T)) : Nat → Type | 0 => denC T zc | 1 => Unit | u + 2 => GU T fs u
/-- the signature that is told of no objects -/
def sigB (P : Program) (tb : Tb) (strict : Bool) : Sig := sigOf P tb (fun _ => Unit) (fun _ _ _ _ => False) (fun _ => none) (fun _ => []) (fun _ => []) (fun _ => false) (fun _ => none) strict
def URW (P : Program) (tb : Tb) (zc : List Cd) (fs : List (Fam tb.T)) (strict : Bool) : (u : Nat) → UW tb.T zc fs u → World → Blk → Prop
  | 0, x, w, β => URZ P tb zc 0 x w β
  | 1, _, w, β => ZJ w β
  | u + 2, x, w, β => ∃ g, grU fs u x = some g ∧ ∃ b bl, GR P (sigB P tb strict) g w β b bl
def rtW (tb : Tb) (zc : List Cd) (fs : List (Fam tb.T)) : (u : Nat) → UW tb.T zc fs u → List (AV tb.T) | 0, x => encC zc x | 1, _ => [] | u + 2, x => rtU fs u x
def zmkW (tb : Tb) (zc : List Cd) (fs : List (Fam tb.T)) (l : List (AV tb.T)) : Option ((u : Nat) × UW tb.T zc fs u) := match decC zc l with | some x => some ⟨0, x⟩ | none => none
def zjnW (tb : Tb) (zc : List Cd) (fs : List (Fam tb.T)) (u : Nat) (_ : UW tb.T zc fs u) : Option ((u' : Nat) × UW tb.T zc fs u') := match u with | 0 => some ⟨1, ()⟩ | 1 => some ⟨1, ()⟩ | _ => none
def grW (tb : Tb) (zc : List Cd) (fs : List (Fam tb.T)) : (u : Nat) → UW tb.T zc fs u → Option (Grw tb.T) | 0, _ => none | 1, _ => none | u + 2, x => grU fs u x
def gmW (tb : Tb) (zc : List Cd) (fs : List (Fam tb.T)) (g : Grw tb.T) : Option ((u : Nat) × UW tb.T zc fs u) := match gmU fs g with | some q => some ⟨q.1 + 2, q.2⟩ | none => none

/-- a signature with zones and grown rows -/
def sigW (P : Program) (tb : Tb) (zc : List Cd) (fs : List (Fam tb.T)) (zn jn : FuncId → Bool) (ini : TypeId → List Ini) (mode : FuncId → List Bool) (suf : TypeId → Bool := fun _ => false) (gl : Nat → Option (Value → Prop) := fun _ => none) (strict : Bool := false) : Sig :=
  { n := tb.n, T := tb.T, U := UW tb.T zc fs, E := fun k => (tb.kd k).E, kd := fun e => tb.find e tb.n
    op := fun k x => encC (tb.kd k).cds ((tb.kd k).fro x)
    cl := fun k cs => match decC (tb.kd k).cds cs with | some d => some ((tb.kd k).to d) | none => none
    df := fun k => (tb.kd k).to (dfC _)
    mode := mode, fn := okFn P, UR := URW P tb zc fs strict
    u8 := fun k => match (tb.kd k).cds with | [.int .u8] => true | _ => false
    mku := fun _ => none, ini := ini
    flat := fun k => flatC2 (tb.kd k).cds
    suf := suf, gl := gl, strict := strict
    rt := rtW tb zc fs, zn := zn, mkz := zmkW tb zc fs, jn := jn, jnk := zjnW tb zc fs
    gr := grW tb zc fs, grm := gmW tb zc fs, mkg := mkU fs }

variable {zc : List Cd} {fs : List (Fam tb.T)} {zn jn : FuncId → Bool}
theorem gr_up {g : Grw tb.T} {w : World} {β : Blk} {b : Nat} {bl : Nat → Option Nat} (h : GR P (sigB P tb strict) g w β b bl) : GR P (sigW P tb zc fs zn jn ini mode suf gl strict) g w β b bl :=
  { hk := h.hk, hK := h.hK, one := h.one, flat := h.flat, nt := h.nt, tok := h.tok, len := h.len, head := h.head, outb := h.outb, cells := h.cells, inj := h.inj, inb := h.inb, inn := h.inn }
theorem gr_dn {g : Grw tb.T} {w : World} {β : Blk} {b : Nat} {bl : Nat → Option Nat} (h : GR P (sigW P tb zc fs zn jn ini mode suf gl strict) g w β b bl) : GR P (sigB P tb strict) g w β b bl :=
  { hk := h.hk, hK := h.hK, one := h.one, flat := h.flat, nt := h.nt, tok := h.tok, len := h.len, head := h.head, outb := h.outb, cells := h.cells, inj := h.inj, inb := h.inb, inn := h.inn }

theorem rtU_inv : ∀ {fs : List (Fam tb.T)} {u : Nat} {x : GU tb.T fs u} {j : Nat} {d : AV tb.T}, (rtU fs u x)[j]? = some d → ∃ (a : Fam tb.T) (tok : Nat) (xs : List (List (tb.T a.k))), a ∈ fs ∧ j = 0 ∧ rtU fs u x = [d] ∧ d = .imm a.K (a.conv xs) ∧ grU fs u x = some ⟨a.K, a.k, tok, xs, none⟩
  | [], u, x, j, d, h => by simp [rtU] at h
  | a :: l, 0, x, j, d, h => by
    cases j with
    | zero => simp [rtU] at h; exact ⟨a, x.1, x.2, by simp, rfl, by rw [← h]; rfl, h.symm, rfl⟩
    | succ j => simp [rtU] at h
  | a :: l, 1, x, j, d, h => by simp [rtU] at h
  | a :: l, u + 2, x, j, d, h => by
    obtain ⟨a', tok, xs, h1, h2, h3, h4, h5⟩ := rtU_inv (fs := l) (x := x) h
    exact ⟨a', tok, xs, List.mem_cons_of_mem _ h1, h2, h3, h4, h5⟩
theorem mkU_inv : ∀ {fs : List (Fam tb.T)} {t : TypeId} {e : Nat × Nat}, mkU fs t = some e → ∃ a ∈ fs, a.t = t ∧ e = (a.K, a.k)
  | [], t, e, h => by simp [mkU] at h
  | a :: l, t, e, h => by
    unfold mkU at h
    split at h
    · rename_i hb; cases h; exact ⟨a, by simp, Nat.eq_of_beq_eq_true hb, rfl⟩
    · obtain ⟨a', h1, h2⟩ := mkU_inv h; exact ⟨a', List.mem_cons_of_mem _ h1, h2⟩

theorem gr_tr {a : Fam tb.T} (ha : FamOK P tb a) {tok : Nat} {xs : List (List (tb.T a.k))} {w : World} {β : Blk} {b : Nat} {bl : Nat → Option Nat} (h : GR P (sigB P tb strict) ⟨a.K, a.k, tok, xs, none⟩ w β b bl) {v : Value} (hv : β.z.rt[0]? = some v) :
    TR' tb.n (fun k x => encC (tb.kd k).cds ((tb.kd k).fro x)) (fun k => szT P (tb.kd k).E) w β.fp (.imm a.K (a.conv xs)) v := by
  obtain ⟨cap, hcap, hh⟩ := h.head
  rw [hv] at hh; cases hh
  obtain ⟨hl, hc⟩ := ha.conv xs
  obtain ⟨cs, c1, c2, c3⟩ := h.cells
  have hone : szT P (tb.kd a.K).E = 1 := h.one
  have hlen : β.z.hs.length = xs.length := h.len
  have key := TR'.imm (n := tb.n) (op := fun k x => encC (tb.kd k).cds ((tb.kd k).fro x)) (es := fun k => szT P (tb.kd k).E) (w := w) (fp := β.fp) a.K (a.conv xs) (some ⟨b, 0, none⟩) cap (fun i _ => β.z.hs.getD i (.bool false)) ha.hK (by rw [hl]; exact hcap)
    (fun i x hx j d hd => by
      obtain ⟨ys, h1, h2⟩ := hc i x hx
      have hd : (encC (tb.kd a.K).cds ((tb.kd a.K).fro x))[j]? = some d := hd
      rw [h2] at hd
      cases j with
      | succ j => simp at hd
      | zero =>
      have hi : i < β.z.hs.length := by rw [hlen]; exact (List.getElem?_eq_some_iff.1 h1).1
      refine ⟨_, rfl, h.outb, ?_⟩
      have h3 := c3 i β.z.hs[i] (List.getElem?_eq_getElem hi)
      have e : (⟨b, 0, none⟩ : Addr).add (i * szT P (tb.kd a.K).E + 0) = ⟨b, i, none⟩ := by rw [hone]; unfold Addr.add; split <;> simp_all
      rw [e]
      have hg : β.z.hs.getD i (.bool false) = β.z.hs[i] := by simp [List.getD, hi]
      rw [hg]
      have hlt := (Array.getElem?_eq_some_iff.1 h3).1
      simp [World.cell?, c1, h3])
    (fun i x hx j d hd => by
      obtain ⟨ys, h1, h2⟩ := hc i x hx
      have hd : (encC (tb.kd a.K).cds ((tb.kd a.K).fro x))[j]? = some d := hd
      rw [h2] at hd
      cases j with
      | succ j => simp at hd
      | zero =>
      simp at hd; subst hd
      have hi : i < β.z.hs.length := by rw [hlen]; exact (List.getElem?_eq_some_iff.1 h1).1
      have hg : β.z.hs.getD i (.bool false) = β.z.hs[i] := by simp [List.getD, hi]
      rw [hg]
      have hin := h.inn i β.z.hs[i] ys (List.getElem?_eq_getElem hi) h1 (by simp)
      rcases hin with ⟨rfl, -, a', e, -⟩ | ⟨bi, cs', cap', e1, e2, e3, e4, e5, e6⟩
      · rw [e]
        exact TR'.imm (n := tb.n) (op := fun k x => encC (tb.kd k).cds ((tb.kd k).fro x)) (es := fun k => szT P (tb.kd k).E) a.k [] a' 0 (fun _ _ => .bool false) ha.hk (Nat.le_refl _) (fun i x hx => by simp at hx) (fun i x hx => by simp at hx)
      · rw [e2]
        have hsz : esz P (sigB P tb strict) a.k = szT P (tb.kd a.k).E := rfl
        exact TR'.imm (n := tb.n) (op := fun k x => encC (tb.kd k).cds ((tb.kd k).fro x)) (es := fun k => szT P (tb.kd k).E) a.k ys (some ⟨bi, 0, none⟩) cap' (fun q j => cs'.getD (q * szT P (tb.kd a.k).E + j) (.bool false)) ha.hk e3
          (fun q y hy j d hd => by
            obtain ⟨u, h3, h4⟩ := e6 q y hy j d hd
            refine ⟨_, rfl, (h.inb i bi e1).1, ?_⟩
            rw [hsz] at h4
            have hlt := (Array.getElem?_eq_some_iff.1 h4).1
            have e : (⟨bi, 0, none⟩ : Addr).add (q * szT P (tb.kd a.k).E + j) = ⟨bi, q * szT P (tb.kd a.k).E + j, none⟩ := by unfold Addr.add; split <;> simp_all
            rw [e]
            simp [World.cell?, e4, hlt, Array.getD])
          (fun q y hy j d hd => by
            obtain ⟨u, rfl, h4⟩ := e6 q y hy j d hd
            rw [hsz] at h4
            have hlt := (Array.getElem?_eq_some_iff.1 h4).1
            have : cs'.getD (q * szT P (tb.kd a.k).E + j) (.bool false) = u := by
              rw [Array.getElem?_eq_getElem hlt] at h4
              simp [Array.getD, hlt]; exact Option.some.inj h4
            rw [this]; exact .lit _))
  rw [hl] at key
  exact key

theorem zmkF_of {l : List (AV tb.T)} {x : denC tb.T zc} (h : decC zc l = some x) : zmkF tb zc l = some ⟨0, x⟩ := by unfold zmkF; rw [h]

theorem laws_w (h : tbOk P tb tb.n = true) (hz0 : zcOk tb.n zc = true) (hf : ∀ a ∈ fs, FamOK P tb a) : Laws P (sigW P tb zc fs zn jn ini mode suf gl strict) :=
  have B : Laws P (sigOf P tb (fun _ => Unit) (fun _ _ _ _ => False) (fun _ => none) ini mode suf gl strict) := laws_of h (fun e q h => by cases h)
  { kd := B.kd, len := B.len, pos := B.pos, bytes := B.bytes, leaf := B.leaf, cl := B.cl, cln := B.cln, flat := B.flat, u8 := B.u8, b8 := B.b8, df := B.df, nsl := B.nsl
    mku := fun e q h => by simp [sigW] at h
    mkg := fun t e he => by
      obtain ⟨a, h1, rfl, rfl⟩ := mkU_inv he
      exact ⟨(hf a h1).t, rfl, (hf a h1).hk, (hf a h1).fl, (hf a h1).df⟩
    zrt := fun u x w β hu j d v hd hv => by
      match u, x, hu, hd with
      | 0, x, hu, hd => exact (hu.1 j d v hd hv).1
      | 1, x, hu, hd =>
        have hd : ([] : List (AV tb.T))[j]? = some d := hd
        rw [List.getElem?_nil] at hd; cases hd
      | u + 2, x, hu, hd =>
        obtain ⟨g, hg, b, bl, gr⟩ := hu
        obtain ⟨a, tok, xs, h1, rfl, h3, rfl, h5⟩ := rtU_inv (tb := tb) (fs := fs) (u := u) (x := x) hd
        rw [hg] at h5; cases h5
        exact gr_tr (hf a h1) gr hv
    ztt := fun _ _ _ _ => rfl
    tst := fun _ _ => rfl
    zrj := fun u x q hq w β hu j d v hd hv => by
      match u, x, hq, hu, hd with
      | 0, x, hq, hu, hd => exact (hu.1 j d v hd hv).2
      | 1, x, hq, hu, hd =>
        have hd : ([] : List (AV tb.T))[j]? = some d := hd
        rw [List.getElem?_nil] at hd; cases hd
      | u + 2, x, hq, hu, hd => exact absurd (show none = some q from hq) (by simp)
    zju := fun u x q hq w β hu w' hw => by
      match u, x, hq, hu with
      | 0, x, hq, hu => cases hq; exact ZJ.mono hu.2 hw
      | 1, x, hq, hu => cases hq; exact ZJ.mono hu hw
      | u + 2, x, hq, hu => exact absurd (show none = some q from hq) (by simp)
    zjw := fun u x q hq w β hu a ha => by
      match u, x, hq, hu with
      | 0, x, hq, hu =>
        cases hq
        obtain ⟨h1, h2, h3⟩ := hu.2.1 a ha
        exact ⟨h1, h2, h3, fun v w' hw => ZJ.mono (hu.2.set ha v) hw⟩
      | 1, x, hq, hu =>
        cases hq
        obtain ⟨h1, h2, h3⟩ := hu.1 a ha
        exact ⟨h1, h2, h3, fun v w' hw => ZJ.mono (ZJ.set hu ha v) hw⟩
      | u + 2, x, hq, hu => exact absurd (show none = some q from hq) (by simp)
    zjs := fun u x q hq w β hu a v ha => by
      match u, x, hq, hu with
      | 0, x, hq, hu => exact (hu.2.2.1 a v ha).2
      | 1, x, hq, hu => exact (hu.2.1 a v ha).2
      | u + 2, x, hq, hu => exact absurd (show none = some q from hq) (by simp)
    gru := fun u y g hg w β hu => by
      match u, y, hg, hu with
      | 0, y, hg, hu => exact absurd (show none = some g from hg) (by simp)
      | 1, y, hg, hu => exact absurd (show none = some g from hg) (by simp)
      | u + 2, y, hg, hu =>
        obtain ⟨g', h1, b, bl, gr⟩ := hu
        have hg : grU fs u y = some g := hg
        rw [hg] at h1; cases h1
        exact ⟨b, bl, gr_up gr⟩
    grmu := fun g q hq w β b bl gr => by
      have hq : gmW tb zc fs g = some q := hq
      unfold gmW at hq
      split at hq
      · rename_i q' hq'
        cases hq
        exact ⟨g, gmU_gr hq', b, bl, gr_dn gr⟩
      · cases hq
    mru := fun u y g h => by simp [sigW] at h
    mrmu := fun g q h => by simp [sigW] at h
    mfu := fun u y es h => by simp [sigW] at h
    mfmu := fun es q h => by simp [sigW] at h
    mkmt := fun t h => by simp [sigW] at h
    mptt := fun t h => by simp [sigW] at h
    grg := fun g q hq => by
      have hq : gmW tb zc fs g = some q := hq
      unfold gmW at hq
      split at hq
      · rename_i q' hq'
        cases hq
        exact gmU_gr hq'
      · cases hq
    zst := fun u y k xs hrt hfl hk i off x x' v0 hx hoff hop q hq w β ad n cap hu hr => by
      have hq : zmkW tb zc fs [.imm k (xs.set i x')] = some q := hq
      match u, y, hrt, hu with
      | 0, y, hrt, hu =>
        unfold zmkW at hq
        split at hq
        · rename_i y' hy'
          cases hq
          exact zst_z (zc := zc) hz0 hk (fun x => B.len k hk x) (fun x j d hd => B.flat k hfl x j d hd) 0 y xs hrt i off x x' v0 hx hoff hop ⟨0, y'⟩ (zmkF_of hy') w β ad n cap hu hr
        · cases hq
      | 1, y, hrt, hu => cases hrt
      | u + 2, y, hrt, hu =>
        have hrt : rtU fs u y = [.imm k xs] := hrt
        obtain ⟨a, tok, zs, h1, -, h3, h4, -⟩ := rtU_inv (tb := tb) (fs := fs) (u := u) (x := y) (j := 0) (d := .imm k xs) (by rw [hrt]; rfl)
        cases h4
        have h5 := (hf a h1).nf
        have hfl : flatC2 (tb.kd a.K).cds = true := hfl
        rw [hfl] at h5; cases h5
    zmk := fun l q hq w β hr hl h1 h2 h3 w' hw => by
      have hq : zmkW tb zc fs l = some q := hq
      simp only [zmkW] at hq
      split at hq
      · rename_i x hx
        cases hq
        refine ⟨fun j d v hd hv => ?_, ZJ.mono ⟨h1, h2, h3⟩ hw⟩
        have hlt : j < l.length := by rw [← hr]; exact (List.getElem?_eq_some_iff.1 hv).1
        have he : l[j]? = some l[j] := List.getElem?_eq_getElem hlt
        obtain ⟨t1, t2⟩ := hl j _ v he hv
        rcases decC_enc (zcOk_imm hz0) hx j _ _ he hd with e | ⟨e, _⟩
        · rw [e] at t1 t2; exact ⟨t1.mono hw, t2⟩
        · rw [e] at t2; cases t2
      · cases hq }

theorem fnok_w : FnOK P (sigW P tb zc fs zn jn ini mode suf gl strict) := ⟨fun f hf => by
  simp only [sigW, okFn] at hf
  split at hf
  · rename_i fn hfn
    simp only [Bool.and_eq_true, Bool.not_eq_true'] at hf
    exact ⟨fn, hfn, hf.1, hf.2⟩
  · cases hf⟩
end Go.Proofs.Ytjfmfpnnjgfffaa.Am
