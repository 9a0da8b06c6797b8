/- The abstract machine: a signature with grown rows and rows of maps. -/
import Derived.Test.YtjfmfpnnjgfffaaAmSigW
namespace Go.Proofs.Ytjfmfpnnjgfffaa.Am
open Go
set_option autoImplicit false
set_option linter.unusedVariables false
set_option linter.unusedSimpArgs false

abbrev MapRow := Nat × List (Option (List (ByteArray × Int)))
def UM (T : Nat → Type) (fs : List (Fam T)) : Nat → Type | 0 => MapRow | 1 => List (ByteArray × Int) | u + 2 => GU T fs u
variable {P : Program} {tb : Tb} {ini : TypeId → List Ini} {mode : FuncId → List Bool} {mkm mpt : TypeId → Bool} {k1 : Nat} {fs : List (Fam tb.T)}
/-- the signature that is told of no objects -/
def sigB1 (P : Program) (tb : Tb) (k1 : Nat) : Sig := { sigB P tb false with k1 := k1 }
def URM (P : Program) (tb : Tb) (fs : List (Fam tb.T)) (k1 : Nat) : (u : Nat) → UM tb.T fs u → World → Blk → Prop
  | 0, x, w, β => ∃ b bl, MR P (sigB1 P tb k1) ⟨x.1, x.2⟩ w β b bl
  | 1, x, w, β => ∃ bm, MF w β bm x
  | u + 2, x, w, β => ∃ g, grU fs u x = some g ∧ ∃ b bl, GR P (sigB P tb false) g w β b bl
def rtM (tb : Tb) (fs : List (Fam tb.T)) : (u : Nat) → UM tb.T fs u → List (AV tb.T) | 0, _ => [] | 1, _ => [] | u + 2, x => rtU fs u x
def grM (tb : Tb) (fs : List (Fam tb.T)) : (u : Nat) → UM tb.T fs u → Option (Grw tb.T) | 0, _ => none | 1, _ => none | u + 2, x => grU fs u x
def gmM (tb : Tb) (fs : List (Fam tb.T)) (g : Grw tb.T) : Option ((u : Nat) × UM tb.T fs u) := match gmU fs g with | some q => some ⟨q.1 + 2, q.2⟩ | none => none
def mrM (tb : Tb) (fs : List (Fam tb.T)) : (u : Nat) → UM tb.T fs u → Option Mrw | 0, x => some ⟨x.1, x.2⟩ | 1, _ => none | _ + 2, _ => none
def mfM (tb : Tb) (fs : List (Fam tb.T)) : (u : Nat) → UM tb.T fs u → Option (List (ByteArray × Int)) | 0, _ => none | 1, x => some x | _ + 2, _ => none

/-- a signature with grown rows and rows of maps -/
def sigM (P : Program) (tb : Tb) (fs : List (Fam tb.T)) (mkm mpt : TypeId → Bool) (k1 : Nat) (ini : TypeId → List Ini) (mode : FuncId → List Bool) : Sig :=
  { n := tb.n, T := tb.T, U := UM tb.T fs, E := fun k => (tb.kd k).E, kd := fun e => tb.find e tb.n
    op := fun k x => encC (tb.kd k).cds ((tb.kd k).fro x)
    cl := fun k cs => match decC (tb.kd k).cds cs with | some d => some ((tb.kd k).to d) | none => none
    df := fun k => (tb.kd k).to (dfC _)
    mode := mode, fn := okFn P, UR := URM P tb fs k1
    u8 := fun k => match (tb.kd k).cds with | [.int .u8] => true | _ => false
    mku := fun _ => none, ini := ini
    flat := fun k => flatC2 (tb.kd k).cds
    strict := false
    rt := rtM tb fs
    gr := grM tb fs, grm := gmM tb fs, mkg := mkU fs
    mr := mrM tb fs, mrm := fun g => some ⟨0, (g.tok, g.xs)⟩, mf := mfM tb fs, mfm := fun es => some ⟨1, es⟩, mkm := mkm, mpt := mpt, k1 := k1 }

theorem grm_up {g : Grw tb.T} {w : World} {β : Blk} {b : Nat} {bl : Nat → Option Nat} (h : GR P (sigB P tb false) g w β b bl) : GR P (sigM P tb fs mkm mpt k1 ini mode) g w β b bl :=
  { hk := h.hk, hK := h.hK, one := h.one, flat := h.flat, nt := h.nt, tok := h.tok, len := h.len, head := h.head, outb := h.outb, cells := h.cells, inj := h.inj, inb := h.inb, inn := h.inn }
theorem grm_dn {g : Grw tb.T} {w : World} {β : Blk} {b : Nat} {bl : Nat → Option Nat} (h : GR P (sigM P tb fs mkm mpt k1 ini mode) g w β b bl) : GR P (sigB P tb false) g w β b bl :=
  { hk := h.hk, hK := h.hK, one := h.one, flat := h.flat, nt := h.nt, tok := h.tok, len := h.len, head := h.head, outb := h.outb, cells := h.cells, inj := h.inj, inb := h.inb, inn := h.inn }
theorem mr_up {g : Mrw} {w : World} {β : Blk} {b : Nat} {bl : Nat → Option Nat} (h : MR P (sigB1 P tb k1) g w β b bl) : MR P (sigM P tb fs mkm mpt k1 ini mode) g w β b bl :=
  { one := h.one, tok := h.tok, len := h.len, head := h.head, outb := h.outb, cells := h.cells, inj := h.inj, inb := h.inb, inn := h.inn }
theorem mr_dn {g : Mrw} {w : World} {β : Blk} {b : Nat} {bl : Nat → Option Nat} (h : MR P (sigM P tb fs mkm mpt k1 ini mode) g w β b bl) : MR P (sigB1 P tb k1) g w β b bl :=
  { one := h.one, tok := h.tok, len := h.len, head := h.head, outb := h.outb, cells := h.cells, inj := h.inj, inb := h.inb, inn := h.inn }

/-- what is asked of the types of maps -/
structure MapOK (P : Program) (tb : Tb) (mkm mpt : TypeId → Bool) (k1 : Nat) : Prop where
  one : szT P (tb.kd k1).E = 1
  ms : ∀ t, mkm t = true → ∃ e ii, P.underlying t = some (.slice e) ∧ P.info? e = some ii ∧ ii.zero = some (.map none) ∧ ii.size = 1 ∧ 0 < ii.bytes ∧ ii.bytes ≤ 1024
  mp : ∀ t, mpt t = true → ∃ ke ve, P.underlying t = some (.map ke ve) ∧ P.underlying ke = some .string ∧ (P.info? ve).bind (·.zero) = some (.int .i64 0)

theorem laws_m (h : tbOk P tb tb.n = true) (hf : ∀ a ∈ fs, FamOK P tb a) (hm : MapOK P tb mkm mpt k1) : Laws P (sigM P tb fs mkm mpt k1 ini mode) :=
  have B : Laws P (sigOf P tb (fun _ => Unit) (fun _ _ _ _ => False) (fun _ => none) ini mode (fun _ => false) (fun _ => none) false) := laws_of h (fun e q h => by cases h)
  { kd := B.kd, len := B.len, pos := B.pos, bytes := B.bytes, leaf := B.leaf, cl := B.cl, cln := B.cln, flat := B.flat, u8 := B.u8, b8 := B.b8, df := B.df, nsl := B.nsl
    mku := fun e q h => by simp [sigM] at h
    mkg := fun t e he => by
      obtain ⟨a, h1, rfl, rfl⟩ := mkU_inv he
      exact ⟨(hf a h1).t, rfl, (hf a h1).hk, (hf a h1).fl, (hf a h1).df⟩
    ztt := fun _ _ _ _ => rfl
    tst := fun h => by simp [sigM] at h
    zrt := fun u x w β hu j d v hd hv => by
      match u, x, hu, hd with
      | 0, x, hu, hd =>
        have hd : ([] : List (AV tb.T))[j]? = some d := hd
        rw [List.getElem?_nil] at hd; cases hd
      | 1, x, hu, hd =>
        have hd : ([] : List (AV tb.T))[j]? = some d := hd
        rw [List.getElem?_nil] at hd; cases hd
      | u + 2, x, hu, hd =>
        obtain ⟨g, hg, b, bl, gr⟩ := hu
        obtain ⟨a, tok, xs, h1, rfl, h3, rfl, h5⟩ := rtU_inv (tb := tb) (fs := fs) (u := u) (x := x) hd
        rw [hg] at h5; cases h5
        exact gr_tr (hf a h1) gr hv
    zrj := fun u x q h => by simp [sigM] at h
    zju := fun u x q h => by simp [sigM] at h
    zjw := fun u x q h => by simp [sigM] at h
    zjs := fun u x q h => by simp [sigM] at h
    zmk := fun l q h => by simp [sigM] at h
    zst := fun u y k xs hrt hfl hk i off x x' v0 hx hoff hop q hq => by simp [sigM] at hq
    gru := fun u y g hg w β hu => by
      match u, y, hg, hu with
      | 0, y, hg, hu => exact absurd (show none = some g from hg) (by simp)
      | 1, y, hg, hu => exact absurd (show none = some g from hg) (by simp)
      | u + 2, y, hg, hu =>
        obtain ⟨g', h1, b, bl, gr⟩ := hu
        have hg : grU fs u y = some g := hg
        rw [hg] at h1; cases h1
        exact ⟨b, bl, grm_up gr⟩
    grmu := fun g q hq w β b bl gr => by
      have hq : gmM tb fs g = some q := hq
      unfold gmM at hq
      split at hq
      · rename_i q' hq'
        cases hq
        exact ⟨g, gmU_gr hq', b, bl, grm_dn gr⟩
      · cases hq
    grg := fun g q hq => by
      have hq : gmM tb fs g = some q := hq
      unfold gmM at hq
      split at hq
      · rename_i q' hq'
        cases hq
        exact gmU_gr hq'
      · cases hq
    mru := fun u y g hg w β hu => by
      match u, y, hg, hu with
      | 0, y, hg, hu =>
        obtain ⟨b, bl, mr⟩ := hu
        have hg : some (⟨y.1, y.2⟩ : Mrw) = some g := hg
        cases hg
        exact ⟨b, bl, mr_up mr⟩
      | 1, y, hg, hu => exact absurd (show none = some g from hg) (by simp)
      | u + 2, y, hg, hu => exact absurd (show none = some g from hg) (by simp)
    mrmu := fun g q hq w β b bl mr => by
      have hq : some (⟨0, (g.tok, g.xs)⟩ : (u : Nat) × UM tb.T fs u) = some q := hq
      cases hq
      exact ⟨b, bl, mr_dn mr⟩
    mfu := fun u y es hg w β hu => by
      match u, y, hg, hu with
      | 0, y, hg, hu => exact absurd (show none = some es from hg) (by simp)
      | 1, y, hg, hu =>
        have hg : some y = some es := hg
        cases hg
        exact hu
      | u + 2, y, hg, hu => exact absurd (show none = some es from hg) (by simp)
    mfmu := fun es q hq w β bm mf => by
      have hq : some (⟨1, es⟩ : (u : Nat) × UM tb.T fs u) = some q := hq
      cases hq
      exact ⟨bm, mf⟩
    mkmt := fun t ht => ⟨hm.one, hm.ms t ht⟩
    mptt := fun t ht => hm.mp t ht }

theorem fnok_m : FnOK P (sigM P tb fs mkm mpt k1 ini mode) := ⟨fun f hf => by
  simp only [sigM, okFn] at hf
  split at hf
  · rename_i fn hfn
    simp only [Bool.and_eq_true, Bool.not_eq_true'] at hf
    exact ⟨fn, hfn, hf.1, hf.2⟩
  · cases hf⟩
end Go.Proofs.Ytjfmfpnnjgfffaa.Am
