/- The abstract machine: a signature with kinds whose empty rows have no room. -/
import Derived.Test.YtfknenaecihchaaAmSig
namespace Go.Proofs.Ytfknenaecihchaa.Am
open Go
set_option autoImplicit false
set_option linter.unusedVariables false

/-- kinds whose empty rows have no room; kinds whose elements are loaded with rows that are nowhere -/
def sigT (P : Program) (tb : Tb) (tight lo : Nat → Bool) (ini : TypeId → List Ini) (mode : FuncId → List Bool) (suf : TypeId → Bool := fun _ => false) (gl : Nat → Option (Value → Prop) := fun _ => none) : Sig :=
  { n := tb.n, T := tb.T, U := fun _ => Unit, E := fun k => (tb.kd k).E, kd := fun e => tb.find e tb.n
    op := fun k x => encC (tb.kd k).cds ((tb.kd k).fro x)
    cl := fun k cs => match decC (tb.kd k).cds cs with | some d => some ((tb.kd k).to d) | none => none
    df := fun k => (tb.kd k).to (dfC _)
    mode := mode, fn := okFn P, UR := fun _ _ _ _ => False
    u8 := fun k => match (tb.kd k).cds with | [.int .u8] => true | _ => false
    mku := fun _ => none, ini := ini
    flat := fun k => flatC2 (tb.kd k).cds
    suf := suf, gl := gl, strict := false, tight := tight, lo := lo }

variable {P : Program} {tb : Tb} {tight lo : Nat → Bool} {ini : TypeId → List Ini} {mode : FuncId → List Bool} {suf : TypeId → Bool} {gl : Nat → Option (Value → Prop)}
theorem laws_t (h : tbOk P tb tb.n = true) : Laws P (sigT P tb tight lo ini mode suf gl) :=
  have B : Laws P (sigOf P tb (fun _ => Unit) (fun _ _ _ _ => False) (fun _ => none) ini mode suf gl false) := laws_of h (fun e q h => by cases h)
  { kd := B.kd, len := B.len, pos := B.pos, bytes := B.bytes, leaf := B.leaf, cl := B.cl, cln := B.cln, flat := B.flat, u8 := B.u8, b8 := B.b8, df := B.df, nsl := B.nsl
    mku := fun e q h => by simp [sigT] at h
    zrt := fun u x w β h => h.elim
    zrj := fun u x q h => by simp [sigT] at h
    mkg := fun t e h => by simp [sigT] at h
    ztt := fun u x h => (h rfl).elim
    tst := fun h => by simp [sigT] at h
    zju := fun u x q h => by simp [sigT] at h
    zjw := fun u x q h => by simp [sigT] at h
    zjs := fun u x q h => by simp [sigT] at h
    zmk := fun l q h => by simp [sigT] at h
    zst := fun u y k xs h => by simp [sigT] at h
    gru := fun u y g h => by simp [sigT] at h
    grmu := fun g q h => by simp [sigT] at h }
theorem fnok_t : FnOK P (sigT P tb tight lo ini mode suf gl) := ⟨fun f hf => by
  simp only [sigT, okFn] at hf
  split at hf
  · rename_i fn hfn
    simp only [Bool.and_eq_true, Bool.not_eq_true'] at hf
    exact ⟨fn, hfn, hf.1, hf.2⟩
  · cases hf⟩
end Go.Proofs.Ytfknenaecihchaa.Am
