/- What is handed to a law of this seat, as values of the abstract machine. -/
import Derived.Test.YtjfmfpnnjgfffaaAmImpSig
import Derived.Test.YtjfmfpnnjgfffaaAmOpen
namespace Go.Proofs.Ytjfmfpnnjgfffaa.Am
open Go Go.Proofs.Try
set_option autoImplicit false
set_option linter.unusedVariables false
set_option maxRecDepth 100000
theorem tys : tysOk prog tb tb.n = true := by kernel_rfl
theorem arg_ok {H : Type} {enc : TypeId × Value → H} {W : World} {base b0 : Nat} {sp : Nat → Bool} {hd : Bool} {t : TypeId} {c : Cd} {v : Value} {d : DataW H} {ps : List MemPlace} (hc : cdOk prog tb t c = true) (hw : Value.okWide prog W .any b0 t v) (h : DataW.Trod enc prog W base sp hd t v d ps) :
    ∃ y : c.den G.T, VR0 prog G W (c.enc y) v ∧ SmV G (c.enc y) := open_arg tys hc hw h
theorem struct_ok {H : Type} {enc : TypeId × Value → H} {W : World} {base b0 : Nat} {sp : Nat → Bool} {hd : Bool} {t : TypeId} {cds : List Cd} {v : Value} {d : DataW H} {ps : List MemPlace} {fs : Array Field} (ht : prog.underlying t = some (.struct fs)) (hc : tyOk prog tb t cds = true) (hw : Value.okWide prog W .any b0 t v) (h : DataW.Trod enc prog W base sp hd t v d ps) :
    ∃ y : denC G.T cds, VR0 prog G W (.agg (encC cds y)) v ∧ ∀ (j : Nat) (d : AV G.T), (encC cds y)[j]? = some d → SmV G d := open_struct tys ht hc hw h
end Go.Proofs.Ytjfmfpnnjgfffaa.Am
