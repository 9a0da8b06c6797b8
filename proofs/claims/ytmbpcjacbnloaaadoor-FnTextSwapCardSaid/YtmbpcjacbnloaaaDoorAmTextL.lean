/- The laws of the seat, as the rows ask for them. -/
import Derived.Test.YtmbpcjacbnloaaaDoorAmDrawT
import Derived.Test.YtmbpcjacbnloaaaDoorAmOpen
namespace Go.Proofs.YtmbpcjacbnloaaaDoor.Am
open Go
set_option autoImplicit false
set_option linter.unusedVariables false
theorem okb_of {l : List Int} (h : SmV G (.imm 1 (l : List (G.T 1)))) : okb l := fun x hx => by
  obtain ⟨i, hi, e⟩ := List.getElem_of_mem hx
  have hh := h.elt (i := i) (x := x) (by rw [← e]; exact List.getElem?_eq_getElem hi) (j := 0) (d := .lit (.int .u8 x)) rfl
  have w : (Lit.int .u8 x).wf = true := by cases hh with | int _ _ w => exact w
  simp only [Lit.wf, Bool.and_eq_true, decide_eq_true_eq] at w
  have e1 : IntKind.min .u8 = 0 := by decide
  have e2 : IntKind.max .u8 = 255 := by decide
  omega
theorem law3V {n : Nat} (hn : 20000 ≤ n) (a : Cd.den G.T .str) (sa : SmV G (Cd.enc .str a)) (b : Cd.den G.T .str) (sb : SmV G (Cd.enc .str b)) (c : Cd.den G.T .str) (sc : SmV G (Cd.enc .str c)) : F3 n a b c = some (true, ()) := law3 hn a b c
theorem law4V {n : Nat} (hn : 20000 ≤ n) (y : Cd.den G.T (.imm 1)) (s : SmV G (Cd.enc (.imm 1) y)) : F4 n y = some (true, ()) := law4 hn (okb_of s)
theorem law5V {n : Nat} (hn : 20000 ≤ n) (y : Cd.den G.T (.imm 1)) (s : SmV G (Cd.enc (.imm 1) y)) : F5 n y = some (true, ()) := law5 hn (okb_of s)
theorem law6V {n : Nat} (hn : 20000 ≤ n) (y : Cd.den G.T (.imm 1)) (s : SmV G (Cd.enc (.imm 1) y)) : F6 n y = some (true, ()) := law6 hn (okb_of s)
end Go.Proofs.YtmbpcjacbnloaaaDoor.Am
