/- Imports, plainly: the exact law of needs. -/
import Derived.Test.YtjfmfpnnjgfffaaAmImpC
import Derived.Test.YtjfmfpnnjgfffaaAmOpen
namespace Go.Proofs.Ytjfmfpnnjgfffaa.Am
open Go
set_option autoImplicit false
set_option linter.unusedVariables false
theorem big_of {a : List (G.T 6)} (h : SmV G (.imm 6 a)) : Bg a := by
  refine ⟨h.len, fun j hj => ?_⟩
  have hx : (a : List (G.T 6))[j]? = some (List.getD (α := List Stp) a j []) := by
    rw [getD_lt hj]; exact List.getElem?_eq_getElem hj
  have h1 := h.elt hx (j := 0) (d := .imm 4 (List.getD (α := List Stp) a j [] : List (G.T 4))) rfl
  refine ⟨h1.len, fun i hi => ?_⟩
  have hy : (List.getD (α := List Stp) a j [] : List (G.T 4))[i]? = some ((List.getD (α := List Stp) a j []).getD i t0) := by
    rw [getD_lt hi]; exact List.getElem?_eq_getElem hi
  have h2 := h1.elt hy (j := 2) (d := .lit (.string ((List.getD (α := List Stp) a j []).getD i t0).name)) rfl
  exact h2.siz
theorem law_needs {n : Nat} (hn : 4000000 ≤ n) (y0 : Cd.den G.T (.imm 6)) (s0 : SmV G (Cd.enc (.imm 6) y0)) (y1 : Cd.den G.T (.int .i64)) (s1 : SmV G (Cd.enc (.int .i64) y1)) : F3 n y0 y1 = some (true, ()) := law_lists hn (big_of s0)
end Go.Proofs.Ytjfmfpnnjgfffaa.Am
