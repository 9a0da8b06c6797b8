/- Imports, plainly: sizes, copies, equalities, marks. -/
import Derived.Test.YtjfmfpnnjgfffaaAmImrN
namespace Go.Proofs.Ytjfmfpnnjgfffaa.Am
open Go
set_option autoImplicit false
set_option linter.unusedVariables false
set_option linter.unusedSimpArgs false
set_option maxRecDepth 10000

abbrev t0 : Stp := Stp.mk (0 : Int) (0 : Int) ({ data := #[] } : ByteArray)
theorem e0 {i : Nat} : ((i : Nat) : Int).toNat = i := by omega
theorem e1 {i : Nat} : ((i : Int) + 1) = ((i + 1 : Nat) : Int) := by omega
theorem bb (s : ByteArray) : (!(s.toList == s.toList)) = false := by rw [keq, decide_eq_true rfl]; rfl
theorem getD_set' {α : Type} {l : List α} {i j : Nat} {v d : α} (h : i < l.length) : (l.set i v).getD j d = if i = j then v else l.getD j d := by
  simp only [List.getD, List.getElem?_set]
  by_cases e : i = j
  · subst e; rw [if_pos rfl, if_pos rfl, if_pos h]; rfl
  · rw [if_neg e, if_neg e]
theorem list_ext {α : Type} {a b : List α} (d : α) (h : a.length = b.length) (g : ∀ j, j < a.length → a.getD j d = b.getD j d) : a = b := by
  apply List.ext_getElem h
  intro i h1 h2
  have := g i h1
  rwa [getD_lt h1, getD_lt h2] at this

def Sz1 (r : List Stp) : Prop := r.length ≤ 1048576 ∧ ∀ j, j < r.length → (r.getD j t0).name.size ≤ 1048576
def Sz (a : List (List Stp)) : Prop := a.length ≤ 1048576 ∧ ∀ j, j < a.length → Sz1 (a.getD j [])
def Bg1 (r : List Stp) : Prop := r.length ≤ 9223372036854775807 ∧ ∀ j, j < r.length → (r.getD j t0).name.size ≤ 9223372036854775807
def Bg (a : List (List Stp)) : Prop := a.length ≤ 9223372036854775807 ∧ ∀ j, j < a.length → Bg1 (a.getD j [])

-- sizes -------------------------------------------------------------------------------------------------------------------------------------
theorem clS {n : Nat} {a : List Int} (ha : a.length ≤ 1048576) : F51 n a = some ((), (a, ())) := by
  unfold F51
  by_cases g : a.length ≤ 0
  · have e : a = [] := List.eq_nil_of_length_eq_zero (by omega)
    subst e; rw [bp (by simp), bp (by simp)]; exact both_self _
  · rw [bn g, bp (by simp; omega)]; rfl

-- equalities ----------------------------------------------------------------------------------------------------------------------------------
end Go.Proofs.Ytjfmfpnnjgfffaa.Am
