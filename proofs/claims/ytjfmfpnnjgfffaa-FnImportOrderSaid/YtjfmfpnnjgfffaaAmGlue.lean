/- The abstract machine: what the printed texts lean on. -/
import Derived.Test.YtjfmfpnnjgfffaaAmFun
namespace Go.Proofs.Ytjfmfpnnjgfffaa.Am
open Go
set_option autoImplicit false

def codeAt : Code → List Nat → Code
  | c, [] => c
  | .seq a b, i :: l => match i with | 0 => codeAt a l | _ => codeAt b l
  | .cond _ a b, i :: l => match i with | 0 => codeAt a l | _ => codeAt b l
  | .block _ a, _ :: l => codeAt a l
  | .loop a, _ :: l => codeAt a l
  | .scope a, _ :: l => codeAt a l
  | c, _ => c
def bodyOf (f : Func) : Code := match f.body with | some c => c | none => .skip

section
variable {P : Program} {G : Sig} {p : Nat} {fr : Nat → Sm G}
def AllF (P : Program) (G : Sig) (p : Nat) (fr : Nat → Sm G) (l : List (Nat × Code)) : Prop := ∀ q ∈ l, FragOK P G p q.2 (fr q.1)
theorem AllF.nil : AllF P G p fr [] := fun q hq => by simp at hq
theorem AllF.cons {i : Nat} {cd : Code} {l : List (Nat × Code)} (h : FragOK P G p cd (fr i)) (t : AllF P G p fr l) : AllF P G p fr ((i, cd) :: l) := fun q hq => by
  rcases List.mem_cons.1 hq with rfl | hq
  · exact h
  · exact t q hq
theorem AllF.of {cd : Code} {n : Ann} {l : List (Nat × Code)} (h : uses cd n = l) (t : AllF P G p fr l) : ∀ q ∈ uses cd n, FragOK P G p q.2 (fr q.1) := by rw [h]; exact t
theorem AllF.ofB {f : Func} {cd : Code} {n : Ann} {l : List (Nat × Code)} (hb : f.body = some cd) (h : uses cd n = l) (t : AllF P G p fr l) : ∀ c, f.body = some c → ∀ q ∈ uses c n, FragOK P G p q.2 (fr q.1) := by
  intro c hc; rw [hb] at hc; cases hc; rw [h]; exact t
def AllE (P : Program) (G : Sig) (l : List (Ent G)) : Prop := ∀ e ∈ l, EntOK P G e
theorem AllE.nil : AllE P G [] := fun q hq => by simp at hq
theorem AllE.cons {e : Ent G} {l : List (Ent G)} (h : EntOK P G e) (t : AllE P G l) : AllE P G (e :: l) := fun q hq => by
  rcases List.mem_cons.1 hq with rfl | hq
  · exact h
  · exact t q hq
theorem EntOK.none {e : Ent G} (h : ∀ x y, e.F x y = none) : EntOK P G e := fun x y z hz => by rw [h] at hz; cases hz
theorem AllE.tab {l : List (Ent G)} (h : AllE P G l) : TabOK P G (tabOf l) := tabOf_ok h
end
end Go.Proofs.Ytjfmfpnnjgfffaa.Am
