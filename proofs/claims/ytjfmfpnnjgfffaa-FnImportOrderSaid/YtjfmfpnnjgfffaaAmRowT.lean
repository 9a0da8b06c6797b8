/- From a function of the abstract machine over bytes to a law's calls. -/
import Derived.Test.YtjfmfpnnjgfffaaAmImrSig
import Derived.Test.YtjfmfpnnjgfffaaAmOpen
namespace Go.Proofs.Ytjfmfpnnjgfffaa.Am
open Go
set_option autoImplicit false
set_option linter.unusedVariables false
set_option maxRecDepth 100000

def IsRow (k : IntKind) (w : World) (a : Option Addr) (len cap : Nat) (zs : List Int) : Prop :=
  (a = none ∧ len = 0 ∧ cap = 0 ∧ zs = []) ∨
  ∃ x, a = some x ∧ len ≤ cap ∧ cap ≤ maxLen ∧ zs.length = cap ∧ (∀ i, i < zs.length → w.cell? (x.add i) = some (.int k (zs.getD i 0))) ∧ ∀ n ∈ zs, (Lit.int k n).wf = true

theorem row_vr {W : World} {a : Option Addr} {len cap : Nat} {zs : List Int} (h : IsRow .u8 W a len cap zs) : VR Try.prog G (fun _ => False) ⟨W, [], []⟩ (.imm 4 (zs.take len : List Int)) (.slice a len cap) := by
  have nt : G.tight 4 = true → False := fun h => by cases h
  rcases h with ⟨rfl, rfl, rfl, rfl⟩ | ⟨x, rfl, h1, h2, h3, h4, h5⟩
  · exact .imm (P := Try.prog) (G := G) 4 ([] : List Int) none 0 (fun _ _ => undef) (by decide) (Nat.le_refl 0) (fun i x hx => by cases hx) (fun i x hx => by cases hx) (fun _ _ => rfl)
  · have hl : (zs.take len).length = len := by rw [List.length_take]; omega
    have e1 : esz Try.prog G 4 = 1 := by kernel_rfl
    have key := VR.imm (P := Try.prog) (G := G) (F := fun _ => False) (c := ⟨W, [], []⟩) 4 (zs.take len : List Int) (some x) cap (fun i _ => .int .u8 (zs.getD i 0)) (by decide) (Nat.le_trans (Nat.le_of_eq hl) h1)
      (fun i y hy j d hd => by
        have hi : i < zs.length := by
          have := (List.getElem?_eq_some_iff.1 hy).1
          have h6 : i < (zs.take len).length := this
          rw [List.length_take] at h6; omega
        have hj : j = 0 := by
          have := (List.getElem?_eq_some_iff.1 hd).1
          have h6 : j < 1 := this
          omega
        subst hj
        refine ⟨x, rfl, ?_, ?_⟩
        · rintro (hf | ⟨o, obj, β, h6, _⟩)
          · exact hf
          · simp at h6
        · rw [e1]; simpa using h4 i hi)
      (fun i y hy j d hd => by
        have hj : j = 0 := by
          have := (List.getElem?_eq_some_iff.1 hd).1
          have h6 : j < 1 := this
          omega
        subst hj
        have hd : some (.lit (.int .u8 y)) = some d := hd
        cases hd
        have hy2 : (zs.take len)[i]? = some y := hy
        have : zs.getD i 0 = y := by
          rw [List.getElem?_take] at hy2
          split at hy2
          · simp only [List.getD, hy2]; rfl
          · cases hy2
        rw [this]
        exact .lit _) (fun h => (nt h).elim)
    rw [show (List.length (α := G.T 4) (zs.take len : List Int)) = len from hl] at key
    exact key

theorem walk {f : FuncId} {F : List Int → Option (Bool × Unit)} (h : EntOK Try.prog G ⟨f, .cons (.imm 4) .nil, [], .bool, [], fun x y => F x.1⟩) {W : World} {a : Option Addr} {len cap : Nat} {zs : List Int} (hr : IsRow .u8 W a len cap zs) (ht : F (zs.take len) = some (true, ())) :
    Calls Try.prog f #[.slice a len cap] W fun e W' => e = .returned (.bool true) ∧ RowKit.Below W.heap.size W W' :=
  walkE (args := [.slice a len cap]) (x := (zs.take len, ())) h rfl (fun i d v hd hv => by
    match i, hd, hv with
    | 0, hd, hv => cases hd; cases hv; exact row_vr hr
    | i + 1, hd, hv => simp at hv) ht
end Go.Proofs.Ytjfmfpnnjgfffaa.Am
