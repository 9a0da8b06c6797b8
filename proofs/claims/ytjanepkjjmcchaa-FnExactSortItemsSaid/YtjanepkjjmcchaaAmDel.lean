/- slices.Delete, walked. -/
import Derived.Test.YtjanepkjjmcchaaAmIns
namespace Go.Proofs.Ytjanepkjjmcchaa.Am
open Go Go.Proofs Go.RowKit Go.Lib
set_option autoImplicit false
set_option linter.unusedVariables false
set_option linter.unusedSimpArgs false
section
variable {P : Program}
theorem wpList_clear_runJ (w : World) {ops : Array Oper} {rest : List Oper} {o : Oper} {a : Act} {Q : Exit → Act → World → Prop} (hgd : o.guard = none) (d : Operand) (t : TypeId)
    (ho : o.op = .call { callee := .builtin .clear, args := #[d], argTypes := #[t] }) (v : Value) (hd : a.eval d = v) {v' : Value} {w' : World}
    (hr : (Builtin.clear_ #[t] o.type #[v]).run P w = .ok v' w') (h : wpList P ops Q rest (a.put o.dst v') w') : wpList P ops Q (o :: rest) a w :=
  wpList_plain hgd fun _ hK => by
    unfold Oper.wp execOp
    simp only [ho, resolve, invoke, builtin, Sem.run_bind, Sem.run_pure, Result.andThen_ok, List.map_toArray, List.map_cons, List.map_nil, hd, hr]
    exact hK _ _ h
theorem step_append_runJ {ops : Array Oper} {o : Oper} {a : Act} {w : World} {K : Act → World → Prop} {Q : Exit → Act → World → Prop} {E : Prop}
    (hg : o.guard = none) (d x : Operand) (dT sT : TypeId) (hop : o.op = Op.call { callee := Callee.builtin Builtin.append, args := #[d, x], argTypes := #[dT, sT] })
    (v u : Value) (hd : a.eval d = v) (hx : a.eval x = u) {v' : Value} {w' : World} (hr : (Builtin.append_ #[dT, sT] o.type #[v, u]).run P w = .ok v' w') (hK : K (a.put o.dst v') w') :
    if Region.wanted o (yielded ops a.tmps) = true then Oper.wp P o a w K Q else E := by
  have hw : Region.wanted o (yielded ops a.tmps) = true := by simp [Region.wanted, hg]
  rw [if_pos hw]
  unfold Oper.wp
  simp [execOp, hop, resolve, invoke, builtin, hd, hx, hr, Result.andThen]
  exact hK
theorem step_clear_runJ {ops : Array Oper} {o : Oper} {a : Act} {w : World} {K : Act → World → Prop} {Q : Exit → Act → World → Prop} {E : Prop}
    (hg : o.guard = none) (d : Operand) (dT : TypeId) (hop : o.op = Op.call { callee := Callee.builtin Builtin.clear, args := #[d], argTypes := #[dT] })
    (v : Value) (hd : a.eval d = v) {v' : Value} {w' : World} (hr : (Builtin.clear_ #[dT] o.type #[v]).run P w = .ok v' w') (hK : K (a.put o.dst v') w') :
    if Region.wanted o (yielded ops a.tmps) = true then Oper.wp P o a w K Q else E := by
  have hw : Region.wanted o (yielded ops a.tmps) = true := by simp [Region.wanted, hg]
  rw [if_pos hw]
  unfold Oper.wp
  simp [execOp, hop, resolve, invoke, builtin, hd, hr, Result.andThen]
  exact hK
end
set_option maxHeartbeats 4000000 in
set_option maxRecDepth 100000 in
theorem del39 (b n c i j : Nat) (A : Addr) (v0 : Value) (w W1 W2 : World) (hi : i < j) (hj : j ≤ n) (hnc : n ≤ c) (hbig : n ≤ 68719476736)
    (hA : (if c = j then (⟨b, 0, none⟩ : Addr) else ⟨b, j, none⟩) = A)
    (happ : ∀ ty dc, (Builtin.append_ #[38, 38] ty #[.slice (some ⟨b, 0, none⟩) i c, .slice (some A) (n - j) dc]).run Try.prog w.drew = .ok (.slice (some ⟨b, 0, none⟩) (i + (n - j)) c) W1)
    (hclr : ∀ ty dc, (Builtin.clear_ #[38] ty #[.slice (some ⟨b, i + (n - j), none⟩) (n - (i + (n - j))) dc]).run Try.prog W1 = .ok v0 W2) :
    Calls Try.prog 39 #[.slice (some ⟨b, 0, none⟩) n c, .int .i64 i, .int .i64 j] w fun e w'' => e = .returned (.slice (some ⟨b, 0, none⟩) (i + (n - j)) c) ∧ w'' = W2 := by
  have mixed : Try.prog.follows .mixedOrders = true := by kernel_rfl
  have hz2 : ¬ ((i : Int) = (j : Int)) := by omega
  have hic : i ≤ c := by omega
  have hjc : j ≤ c := by omega
  have hin : i + (n - j) ≤ n := by omega
  have hne : ¬ (c = i + (n - j)) := by omega
  go_enter Try.func39, Try.ntmps39
  go_wp2
  by_cases hcj : c = j
  · have hn : n = c := by omega
    subst hcj
    subst hn
    simp only [if_true] at hA
    subst hA
    simp only [Nat.sub_self, Nat.add_zero] at happ hclr ⊢
    go_region_law_o (refine step_append_runJ rfl (.tmp 22) (.tmp 25) 38 38 rfl (.slice (some ⟨b, 0, none⟩) i n) (.slice (some ⟨b, 0, none⟩) 0 0) (by simp [Act.eval, Act.put]) (by simp [Act.eval, Act.put]) (happ _ _) ?_)
    go_wp2
    go_ret
    exact ⟨by rw [Nat.sub_self, Nat.add_zero]; rfl, rfl⟩
  · simp only [hcj, if_false] at hA
    subst hA
    go_region_law_o (refine step_append_runJ rfl (.tmp 22) (.tmp 25) 38 38 rfl (.slice (some ⟨b, 0, none⟩) i c) (.slice (some ⟨b, j, none⟩) (n - j) (c - j)) (by simp [Act.eval, Act.put]) (by simp [Act.eval, Act.put]) (happ _ _) ?_)
    go_wp2
    go_ret
    exact ⟨rfl, rfl⟩
set_option maxHeartbeats 4000000 in
set_option maxRecDepth 100000 in
theorem del22 (b n c i j : Nat) (A : Addr) (v0 : Value) (w W1 W2 : World) (hi : i < j) (hj : j ≤ n) (hnc : n ≤ c) (hbig : n ≤ 68719476736)
    (hA : (if c = j then (⟨b, 0, none⟩ : Addr) else ⟨b, j, none⟩) = A)
    (happ : ∀ ty dc, (Builtin.append_ #[27, 27] ty #[.slice (some ⟨b, 0, none⟩) i c, .slice (some A) (n - j) dc]).run Try.prog w.drew = .ok (.slice (some ⟨b, 0, none⟩) (i + (n - j)) c) W1)
    (hclr : ∀ ty dc, (Builtin.clear_ #[27] ty #[.slice (some ⟨b, i + (n - j), none⟩) (n - (i + (n - j))) dc]).run Try.prog W1 = .ok v0 W2) :
    Calls Try.prog 22 #[.slice (some ⟨b, 0, none⟩) n c, .int .i64 i, .int .i64 j] w fun e w'' => e = .returned (.slice (some ⟨b, 0, none⟩) (i + (n - j)) c) ∧ w'' = W2 := by
  have mixed : Try.prog.follows .mixedOrders = true := by kernel_rfl
  have hz2 : ¬ ((i : Int) = (j : Int)) := by omega
  have hic : i ≤ c := by omega
  have hjc : j ≤ c := by omega
  have hin : i + (n - j) ≤ n := by omega
  have hne : ¬ (c = i + (n - j)) := by omega
  go_enter Try.func22, Try.ntmps22
  go_wp2
  by_cases hcj : c = j
  · have hn : n = c := by omega
    subst hcj
    subst hn
    simp only [if_true] at hA
    subst hA
    simp only [Nat.sub_self, Nat.add_zero] at happ hclr ⊢
    go_region_law_o (refine step_append_runJ rfl (.tmp 22) (.tmp 25) 27 27 rfl (.slice (some ⟨b, 0, none⟩) i n) (.slice (some ⟨b, 0, none⟩) 0 0) (by simp [Act.eval, Act.put]) (by simp [Act.eval, Act.put]) (happ _ _) ?_)
    go_wp2
    go_ret
    exact ⟨by rw [Nat.sub_self, Nat.add_zero]; rfl, rfl⟩
  · simp only [hcj, if_false] at hA
    subst hA
    go_region_law_o (refine step_append_runJ rfl (.tmp 22) (.tmp 25) 27 27 rfl (.slice (some ⟨b, 0, none⟩) i c) (.slice (some ⟨b, j, none⟩) (n - j) (c - j)) (by simp [Act.eval, Act.put]) (by simp [Act.eval, Act.put]) (happ _ _) ?_)
    go_wp2
    go_ret
    exact ⟨rfl, rfl⟩
end Go.Proofs.Ytjanepkjjmcchaa.Am
