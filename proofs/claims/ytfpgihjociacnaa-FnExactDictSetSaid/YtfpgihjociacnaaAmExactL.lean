/- The exact laws of dictionaries. -/
import Derived.Test.YtfpgihjociacnaaAmExactD
import Derived.Test.YtfpgihjociacnaaAmRowE
namespace Go.Proofs.Ytfpgihjociacnaa.Am
open Go
set_option autoImplicit false
set_option linter.unusedVariables false
set_option linter.unusedSimpArgs false

theorem sb (b : Bool) : (!(b == b)) = false := by cases b <;> rfl
theorem keysR_len (d : Dic) : (keysR d).length ≤ 40 := by
  unfold keysR
  by_cases h : Valid d
  · rw [if_pos h]; unfold keys; rw [List.length_map, L_len]; exact h.lv
  · rw [if_neg h]; simp
theorem drop_len {d : Dic} {key : ByteArray} : (drpR d key).1.ix.length ≤ 128 ∧ (drpR d key).1.es.length ≤ 85 := by
  unfold drpR
  by_cases g : Valid d ∧ key.size ≤ 20
  · rw [if_pos g]
    by_cases g2 : 0 ≤ at' d key
    · rw [if_pos g2]; exact (drp_valid g.1 (i := (at' d key).toNat) (by omega)).len
    · rw [if_neg g2]; exact g.1.len
  · rw [if_neg g]; simp
theorem set_len {d : Dic} {key : ByteArray} {v : Int} : (setR d key v).1.ix.length ≤ 128 ∧ (setR d key v).1.es.length ≤ 85 := by
  unfold setR
  by_cases g : Valid d ∧ key.size ≤ 20 ∧ -1000000 ≤ v ∧ v ≤ 1000000
  · rw [if_pos g]
    by_cases g2 : 0 ≤ at' d key ∨ lives d.es < 40
    · rw [if_pos g2]; exact (setk_valid g.1 g.2.1 g.2.2 g2).len
    · rw [if_neg g2]; exact g.1.len
  · rw [if_neg g]; simp
theorem pack_len (d : Dic) : (packR d).ix.length ≤ 128 ∧ (packR d).es.length ≤ 85 := by
  unfold packR
  by_cases h : Valid d
  · have hl := h.lv
    obtain ⟨s1, s2⟩ := szf_ok (n := lives d.es) (by omega)
    rw [if_pos h]; exact (pk_valid h s1 (by omega)).1.len
  · rw [if_neg h]; simp
/-- what is handed over is small -/
theorem small {ix : List Int} {es : List Ety} (h : ∀ (j : Nat) (d : AV G.T), (encC (T := G.T) [.imm 0, .imm 5] (ix, (es, ())))[j]? = some d → SmV G d) : ix.length ≤ 9223372036854775807 ∧ es.length ≤ 9223372036854775807 ∧ ∀ (i : Nat) (e : Ety), es[i]? = some e → e.key.size ≤ 9223372036854775807 := by
  have h0 := h 0 (.imm 0 ix) rfl
  have h1 := h 1 (.imm 5 es) rfl
  exact ⟨h0.len, h1.len, fun i e he => (h1.elt (i := i) (x := e) he (j := 0) (d := .lit (.string e.key)) rfl).siz⟩

theorem law_xkeys {n : Nat} (hn : 4000000 ≤ n) (y : denC G.T [.imm 0, .imm 5]) (s : ∀ (j : Nat) (d : AV G.T), (encC [.imm 0, .imm 5] y)[j]? = some d → SmV G d) : F3 n y.1 y.2.1 = some (true, ()) := by
  obtain ⟨ix, es, u⟩ := y
  obtain ⟨l1, l2, l3⟩ := small s
  show F3 n ix es = some (true, ())
  unfold F3
  have hn' : 10000 ≤ n := by omega
  have hn : 3000000 ≤ n := by omega
  obtain ⟨r, r1, r2⟩ := szD (n := n) hn l1 l2 l3
  rw [r1]; simp only [ats]
  by_cases h : r < 0
  · rw [bp h]
  rw [bn h]
  obtain ⟨h1, h2⟩ := r2 (by omega)
  have T := toD (n := n) (d := ⟨ix, es⟩) hn h1 h2
  have Q := eqD (n := n) (d := ⟨ix, es⟩) hn h1 h2
  have M := markD (n := n) (d := ⟨ix, es⟩) hn h1 h2
  have KS := keysS (n := n) (d := ⟨ix, es⟩) hn'
  have KI := keysI (n := n) (d := ⟨ix, es⟩) hn'
  have kl := keysR_len ⟨ix, es⟩
  have QS := eqStringS (n := n) (a := keysR ⟨ix, es⟩) hn (by omega)
  have MS := markStringS (n := n) (k := 1) (a := keysR ⟨ix, es⟩) hn (by omega) (by omega) (by omega)
  have HS := heldStringS (n := n) (k := 1) (len := (keysR ⟨ix, es⟩).length) hn (by omega) (by omega) (by omega)
  simp only at T Q M KS KI
  simp only [T, KS, KI, ats, QS, Q, M, MS, HS, Bool.not_true, cf]
  rw [bn (by omega), bn (by omega), nen rfl, bn (by omega), nen rfl]
theorem law_xdrop {n : Nat} (hn : 4000000 ≤ n) (y : denC G.T [.imm 0, .imm 5]) (s : ∀ (j : Nat) (d : AV G.T), (encC [.imm 0, .imm 5] y)[j]? = some d → SmV G d) (key : ByteArray) (sk : SmV G (Cd.enc .str key)) : F4 n y.1 y.2.1 key = some (true, ()) := by
  obtain ⟨ix, es, u⟩ := y
  obtain ⟨l1, l2, l3⟩ := small s
  show F4 n ix es key = some (true, ())
  unfold F4
  by_cases hk : (key.size : Int) > 1048576
  · rw [bp hk]
  rw [bn hk]
  have hn' : 10000 ≤ n := by omega
  have hn : 3000000 ≤ n := by omega
  obtain ⟨r, r1, r2⟩ := szD (n := n) hn l1 l2 l3
  rw [r1]; simp only [ats]
  by_cases h : r < 0
  · rw [bp h]
  rw [bn h]
  obtain ⟨h1, h2⟩ := r2 (by omega)
  have T := toD (n := n) (d := ⟨ix, es⟩) hn h1 h2
  have Q := eqD (n := n) (d := ⟨ix, es⟩) hn h1 h2
  have M := markD (n := n) (d := ⟨ix, es⟩) hn h1 h2
  have KS := dropS (n := n) (d := ⟨ix, es⟩) (key := key) hn'
  have KI := dropI (n := n) (d := ⟨ix, es⟩) (key := key) hn'
  obtain ⟨kl1, kl2⟩ := drop_len (d := ⟨ix, es⟩) (key := key)
  have QS := eqD (n := n) (d := (drpR ⟨ix, es⟩ key).1) hn (by omega) (by omega)
  have MS := markD (n := n) (d := (drpR ⟨ix, es⟩ key).1) hn (by omega) (by omega)
  have HS := heldD (n := n) (a := (drpR ⟨ix, es⟩ key).1.ix.length) (b := (drpR ⟨ix, es⟩ key).1.es.length) hn (by omega) (by omega)
  simp only at T Q M KS KI
  simp only [T, KS, KI, ats, QS, Q, M, MS, HS, Bool.not_true, cf, sb]
  rw [bn (by omega), bn (by omega), nen rfl, bn (by omega), nen rfl]
theorem law_xpack {n : Nat} (hn : 4000000 ≤ n) (y : denC G.T [.imm 0, .imm 5]) (s : ∀ (j : Nat) (d : AV G.T), (encC [.imm 0, .imm 5] y)[j]? = some d → SmV G d) : F5 n y.1 y.2.1 = some (true, ()) := by
  obtain ⟨ix, es, u⟩ := y
  obtain ⟨l1, l2, l3⟩ := small s
  show F5 n ix es = some (true, ())
  unfold F5
  have hn' : 10000 ≤ n := by omega
  have hn : 3000000 ≤ n := by omega
  obtain ⟨r, r1, r2⟩ := szD (n := n) hn l1 l2 l3
  rw [r1]; simp only [ats]
  by_cases h : r < 0
  · rw [bp h]
  rw [bn h]
  obtain ⟨h1, h2⟩ := r2 (by omega)
  have T := toD (n := n) (d := ⟨ix, es⟩) hn h1 h2
  have Q := eqD (n := n) (d := ⟨ix, es⟩) hn h1 h2
  have M := markD (n := n) (d := ⟨ix, es⟩) hn h1 h2
  have KS := packdS (n := n) (d := ⟨ix, es⟩) hn'
  have KI := packdI (n := n) (d := ⟨ix, es⟩) hn'
  obtain ⟨kl1, kl2⟩ := pack_len ⟨ix, es⟩
  have QS := eqD (n := n) (d := packR ⟨ix, es⟩) hn (by omega) (by omega)
  have MS := markD (n := n) (d := packR ⟨ix, es⟩) hn (by omega) (by omega)
  have HS := heldD (n := n) (a := (packR ⟨ix, es⟩).ix.length) (b := (packR ⟨ix, es⟩).es.length) hn (by omega) (by omega)
  simp only at T Q M KS KI
  simp only [T, KS, KI, ats, QS, Q, M, MS, HS, Bool.not_true, cf, sb]
  rw [bn (by omega), bn (by omega), nen rfl, bn (by omega), nen rfl]
theorem law_xset {n : Nat} (hn : 4000000 ≤ n) (y : denC G.T [.imm 0, .imm 5]) (s : ∀ (j : Nat) (d : AV G.T), (encC [.imm 0, .imm 5] y)[j]? = some d → SmV G d) (key : ByteArray) (sk : SmV G (Cd.enc .str key)) (v : Int) (sv : SmV G (Cd.enc (.int .i64) v)) : F6 n y.1 y.2.1 key v = some (true, ()) := by
  obtain ⟨ix, es, u⟩ := y
  obtain ⟨l1, l2, l3⟩ := small s
  show F6 n ix es key v = some (true, ())
  unfold F6
  by_cases hk : (key.size : Int) > 1048576
  · rw [bp hk]
  rw [bn hk]
  have hn' : 10000 ≤ n := by omega
  have hn : 3000000 ≤ n := by omega
  obtain ⟨r, r1, r2⟩ := szD (n := n) hn l1 l2 l3
  rw [r1]; simp only [ats]
  by_cases h : r < 0
  · rw [bp h]
  rw [bn h]
  obtain ⟨h1, h2⟩ := r2 (by omega)
  have T := toD (n := n) (d := ⟨ix, es⟩) hn h1 h2
  have Q := eqD (n := n) (d := ⟨ix, es⟩) hn h1 h2
  have M := markD (n := n) (d := ⟨ix, es⟩) hn h1 h2
  have KS := setS (n := n) (d := ⟨ix, es⟩) (key := key) (v := v) hn'
  have KI := setI (n := n) (d := ⟨ix, es⟩) (key := key) (v := v) hn'
  obtain ⟨kl1, kl2⟩ := set_len (d := ⟨ix, es⟩) (key := key) (v := v)
  have QS := eqD (n := n) (d := (setR ⟨ix, es⟩ key v).1) hn (by omega) (by omega)
  have MS := markD (n := n) (d := (setR ⟨ix, es⟩ key v).1) hn (by omega) (by omega)
  have HS := heldD (n := n) (a := (setR ⟨ix, es⟩ key v).1.ix.length) (b := (setR ⟨ix, es⟩ key v).1.es.length) hn (by omega) (by omega)
  simp only at T Q M KS KI
  simp only [T, KS, KI, ats, QS, Q, M, MS, HS, Bool.not_true, cf, sb]
  rw [bn (by omega), bn (by omega), nen rfl, bn (by omega), nen rfl]
end Go.Proofs.Ytfpgihjociacnaa.Am
