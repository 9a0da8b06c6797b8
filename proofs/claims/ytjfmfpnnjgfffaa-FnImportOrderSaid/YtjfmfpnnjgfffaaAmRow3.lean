/- The abstract machine: make and append. -/
import Derived.Test.YtjfmfpnnjgfffaaAmRow2
namespace Go.Proofs.Ytjfmfpnnjgfffaa.Am
open Go
set_option autoImplicit false
set_option linter.unusedVariables false
set_option linter.unusedSectionVars false
set_option linter.unusedSimpArgs false

section
variable {P : Program} {G : Sig} {F N : Nat → Prop} {c c' c'' : Cf G}

theorem zero_row {k : Nat} {z : Value} (L : Laws P G) (hk : k < G.n) (hz : (P.info? (G.E k)).bind (·.zero) = some z) :
    z.cells.size = esz P G k ∧ ∀ (j : Nat) (v : Value) (d : AV G.T), z.cells[j]? = some v → (G.op k (G.df k))[j]? = some d → VR P G F c d v := by
  obtain ⟨z', h1, h2, h3⟩ := L.df k hk
  rw [hz] at h1; cases h1
  refine ⟨h2, fun j v d hv hd => ?_⟩
  rcases h3 j v d hv hd with rfl | ⟨h4, k', h5, rfl⟩
  · exact litOf_rel F c v
  · have := litOf_rel (P := P) F c v
    rw [h4] at this
    cases this with
    | nil0 a ha => exact VR_imm_of_nil h5 a

theorem made_get (z : Array Value) (n r sz j : Nat) (hz : z.size = sz) (hj : j < sz) (hn : r * sz + j < n) : (madeCells z n)[r * sz + j]? = z[j]? := by
  unfold madeCells
  have h0 : (r * sz + j) % z.size = j := by rw [hz, Nat.add_comm, Nat.add_mul_mod_self_right, Nat.mod_eq_of_lt hj]
  have h1 : z[j]! = z[j]'(by omega) := by rw [getElem!_pos]
  simp only [Array.getElem?_map, Array.getElem?_range]
  rw [if_pos hn]
  simp only [Option.map_some, h0, h1]
  rw [getElem?_pos]

theorem makeV_ok {nb k : Nat} {t : TypeId} {kl kc : IntKind} {l cp : Int} (L : Laws P G) (ok : OK P G F N c) (hnb : c.os[nb]? = some .free) (hkt : kindOfSlice P G t = some k)
    (h0 : 0 ≤ l) (h1 : l ≤ cp) (h2 : cp ≤ (maxSz : Nat)) (ht : G.tight k = true → l = cp) :
    OpTo P G F N c (Instr.makeSlice t (.int kl l) (.int kc cp)) (setObj c.os nb (.arr k (List.replicate l.toNat (G.df k)) true)) (.own nb) := by
  obtain ⟨e, i, hu, hE, hk, hi, hsz, hb0, hb1⟩ := kindOf_ok L hkt
  obtain ⟨z, hz1, -, -⟩ := L.df k hk
  obtain ⟨hzs, hzr⟩ := zero_row (F := F) (c := c) L hk hz1
  rw [hE, hi] at hz1
  have hz1 : i.zero = some z := hz1
  unfold maxSz at h2
  have hbytes : (i.bytes : Int) * cp ≤ 281474976710656 := by
    have : (i.bytes : Int) * cp ≤ 1024 * 68719476736 := Int.mul_le_mul (by omega) (by omega) (by omega) (by omega)
    omega
  have hr := Go.run_make (P := P) c.w t e i z hu hi hz1 kl kc l cp h0 h1 hbytes (by omega)
  have hlen : (List.replicate l.toNat (G.df k)).length = l.toNat := by simp
  obtain ⟨m', t', ok', hv⟩ := row_new (c := c) (cs := madeCells z.cells (cp.toNat * i.size)) (cap := cp.toNat) (w1 := c.w.alloc (.cells (madeCells z.cells (cp.toNat * i.size)) e)) (nb := nb) (k := k) (xs := List.replicate l.toNat (G.df k)) L ok hnb hk
    ⟨rfl, rfl, rfl, by show c.w.heap.push _ = _; rw [hE]⟩ (by rw [hlen]; omega) (by rw [size_madeCells, hsz]; exact Nat.le_refl _)
    (fun r x hx j d hd => by
      rw [List.getElem?_replicate] at hx
      split at hx
      case isFalse => cases hx
      rename_i hrl
      cases hx
      have hj : j < esz P G k := by rw [← L.len k hk (G.df k)]; exact (List.getElem?_eq_some_iff.1 hd).1
      have hvj : z.cells[j]? = some z.cells[j] := by simp [hzs, hj]
      refine ⟨z.cells[j], ?_, hzr j _ d hvj hd⟩
      rw [made_get z.cells _ r _ j hzs hj (by
        rw [hsz]
        have : (r + 1) * esz P G k ≤ cp.toNat * esz P G k := Nat.mul_le_mul_right _ (by omega)
        rw [Nat.add_mul] at this; omega)]
      exact hvj) (fun h g => by have := ht h; rw [hlen] at g; omega)
  rw [hlen] at hv
  exact ⟨_, _, m', hr, t', ok', hv⟩

def srcDesc : TypeDesc → Bool
  | .slice _ => true
  | .string => true
  | _ => false

theorem append_room {t tx ty e : TypeId} {i : TypeInfo} {dx : TypeDesc} (ht : P.underlying t = some (.slice e)) (hx : P.underlying tx = some dx) (hd : srcDesc dx = true) (hi : P.info? e = some i)
    {base : Option Addr} {sLen sCap n : Nat} {vx : Value} {news : Array Value} {w w' : World} (hl : (Builtin.lenOf vx).run P w = .ok n w) (hf : (Builtin.firstCells i.size n vx).run P w = .ok news w) (hroom : sLen + n ≤ sCap)
    (hst : ∀ a, base = some a → (storeCells (a.add (sLen * i.size)) news.toList).run P w = .ok () w') (hnone : base = none → w' = w) :
    (Builtin.append_ #[t, tx] ty #[.slice base sLen sCap, vx]).run P w = .ok (.slice base (sLen + n) sCap) w' := by
  unfold Builtin.append_
  have hd' : (∃ e', dx = .slice e') ∨ dx = .string := by cases dx <;> simp_all [srcDesc]
  clear hd
  simp only [List.getElem?_toArray, List.getElem?_cons_zero, List.getElem?_cons_succ]
  simp only [Sem.run_bind, run_underlying' ht, Result.andThen_ok, run_sizeOf' hi, run_underlying' hx, Sem.run_pure]
  rcases hd' with ⟨e', rfl⟩ | rfl
  all_goals
    simp only [Bool.false_eq_true, if_false, Sem.run_bind, hl, Result.andThen_ok, hroom, if_true, Bool.not_false, hf]
    cases base with
    | none => rw [hnone rfl]; rfl
    | some a => simp only [Sem.run_bind, hst a rfl, Result.andThen_ok, Sem.run_pure]

theorem append_grow {t tx ty e : TypeId} {i : TypeInfo} {dx : TypeDesc} {z : Value} (ht : P.underlying t = some (.slice e)) (hx : P.underlying tx = some dx) (hd : srcDesc dx = true) (hi : P.info? e = some i) (hz : i.zero = some z)
    {base : Option Addr} {sLen sCap n : Nat} {vx : Value} {olds news : Array Value} {w : World} (hl : (Builtin.lenOf vx).run P w = .ok n w) (hf : (Builtin.firstCells i.size n vx).run P w.drew = .ok news w.drew)
    (ho : (Builtin.firstCells i.size sLen (.slice base sLen sCap)).run P w.drew = .ok olds w.drew) (hroom : sCap < sLen + n) (hb0 : 0 < i.bytes) (hfit : (sLen + n) * i.bytes ≤ 140737488355328) :
    (Builtin.append_ #[t, tx] ty #[.slice base sLen sCap, vx]).run P w =
      .ok (.slice (some ⟨w.heap.size, 0, none⟩) (sLen + n) (grownCap w (sLen + n) sCap e)) (w.drew.alloc (.cells (olds ++ news ++ Builtin.zeroCells z.cells (grownCap w (sLen + n) sCap e - (sLen + n))) e)) := by
  unfold Builtin.append_
  have hd' : (∃ e', dx = .slice e') ∨ dx = .string := by cases dx <;> simp_all [srcDesc]
  clear hd
  simp only [List.getElem?_toArray, List.getElem?_cons_zero, List.getElem?_cons_succ]
  simp only [Sem.run_bind, run_underlying' ht, Result.andThen_ok, run_sizeOf' hi, run_underlying' hx, Sem.run_pure]
  have h1 : ¬ sLen + n ≤ sCap := by omega
  have h48 := growslice_fits (bytes := i.bytes) hroom hfit
  have h48' : ¬ Builtin.nextslicecap (sLen + n) sCap * i.bytes > 2 ^ 48 := by omega
  have h2 : ¬ (((sLen + n : Nat) : Int) > IntKind.i64.max ∧ (i.bytes = 0)) := by omega
  have hq : Question.forced (.appendCap (sLen + n) sCap e) = false := rfl
  have hw : ({ w with drawn := w.drawn + 1 } : World) = w.drew := rfl
  rcases hd' with ⟨e', rfl⟩ | rfl
  all_goals
    simp only [Bool.false_eq_true, if_false, Sem.run_bind, hl, Result.andThen_ok, h1, run_typeInfo' hi, false_or, Bool.not_false, if_true]
    rw [if_neg h2, Sem.run_bind, run_typeInfo' hi w, Result.andThen_ok, if_neg h48']
    simp only [run_choose, Sem.run_bind]
    simp only [hq, Bool.false_eq_true, if_false, Result.andThen_ok]
    simp only [run_askRoom, Result.andThen_ok, hw, ho, hf, zeroValue, Sem.run_bind, run_typeInfo' hi, hz, Sem.run_pure, newRow, run_newObj]
    rfl

end
end Go.Proofs.Ytjfmfpnnjgfffaa.Am
