/- What is needed is whole ahead: the law. -/
import Derived.Test.YtjfmfpnnjgfffaaAmImrO
namespace Go.Proofs.Ytjfmfpnnjgfffaa.Am
open Go
set_option autoImplicit false
set_option linter.unusedVariables false
set_option linter.unusedSimpArgs false
set_option maxRecDepth 10000

theorem ixl_rng {b : Bool} : ∀ {l : List Bool} {i : Nat} {x : Int}, x ∈ ixl b l i → (i : Int) ≤ x ∧ x < (i : Int) + l.length
  | [], i, x, h => by cases h
  | y :: l, i, x, h => by
    simp only [ixl] at h
    simp only [List.length_cons]
    have hr : x ∈ ixl b l (i + 1) → (i : Int) ≤ x ∧ x < (i : Int) + (l.length + 1 : Nat) := fun h => by
      have := ixl_rng h
      omega
    cases e : y == b with
    | true =>
      rw [e] at h
      rcases List.mem_cons.1 h with rfl | h
      · omega
      · exact hr h
    | false => rw [e] at h; exact hr h
theorem ixl_mem {b : Bool} : ∀ {l : List Bool} {i j : Nat}, j < l.length → l.getD j false = b → ((i + j : Nat) : Int) ∈ ixl b l i
  | [], i, j, h, _ => by simp at h
  | y :: l, i, 0, _, hb => by
    have hb : y = b := hb
    subst hb
    simp only [ixl, beq_self_eq_true, ct]
    exact List.mem_cons_self
  | y :: l, i, j + 1, h, hb => by
    have hb : l.getD j false = b := hb
    have := ixl_mem (l := l) (i := i + 1) (j := j) (by simpa using h) hb
    rw [show i + 1 + j = i + (j + 1) by omega] at this
    simp only [ixl]
    cases y == b with
    | true => exact List.mem_cons_of_mem _ this
    | false => exact this
theorem need_rng {a : List (List Stp)} {v k : Int} (h : k ∈ need a v) : Rng a.length k := by
  unfold need at h
  cases e : B (VM a ∧ Rng a.length v) with
  | false => rw [e] at h; cases h
  | true =>
    rw [e] at h
    have := ixl_rng h
    rw [mkR_len, List.length_map] at this
    exact ⟨by omega, by omega⟩
theorem need_self {a : List (List Stp)} {v : Int} (hv : VM a) (hr : Rng a.length v) : v ∈ need a v := by
  unfold need
  rw [B_t ⟨hv, hr⟩]
  have h0 := hr.1
  have h1 := hr.2
  have hl : v.toNat < (a.map ndl).length := by rw [List.length_map]; omega
  have hvv : ((v.toNat : Nat) : Int) = v := by omega
  have := ixl_mem (b := true) (l := mkR (a.map ndl) [v]) (i := 0) (j := v.toNat) (by rw [mkR_len]; exact hl) (by rw [mkR_get hl, hvv]; exact B_t (.root List.mem_cons_self))
  rwa [Nat.zero_add, hvv] at this
theorem circ_it {R : Type} {n : Nat} (hn : 4000000 ≤ n) {a : List (List Stp)} (sz : Sz a) (hv : VM a) {l : List Int} (hl : l.length ≤ 1000000) (hr : ∀ k ∈ l, Rng a.length k) {k0 : Bool → Option R} {k1 : Option R} : ∀ (fuel i : Nat), i ≤ l.length → l.length + 1 ≤ fuel + i →
    F22_0_it n k0 k1 fuel a l l.length i = bif B (∃ k ∈ l.drop i, Cyc a k) then k0 true else k1
  | fuel, i, hi, hf => by
    obtain ⟨g, rfl⟩ : ∃ g, fuel = g + 1 := ⟨fuel - 1, by omega⟩
    simp only [F22_0_it, F22_0_step]
    by_cases h : i < l.length
    · have hk := hr _ (getD_in (d := 0) h)
      obtain ⟨q0, q1⟩ := hk
      have hm : (a.map ndl).length = a.length := List.length_map _
      have hk2 : (l.getD i 0).toNat < a.length := by omega
      have hm2 := hv.2.2
      have hvg := hv.vg ((l.getD i 0).toNat) (by omega)
      have hkk : (((l.getD i 0).toNat : Nat) : Int) = l.getD i 0 := by omega
      rw [bp (by omega), bp (by omega), bp (by omega)]
      simp only [e0]
      rw [imM hn sz]
      simp only [ats]
      rw [bp (by omega), bp (by omega), rchI hn hv.vg (by omega) hvg.2 (by have := hvg.1; omega)]
      simp only [ats]
      rw [bp (by omega), bp (by rw [mkR_len]; omega), mkR_get (by omega), hkk, map_ndl hk2]
      by_cases e : Cyc a (l.getD i 0)
      · have e' : Rch (a.map ndl) (ndl (a.getD (l.getD i 0).toNat [])) (l.getD i 0) := e
        rw [B_t e', B_t ⟨l.getD i 0, by rw [drop_get 0 h]; exact List.mem_cons_self, e⟩]; rfl
      · have e' : ¬ Rch (a.map ndl) (ndl (a.getD (l.getD i 0).toNat [])) (l.getD i 0) := e
        rw [B_f e']
        simp only [cf]
        rw [wp (by omega), e1, circ_it hn sz hv hl hr g (i + 1) (by omega) (by omega)]
        have : (∃ k ∈ l.drop i, Cyc a k) ↔ ∃ k ∈ l.drop (i + 1), Cyc a k := by
          rw [drop_get 0 h]
          constructor
          · rintro ⟨k, hk, hc⟩
            rcases List.mem_cons.1 hk with rfl | hk
            · exact absurd hc e
            · exact ⟨k, hk, hc⟩
          · rintro ⟨k, hk, hc⟩
            exact ⟨k, List.mem_cons_of_mem _ hk, hc⟩
        rw [B_congr this]
    · rw [bn (by omega), List.drop_of_length_le (by omega), B_f (by simp)]; rfl
theorem circ {n : Nat} (hn : 4000000 ≤ n) {a : List (List Stp)} (sz : Sz a) (hv : VM a) {v : Int} : F22 n a v = some (B (∃ k ∈ need a v, Cyc a k), ()) := by
  unfold F22
  rw [neI hn sz]
  simp only [ats]
  unfold F22_0
  have hl : (need a v).length ≤ 1000000 := by
    unfold need
    cases B (VM a ∧ Rng a.length v)
    · simp
    · have := ixl_len true (mkR (a.map ndl) [v]) 0
      rw [mkR_len, List.length_map] at this
      have := hv.2.2
      simp only [ct]; omega
  have := circ_it (R := Bool × Unit) hn sz hv hl (fun k hk => need_rng hk) (k0 := (fun z2101 => some (z2101, ()))) (k1 := some (false, ())) n 0 (by omega) (by omega)
  rw [List.drop_zero] at this
  refine Eq.trans this ?_
  cases B (∃ k ∈ need a v, Cyc a k) <;> rfl
theorem ordP_it {R : Type} {n : Nat} (hn : 4000000 ≤ n) {a : List (List Stp)} {bg wh fa : List Int} {rd : List ByteArray} {st : List Int} {m : Int} {i : Nat} {k0 : Bool → Option R} {k1 : List (List Stp) → Int → List Int → List Int → List Int → List ByteArray → List Int → Option R} (hw : wh.length ≤ 3900000) (hi : i ≤ wh.length) (hm : Rng a.length m) {r : List Stp} (hra : a.getD m.toNat [] = r) (hrl : r.length ≤ 1000) (hx : ∀ x ∈ r, x.kind = 1 → x.num ∈ wh.take i) : ∀ (fuel j : Nat), j ≤ r.length → r.length + 1 ≤ fuel + j →
    F6_0_it n k0 k1 fuel a i m j bg wh fa rd st = k1 a i bg wh fa rd st
  | fuel, j, hj, hf => by
    obtain ⟨g, rfl⟩ : ∃ g, fuel = g + 1 := ⟨fuel - 1, by omega⟩
    simp only [F6_0_it, F6_0_step]
    obtain ⟨q0, q1⟩ := hm
    rw [bp (by omega), bp (by omega), hra]
    by_cases h : j < r.length
    · rw [bp (by omega), bp (by omega), bp (by omega), bp (by omega), bp (by omega)]
      simp only [e0]
      by_cases e : (r.getD j t0).kind = 1
      · rw [eqp e, bp (by omega), bp (by omega), List.drop_zero, hasI hn (by rw [List.length_take]; omega), B_t (hx _ (getD_in h) e)]
        simp only [ats, Bool.not_true, cf]
        rw [wp (by omega), e1]
        exact ordP_it hn hw hi ⟨q0, q1⟩ hra hrl hx g (j + 1) (by omega) (by omega)
      · rw [eqn e, wp (by omega), e1]
        exact ordP_it hn hw hi ⟨q0, q1⟩ hra hrl hx g (j + 1) (by omega) (by omega)
    · rw [bn (by omega)]
theorem ordM_it {R : Type} {n : Nat} (hn : 4000000 ≤ n) {a : List (List Stp)} (sz : Sz a) (hv : VM a) {fa : List Int} {s : Ab} (jv : Jv a s) (hw : s.wh.length ≤ 3900000) {k0 : Bool → Option R} {k1 : Option R} : ∀ (fuel i : Nat), i ≤ s.wh.length → s.wh.length + 1 ≤ fuel + i →
    F6_2_it n k0 k1 fuel a i s.bg s.wh fa s.rd s.st = k1
  | fuel, i, hi, hf => by
    obtain ⟨g, rfl⟩ : ∃ g, fuel = g + 1 := ⟨fuel - 1, by omega⟩
    simp only [F6_2_it, F6_2_step]
    by_cases h : i < s.wh.length
    · rw [bp (by omega)]
      unfold F6_1
      have hr := (jv.j1 _ (getD_in (d := 0) h)).1
      rw [bp (by omega), bp (by omega)]
      simp only [e0]
      rw [circ hn sz hv]
      simp only [ats]
      by_cases hc : ∃ k ∈ need a (s.wh.getD i 0), Cyc a k
      · rw [B_t hc]
        simp only [ct]
        rw [wp (by omega), e1]
        exact ordM_it hn sz hv jv hw g (i + 1) (by omega) (by omega)
      · rw [B_f hc]
        simp only [cf]
        unfold F6_0
        have hcy : ¬ Cyc a (s.wh.getD i 0) := fun q => hc ⟨_, need_self hv hr, q⟩
        have hx := (jv.j4 (s.wh.take i) (s.wh.getD i 0) (s.wh.drop (i + 1)) (by rw [← drop_get 0 h, List.take_append_drop])).resolve_left hcy
        obtain ⟨r1, -⟩ := row_of hv (k := (s.wh.getD i 0).toNat) (by have := hr.1; have := hr.2; omega)
        have e2 := ordP_it (R := R) hn (a := a) (bg := s.bg) (wh := s.wh) (fa := fa) (rd := s.rd) (st := s.st) (k0 := fun z2128 => k0 z2128) (k1 := fun z2129 z2130 z2131 z2132 z2133 z2134 z2135 => F6_2_it n k0 k1 g z2129 (IntKind.wrap .i64 (z2130 + (1 : Int))) z2131 z2132 z2133 z2134 z2135) hw hi hr rfl (by omega) hx n 0 (by omega) (by omega)
        refine Eq.trans e2 ?_
        rw [wp (by omega), e1]
        exact ordM_it hn sz hv jv hw g (i + 1) (by omega) (by omega)
    · rw [bn (by omega)]
theorem law_order {n : Nat} (hn : 4000000 ≤ n) {z : List Int} (hz : okb z) : F6 n z = some (true, ()) := by
  unfold F6
  by_cases h : (z.length : Int) > 1048576
  · rw [bp h]
  rw [bn h]
  obtain ⟨a, l, e, al, dm, ll⟩ := draw_ok hn hz
  have sz := dm.sz al
  rw [e]; simp only [ats]
  rw [runI hn sz (by omega)]; simp only [ats]
  rw [runS hn sz (by omega)]; simp only [ats]
  rw [same_res hn (res_len (by omega))]
  simp only [ats, Bool.not_true, cf]
  unfold F6_2
  by_cases g : VM a ∧ Vr a.length l
  case neg =>
    rw [res_no g]
    obtain ⟨f, rfl⟩ : ∃ f, n = f + 1 := ⟨n - 1, by omega⟩
    simp only [F6_2_it, F6_2_step]
    rw [bn (by simp)]
  obtain ⟨hv, hr⟩ := g
  have rl := res_len (a := a) (l := l) (by omega)
  rw [res_ok hv hr] at rl ⊢
  obtain ⟨w, jv, h1, h2⟩ := end_of hv hr
  generalize imp a l (s0 a.length, []) = r at rl w jv h1 h2 ⊢
  have hw : r.1.wh.length ≤ 3900000 := rl.2.1
  exact ordM_it hn sz hv jv hw n 0 (by omega) (by omega)
end Go.Proofs.Ytjfmfpnnjgfffaa.Am
