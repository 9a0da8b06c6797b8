/- The drawing of heaps: it ends. -/
import Derived.Test.YtfknenaecihchaaAmHepD
namespace Go.Proofs.Ytfknenaecihchaa.Am
open Go
set_option autoImplicit false
set_option linter.unusedVariables false
set_option linter.unusedSimpArgs false
set_option maxRecDepth 10000

theorem key_it {R : Type} {n : Nat} {l : List Val} {k r : Int} {t : ByteArray} {k0 : Int → Option R} {k1 : Option R} (hl : l.length ≤ 60) : ∀ (fuel i : Nat), i ≤ l.length → l.length + 1 ≤ fuel + i →
    F64_0_it n k0 k1 fuel l i k t r = k1 ∨ ∃ j : Nat, F64_0_it n k0 k1 fuel l i k t r = k0 j
  | fuel, i, hi, hf => by
    obtain ⟨f, rfl⟩ : ∃ f, fuel = f + 1 := ⟨fuel - 1, by omega⟩
    simp only [F64_0_it, F64_0_step]
    by_cases g : i < l.length
    · simp (disch := omega) only [bp, e0, wp, e1]
      cases (((l.getD i v0).kind == k) && (((l.getD i v0).text == t) && ((l.getD i v0).ref == r))) with
      | true => exact .inr ⟨i, rfl⟩
      | false => exact key_it hl f (i + 1) (by omega) (by omega)
    · rw [bn (by omega)]; exact .inl rfl
theorem key_ok {n : Nat} (hn : 100 ≤ n) {l : List Val} {k r : Int} {t : ByteArray} (hl : l.length ≤ 60) : ∃ j, F64 n l k t r = some (j, ()) := by
  unfold F64 F64_0
  rcases key_it (R := Int × Unit) (n := n) (l := l) (k := k) (r := r) (t := t) (k0 := fun z => some (z, ())) (k1 := some ((-1 : Int), ())) hl n 0 (by omega) (by omega) with a | ⟨j, a⟩
  · exact ⟨_, a⟩
  · exact ⟨_, a⟩
structure LB (m : Nat) (it ks : List Val) (ns : List ByteArray) (vs : List Val) : Prop where
  i : it.length ≤ m + 2
  k : ks.length ≤ m
  s : ns.length ≤ m
  v : vs.length ≤ m
  gi : ∀ x ∈ it, GV x
  gk : ∀ x ∈ ks, GV x
  gv : ∀ x ∈ vs, GV x
  gs : ∀ x ∈ ns, NM x
theorem all_app {α : Type} {p : α → Prop} {l : List α} {x : α} (h : ∀ y ∈ l, p y) (hx : p x) : ∀ y ∈ l ++ [x], p y := fun y hy => by
  rcases List.mem_append.1 hy with hy | hy
  · exact h y hy
  · have : y = x := by simpa using hy
    subst this; exact hx
theorem body_ok {R : Type} {n : Nat} {m : Nat} {c : List Int} {a b x1 x2 x3 x4 x6 kd at_ : Int} {x5 nm : ByteArray} {w h : List Obj} {it ks vs : List Val} {ns : List ByteArray} (hn : 4000000 ≤ n) (hv : Inv c a b) (hb : b ≤ 50000) (hm : m ≤ 20) (hl : LB m it ks ns vs) :
    ∃ a' it' ks' ns' vs', Inv c a' (b + 70) ∧ LB (m + 1) it' ks' ns' vs' ∧ ∀ (k0 : Int → Int → Int → List Int → Int → Int → ByteArray → Int → Int → ByteArray → Int → List Obj → List Obj → List Val → List Val → List ByteArray → List Val → Option R),
      F38_1 n x1 x2 x3 c a x4 x5 x6 kd nm at_ w h it ks ns vs k0 = k0 x1 x2 x3 c a' x4 x5 x6 kd nm at_ w h it' ks' ns' vs' := by
  obtain ⟨l1, l2, l3, l4, g1, g2, g3, g4⟩ := hl
  unfold F38_1
  obtain ⟨k, t, r, a1, e1, t1, h1⟩ := val_ok (n := n) (m := (h.length : Int)) (by omega) hv (by omega)
  have gv : GV (Val.mk k t r) := t1
  simp only [e1, ats]
  by_cases c2 : kd = 2
  · obtain ⟨k2, t2, r2, a2, e2, u2, h2⟩ := val_ok (n := n) (m := 0) (by omega) h1 (by omega)
    have gv2 : GV (Val.mk k2 t2 r2) := u2
    obtain ⟨j, ej⟩ := key_ok (n := n) (by omega) (l := ks) (k := k2) (t := t2) (r := r2) (by omega)
    by_cases hj : j < 0
    · refine ⟨a2, it ++ [Val.mk k t r], ks ++ [Val.mk k2 t2 r2], ns, vs, h2.mono (by omega), ⟨by simp only [List.length_append, List.length_cons, List.length_nil]; omega, by simp only [List.length_append, List.length_cons, List.length_nil]; omega, by omega, by omega, all_app g1 gv, all_app g2 gv2, g3, g4⟩, fun k0 => ?_⟩
      rw [eqp c2, e2]; simp only [ats]; rw [ej]; simp only [ats]
      rw [bp hj, bp (by simp only [List.length_cons, List.length_nil]; omega), bp (by simp only [List.length_cons, List.length_nil]; omega)]
    · refine ⟨a2, it, ks, ns, vs, h2.mono (by omega), ⟨by omega, by omega, by omega, by omega, g1, g2, g3, g4⟩, fun k0 => ?_⟩
      rw [eqp c2, e2]; simp only [ats]; rw [ej]; simp only [ats]; rw [bn hj]
  by_cases c6 : kd = 6
  · obtain ⟨s, a2, e2, m2, h2⟩ := of_ok (n := n) (l := (({ data := #[97] } : ByteArray) :: (({ data := #[98] } : ByteArray) :: (({ data := #[99] } : ByteArray) :: (({ data := #[116, 101, 120, 116] } : ByteArray) :: []))))) h1 (by omega) (by simp)
    have ho := isOne (n := n) (l := ns) (s := s) (by omega) (by omega)
    by_cases hj : s ∈ ns
    · refine ⟨a2, it, ks, ns, vs, h2.mono (by omega), ⟨by omega, by omega, by omega, by omega, g1, g2, g3, g4⟩, fun k0 => ?_⟩
      rw [eqn c2, eqp c6, e2]; simp only [ats]; rw [ho, B_t hj]; rfl
    · refine ⟨a2, it, ks, ns ++ [s], vs ++ [Val.mk k t r], h2.mono (by omega), ⟨by omega, by omega, by simp only [List.length_append, List.length_cons, List.length_nil]; omega, by simp only [List.length_append, List.length_cons, List.length_nil]; omega, g1, g2, all_app g3 gv, all_app g4 (nm4 s m2)⟩, fun k0 => ?_⟩
      rw [eqn c2, eqp c6, e2]; simp only [ats]; rw [ho, B_f hj]
      simp only [ats, Bool.not_false, ct]
      rw [bp (by simp only [List.length_cons, List.length_nil]; omega), bp (by simp only [List.length_cons, List.length_nil]; omega)]
  by_cases c4 : kd = 4
  · refine ⟨a1, [Val.mk k t r], ks, ns, vs, h1.mono (by omega), ⟨by simp only [List.length_cons, List.length_nil]; omega, by omega, by omega, by omega, fun y hy => (show y = Val.mk k t r by simpa using hy) ▸ gv, g2, g3, g4⟩, fun k0 => ?_⟩
    rw [eqn c2, eqn c6, eqp c4]
  by_cases c7 : kd = 7
  · refine ⟨a1, [Val.mk k t r, Val.mk k t r], ks, ns, vs, h1.mono (by omega), ⟨by simp only [List.length_cons, List.length_nil]; omega, by omega, by omega, by omega, fun y hy => (show y = Val.mk k t r by simpa using hy) ▸ gv, g2, g3, g4⟩, fun k0 => ?_⟩
    rw [eqn c2, eqn c6, eqn c4, eqp c7]
  · refine ⟨a1, it ++ [Val.mk k t r], ks, ns, vs, h1.mono (by omega), ⟨by simp only [List.length_append, List.length_cons, List.length_nil]; omega, by omega, by omega, by omega, all_app g1 gv, g2, g3, g4⟩, fun k0 => ?_⟩
    rw [eqn c2, eqn c6, eqn c4, eqn c7]
    rw [bp (by simp only [List.length_cons, List.length_nil]; omega)]

theorem loop2 {R : Type} {n : Nat} {c : List Int} {i x4 x6 kd at_ : Int} {x5 nm : ByteArray} {w h : List Obj} {k0 : Int → List Int → Int → Int → ByteArray → Int → Int → ByteArray → Int → List Obj → List Obj → List Val → List Val → List ByteArray → List Val → Option R} (hn : 4000000 ≤ n) : ∀ (d fuel m : Nat) (a b : Int) (it ks vs : List Val) (ns : List ByteArray), m + d ≤ 10 → d < fuel → Inv c a b → b + 70 * d ≤ 40000 → LB m it ks ns vs →
    ∃ a' it' ks' ns' vs', Inv c a' (b + 70 * d) ∧ LB (m + d) it' ks' ns' vs' ∧ F38_2_it n k0 fuel i (m + d : Nat) m c a x4 x5 x6 kd nm at_ w h it ks ns vs = k0 i c a' x4 x5 x6 kd nm at_ w h it' ks' ns' vs'
  | 0, fuel, m, a, b, it, ks, vs, ns, hm, hf, hv, hb, hl => by
    obtain ⟨f, rfl⟩ : ∃ f, fuel = f + 1 := ⟨fuel - 1, by omega⟩
    simp only [F38_2_it, F38_2_step]
    rw [bn (by omega)]
    exact ⟨a, it, ks, ns, vs, hv.mono (by omega), hl, rfl⟩
  | d + 1, fuel, m, a, b, it, ks, vs, ns, hm, hf, hv, hb, hl => by
    obtain ⟨f, rfl⟩ : ∃ f, fuel = f + 1 := ⟨fuel - 1, by omega⟩
    simp only [F38_2_it, F38_2_step]
    rw [bp (by omega)]
    obtain ⟨a1, it1, ks1, ns1, vs1, h1, l1, e⟩ := body_ok (R := R) (n := n) (m := m) (x1 := i) (x2 := ((m + (d + 1) : Nat) : Int)) (x3 := (m : Int)) (x4 := x4) (x6 := x6) (kd := kd) (at_ := at_) (x5 := x5) (nm := nm) (w := w) (h := h) hn hv (by omega) (by omega) hl
    rw [e, wp (by omega), e1]
    obtain ⟨a2, it2, ks2, ns2, vs2, h2, l2, e2⟩ := loop2 (k0 := k0) hn d f (m + 1) a1 (b + 70) it1 ks1 vs1 ns1 (by omega) (by omega) h1 (by omega) l1
    refine ⟨a2, it2, ks2, ns2, vs2, h2.mono (by omega), by rw [show m + (d + 1) = m + 1 + d by omega]; exact l2, ?_⟩
    rw [← e2, show m + (d + 1) = m + 1 + d by omega]
def GE (o : Obj) : Prop := o.items = [] ∧ o.keys = [] ∧ o.names = [] ∧ o.vals = [] ∧ o.name.size ≤ 1000
theorem obj4 {R : Type} {n i : Nat} {c : List Int} {a b x4 x6 : Int} {x5 : ByteArray} {w h : List Obj} {k0 : Int → List Int → Int → Int → ByteArray → Int → List Obj → List Obj → Option R} (hn : 4000000 ≤ n) (hv : Inv c a b) (hb : b ≤ 30000) (hi : i < h.length) (hlen : h.length ≤ 600) (ge : GE (h.getD i o0)) :
    ∃ a' o, Inv c a' (b + 300) ∧ GO o ∧ F38_4 n i c a x4 x5 x6 w h k0 = k0 i c a' x4 x5 x6 w (h.set i o) := by
  obtain ⟨q1, q2, q3, q4, q5⟩ := ge
  unfold F38_4
  rw [bp (by omega), bp (by omega)]
  simp only [e0]
  rw [bp (by rw [q1]; decide), bp (by rw [q2]; decide), bp (by rw [q3]; decide), bp (by rw [q4]; decide)]
  obtain ⟨r, a1, e, r1, r2, h1⟩ := pick (n := n) (m := 4) hv (by omega)
  rw [e]; simp only [ats]
  obtain ⟨K, rfl⟩ := Int.eq_ofNat_of_zero_le r1
  unfold F38_2
  obtain ⟨a2, it, ks, ns, vs, h2, l2, e2⟩ := loop2 (R := R) (n := n) (c := c) (i := i) (x4 := x4) (x6 := x6) (kd := (h.getD i o0).kind) (at_ := (h.getD i o0).at_) (x5 := x5) (nm := (h.getD i o0).name) (w := w) (h := h) (k0 := fun z994 z995 z996 z997 z998 z999 z1000 z1001 z1002 z1003 z1004 z1005 z1006 z1007 z1008 =>
    (F38_3 n z994 z995 z996 z997 z998 z999 z1000 z1001 z1002 z1003 z1004 z1005 z1006 z1007 z1008 (fun z1026 z1027 z1028 z1029 z1030 z1031 z1032 z1033 z1034 z1035 z1036 z1037 z1038 z1039 z1040 =>
    (bif (decide ((0 : Int) ≤ z1026)) then
    (bif (decide (z1026 < ((z1036.length) : Int))) then
    (k0 z1026 z1027 z1028 z1029 z1030 z1031 z1035 (z1036.set (z1026.toNat) (Obj.mk z1032 z1033 z1034 z1037 z1038 z1039 z1040)))
    else none)
    else none)))) hn K n 0 a1 (b + 1) [] [] [] [] (by omega) (by omega) h1 (by omega) ⟨by simp, by simp, by simp, by simp, fun x hx => by simp at hx, fun x hx => by simp at hx, fun x hx => by simp at hx, fun x hx => by simp at hx⟩
  rw [Nat.zero_add] at e2
  rw [show ((0 : Nat) : Int) = 0 from rfl] at e2
  have go : ∀ (kd at_ : Int), GO (Obj.mk kd (h.getD i o0).name at_ it ks ns vs) := fun kd at_ => ⟨by have := l2.i; show it.length ≤ 60; omega, by have := l2.k; show ks.length ≤ 60; omega, by have := l2.s; show ns.length ≤ 60; omega, by have := l2.v; show vs.length ≤ 60; omega, l2.gi, l2.gk, l2.gv, l2.gs, q5⟩
  refine Exists.elim (?_ : ∃ a' at_, Inv c a' (b + 300) ∧ _ = k0 i c a' x4 x5 x6 w (h.set i (Obj.mk (h.getD i o0).kind (h.getD i o0).name at_ it ks ns vs))) fun a' ⟨at_, h3, e3⟩ => ⟨a', _, h3, go _ at_, e3⟩
  refine Exists.elim (?_ : ∃ a' at_, Inv c a' (b + 300) ∧ F38_3 n i c a2 x4 x5 x6 (h.getD i o0).kind (h.getD i o0).name (h.getD i o0).at_ w h it ks ns vs (fun z1026 z1027 z1028 z1029 z1030 z1031 z1032 z1033 z1034 z1035 z1036 z1037 z1038 z1039 z1040 =>
    (bif (decide ((0 : Int) ≤ z1026)) then
    (bif (decide (z1026 < ((z1036.length) : Int))) then
    (k0 z1026 z1027 z1028 z1029 z1030 z1031 z1035 (z1036.set (z1026.toNat) (Obj.mk z1032 z1033 z1034 z1037 z1038 z1039 z1040)))
    else none)
    else none)) = k0 i c a' x4 x5 x6 w (h.set i (Obj.mk (h.getD i o0).kind (h.getD i o0).name at_ it ks ns vs))) fun a' ⟨at_, h3, e3⟩ => ⟨a', at_, h3, Eq.trans e2 e3⟩
  unfold F38_3
  by_cases c6 : (h.getD i o0).kind = 6
  · rw [eqp c6]
    obtain ⟨r3, a3, e3, -, -, h3⟩ := pick (n := n) (m := 13) h2 (by omega)
    rw [e3]; simp only [ats]
    rw [bp (by omega), bp (by omega)]
    simp only [e0]
    exact ⟨a3, r3, h3.mono (by omega), rfl⟩
  · rw [eqn c6]
    simp only [e0]
    rw [bp (by omega), bp (by omega)]
    exact ⟨a2, (h.getD i o0).at_, h2.mono (by omega), rfl⟩
theorem loop5 {R : Type} {n : Nat} {c : List Int} {x4 x6 : Int} {x5 : ByteArray} {w : List Obj} {k0 : List Int → Int → Int → ByteArray → Int → List Obj → List Obj → Option R} (hn : 4000000 ≤ n) : ∀ (d fuel i : Nat) (a b : Int) (h : List Obj), i + d = h.length → d < fuel → d ≤ 10 → h.length ≤ 600 → Inv c a b → b ≤ 10000 + 300 * (10 - d) →
    (∀ j, j < h.length → GO (h.getD j o0)) → (∀ j, i ≤ j → j < h.length → GE (h.getD j o0)) →
    ∃ a' h', Inv c a' (b + 300 * d) ∧ h'.length = h.length ∧ (∀ j, j < h'.length → GO (h'.getD j o0)) ∧ F38_5_it n k0 fuel i c a x4 x5 x6 w h = k0 c a' x4 x5 x6 w h'
  | 0, fuel, i, a, b, h, hd, hf, hd2, hl, hv, hb, go, ge => by
    obtain ⟨f, rfl⟩ : ∃ f, fuel = f + 1 := ⟨fuel - 1, by omega⟩
    simp only [F38_5_it, F38_5_step]
    rw [bn (by omega)]
    exact ⟨a, h, hv.mono (by omega), rfl, go, rfl⟩
  | d + 1, fuel, i, a, b, h, hd, hf, hd2, hl, hv, hb, go, ge => by
    obtain ⟨f, rfl⟩ : ∃ f, fuel = f + 1 := ⟨fuel - 1, by omega⟩
    simp only [F38_5_it, F38_5_step]
    rw [bp (by omega)]
    obtain ⟨a1, o, h1, g1, e⟩ := obj4 (R := R) (n := n) (i := i) (c := c) (a := a) (b := b) (x4 := x4) (x6 := x6) (x5 := x5) (w := w) (h := h) (k0 := fun z1043 z1044 z1045 z1046 z1047 z1048 z1049 z1050 => (F38_5_it n k0 f (IntKind.wrap .i64 (z1043 + (1 : Int))) z1044 z1045 z1046 z1047 z1048 z1049 z1050)) hn hv (by omega) (by omega) hl (ge i (Nat.le_refl _) (by omega))
    rw [e, wp (by omega), e1]
    obtain ⟨a2, h2, i2, l2, g2, e2⟩ := loop5 (k0 := k0) hn d f (i + 1) a1 (b + 300) (h.set i o) (by rw [List.length_set]; omega) (by omega) (by omega) (by rw [List.length_set]; exact hl) h1 (by omega) (fun j hj => by
      rw [List.length_set] at hj
      rw [getD_set' (by omega)]
      by_cases e : i = j
      · rw [if_pos e]; exact g1
      · rw [if_neg e]; exact go j hj) (fun j hj1 hj => by
      rw [List.length_set] at hj
      rw [getD_set' (by omega), if_neg (by omega)]; exact ge j (by omega) hj)
    rw [List.length_set] at l2
    exact ⟨a2, h2, i2.mono (by omega), l2, g2, e2⟩
end Go.Proofs.Ytfknenaecihchaa.Am
