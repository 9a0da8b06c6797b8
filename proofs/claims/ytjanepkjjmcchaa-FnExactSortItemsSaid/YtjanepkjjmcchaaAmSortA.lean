/- Sorting, in plain words: stable sorts of lists. -/
import Derived.Test.YtjanepkjjmcchaaAmSortSig
namespace Go.Proofs.Ytjanepkjjmcchaa.Am
open Go
set_option autoImplicit false
set_option linter.unusedVariables false
set_option linter.unusedSimpArgs false

def Srt (l : List Itm) : Prop := List.Pairwise (fun a b : Itm => a.key ≤ b.key) l
/-- the items with a key -/
noncomputable def fk (k : Int) (l : List Itm) : List Itm := l.filter fun x => x.key == k
/-- a stable sort of it -/
structure Stb (out l : List Itm) : Prop where
  srt : Srt out
  perm : out.Perm l
  fk : ∀ k, fk k out = fk k l

theorem fk_app (k : Int) (a b : List Itm) : fk k (a ++ b) = fk k a ++ fk k b := List.filter_append _ _
theorem fk_cons_eq {k : Int} {x : Itm} (l : List Itm) (h : x.key = k) : fk k (x :: l) = x :: fk k l := by unfold fk; rw [List.filter_cons_of_pos (by simpa using h)]
theorem fk_cons_ne {k : Int} {x : Itm} (l : List Itm) (h : x.key ≠ k) : fk k (x :: l) = fk k l := by unfold fk; rw [List.filter_cons_of_neg (by simpa using h)]
theorem fk_none {k : Int} {l : List Itm} (h : ∀ y ∈ l, y.key ≠ k) : fk k l = [] := by
  unfold fk; rw [List.filter_eq_nil_iff]; intro y hy; simpa using h y hy

theorem srt_uniq : ∀ {a b : List Itm}, Srt a → Srt b → (∀ k, fk k a = fk k b) → a = b
  | [], [], _, _, _ => rfl
  | [], y :: b, _, _, h => by
    have := h y.key
    rw [fk_cons_eq b rfl] at this
    cases this
  | x :: a, [], _, _, h => by
    have := h x.key
    rw [fk_cons_eq a rfl] at this
    cases this
  | x :: a, y :: b, ha, hb, h => by
    have ha' := List.pairwise_cons.1 ha
    have hb' := List.pairwise_cons.1 hb
    have h1 : x.key = y.key := by
      rcases Int.lt_trichotomy x.key y.key with hlt | heq | hgt
      · have := h x.key
        rw [fk_cons_eq a rfl, fk_cons_ne b (by omega), fk_none (l := b) (fun z hz => by have := hb'.1 z hz; omega)] at this
        cases this
      · exact heq
      · have := h y.key
        rw [fk_cons_eq b rfl, fk_cons_ne a (by omega), fk_none (l := a) (fun z hz => by have := ha'.1 z hz; omega)] at this
        cases this
    have h2 := h x.key
    rw [fk_cons_eq a rfl, fk_cons_eq b h1.symm] at h2
    obtain ⟨rfl, h3⟩ := List.cons.inj h2
    refine congrArg _ (srt_uniq ha'.2 hb'.2 fun k => ?_)
    by_cases hk : x.key = k
    · have := h k; rw [fk_cons_eq a hk, fk_cons_eq b hk] at this; exact (List.cons.inj this).2
    · have := h k; rw [fk_cons_ne a hk, fk_cons_ne b hk] at this; exact this

theorem Stb.uniq {a b l : List Itm} (h1 : Stb a l) (h2 : Stb b l) : a = b := srt_uniq h1.srt h2.srt fun k => (h1.fk k).trans (h2.fk k).symm
theorem Stb.nil : Stb [] [] := ⟨List.Pairwise.nil, List.Perm.refl _, fun _ => rfl⟩
theorem Stb.self {l : List Itm} (h : Srt l) : Stb l l := ⟨h, List.Perm.refl _, fun _ => rfl⟩
theorem Stb.len {a l : List Itm} (h : Stb a l) : a.length = l.length := h.perm.length_eq
theorem Stb.trans {a b l : List Itm} (h1 : Stb a b) (h2 : Stb b l) : Stb a l := ⟨h1.srt, h1.perm.trans h2.perm, fun k => (h1.fk k).trans (h2.fk k)⟩
theorem Stb.of_app {c a b l1 l2 : List Itm} (h : Stb c (a ++ b)) (h1 : Stb a l1) (h2 : Stb b l2) : Stb c (l1 ++ l2) :=
  ⟨h.srt, h.perm.trans (h1.perm.append h2.perm), fun k => by rw [h.fk, fk_app, fk_app, h1.fk, h2.fk]⟩

/-- two sorted rows, one into the other -/
noncomputable def mrg : List Itm → List Itm → List Itm
  | [], b => b
  | x :: a, [] => x :: a
  | x :: a, y :: b => if y.key < x.key then y :: mrg (x :: a) b else x :: mrg a (y :: b)
termination_by a b => a.length + b.length
theorem mrg_nil (b : List Itm) : mrg [] b = b := by unfold mrg; rfl
theorem mrg_nil2 (a : List Itm) : mrg a [] = a := by cases a <;> (unfold mrg; rfl)
theorem mrg_lt {x y : Itm} (a b : List Itm) (h : y.key < x.key) : mrg (x :: a) (y :: b) = y :: mrg (x :: a) b := by rw [mrg, if_pos h]
theorem mrg_ge {x y : Itm} (a b : List Itm) (h : ¬ y.key < x.key) : mrg (x :: a) (y :: b) = x :: mrg a (y :: b) := by rw [mrg, if_neg h]

theorem mrg_perm : ∀ (n : Nat) (a b : List Itm), a.length + b.length ≤ n → (mrg a b).Perm (a ++ b)
  | _, [], b, _ => by rw [mrg_nil]; exact List.Perm.refl _
  | _, x :: a, [], _ => by rw [mrg_nil2, List.append_nil]
  | 0, x :: a, y :: b, h => by simp at h
  | n + 1, x :: a, y :: b, h => by
    by_cases hk : y.key < x.key
    · rw [mrg_lt a b hk]
      exact ((mrg_perm n (x :: a) b (by simp at h ⊢; omega)).cons y).trans List.perm_middle.symm
    · rw [mrg_ge a b hk]
      exact (mrg_perm n a (y :: b) (by simp at h ⊢; omega)).cons x

theorem mrg_srt : ∀ (n : Nat) (a b : List Itm), a.length + b.length ≤ n → Srt a → Srt b → Srt (mrg a b) ∧ ∀ k, fk k (mrg a b) = fk k (a ++ b)
  | _, [], b, _, _, hb => by rw [mrg_nil]; exact ⟨hb, fun _ => rfl⟩
  | _, x :: a, [], _, ha, _ => by rw [mrg_nil2, List.append_nil]; exact ⟨ha, fun _ => rfl⟩
  | 0, x :: a, y :: b, h, _, _ => by simp at h
  | n + 1, x :: a, y :: b, h, ha, hb => by
    have ha' := List.pairwise_cons.1 ha
    have hb' := List.pairwise_cons.1 hb
    by_cases hk : y.key < x.key
    · rw [mrg_lt a b hk]
      obtain ⟨h1, h2⟩ := mrg_srt n (x :: a) b (by simp at h ⊢; omega) ha hb'.2
      refine ⟨List.pairwise_cons.2 ⟨fun z hz => ?_, h1⟩, fun k => ?_⟩
      · have hz := (mrg_perm _ (x :: a) b (Nat.le_refl _)).mem_iff.1 hz
        rcases List.mem_append.1 hz with hz | hz
        · rcases List.mem_cons.1 hz with rfl | hz
          · omega
          · have := ha'.1 z hz; omega
        · exact hb'.1 z hz
      · by_cases hy : y.key = k
        · rw [fk_cons_eq _ hy, h2, fk_app, fk_app, fk_cons_eq _ hy, fk_none (l := x :: a) (fun z hz => by
            rcases List.mem_cons.1 hz with rfl | hz
            · omega
            · have := ha'.1 z hz; omega)]; rfl
        · rw [fk_cons_ne _ hy, h2, fk_app, fk_app, fk_cons_ne _ hy]
    · rw [mrg_ge a b hk]
      obtain ⟨h1, h2⟩ := mrg_srt n a (y :: b) (by simp at h ⊢; omega) ha'.2 hb
      refine ⟨List.pairwise_cons.2 ⟨fun z hz => ?_, h1⟩, fun k => ?_⟩
      · have hz := (mrg_perm _ a (y :: b) (Nat.le_refl _)).mem_iff.1 hz
        rcases List.mem_append.1 hz with hz | hz
        · exact ha'.1 z hz
        · rcases List.mem_cons.1 hz with rfl | hz
          · omega
          · have := hb'.1 z hz; omega
      · by_cases hy : x.key = k
        · rw [fk_cons_eq _ hy, h2, List.cons_append, fk_cons_eq _ hy]
        · rw [fk_cons_ne _ hy, h2, List.cons_append, fk_cons_ne _ hy]

theorem Stb.mrg {a b l1 l2 : List Itm} (h1 : Stb a l1) (h2 : Stb b l2) : Stb (mrg a b) (l1 ++ l2) := by
  have h := mrg_srt _ a b (Nat.le_refl _) h1.srt h2.srt
  exact Stb.of_app ⟨h.1, mrg_perm _ a b (Nat.le_refl _), h.2⟩ h1 h2

/-- one item more -/
theorem Stb.put {a l u v : List Itm} {x : Itm} (h : Stb a l) (he : a = u ++ v) (hu : ∀ y ∈ u, y.key ≤ x.key) (hv : ∀ y ∈ v, x.key < y.key) : Stb (u ++ [x] ++ v) (l ++ [x]) := by
  subst he
  have hs := List.pairwise_append.1 h.srt
  refine ⟨?_, ?_, fun k => ?_⟩
  · refine List.pairwise_append.2 ⟨List.pairwise_append.2 ⟨hs.1, List.pairwise_singleton _ _, fun y hy z hz => ?_⟩, hs.2.1, fun y hy z hz => ?_⟩
    · rcases List.mem_singleton.1 hz with rfl; exact hu y hy
    · rcases List.mem_append.1 hy with hy | hy
      · exact hs.2.2 y hy z hz
      · rcases List.mem_singleton.1 hy with rfl; exact Int.le_of_lt (hv z hz)
  · have : (u ++ [x] ++ v).Perm (u ++ v ++ [x]) := by
      rw [List.append_assoc, List.append_assoc]
      exact List.Perm.append_left u List.perm_append_comm
    exact this.trans (h.perm.append_right [x])
  · rw [fk_app, fk_app, fk_app, ← h.fk, fk_app]
    by_cases hk : x.key = k
    · rw [fk_none (l := v) (fun y hy => by have := hv y hy; omega)]
      simp
    · rw [fk_cons_ne _ hk]; simp [Am.fk]

/-- items that grow less and less, turned -/
theorem Stb.rev {l : List Itm} (h : List.Pairwise (fun a b : Itm => b.key < a.key) l) : Stb l.reverse l := by
  refine ⟨?_, List.reverse_perm l, fun k => ?_⟩
  · unfold Srt
    rw [List.pairwise_reverse]
    exact h.imp fun hab => Int.le_of_lt hab
  · show (l.reverse.filter fun x => x.key == k) = l.filter fun x => x.key == k
    rw [List.filter_reverse]
    have h2 : List.Pairwise (fun a b : Itm => b.key < a.key) (l.filter fun x => x.key == k) := h.sublist List.filter_sublist
    have h3 : ∀ x ∈ l.filter fun x => x.key == k, x.key = k := fun x hx => by simpa using (List.mem_filter.1 hx).2
    revert h2 h3
    generalize (l.filter fun x => x.key == k) = q
    intro h2 h3
    match q, h2, h3 with
    | [], _, _ => rfl
    | [_], _, _ => rfl
    | x :: y :: r, h2, h3 =>
      have h4 := (List.pairwise_cons.1 h2).1 y (by simp)
      have hx := h3 x (by simp)
      have hy := h3 y (by simp)
      omega

/-- rows, each the stable sort of a part -/
def SegR (runs : List (List Itm)) (l : List Itm) : Prop := ∃ ps : List (List Itm × List Itm), runs = ps.map Prod.fst ∧ (∀ p ∈ ps, Stb p.1 p.2) ∧ (ps.map Prod.snd).flatten = l
theorem SegR.nil : SegR [] [] := ⟨[], rfl, by simp, rfl⟩
theorem SegR.snoc {runs : List (List Itm)} {l r s : List Itm} (h : SegR runs l) (hr : Stb r s) : SegR (runs ++ [r]) (l ++ s) := by
  obtain ⟨ps, rfl, h1, rfl⟩ := h
  refine ⟨ps ++ [(r, s)], by simp, fun p hp => ?_, by simp⟩
  rcases List.mem_append.1 hp with hp | hp
  · exact h1 p hp
  · rcases List.mem_singleton.1 hp with rfl; exact hr
theorem SegR.mrg {runs : List (List Itm)} {l : List Itm} {at_ : Nat} {a b m : List Itm} (h : SegR runs l) (ha : runs[at_]? = some a) (hb : runs[at_ + 1]? = some b) (hm : ∀ s t, Stb a s → Stb b t → Stb m (s ++ t)) :
    SegR (runs.take at_ ++ [m] ++ runs.drop (at_ + 2)) l := by
  obtain ⟨ps, rfl, h1, rfl⟩ := h
  rw [List.getElem?_map, Option.map_eq_some_iff] at ha hb
  obtain ⟨p, hp, rfl⟩ := ha
  obtain ⟨q, hq, rfl⟩ := hb
  have e : ps = ps.take at_ ++ [p, q] ++ ps.drop (at_ + 2) := by
    have l1 : ps.drop at_ = p :: ps.drop (at_ + 1) := by
      obtain ⟨hlt, rfl⟩ := List.getElem?_eq_some_iff.1 hp
      exact List.drop_eq_getElem_cons hlt
    have l2 : ps.drop (at_ + 1) = q :: ps.drop (at_ + 2) := by
      obtain ⟨hlt, rfl⟩ := List.getElem?_eq_some_iff.1 hq
      exact List.drop_eq_getElem_cons hlt
    conv => lhs; rw [← List.take_append_drop at_ ps, l1, l2]
    simp
  refine ⟨ps.take at_ ++ [(m, p.2 ++ q.2)] ++ ps.drop (at_ + 2), by simp [List.map_take, List.map_drop], fun r hr => ?_, ?_⟩
  · rcases List.mem_append.1 hr with hr | hr
    · rcases List.mem_append.1 hr with hr | hr
      · exact h1 r (List.mem_of_mem_take hr)
      · rcases List.mem_singleton.1 hr with rfl
        exact hm _ _ (h1 p (List.mem_of_getElem? hp)) (h1 q (List.mem_of_getElem? hq))
    · exact h1 r (List.mem_of_mem_drop hr)
  · conv => rhs; rw [e]
    simp
theorem SegR.one {r l : List Itm} (h : SegR [r] l) : Stb r l := by
  obtain ⟨ps, h0, h1, h2⟩ := h
  match ps, h0 with
  | [p], h0 =>
    cases h0
    have := h1 p (by simp)
    simp at h2
    rw [← h2]; exact this

/-- merges that bring rows of such lengths to one -/
inductive VP : List Int → List (List Int) → Prop where
  | nil (lens : List Int) (h : lens.length ≤ 1) : VP lens []
  | cons (lens : List Int) (at_ : Nat) (rest : List (List Int)) (h : at_ + 1 < lens.length)
      (t : VP (lens.take at_ ++ [lens.getD at_ 0 + lens.getD (at_ + 1) 0] ++ lens.drop (at_ + 2)) rest) : VP lens ([(at_ : Int), lens.getD at_ 0, lens.getD (at_ + 1) 0] :: rest)

theorem SegR.mem_len {runs : List (List Itm)} {l r : List Itm} (h : SegR runs l) (hr : r ∈ runs) : r.length ≤ l.length := by
  obtain ⟨ps, rfl, h1, rfl⟩ := h
  obtain ⟨p, hp, rfl⟩ := List.mem_map.1 hr
  rw [(h1 p hp).len]
  clear h1 hr
  induction ps with
  | nil => simp at hp
  | cons q ps ih =>
    rcases List.mem_cons.1 hp with rfl | hp
    · simp
    · have := ih hp; rw [List.map_cons, List.flatten_cons, List.length_append]; omega
theorem SegR.nil_of {l : List Itm} (h : SegR [] l) : l = [] := by
  obtain ⟨ps, h0, h1, rfl⟩ := h
  have : ps = [] := by cases ps with | nil => rfl | cons a b => simp at h0
  subst this; rfl
theorem pw_adj {α : Type} {R : α → α → Prop} (d : α) (tr : ∀ a b c, R a b → R b c → R a c) : ∀ (l : List α), (∀ p, p + 1 < l.length → R (l.getD p d) (l.getD (p + 1) d)) → List.Pairwise R l
  | [], _ => List.Pairwise.nil
  | [x], _ => List.pairwise_singleton _ _
  | x :: y :: l, h => by
    have t : List.Pairwise R (y :: l) := pw_adj d tr (y :: l) fun p hp => by
      have := h (p + 1) (by simp at hp ⊢; omega)
      simpa using this
    have h0 : R x y := by have := h 0 (by simp); simpa using this
    refine List.pairwise_cons.2 ⟨fun z hz => ?_, t⟩
    rcases List.mem_cons.1 hz with rfl | hz
    · exact h0
    · exact tr _ _ _ h0 ((List.pairwise_cons.1 t).1 z hz)
end Go.Proofs.Ytjanepkjjmcchaa.Am
