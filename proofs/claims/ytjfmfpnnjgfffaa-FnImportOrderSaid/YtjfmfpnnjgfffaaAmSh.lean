/- The abstract machine: shapes. -/
import Derived.Test.YtjfmfpnnjgfffaaAmExec
namespace Go.Proofs.Ytjfmfpnnjgfffaa.Am
open Go
set_option autoImplicit false
set_option linter.unusedVariables false
set_option linter.unusedSectionVars false
set_option linter.unusedSimpArgs false

mutual
inductive Sh where
  | int (k : IntKind)
  | bool
  | str
  | imm (k : Nat)
  | own (o : Nat)
  | pre (o : Nat)
  | ptr (o off : Nat)
  | nsp (o off : Nat)
  | elem (o off : Nat)
  | pel (k off : Nat)
  | nilp
  | nilf
  | nili
  | nil0
  | agg (l : ShL)
  | tup (l : ShL)
  | clo (f : FuncId) (l : ShL)
  | undef
  | old (k : Nat)
  | pol (k off : Nat)
  | ref (o j : Nat)
  | jk (o k : Nat)
  | jel (o k off : Nat)
inductive ShL where
  | nil
  | cons (s : Sh) (l : ShL)
end

inductive OSh where
  | arr (k : Nat) (wr : Bool)
  | box (t : TypeId) (l : ShL)
  | usr (u : Nat)
  | dead
  | free

section
variable (G : Sig)

mutual
def Sh.den : Sh → Type
  | .int _ => Int
  | .bool => Bool
  | .str => ByteArray
  | .imm k => List (G.T k)
  | .own _ => Unit
  | .pre _ => Nat
  | .ptr _ _ => Unit
  | .nsp _ _ => Unit
  | .elem _ _ => Nat
  | .pel k _ => G.T k
  | .nilp => Unit
  | .nilf => Unit
  | .nili => Unit
  | .nil0 => Unit
  | .agg l => l.den
  | .tup l => l.den
  | .clo _ l => l.den
  | .undef => Unit
  | .old k => List (G.T k)
  | .pol k _ => G.T k
  | .ref _ _ => Unit
  | .jk _ k => List (G.T k)
  | .jel _ k _ => G.T k
def ShL.den : ShL → Type
  | .nil => Unit
  | .cons s l => s.den × l.den
end

mutual
def Sh.enc : (s : Sh) → s.den G → AV G.T
  | .int k, x => .lit (.int k x)
  | .bool, x => .lit (.bool x)
  | .str, x => .lit (.string x)
  | .imm k, x => .imm k x
  | .own o, _ => .own o
  | .pre o, n => .pre o n
  | .ptr o off, _ => .ptr o off
  | .nsp o off, _ => .nsp o off
  | .elem o off, i => .elem o i off
  | .pel k off, x => .pel k x off
  | .nilp, _ => .lit (.pointer none)
  | .nilf, _ => .lit .nilFunc
  | .nili, _ => .lit .nilIface
  | .nil0, _ => .nil0
  | .agg l, x => .agg (l.enc x)
  | .tup l, x => .tup (l.enc x)
  | .clo f l, x => .clo f (l.enc x)
  | .undef, _ => .undef
  | .old k, x => .old k x
  | .pol k off, x => .pol k x off
  | .ref o j, _ => .ref o j
  | .jk o k, x => .jk o k x
  | .jel o k off, x => .jel o k x off
def ShL.enc : (l : ShL) → l.den G → List (AV G.T)
  | .nil, _ => []
  | .cons s l, x => s.enc x.1 :: l.enc x.2
end

def decInt (k : IntKind) : AV G.T → Option Int
  | .lit (.int k' x) => if k = k' then some x else none
  | _ => none
def decBool : AV G.T → Option Bool
  | .lit (.bool x) => some x
  | _ => none
def decStr : AV G.T → Option ByteArray
  | .lit (.string x) => some x
  | _ => none
def decImm (k : Nat) : AV G.T → Option (List (G.T k))
  | .imm k' xs => castL k' k xs
  | .nil0 => if k < G.n then some [] else none
  | _ => none
def decOwn (o : Nat) : AV G.T → Option Unit
  | .own o' => if o = o' then some () else none
  | _ => none
def decPre (o : Nat) : AV G.T → Option Nat
  | .pre o' n => if o = o' then some n else none
  | _ => none
def decPtr (o off : Nat) : AV G.T → Option Unit
  | .ptr o' off' => if o = o' then (if off = off' then some () else none) else none
  | _ => none
def decNsp (o off : Nat) : AV G.T → Option Unit
  | .nsp o' off' => if o = o' then (if off = off' then some () else none) else none
  | .ptr o' off' => if o = o' then (if off = off' then some () else none) else none
  | .lit (.pointer none) => some ()
  | _ => none
def decElem (o off : Nat) : AV G.T → Option Nat
  | .elem o' i off' => if o = o' then (if off = off' then some i else none) else none
  | _ => none
def decPel (k off : Nat) : AV G.T → Option (G.T k)
  | .pel k' x off' => if off = off' then castE k' k x else none
  | _ => none
def decOld (k : Nat) : AV G.T → Option (List (G.T k))
  | .old k' xs => castL k' k xs
  | _ => none
def decPol (k off : Nat) : AV G.T → Option (G.T k)
  | .pol k' x off' => if off = off' then castE k' k x else none
  | _ => none
def decRef (o j : Nat) : AV G.T → Option Unit
  | .ref o' j' => if o = o' then (if j = j' then some () else none) else none
  | _ => none
def decJk (o k : Nat) : AV G.T → Option (List (G.T k))
  | .jk o' k' xs => if o = o' then castL k' k xs else none
  | _ => none
def decJel (o k off : Nat) : AV G.T → Option (G.T k)
  | .jel o' k' x off' => if o = o' then (if off = off' then castE k' k x else none) else none
  | _ => none
def decNilp : AV G.T → Option Unit
  | .lit (.pointer none) => some ()
  | _ => none
def decNilf : AV G.T → Option Unit
  | .lit .nilFunc => some ()
  | _ => none
def decNili : AV G.T → Option Unit
  | .lit .nilIface => some ()
  | _ => none
def decNil0 : AV G.T → Option Unit
  | .nil0 => some ()
  | _ => none
def inAgg {α : Type} (K : List (AV G.T) → Option α) : AV G.T → Option α
  | .agg ds => K ds
  | _ => none
def inTup {α : Type} (K : List (AV G.T) → Option α) : AV G.T → Option α
  | .tup ds => K ds
  | _ => none
def inClo {α : Type} (f : FuncId) (K : List (AV G.T) → Option α) : AV G.T → Option α
  | .clo f' ds => if f = f' then K ds else none
  | _ => none
def inCons {α β : Type} (K : AV G.T → Option α) (K' : List (AV G.T) → Option β) : List (AV G.T) → Option (α × β)
  | [] => none
  | d :: ds => match K d with
    | some x => (match K' ds with | some y => some (x, y) | none => none)
    | none => none

mutual
def Sh.dec : (s : Sh) → AV G.T → Option (s.den G)
  | .int k => decInt G k
  | .bool => decBool G
  | .str => decStr G
  | .imm k => decImm G k
  | .own o => decOwn G o
  | .pre o => decPre G o
  | .ptr o off => decPtr G o off
  | .nsp o off => decNsp G o off
  | .elem o off => decElem G o off
  | .pel k off => decPel G k off
  | .nilp => decNilp G
  | .nilf => decNilf G
  | .nili => decNili G
  | .nil0 => decNil0 G
  | .agg l => inAgg G l.dec
  | .tup l => inTup G l.dec
  | .clo f l => inClo G f l.dec
  | .undef => fun _ => some ()
  | .old k => decOld G k
  | .pol k off => decPol G k off
  | .ref o j => decRef G o j
  | .jk o k => decJk G o k
  | .jel o k off => decJel G o k off
def ShL.dec : (l : ShL) → List (AV G.T) → Option (l.den G)
  | .nil => fun | [] => some () | _ => none
  | .cons s l => inCons G s.dec l.dec
end

def OSh.den : OSh → Type
  | .arr k _ => List (G.T k)
  | .box _ l => l.den G
  | .usr u => G.U u
  | .dead => Unit
  | .free => Unit
def OSh.enc : (s : OSh) → s.den G → AObj G.T G.U
  | .arr k wr, x => .arr k x wr
  | .box t l, x => .box t (l.enc G x)
  | .usr u, x => .usr u x
  | .dead, _ => .dead
  | .free, _ => .free
def OSh.dec : (s : OSh) → AObj G.T G.U → Option (s.den G)
  | .arr k wr, .arr k' xs wr' => if wr = wr' then castL k' k xs else none
  | .box t l, .box t' ds => if t = t' then l.dec G ds else none
  | .usr u, .usr u' x => if h : u' = u then some (h ▸ x) else none
  | .dead, .dead => some ()
  | .free, .free => some ()
  | _, _ => none

def denO : List OSh → Type
  | [] => Unit
  | s :: l => s.den G × denO l
def encO : (l : List OSh) → denO G l → List (AObj G.T G.U)
  | [], _ => []
  | s :: l, x => s.enc G x.1 :: encO l x.2
def decO : (l : List OSh) → List (AObj G.T G.U) → Option (denO G l)
  | [], [] => some ()
  | s :: l, o :: os => match s.dec G o with
    | some x => (match decO l os with | some y => some (x, y) | none => none)
    | none => none
  | _, _ => none

structure SSh where
  n : Nat
  slots : List (Nat × Sh)
  objs : List OSh

def denSl : List (Nat × Sh) → Type
  | [] => Unit
  | s :: l => s.2.den G × denSl l
def encSl : (cnt i : Nat) → (l : List (Nat × Sh)) → denSl G l → List (AV G.T)
  | 0, _, _, _ => []
  | cnt + 1, i, [], a => .undef :: encSl cnt (i + 1) [] a
  | cnt + 1, i, s :: l, a => if s.1 = i then s.2.enc G a.1 :: encSl cnt (i + 1) l a.2 else .undef :: encSl cnt (i + 1) (s :: l) a
def decSl : (i : Nat) → (l : List (Nat × Sh)) → List (AV G.T) → Option (denSl G l)
  | _, [], _ => some ()
  | _, _ :: _, [] => none
  | i, s :: l, v :: vs => if s.1 = i then
      (match s.2.dec G v with
      | some x => (match decSl (i + 1) l vs with | some y => some (x, y) | none => none)
      | none => none)
    else decSl (i + 1) (s :: l) vs

def SSh.den (s : SSh) : Type := denSl G s.slots × denO G s.objs
def SSh.enc (s : SSh) (a : s.den G) : St G := ⟨encSl G s.n 0 s.slots a.1, encO G s.objs a.2⟩
def SSh.dec (s : SSh) (σ : St G) : Option (s.den G) :=
  if σ.slots.length = s.n then
  (match decSl G 0 s.slots σ.slots with
  | some x => (match decO G s.objs σ.objs with | some y => some (x, y) | none => none)
  | none => none) else none
end

section
variable {P : Program} {G : Sig} {F : Nat → Prop} {c0 c c' : Cf G}

def Wk (P : Program) (G : Sig) (d d' : AV G.T) : Prop := ∀ (F : Nat → Prop) (c : Cf G) (v : Value), VR P G F c d v → VR P G F c d' v
def WkL (P : Program) (G : Sig) (ds ds' : List (AV G.T)) : Prop := ds.length = ds'.length ∧ ∀ (j : Nat) (d d' : AV G.T), ds[j]? = some d → ds'[j]? = some d' → Wk P G d d'

theorem castL_some {T : Nat → Type} {k' k : Nat} {xs : List (T k')} {ys : List (T k)} (h : castL k' k xs = some ys) : ∃ e : k' = k, e ▸ xs = ys := by
  unfold castL at h
  split at h
  · rename_i e; exact ⟨e, by simpa using h⟩
  · cases h
theorem castE_some {T : Nat → Type} {k' k : Nat} {xs : T k'} {ys : T k} (h : castE k' k xs = some ys) : ∃ e : k' = k, e ▸ xs = ys := by
  unfold castE at h
  split at h
  · rename_i e; exact ⟨e, by simpa using h⟩
  · cases h

theorem WkL.agg {ds ds' : List (AV G.T)} (h : WkL P G ds ds') : Wk P G (.agg ds) (.agg ds') := by
  intro F c v hv
  cases hv with
  | agg cs vs hn hh =>
    refine .agg _ _ (h.1 ▸ hn) fun i d v hd hv => ?_
    have hi : i < ds.length := by rw [h.1]; exact (List.getElem?_eq_some_iff.1 hd).1
    exact h.2 i ds[i] d (by simp [hi]) hd F c v (hh i ds[i] v (by simp [hi]) hv)
theorem WkL.tup {ds ds' : List (AV G.T)} (h : WkL P G ds ds') : Wk P G (.tup ds) (.tup ds') := by
  intro F c v hv
  cases hv with
  | tup cs vs hn hh =>
    refine .tup _ _ (h.1 ▸ hn) fun i d v hd hv => ?_
    have hi : i < ds.length := by rw [h.1]; exact (List.getElem?_eq_some_iff.1 hd).1
    exact h.2 i ds[i] d (by simp [hi]) hd F c v (hh i ds[i] v (by simp [hi]) hv)
theorem WkL.clo {f : FuncId} {ds ds' : List (AV G.T)} (h : WkL P G ds ds') : Wk P G (.clo f ds) (.clo f ds') := by
  intro F c v hv
  cases hv with
  | clo f cs vs hn hh =>
    refine .clo _ _ _ (h.1 ▸ hn) fun i d v hd hv => ?_
    have hi : i < ds.length := by rw [h.1]; exact (List.getElem?_eq_some_iff.1 hd).1
    exact h.2 i ds[i] d (by simp [hi]) hd F c v (hh i ds[i] v (by simp [hi]) hv)

theorem Sh.dec_wk (s : Sh) : ∀ (d : AV G.T) (x : s.den G), s.dec G d = some x → Wk P G d (s.enc G x) := by
  refine Sh.rec (motive_1 := fun s => ∀ (d : AV G.T) (x : s.den G), s.dec G d = some x → Wk P G d (s.enc G x))
    (motive_2 := fun l => ∀ (ds : List (AV G.T)) (x : l.den G), l.dec G ds = some x → WkL P G ds (l.enc G x)) ?_ ?_ ?_ ?_ ?_ ?_ ?_ ?_ ?_ ?_ ?_ ?_ ?_ ?_ ?_ ?_ ?_ ?_ ?_ ?_ ?_ ?_ ?_ ?_ ?_ s
  · intro k d x h
    match d, h with
    | .lit (.int k' n), h =>
      simp only [Sh.dec, decInt] at h
      split at h
      · rename_i e; subst e; cases h; exact fun _ _ _ h => h
      · cases h
  · intro d x h
    match d, h with
    | .lit (.bool n), h => cases h; exact fun _ _ _ h => h
  · intro d x h
    match d, h with
    | .lit (.string n), h => cases h; exact fun _ _ _ h => h
  · intro k d x h
    match d, h with
    | .imm k' xs, h => obtain ⟨e, h⟩ := castL_some h; subst e; subst h; exact fun _ _ _ h => h
    | .nil0, h =>
      simp only [Sh.dec, decImm] at h
      split at h
      · rename_i hk; cases h; intro F c v hv; cases hv with | nil0 a ha => exact VR_imm_of_nil hk a
      · cases h
  · intro o d x h
    match d, h with
    | .own o', h =>
      simp only [Sh.dec, decOwn] at h
      split at h
      · rename_i e; subst e; exact fun _ _ _ h => h
      · cases h
  · intro o d x h
    match d, h with
    | .pre o' n, h =>
      simp only [Sh.dec, decPre] at h
      split at h
      · rename_i e; subst e; cases h; exact fun _ _ _ h => h
      · cases h
  · intro o off d x h
    match d, h with
    | .ptr o' off', h =>
      simp only [Sh.dec, decPtr] at h
      split at h
      · split at h
        · rename_i e e'; subst e; subst e'; exact fun _ _ _ h => h
        · cases h
      · cases h
  · intro o off d x h
    match d, h with
    | .nsp o' off', h =>
      simp only [Sh.dec, decNsp] at h
      split at h
      · split at h
        · rename_i e e'; subst e; subst e'; exact fun _ _ _ h => h
        · cases h
      · cases h
    | .ptr o' off', h =>
      simp only [Sh.dec, decNsp] at h
      split at h
      · split at h
        · rename_i e e'; subst e; subst e'
          intro F c v hv
          cases hv with
          | ptrDead _ _ b h => exact .nspDead _ _ _ h
          | ptr _ _ obj β b h hl hm hb => exact .nsp _ _ obj β b h hl hm hb
        · cases h
      · cases h
    | .lit (.pointer none), h => intro F c v hv; cases hv; exact .nspNil _ _
  · intro o off d x h
    match d, h with
    | .elem o' i off', h =>
      simp only [Sh.dec, decElem] at h
      split at h
      · split at h
        · rename_i e e'; subst e; subst e'; cases h; exact fun _ _ _ h => h
        · cases h
      · cases h
  · intro k off d x h
    match d, h with
    | .pel k' y off', h =>
      simp only [Sh.dec, decPel] at h
      split at h
      · rename_i e'; obtain ⟨e, h⟩ := castE_some h; subst e; subst e'; subst h; exact fun _ _ _ h => h
      · cases h
  · intro d x h
    match d, h with
    | .lit (.pointer none), h => exact fun _ _ _ h => h
  · intro d x h
    match d, h with
    | .lit .nilFunc, h => exact fun _ _ _ h => h
  · intro d x h
    match d, h with
    | .lit .nilIface, h => exact fun _ _ _ h => h
  · intro d x h
    match d, h with
    | .nil0, h => exact fun _ _ _ h => h
  · intro l ih d x h
    match d, h with
    | .agg ds, h => exact (ih ds x h).agg
  · intro l ih d x h
    match d, h with
    | .tup ds, h => exact (ih ds x h).tup
  · intro f l ih d x h
    match d, h with
    | .clo f' ds, h =>
      have h2 : (if f = f' then ShL.dec G l ds else none : Option (l.den G)) = some x := h
      split at h2
      · rename_i e; subst e; exact (ih ds x h2).clo
      · cases h2
  · intro d x h; exact fun F c v h => .undef v
  · intro k d x h
    match d, h with
    | .old k' xs, h => obtain ⟨e, h⟩ := castL_some h; subst e; subst h; exact fun _ _ _ h => h
  · intro k off d x h
    match d, h with
    | .pol k' y off', h =>
      simp only [Sh.dec, decPol] at h
      split at h
      · rename_i e'; obtain ⟨e, h⟩ := castE_some h; subst e; subst e'; subst h; exact fun _ _ _ h => h
      · cases h
  · intro o j d x h
    match d, h with
    | .ref o' j', h =>
      simp only [Sh.dec, decRef] at h
      split at h
      · split at h
        · rename_i e e'; subst e; subst e'; exact fun _ _ _ h => h
        · cases h
      · cases h
  · intro o k d x h
    match d, h with
    | .jk o' k' xs, h =>
      simp only [Sh.dec, decJk] at h
      split at h
      · rename_i e'; obtain ⟨e, h⟩ := castL_some h; subst e; subst e'; subst h; exact fun _ _ _ h => h
      · cases h
  · intro o k off d x h
    match d, h with
    | .jel o' k' y off', h =>
      simp only [Sh.dec, decJel] at h
      split at h
      · split at h
        · rename_i e1 e'; obtain ⟨e, h⟩ := castE_some h; subst e; subst e1; subst e'; subst h; exact fun _ _ _ h => h
        · cases h
      · cases h
  · intro ds x h
    match ds, h with
    | [], h => exact ⟨rfl, fun j d d' h => by simp at h⟩
  · intro s l ih1 ih2 ds x h
    match ds, h with
    | d :: ds, h =>
      simp only [ShL.dec, inCons] at h
      split at h
      · rename_i y hy
        split at h
        · rename_i z hz
          cases h
          have h1 := ih1 d y hy
          have h2 := ih2 ds z hz
          refine ⟨by simp [ShL.enc, h2.1], fun j e e' he he' => ?_⟩
          cases j with
          | zero => simp [ShL.enc] at he he'; subst he; subst he'; exact h1
          | succ j => simp [ShL.enc] at he he'; exact h2.2 j e e' he he'
        · cases h
      · cases h
theorem ShL.dec_wk : ∀ (l : ShL) (ds : List (AV G.T)) (x : l.den G), l.dec G ds = some x → WkL P G ds (l.enc G x)
  | .nil, [], x, h => ⟨rfl, fun j d d' h => by simp at h⟩
  | .cons s l, d :: ds, x, h => by
    simp only [ShL.dec, inCons] at h
    split at h
    · rename_i y hy
      split at h
      · rename_i z hz
        cases h
        have h1 := Sh.dec_wk (P := P) s d y hy
        have h2 := ShL.dec_wk l ds z hz
        refine ⟨by simp [ShL.enc, h2.1], fun j e e' he he' => ?_⟩
        cases j with
        | zero => simp [ShL.enc] at he he'; subst he; subst he'; exact h1
        | succ j => simp [ShL.enc] at he he'; exact h2.2 j e e' he he'
      · cases h
    · cases h
  | .nil, d :: ds, x, h => by simp [ShL.dec, inCons] at h
  | .cons s l, [], x, h => by simp [ShL.dec, inCons] at h


-- objects ----------------------------------------------------------------------------------------------------------------------
def OLe (P : Program) (G : Sig) (x y : AObj G.T G.U) : Prop := x = y ∨ ∃ t ds ds', x = .box t ds ∧ y = .box t ds' ∧ WkL P G ds ds'

theorem OLe.mut {x y : AObj G.T G.U} (h : OLe P G x y) : isMut y = isMut x := by rcases h with rfl | ⟨t, ds, ds', rfl, rfl, _⟩ <;> rfl
theorem OLe.live {x y : AObj G.T G.U} (h : OLe P G x y) : isLive y = isLive x := by rcases h with rfl | ⟨t, ds, ds', rfl, rfl, _⟩ <;> rfl
theorem OLe.same {x y : AObj G.T G.U} (h : OLe P G x y) (hf : x ≠ .free) : y = .dead ∨ Same x y := by
  rcases h with rfl | ⟨t, ds, ds', rfl, rfl, _⟩
  · cases x <;> simp_all [Same]
  · exact .inr trivial

theorem OSh.dec_le (s : OSh) (o : AObj G.T G.U) (x : s.den G) (h : s.dec G o = some x) : OLe P G o (s.enc G x) := by
  cases s with
  | arr k wr =>
    match o, h with
    | .arr k' xs wr', h =>
      have h2 : (if wr = wr' then castL k' k xs else none : Option (List (G.T k))) = some x := h
      clear h
      split at h2
      · rename_i e; obtain ⟨e', h⟩ := castL_some h2; subst e'; subst e; subst h; exact .inl rfl
      · cases h2
  | box t l =>
    match o, h with
    | .box t' ds, h =>
      have h2 : (if t = t' then ShL.dec G l ds else none : Option (l.den G)) = some x := h
      split at h2
      · rename_i e; subst e; exact .inr ⟨t, ds, l.enc G x, rfl, rfl, ShL.dec_wk l ds x h2⟩
      · cases h2
  | usr u =>
    match o, h with
    | .usr u' y, h =>
      simp only [OSh.dec] at h
      split at h
      · rename_i e; subst e; cases h; exact .inl rfl
      · cases h
  | dead =>
    match o, h with
    | .dead, h => exact .inl rfl
  | free =>
    match o, h with
    | .free, h => exact .inl rfl

theorem decO_le : ∀ (l : List OSh) (os : List (AObj G.T G.U)) (x : denO G l), decO G l os = some x → os.length = (encO G l x).length ∧ ∀ (j : Nat) (o o' : AObj G.T G.U), os[j]? = some o → (encO G l x)[j]? = some o' → OLe P G o o'
  | [], [], x, h => ⟨rfl, fun j d d' h => by simp at h⟩
  | s :: l, o :: os, x, h => by
    simp only [decO] at h
    split at h
    · rename_i y hy
      split at h
      · rename_i z hz
        cases h
        have h1 := OSh.dec_le (P := P) s o y hy
        have h2 := decO_le l os z hz
        refine ⟨by simp [encO, h2.1], fun j e e' he he' => ?_⟩
        cases j with
        | zero => simp [encO] at he he'; subst he; subst he'; exact h1
        | succ j => simp [encO] at he he'; exact h2.2 j e e' he he'
      · cases h
    · cases h
  | [], d :: ds, x, h => by simp [decO] at h
  | s :: l, [], x, h => by simp [decO] at h

theorem decSl_wk : ∀ (cnt i : Nat) (l : List (Nat × Sh)) (ds : List (AV G.T)) (x : denSl G l), ds.length = cnt → decSl G i l ds = some x → WkL P G ds (encSl G cnt i l x)
  | 0, i, l, ds, x, hn, h => by
    cases ds with
    | nil => exact ⟨by simp [encSl], fun j d d' h => by simp at h⟩
    | cons d ds => simp at hn
  | cnt + 1, i, [], d :: ds, x, hn, h => by
    have ih := decSl_wk cnt (i + 1) [] ds x (by simpa using hn) (by cases ds <;> rfl)
    refine ⟨by simp [encSl, ih.1], fun j e e' he he' => ?_⟩
    cases j with
    | zero => simp [encSl] at he he'; subst he; subst he'; exact fun _ _ v _ => .undef v
    | succ j => simp [encSl] at he he'; exact ih.2 j e e' he he'
  | cnt + 1, i, s :: l, d :: ds, x, hn, h => by
    simp only [decSl] at h
    split at h
    · rename_i hi
      split at h
      · rename_i y hy
        split at h
        · rename_i z hz
          cases h
          have h1 := Sh.dec_wk (P := P) s.2 d y hy
          have h2 := decSl_wk cnt (i + 1) l ds z (by simpa using hn) hz
          refine ⟨by simp [encSl, hi, h2.1], fun j e e' he he' => ?_⟩
          cases j with
          | zero => simp [encSl, hi] at he he'; subst he; subst he'; exact h1
          | succ j => simp [encSl, hi] at he he'; exact h2.2 j e e' he he'
        · cases h
      · cases h
    · rename_i hi
      have ih := decSl_wk cnt (i + 1) (s :: l) ds x (by simpa using hn) h
      refine ⟨by simp [encSl, hi, ih.1], fun j e e' he he' => ?_⟩
      cases j with
      | zero => simp [encSl, hi] at he he'; subst he; subst he'; exact fun _ _ v _ => .undef v
      | succ j => simp [encSl, hi] at he he'; exact ih.2 j e e' he he'
  | cnt + 1, i, l, [], x, hn, h => by simp at hn

/-- weaker objects -/
theorem OLe.cf {N : Nat → Prop} {os' : List (AObj G.T G.U)} (ok : OK P G F N c) (hl : c.os.length = os'.length) (h : ∀ (j : Nat) (o o' : AObj G.T G.U), c.os[j]? = some o → os'[j]? = some o' → OLe P G o o') :
    Tr G F c ⟨c.w, c.m, os'⟩ ∧ OK P G F N ⟨c.w, c.m, os'⟩ := by
  have back : ∀ (j : Nat) (o' : AObj G.T G.U), os'[j]? = some o' → ∃ o, c.os[j]? = some o ∧ OLe P G o o' := fun j o' ho' => by
    have hj : j < c.os.length := by rw [hl]; exact (List.getElem?_eq_some_iff.1 ho').1
    exact ⟨c.os[j], by simp [hj], h j _ _ (by simp [hj]) ho'⟩
  have mv : ∀ b, Mv G ⟨c.w, c.m, os'⟩ b → Mv G c b := by
    rintro b ⟨j, y, β, h1, h2, h3, h4⟩
    obtain ⟨o, ho, hle⟩ := back j y h1
    exact ⟨j, o, β, ho, h2, by rw [← hle.mut]; exact h3, h4⟩
  have lv : ∀ b, Lv G ⟨c.w, c.m, os'⟩ b → Lv G c b := by
    rintro b ⟨j, y, β, h1, h2, h3, h4⟩
    obtain ⟨o, ho, hle⟩ := back j y h1
    exact ⟨j, o, β, ho, h2, by rw [← hle.live]; exact h3, h4⟩
  have tr : Tr G F c ⟨c.w, c.m, os'⟩ := {
    sys := ⟨rfl, rfl, rfl⟩, size := Nat.le_refl _, keep := fun _ _ _ => rfl
    ext := fun o obj ho hf => by
      have hj : o < os'.length := by rw [← hl]; exact (List.getElem?_eq_some_iff.1 ho).1
      refine ⟨os'[o], by simp [hj], ?_⟩
      rcases (h o obj os'[o] ho (by simp [hj])).same hf with e | e
      · exact .inl e
      · exact .inr ⟨e, .inl rfl⟩
    mv := fun b _ hb => mv b hb
    fz := fun _ h => h
    lv := fun b _ hb => lv b hb }
  refine ⟨tr, ?_⟩
  constructor
  · show c.m.length = os'.length; rw [← hl]; exact ok.len
  · intro j y β h1 h2
    obtain ⟨o, ho, hle⟩ := back j y h1
    have hr := (ok.obj j o β ho h2).mono tr fun _ _ _ => rfl
    rcases hle with rfl | ⟨t, ds, ds', rfl, rfl, hw⟩
    · exact hr
    · obtain ⟨b, cs, hb, hfp, hheap, hsz, hrow⟩ := hr
      refine ⟨b, cs, hb, hfp, hheap, by rw [hsz, hw.1], fun j d hd => ?_⟩
      have hj : j < ds.length := by rw [hw.1]; exact (List.getElem?_eq_some_iff.1 hd).1
      obtain ⟨v, hv, hr⟩ := hrow j ds[j] (by simp [hj])
      exact ⟨v, hv, hw.2 j _ _ (by simp [hj]) hd _ _ _ hr⟩
  · intro j y β h1 h2 hy b hb
    obtain ⟨o, ho, hle⟩ := back j y h1
    exact ok.own j o β ho h2 (by rw [← hle.live]; exact hy) b hb
  · intro j y β h1 h2 hy b hb
    obtain ⟨o, ho, hle⟩ := back j y h1
    exact ok.wr j o β ho h2 (by rw [← hle.mut]; exact hy) b hb
  · intro j j' y y' β β' h1 h2 h3 h4 hy hy' hne b hb hb'
    obtain ⟨o, ho, hle⟩ := back j y h1
    obtain ⟨o', ho', hle'⟩ := back j' y' h2
    exact ok.apart j j' o o' β β' ho ho' h3 h4 (by rw [← hle.live]; exact hy) (by rw [← hle'.live]; exact hy') hne b hb hb'
  · exact ok.low
  · exact ok.gl.step tr

theorem SSh.dec_rel {s : SSh} {σ : St G} {x : s.den G} {a : Act} (h : s.dec G σ = some x) (rel : Rel P G F c0 σ a c) : ∃ c', c'.w = c.w ∧ Rel P G F c0 (s.enc G x) a c' := by
  unfold SSh.dec at h
  split at h
  · rename_i hn
    split at h
    · rename_i y hy
      split at h
      · rename_i z hz
        cases h
        have h1 := decSl_wk (P := P) s.n 0 s.slots σ.slots y hn hy
        have h2 := decO_le (P := P) s.objs σ.objs z hz
        rw [← rel.objs] at h2
        obtain ⟨tr, ok⟩ := OLe.cf rel.ok h2.1 h2.2
        refine ⟨⟨c.w, c.m, encO G s.objs z⟩, rfl, { objs := rfl, slots := ⟨?_, ?_⟩, defers := rel.defers, ok := ok, tr := rel.tr.trans rel.ok tr }⟩
        · show (encSl G s.n 0 s.slots y).length = _
          rw [← h1.1]; exact rel.slots.1
        · intro t d v hd hv
          have ht : t < σ.slots.length := by rw [h1.1]; exact (List.getElem?_eq_some_iff.1 hd).1
          exact h1.2 t σ.slots[t] d (by simp [ht]) hd _ _ _ ((rel.slots.2 t _ v (by simp [ht]) hv).mono tr)
      · cases h
    · cases h
  · cases h

end
end Go.Proofs.Ytjfmfpnnjgfffaa.Am
