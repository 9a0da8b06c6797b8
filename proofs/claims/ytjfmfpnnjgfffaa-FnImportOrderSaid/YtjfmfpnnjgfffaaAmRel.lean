/- The abstract machine: how states are related to worlds. -/
import Derived.Test.YtjfmfpnnjgfffaaAmDef
import Derived.Laws.World
import Derived.Orders
import Derived.Below
namespace Go.Proofs.Ytjfmfpnnjgfffaa.Am
open Go
set_option autoImplicit false
set_option linter.unusedVariables false
set_option linter.unusedSectionVars false

section
variable {T : Nat → Type} (n : Nat) (op : (k : Nat) → T k → List (AV T)) (es : Nat → Nat)
/-- rows of a zone: where their cells lie -/
inductive JR' (z : Zn) : AV T → Value → Prop where
  | imm (k : Nat) (xs : List (T k)) (a : Option Addr) (cap : Nat) (f : Nat → Nat → Value) (hk : k < n) (hcap : xs.length ≤ cap)
      (hl : ∀ (i : Nat) (x : T k), xs[i]? = some x → ∀ (j : Nat) (v : Value), (op k x)[j]? = some (.lit v) → ∃ ad, a = some ad ∧ z.lf (ad.add (i * es k + j)))
      (hs : ∀ (i : Nat) (x : T k), xs[i]? = some x → ∀ (j k' : Nat) (ys : List (T k')), (op k x)[j]? = some (.imm k' ys) → ∃ ad, a = some ad ∧ z.sl (ad.add (i * es k + j)) (f i j))
      (hv : ∀ (i : Nat) (x : T k), xs[i]? = some x → ∀ (j k' : Nat) (ys : List (T k')), (op k x)[j]? = some (.imm k' ys) → JR' z (.imm k' ys) (f i j)) : JR' z (.imm k xs) (.slice a xs.length cap)
/-- rows that lie in some blocks -/
inductive TR' (w : World) (fp : List Nat) : AV T → Value → Prop where
  | lit (v : Value) : TR' w fp (.lit v) v
  | imm (k : Nat) (xs : List (T k)) (a : Option Addr) (cap : Nat) (f : Nat → Nat → Value) (hk : k < n) (hcap : xs.length ≤ cap)
      (hc : ∀ (i : Nat) (x : T k), xs[i]? = some x → ∀ (j : Nat) (d : AV T), (op k x)[j]? = some d → ∃ ad, a = some ad ∧ ad.block ∈ fp ∧ w.cell? (ad.add (i * es k + j)) = some (f i j))
      (hv : ∀ (i : Nat) (x : T k), xs[i]? = some x → ∀ (j : Nat) (d : AV T), (op k x)[j]? = some d → TR' w fp d (f i j)) : TR' w fp (.imm k xs) (.slice a xs.length cap)
end

section
variable (P : Program) (G : Sig)

structure Cf where
  w : World
  m : List Blk
  os : List (AObj G.T G.U)

def isMut {T U : Nat → Type} : AObj T U → Bool
  | .arr _ _ w => w
  | .box _ _ => true
  | .usr _ _ => true
  | .dead => false
  | .free => false
def isLive {T U : Nat → Type} : AObj T U → Bool
  | .dead => false
  | .free => false
  | _ => true

/-- blocks that may yet be written by somebody -/
def Av (F : Nat → Prop) (c : Cf G) (b : Nat) : Prop :=
  F b ∨ ∃ (o : Nat) (obj : AObj G.T G.U) (β : Blk), c.os[o]? = some obj ∧ c.m[o]? = some β ∧ isMut obj = true ∧ b ∈ β.fp

/-- blocks of objects that may be written -/
def Mv (c : Cf G) (b : Nat) : Prop := ∃ (o : Nat) (obj : AObj G.T G.U) (β : Blk), c.os[o]? = some obj ∧ c.m[o]? = some β ∧ isMut obj = true ∧ b ∈ β.fp

def esz (k : Nat) : Nat := szT P (G.E k)

abbrev JR (z : Zn) : AV G.T → Value → Prop := JR' G.n G.op (esz P G) z
abbrev TR (w : World) (fp : List Nat) : AV G.T → Value → Prop := TR' G.n G.op (esz P G) w fp
def JE (z : Zn) (k : Nat) (x : G.T k) (ad : Addr) : Prop :=
  (∀ (j : Nat) (v : Value), (G.op k x)[j]? = some (.lit v) → z.lf (ad.add j)) ∧ ∀ (j k' : Nat) (ys : List (G.T k')), (G.op k x)[j]? = some (.imm k' ys) → ∃ u, z.sl (ad.add j) u ∧ JR P G z (.imm k' ys) u

inductive VR (F : Nat → Prop) (c : Cf G) : AV G.T → Value → Prop where
  | lit (v : Value) : VR F c (.lit v) v
  | nil0 (a : Option Addr) (ha : G.strict = true → a = none) : VR F c .nil0 (.slice a 0 0)
  | imm (k : Nat) (xs : List (G.T k)) (a : Option Addr) (cap : Nat) (f : Nat → Nat → Value) (hk : k < G.n) (hcap : xs.length ≤ cap)
      (hc : ∀ (i : Nat) (x : G.T k), xs[i]? = some x → ∀ (j : Nat) (d : AV G.T), (G.op k x)[j]? = some d → ∃ ad, a = some ad ∧ ¬ Av G F c ad.block ∧ c.w.cell? (ad.add (i * esz P G k + j)) = some (f i j))
      (hv : ∀ (i : Nat) (x : G.T k), xs[i]? = some x → ∀ (j : Nat) (d : AV G.T), (G.op k x)[j]? = some d → VR F c d (f i j)) (ht : G.tight k = true → xs.length = 0 → cap = 0) : VR F c (.imm k xs) (.slice a xs.length cap)
  | ownDead (o : Nat) (a : Option Addr) (n cap : Nat) (h : c.os[o]? = some .dead) : VR F c (.own o) (.slice a n cap)
  | ownNil (o : Nat) (k : Nat) (wr : Bool) (β : Blk) (a : Option Addr) (h : c.os[o]? = some (.arr k [] wr)) (hm : c.m[o]? = some β) (hb : β.b = none) (ha : G.strict = true → a = none) : VR F c (.own o) (.slice a 0 0)
  | own (o : Nat) (k : Nat) (xs : List (G.T k)) (wr : Bool) (β : Blk) (b cap : Nat) (h : c.os[o]? = some (.arr k xs wr)) (hm : c.m[o]? = some β) (hb : β.b = some b)
      (hcap : xs.length ≤ cap) (hn : cap * esz P G k ≤ β.n) (ht : G.tight k = true → xs.length = 0 → cap = 0) : VR F c (.own o) (.slice (some ⟨b, 0, none⟩) xs.length cap)
  | preDead (o n : Nat) (a : Option Addr) (n' cap : Nat) (h : c.os[o]? = some .dead) : VR F c (.pre o n) (.slice a n' cap)
  | preNil (o n : Nat) (k : Nat) (wr : Bool) (β : Blk) (a : Option Addr) (h : c.os[o]? = some (.arr k [] wr)) (hm : c.m[o]? = some β) (hb : β.b = none) (ha : G.strict = true → a = none) : VR F c (.pre o n) (.slice a 0 0)
  | pre (o n : Nat) (k : Nat) (xs : List (G.T k)) (wr : Bool) (β : Blk) (b cap : Nat) (h : c.os[o]? = some (.arr k xs wr)) (hm : c.m[o]? = some β) (hb : β.b = some b)
      (hle : n ≤ xs.length) (hcap : n ≤ cap) (hn : cap * esz P G k ≤ β.n) : VR F c (.pre o n) (.slice (some ⟨b, 0, none⟩) n cap)
  | sufDead (o i : Nat) (a : Option Addr) (n' cap : Nat) (h : c.os[o]? = some .dead) : VR F c (.suf o i) (.slice a n' cap)
  | sufEnd (o i : Nat) (k : Nat) (xs : List (G.T k)) (wr : Bool) (a : Option Addr) (cap : Nat) (h : c.os[o]? = some (.arr k xs wr)) (hi : xs.length ≤ i) : VR F c (.suf o i) (.slice a 0 cap)
  | suf (o i : Nat) (k : Nat) (xs : List (G.T k)) (wr : Bool) (β : Blk) (b cap : Nat) (h : c.os[o]? = some (.arr k xs wr)) (hm : c.m[o]? = some β) (hb : β.b = some b)
      (hle : i < xs.length) : VR F c (.suf o i) (.slice (some ⟨b, i * esz P G k, none⟩) (xs.length - i) cap)
  | ptrDead (o off b : Nat) (h : c.os[o]? = some .dead) : VR F c (.ptr o off) (.pointer (some ⟨b, off, none⟩))
  | ptr (o off : Nat) (obj : AObj G.T G.U) (β : Blk) (b : Nat) (h : c.os[o]? = some obj) (hl : isLive obj = true) (hm : c.m[o]? = some β) (hb : β.b = some b) : VR F c (.ptr o off) (.pointer (some ⟨b, off, none⟩))
  | nspNil (o off : Nat) : VR F c (.nsp o off) (.pointer none)
  | nspDead (o off b : Nat) (h : c.os[o]? = some .dead) : VR F c (.nsp o off) (.pointer (some ⟨b, off, none⟩))
  | nsp (o off : Nat) (obj : AObj G.T G.U) (β : Blk) (b : Nat) (h : c.os[o]? = some obj) (hl : isLive obj = true) (hm : c.m[o]? = some β) (hb : β.b = some b) : VR F c (.nsp o off) (.pointer (some ⟨b, off, none⟩))
  | elemDead (o i off b x : Nat) (h : c.os[o]? = some .dead) : VR F c (.elem o i off) (.pointer (some ⟨b, x, none⟩))
  | elem (o i off : Nat) (k : Nat) (xs : List (G.T k)) (wr : Bool) (β : Blk) (b : Nat) (h : c.os[o]? = some (.arr k xs wr)) (hm : c.m[o]? = some β) (hb : β.b = some b)
      (hi : i < xs.length) : VR F c (.elem o i off) (.pointer (some ⟨b, i * esz P G k + off, none⟩))
  | pel (k : Nat) (x : G.T k) (off : Nat) (ad : Addr) (f : Nat → Value) (hk : k < G.n)
      (hc : ∀ (j : Nat) (d : AV G.T), (G.op k x)[j]? = some d → ¬ Av G F c ad.block ∧ c.w.cell? (ad.add j) = some (f j))
      (hv : ∀ (j : Nat) (d : AV G.T), (G.op k x)[j]? = some d → VR F c d (f j)) : VR F c (.pel k x off) (.pointer (some (ad.add off)))
  | agg (cs : List (AV G.T)) (vs : Array Value) (hn : cs.length = vs.size) (h : ∀ (i : Nat) (d : AV G.T) (v : Value), cs[i]? = some d → vs[i]? = some v → VR F c d v) : VR F c (.agg cs) (.agg vs)
  | tup (cs : List (AV G.T)) (vs : Array Value) (hn : cs.length = vs.size) (h : ∀ (i : Nat) (d : AV G.T) (v : Value), cs[i]? = some d → vs[i]? = some v → VR F c d v) : VR F c (.tup cs) (.tuple vs)
  | clo (f : FuncId) (cs : List (AV G.T)) (vs : Array Value) (hn : cs.length = vs.size) (h : ∀ (i : Nat) (d : AV G.T) (v : Value), cs[i]? = some d → vs[i]? = some v → VR F c d v) : VR F c (.clo f cs) (.func (.func f) #[] vs)
  | undef (v : Value) : VR F c .undef v
  | old (k : Nat) (xs : List (G.T k)) (a : Option Addr) (cap : Nat) (f : Nat → Nat → Value) (hk : k < G.n) (hcap : xs.length ≤ cap)
      (hc : ∀ (i : Nat) (x : G.T k), xs[i]? = some x → ∀ (j : Nat) (d : AV G.T), (G.op k x)[j]? = some d → ∃ ad, a = some ad ∧ ¬ Mv G c ad.block ∧ c.w.cell? (ad.add (i * esz P G k + j)) = some (f i j))
      (hv : ∀ (i : Nat) (x : G.T k), xs[i]? = some x → ∀ (j : Nat) (d : AV G.T), (G.op k x)[j]? = some d → VR F c (old1 d) (f i j)) : VR F c (.old k xs) (.slice a xs.length cap)
  | pol (k : Nat) (x : G.T k) (off : Nat) (ad : Addr) (f : Nat → Value) (hk : k < G.n)
      (hc : ∀ (j : Nat) (d : AV G.T), (G.op k x)[j]? = some d → ¬ Mv G c ad.block ∧ c.w.cell? (ad.add j) = some (f j))
      (hv : ∀ (j : Nat) (d : AV G.T), (G.op k x)[j]? = some d → VR F c (old1 d) (f j)) : VR F c (.pol k x off) (.pointer (some (ad.add off)))
  | refDead (o j : Nat) (v : Value) (h : c.os[o]? = some .dead) (h1 : v.oneCell' = true) (h2 : v.cells = #[v]) : VR F c (.ref o j) v
  | ref (o j u : Nat) (x : G.U u) (β : Blk) (v : Value) (h : c.os[o]? = some (.usr u x)) (hm : c.m[o]? = some β) (hr : β.z.rt[j]? = some v) (h1 : v.oneCell' = true) (h2 : v.cells = #[v]) : VR F c (.ref o j) v
  | jkDead (o k : Nat) (xs : List (G.T k)) (a : Option Addr) (cap : Nat) (h : c.os[o]? = some .dead) (ha : 0 < xs.length → ∃ ad, a = some ad) : VR F c (.jk o k xs) (.slice a xs.length cap)
  | jk (o k : Nat) (xs : List (G.T k)) (u : Nat) (y : G.U u) (β : Blk) (a : Option Addr) (n cap : Nat) (h : c.os[o]? = some (.usr u y)) (hm : c.m[o]? = some β) (hr : JR P G β.z (.imm k xs) (.slice a n cap)) (ha : 0 < xs.length → ∃ ad, a = some ad) : VR F c (.jk o k xs) (.slice a n cap)
  | jelDead (o k : Nat) (x : G.T k) (off : Nat) (ad : Addr) (h : c.os[o]? = some .dead) : VR F c (.jel o k x off) (.pointer (some ad))
  | jel (o k : Nat) (x : G.T k) (off : Nat) (u : Nat) (y : G.U u) (β : Blk) (ad : Addr) (h : c.os[o]? = some (.usr u y)) (hm : c.m[o]? = some β) (hr : JE P G β.z k x ad) : VR F c (.jel o k x off) (.pointer (some (ad.add off)))
  | zelDead (o k i off : Nat) (ad : Addr) (h : c.os[o]? = some .dead) : VR F c (.zel o k i off) (.pointer (some ad))
  | zel (o k i off u : Nat) (y : G.U u) (β : Blk) (ad : Addr) (n cap : Nat) (h : c.os[o]? = some (.usr u y)) (hm : c.m[o]? = some β) (hr : β.z.rt[0]? = some (.slice (some ad) n cap)) (hi : i < n) : VR F c (.zel o k i off) (.pointer (some (ad.add (i * esz P G k + off))))
  | subDead (o i t : Nat) (v : Value) (h : c.os[o]? = some .dead) (h1 : v.oneCell' = true) (h2 : v.cells = #[v]) : VR F c (.sub o i t) v
  | sub (o i t u : Nat) (y : G.U u) (β : Blk) (v : Value) (h : c.os[o]? = some (.usr u y)) (hm : c.m[o]? = some β) (ht : t ≤ β.z.tok) (hr : β.z.tok = t → β.z.hs[i]? = some v) (h1 : v.oneCell' = true) (h2 : v.cells = #[v]) : VR F c (.sub o i t) v
  | speDead (o k i t j off : Nat) (ad : Addr) (h : c.os[o]? = some .dead) : VR F c (.spe o k i t j off) (.pointer (some ad))
  | spe (o k i t j off u : Nat) (y : G.U u) (β : Blk) (ad : Addr) (h : c.os[o]? = some (.usr u y)) (hm : c.m[o]? = some β) (ht : t ≤ β.z.tok) (hr : β.z.tok = t → ∃ a n cap, β.z.hs[i]? = some (.slice (some a) n cap) ∧ j < n ∧ ad = a.add (j * esz P G k)) : VR F c (.spe o k i t j off) (.pointer (some (ad.add off)))
  | bl (lo hi b : Bool) (h1 : lo = true → b = true) (h2 : b = true → hi = true) : VR F c (.bl lo hi) (.bool b)

/-- a row of cells holds values -/
def Row (F : Nat → Prop) (c : Cf G) (cs : Array Value) (off : Nat) (ds : List (AV G.T)) : Prop :=
  ∀ (j : Nat) (d : AV G.T), ds[j]? = some d → ∃ v, cs[off + j]? = some v ∧ VR P G F c d v

def ObjR (F : Nat → Prop) (c : Cf G) (β : Blk) : AObj G.T G.U → Prop
  | .arr k xs _ => k < G.n ∧ ((β.b = none ∧ β.fp = [] ∧ xs = []) ∨ ∃ b cs, β.b = some b ∧ β.fp = [b] ∧ c.w.heap[b]? = some (.cells cs (G.E k) (0, 0)) ∧ cs.size = β.n ∧
      xs.length * esz P G k ≤ β.n ∧ ∀ (i : Nat) (x : G.T k), xs[i]? = some x → Row P G F c cs (i * esz P G k) (G.op k x))
  | .box t ds => ∃ b cs, β.b = some b ∧ β.fp = [b] ∧ c.w.heap[b]? = some (.cells cs t (0, 0)) ∧ cs.size = ds.length ∧ Row P G F c cs 0 ds
  | .usr u x => G.UR u x c.w β ∧ ∀ w', (∀ b ∈ β.fp, w'.heap[b]? = c.w.heap[b]?) → G.UR u x w' β
  | .dead => True
  | .free => True

/-- blocks of live objects -/
def Lv (c : Cf G) (b : Nat) : Prop := ∃ (o : Nat) (obj : AObj G.T G.U) (β : Blk), c.os[o]? = some obj ∧ c.m[o]? = some β ∧ isLive obj = true ∧ b ∈ β.fp

/-- variables of the program that are read by what is called -/
def GL (c : Cf G) : Prop := ∀ (b : Nat) (p : Value → Prop), G.gl b = some p → (∃ v, c.w.cell? ⟨b, 0, none⟩ = some v ∧ p v) ∧ ¬ Lv G c b

structure OK (F N : Nat → Prop) (c : Cf G) : Prop where
  len : c.m.length = c.os.length
  obj : ∀ (o : Nat) (obj : AObj G.T G.U) (β : Blk), c.os[o]? = some obj → c.m[o]? = some β → ObjR P G F c β obj
  own : ∀ (o : Nat) (obj : AObj G.T G.U) (β : Blk), c.os[o]? = some obj → c.m[o]? = some β → isLive obj = true → ∀ b ∈ β.fp, ¬ F b ∧ b < c.w.heap.size
  wr : ∀ (o : Nat) (obj : AObj G.T G.U) (β : Blk), c.os[o]? = some obj → c.m[o]? = some β → isMut obj = true → ∀ b ∈ β.fp, ¬ N b
  apart : ∀ (o o' : Nat) (obj obj' : AObj G.T G.U) (β β' : Blk), c.os[o]? = some obj → c.os[o']? = some obj' → c.m[o]? = some β → c.m[o']? = some β' → isLive obj = true → isLive obj' = true → o ≠ o' → ∀ b ∈ β.fp, b ∉ β'.fp
  low : ∀ b, F b ∨ N b → b < c.w.heap.size
  gl : GL G c

def Same {T U : Nat → Type} : AObj T U → AObj T U → Prop
  | .arr k xs _, .arr k' ys _ => k = k' ∧ xs.length = ys.length
  | .box _ _, .box _ _ => True
  | .box _ _, .usr _ _ => True
  | .usr _ _, .usr _ _ => True
  | _, _ => False

/-- where an object lies, later: a grown row may have got more blocks, and other headers -/
structure BLe (β β' : Blk) : Prop where
  b : β'.b = β.b
  n : β'.n = β.n
  rt : β'.z.rt = β.z.rt
  lf : β'.z.lf = β.z.lf
  sl : β'.z.sl = β.z.sl
  tok : β.z.tok ≤ β'.z.tok
  hs : β'.z.tok = β.z.tok → β'.z.hs = β.z.hs
theorem BLe.refl (β : Blk) : BLe β β := ⟨rfl, rfl, rfl, rfl, rfl, Nat.le_refl _, fun _ => rfl⟩
theorem BLe.trans {a b c : Blk} (h : BLe a b) (k : BLe b c) : BLe a c := ⟨k.b.trans h.b, k.n.trans h.n, k.rt.trans h.rt, k.lf.trans h.lf, k.sl.trans h.sl, Nat.le_trans h.tok k.tok, fun e => by
  have h1 := h.tok
  have h2 := k.tok
  rw [k.hs (by omega), h.hs (by omega)]⟩
def MLe (x y : Option Blk) : Prop := ∀ β, x = some β → ∃ β', y = some β' ∧ BLe β β'
theorem MLe.of_eq {x y : Option Blk} (h : y = x) : MLe x y := fun β hb => ⟨β, h.trans hb, BLe.refl β⟩
theorem MLe.trans {x y z : Option Blk} (h : MLe x y) (k : MLe y z) : MLe x z := fun β hb => by
  obtain ⟨β1, h1, h2⟩ := h β hb
  obtain ⟨β2, h3, h4⟩ := k β1 h1
  exact ⟨β2, h3, h2.trans h4⟩

def isArr {T U : Nat → Type} : AObj T U → Bool
  | .arr _ _ _ => true
  | _ => false
def isUsr {T U : Nat → Type} : AObj T U → Bool
  | .usr _ _ => true
  | _ => false
/-- a step -/
structure Tr (F : Nat → Prop) (c c' : Cf G) : Prop where
  sys : c'.w.os = c.w.os ∧ c'.w.tape = c.w.tape ∧ c'.w.output = c.w.output
  size : c.w.heap.size ≤ c'.w.heap.size
  keep : ∀ b, b < c.w.heap.size → (∀ (o : Nat) (obj : AObj G.T G.U) (β : Blk), c.os[o]? = some obj → c.m[o]? = some β → isMut obj = true → b ∉ β.fp) → c'.w.heap[b]? = c.w.heap[b]?
  ext : ∀ (o : Nat) (obj : AObj G.T G.U), c.os[o]? = some obj → obj ≠ .free → ∃ obj', c'.os[o]? = some obj' ∧ (obj' = .dead ∨ (Same obj obj' ∧ (c'.m[o]? = c.m[o]? ∨ (isArr obj = false ∧ isUsr obj' = true ∧ MLe c.m[o]? c'.m[o]?))))
  mv : ∀ b, b < c.w.heap.size → Mv G c' b → Mv G c b
  fz : ∀ a : Addr, c.w.frozen? a = false → c'.w.frozen? a = false
  lv : ∀ b, b < c.w.heap.size → Lv G c' b → Lv G c b

variable {P G}
variable {F N : Nat → Prop} {c c' : Cf G}

theorem Tr.extA (t : Tr G F c c') (o : Nat) (obj : AObj G.T G.U) (h : c.os[o]? = some obj) (hf : obj ≠ .free) (hu : isArr obj = true ∨ obj = .dead) : ∃ obj', c'.os[o]? = some obj' ∧ (obj' = .dead ∨ (Same obj obj' ∧ c'.m[o]? = c.m[o]?)) := by
  obtain ⟨o', h1, h2⟩ := t.ext o obj h hf
  refine ⟨o', h1, ?_⟩
  rcases h2 with h2 | ⟨h2, h3 | ⟨h3, _⟩⟩
  · exact .inl h2
  · exact .inr ⟨h2, h3⟩
  · rcases hu with h4 | h4
    · rw [h3] at h4; cases h4
    · subst h4; cases o' <;> simp [Same] at h2
theorem Tr.extM (t : Tr G F c c') (o : Nat) (obj : AObj G.T G.U) (h : c.os[o]? = some obj) (hf : obj ≠ .free) : ∃ obj', c'.os[o]? = some obj' ∧ (obj' = .dead ∨ (Same obj obj' ∧ MLe c.m[o]? c'.m[o]?)) := by
  obtain ⟨o', h1, h2⟩ := t.ext o obj h hf
  refine ⟨o', h1, ?_⟩
  rcases h2 with h2 | ⟨h2, h3 | ⟨_, _, h3⟩⟩
  · exact .inl h2
  · exact .inr ⟨h2, .of_eq h3⟩
  · exact .inr ⟨h2, h3⟩
theorem JR'.same {T : Nat → Type} {n : Nat} {op : (k : Nat) → T k → List (AV T)} {es : Nat → Nat} {z z' : Zn} (h1 : z'.lf = z.lf) (h2 : z'.sl = z.sl) {d : AV T} {v : Value} (h : JR' n op es z d v) : JR' n op es z' d v := by
  induction h with
  | imm k xs a cap f hk hcap hl hs hv ih => exact .imm k xs a cap f hk hcap (by rw [h1]; exact hl) (by rw [h2]; exact hs) ih
theorem JE.same {z z' : Zn} (h1 : z'.lf = z.lf) (h2 : z'.sl = z.sl) {k : Nat} {x : G.T k} {ad : Addr} (h : JE P G z k x ad) : JE P G z' k x ad :=
  ⟨by rw [h1]; exact h.1, fun j k' ys hy => by
    obtain ⟨u, h3, h4⟩ := h.2 j k' ys hy
    exact ⟨u, by rw [h2]; exact h3, JR'.same h1 h2 h4⟩⟩

theorem Tr.av (t : Tr G F c c') : ∀ b, b < c.w.heap.size → Av G F c' b → Av G F c b := fun b hb h => h.imp id (t.mv b hb)

theorem Same.refl_live {T U : Nat → Type} {x : AObj T U} (h : isLive x = true) : Same x x := by cases x <;> simp_all [Same, isLive]

theorem Same.refl_live' {T U : Nat → Type} {x : AObj T U} (h : x ≠ .dead) (hf : x ≠ .free) : Same x x := by cases x <;> simp_all [Same]
theorem Same.nf {T U : Nat → Type} {x y : AObj T U} (h : Same x y) : isLive x = true ∧ isLive y = true := by cases x <;> cases y <;> simp_all [Same, isLive]
theorem live_nf {T U : Nat → Type} {x : AObj T U} (h : isLive x = true) : x ≠ .free := by cases x <;> simp_all [isLive]

theorem cell_block {w w' : World} {a : Addr} {v : Value} (h : w.cell? a = some v) (hb : w'.heap[a.block]? = w.heap[a.block]?) : w'.cell? a = some v := by
  rw [← h]; simp only [World.cell?, hb]

theorem add_block (a : Addr) (n : Nat) : (a.add n).block = a.block := by unfold Addr.add; split <;> rfl
theorem add_add (a : Addr) (x y : Nat) : (a.add x).add y = a.add (x + y) := by
  unfold Addr.add
  by_cases hx : x = 0
  · subst hx; simp
  · by_cases hy : y = 0
    · subst hy; simp
    · simp [hx, hy]; omega
theorem add_zero (a : Addr) : a.add 0 = a := rfl

theorem TR'.mono {T : Nat → Type} {n : Nat} {op : (k : Nat) → T k → List (AV T)} {es : Nat → Nat} {w w' : World} {fp : List Nat} {d : AV T} {v : Value} (h : TR' n op es w fp d v) (hw : ∀ b ∈ fp, w'.heap[b]? = w.heap[b]?) : TR' n op es w' fp d v := by
  induction h with
  | lit v => exact .lit v
  | imm k xs a cap f hk hcap hc hv ih =>
    refine .imm k xs a cap f hk hcap (fun i x hx j d hd => ?_) ih
    obtain ⟨ad, h1, h2, h3⟩ := hc i x hx j d hd
    exact ⟨ad, h1, h2, cell_block h3 (by rw [add_block]; exact hw _ h2)⟩

theorem TR'.vr {w : World} {fp : List Nat} {d : AV G.T} {v : Value} (h : TR P G w fp d v) (hw : ∀ b ∈ fp, c.w.heap[b]? = w.heap[b]?) (ha : ∀ b ∈ fp, ¬ Av G F c b) (ht : ∀ k, G.tight k = false) : VR P G F c d v := by
  induction h with
  | lit v => exact .lit v
  | imm k xs a cap f hk hcap hc hv ih =>
    refine .imm k xs a cap f hk hcap (fun i x hx j d hd => ?_) ih (fun h => by rw [ht k] at h; cases h)
    obtain ⟨ad, h1, h2, h3⟩ := hc i x hx j d hd
    exact ⟨ad, h1, ha _ h2, cell_block h3 (by rw [add_block]; exact hw _ h2)⟩

theorem Tr.cell (t : Tr G F c c') {a : Addr} {v : Value} (hn : ¬ Av G F c a.block) (h : c.w.cell? a = some v) : ¬ Av G F c' a.block ∧ c'.w.cell? a = some v := by
  have hb := World.block_lt_of_cell? c.w a h
  refine ⟨fun hh => hn (t.av _ hb hh), cell_block h (t.keep _ hb fun o obj β h1 h2 h3 h4 => hn (.inr ⟨o, obj, β, h1, h2, h3, h4⟩))⟩

theorem Tr.cellM (t : Tr G F c c') {a : Addr} {v : Value} (hn : ¬ Mv G c a.block) (h : c.w.cell? a = some v) : ¬ Mv G c' a.block ∧ c'.w.cell? a = some v := by
  have hb := World.block_lt_of_cell? c.w a h
  refine ⟨fun hh => hn (t.mv _ hb hh), cell_block h (t.keep _ hb fun o obj β h1 h2 h3 h4 => hn ⟨o, obj, β, h1, h2, h3, h4⟩)⟩

theorem Tr.usr (t : Tr G F c c') {o u : Nat} {x : G.U u} (h : c.os[o]? = some (.usr u x)) : c'.os[o]? = some .dead ∨ ∃ u' x', c'.os[o]? = some (.usr u' x') ∧ MLe c.m[o]? c'.m[o]? := by
  obtain ⟨o', h1, h2⟩ := t.extM _ _ h (by simp)
  rcases h2 with rfl | ⟨h2, h3⟩
  · exact .inl h1
  · cases o' <;> simp [Same] at h2
    exact .inr ⟨_, _, h1, h3⟩
theorem Tr.dead (t : Tr G F c c') {o : Nat} (h : c.os[o]? = some .dead) : c'.os[o]? = some .dead := by
  obtain ⟨o', h1, h2⟩ := t.extM _ _ h (by simp)
  rcases h2 with rfl | ⟨h2, h3⟩
  · exact h1
  · cases o' <;> simp [Same] at h2

theorem GL.step (h : GL G c) (t : Tr G F c c') : GL G c' := fun b p hb => by
  obtain ⟨⟨v, h1, hp⟩, h2⟩ := h b p hb
  have hlt := World.block_lt_of_cell? c.w _ h1
  refine ⟨⟨v, cell_block h1 (t.keep b hlt fun o obj β a1 a2 a3 a4 => h2 ⟨o, obj, β, a1, a2, by cases obj <;> simp_all [isMut, isLive], a4⟩), hp⟩, fun hl => h2 (t.lv b hlt hl)⟩

theorem VR.mono {v : Value} {d : AV G.T} (h : VR P G F c d v) (t : Tr G F c c') : VR P G F c' d v := by
  induction h with
  | lit v => exact .lit v
  | nil0 a ha => exact .nil0 a ha
  | undef v => exact .undef v
  | bl lo hi b h1 h2 => exact .bl lo hi b h1 h2
  | imm k xs a cap f hk hcap hc hv ht ih =>
    refine .imm k xs a cap f hk hcap (fun i x hx j d hd => ?_) ih ht
    obtain ⟨ad, ha, hn, hcell⟩ := hc i x hx j d hd
    have := t.cell (a := ad.add (i * esz P G k + j)) (by rw [add_block]; exact hn) hcell
    rw [add_block] at this
    exact ⟨ad, ha, this.1, this.2⟩
  | pel k x off ad f hk hc hv ih =>
    refine .pel k x off ad f hk (fun j d hd => ?_) ih
    obtain ⟨hn, hcell⟩ := hc j d hd
    have := t.cell (a := ad.add j) (by rw [add_block]; exact hn) hcell
    rw [add_block] at this
    exact this
  | old k xs a cap f hk hcap hc hv ih =>
    refine .old k xs a cap f hk hcap (fun i x hx j d hd => ?_) ih
    obtain ⟨ad, ha, hn, hcell⟩ := hc i x hx j d hd
    have := t.cellM (a := ad.add (i * esz P G k + j)) (by rw [add_block]; exact hn) hcell
    rw [add_block] at this
    exact ⟨ad, ha, this.1, this.2⟩
  | pol k x off ad f hk hc hv ih =>
    refine .pol k x off ad f hk (fun j d hd => ?_) ih
    obtain ⟨hn, hcell⟩ := hc j d hd
    have := t.cellM (a := ad.add j) (by rw [add_block]; exact hn) hcell
    rw [add_block] at this
    exact this
  | refDead o j v h h1 h2 => exact .refDead o j v (t.dead h) h1 h2
  | ref o j u x β v h hm hr h1 h2 =>
    rcases t.usr h with h3 | ⟨u', x', h3, h4⟩
    · exact .refDead o j v h3 h1 h2
    · obtain ⟨β', h5, h6⟩ := h4 β hm
      exact .ref o j u' x' β' v h3 h5 (by rw [h6.rt]; exact hr) h1 h2
  | jkDead o k xs a cap h ha => exact .jkDead o k xs a cap (t.dead h) ha
  | jk o k xs u y β a n cap h hm hr ha =>
    rcases t.usr h with h3 | ⟨u', x', h3, h4⟩
    · cases hr; exact .jkDead o k xs a cap h3 ha
    · obtain ⟨β', h5, h6⟩ := h4 β hm
      exact .jk o k xs u' x' β' a n cap h3 h5 (JR'.same h6.lf h6.sl hr) ha
  | jelDead o k x off ad h => exact .jelDead o k x off ad (t.dead h)
  | jel o k x off u y β ad h hm hr =>
    rcases t.usr h with h3 | ⟨u', x', h3, h4⟩
    · exact .jelDead o k x off _ h3
    · obtain ⟨β', h5, h6⟩ := h4 β hm
      exact .jel o k x off u' x' β' ad h3 h5 (JE.same h6.lf h6.sl hr)
  | zelDead o k i off ad h => exact .zelDead o k i off ad (t.dead h)
  | zel o k i off u y β ad n cap h hm hr hi =>
    rcases t.usr h with h3 | ⟨u', x', h3, h4⟩
    · exact .zelDead o k i off _ h3
    · obtain ⟨β', h5, h6⟩ := h4 β hm
      exact .zel o k i off u' x' β' ad n cap h3 h5 (by rw [h6.rt]; exact hr) hi
  | subDead o i t' v h h1 h2 => exact .subDead o i t' v (t.dead h) h1 h2
  | sub o i t' u y β v h hm ht hr h1 h2 =>
    rcases t.usr h with h3 | ⟨u', x', h3, h4⟩
    · exact .subDead o i t' v h3 h1 h2
    · obtain ⟨β', h5, h6⟩ := h4 β hm
      refine .sub o i t' u' x' β' v h3 h5 (Nat.le_trans ht h6.tok) (fun e => ?_) h1 h2
      have := h6.tok
      rw [h6.hs (by omega)]; exact hr (by omega)
  | speDead o k i t' j off ad h => exact .speDead o k i t' j off ad (t.dead h)
  | spe o k i t' j off u y β ad h hm ht hr =>
    rcases t.usr h with h3 | ⟨u', x', h3, h4⟩
    · exact .speDead o k i t' j off _ h3
    · obtain ⟨β', h5, h6⟩ := h4 β hm
      refine .spe o k i t' j off u' x' β' ad h3 h5 (Nat.le_trans ht h6.tok) (fun e => ?_)
      have := h6.tok
      rw [h6.hs (by omega)]; exact hr (by omega)
  | agg cs vs hn h ih => exact .agg cs vs hn ih
  | tup cs vs hn h ih => exact .tup cs vs hn ih
  | clo f cs vs hn h ih => exact .clo f cs vs hn ih
  | ownDead o a n cap h =>
    obtain ⟨o', h1, h2⟩ := t.extA _ _ h (by simp) (by first | exact .inl rfl | exact .inr rfl)
    rcases h2 with rfl | ⟨h2, _⟩
    · exact .ownDead o _ _ _ h1
    · cases o' <;> simp [Same] at h2
  | preDead o n a n' cap h =>
    obtain ⟨o', h1, h2⟩ := t.extA _ _ h (by simp) (by first | exact .inl rfl | exact .inr rfl)
    rcases h2 with rfl | ⟨h2, _⟩
    · exact .preDead o n _ _ _ h1
    · cases o' <;> simp [Same] at h2
  | ptrDead o n b h =>
    obtain ⟨o', h1, h2⟩ := t.extA _ _ h (by simp) (by first | exact .inl rfl | exact .inr rfl)
    rcases h2 with rfl | ⟨h2, _⟩
    · exact .ptrDead o n b h1
    · cases o' <;> simp [Same] at h2
  | nspNil o off => exact .nspNil o off
  | nspDead o off b h =>
    obtain ⟨o', h1, h2⟩ := t.extA _ _ h (by simp) (by first | exact .inl rfl | exact .inr rfl)
    rcases h2 with rfl | ⟨h2, _⟩
    · exact .nspDead o off b h1
    · cases o' <;> simp [Same] at h2
  | nsp o off obj β b h hl hm hb =>
    obtain ⟨o', h1, h2⟩ := t.extM _ _ h (live_nf hl)
    rcases h2 with rfl | ⟨h2, h3⟩
    · exact .nspDead o off _ h1
    · obtain ⟨β', h5, h6⟩ := h3 β hm
      exact .nsp o off o' β' b h1 h2.nf.2 h5 (h6.b.trans hb)
  | elemDead o i n b x h =>
    obtain ⟨o', h1, h2⟩ := t.extA _ _ h (by simp) (by first | exact .inl rfl | exact .inr rfl)
    rcases h2 with rfl | ⟨h2, _⟩
    · exact .elemDead o i n b x h1
    · cases o' <;> simp [Same] at h2
  | ownNil o k wr β a h hm hb ha =>
    obtain ⟨o', h1, h2⟩ := t.extA _ _ h (by simp) (by first | exact .inl rfl | exact .inr rfl)
    rcases h2 with rfl | ⟨h2, h3⟩
    · exact .ownDead o _ _ _ h1
    · cases o' <;> simp [Same] at h2
      rename_i k' ys wr'
      obtain ⟨rfl, h2⟩ := h2
      cases ys with
      | nil => exact .ownNil o k wr' β a h1 (h3.trans hm) hb ha
      | cons y ys => simp at h2
  | own o k xs wr β b cap h hm hb hcap hn ht =>
    obtain ⟨o', h1, h2⟩ := t.extA _ _ h (by simp) (by first | exact .inl rfl | exact .inr rfl)
    rcases h2 with rfl | ⟨h2, h3⟩
    · exact .ownDead o _ _ _ h1
    · cases o' <;> simp [Same] at h2
      rename_i k' ys wr'
      obtain ⟨rfl, h2⟩ := h2
      rw [h2]
      exact .own o k ys wr' β b cap h1 (h3.trans hm) hb (by omega) hn (fun h g => ht h (by omega))
  | preNil o n k wr β a h hm hb ha =>
    obtain ⟨o', h1, h2⟩ := t.extA _ _ h (by simp) (by first | exact .inl rfl | exact .inr rfl)
    rcases h2 with rfl | ⟨h2, h3⟩
    · exact .preDead o n _ _ _ h1
    · cases o' <;> simp [Same] at h2
      rename_i k' ys wr'
      obtain ⟨rfl, h2⟩ := h2
      cases ys with
      | nil => exact .preNil o n k wr' β a h1 (h3.trans hm) hb ha
      | cons y ys => simp at h2
  | pre o n k xs wr β b cap h hm hb hle hcap hn =>
    obtain ⟨o', h1, h2⟩ := t.extA _ _ h (by simp) (by first | exact .inl rfl | exact .inr rfl)
    rcases h2 with rfl | ⟨h2, h3⟩
    · exact .preDead o n _ _ _ h1
    · cases o' <;> simp [Same] at h2
      rename_i k' ys wr'
      obtain ⟨rfl, h2⟩ := h2
      exact .pre o n k ys wr' β b cap h1 (h3.trans hm) hb (by omega) hcap hn
  | sufDead o i a n' cap h =>
    obtain ⟨o', h1, h2⟩ := t.extA _ _ h (by simp) (by first | exact .inl rfl | exact .inr rfl)
    rcases h2 with rfl | ⟨h2, _⟩
    · exact .sufDead o i _ _ _ h1
    · cases o' <;> simp [Same] at h2
  | sufEnd o i k xs wr a cap h hi =>
    obtain ⟨o', h1, h2⟩ := t.extA _ _ h (by simp) (by first | exact .inl rfl | exact .inr rfl)
    rcases h2 with rfl | ⟨h2, h3⟩
    · exact .sufDead o i _ _ _ h1
    · cases o' <;> simp [Same] at h2
      rename_i k' ys wr'
      obtain ⟨rfl, h2⟩ := h2
      exact .sufEnd o i k ys wr' a cap h1 (by omega)
  | suf o i k xs wr β b cap h hm hb hle =>
    obtain ⟨o', h1, h2⟩ := t.extA _ _ h (by simp) (by first | exact .inl rfl | exact .inr rfl)
    rcases h2 with rfl | ⟨h2, h3⟩
    · exact .sufDead o i _ _ _ h1
    · cases o' <;> simp [Same] at h2
      rename_i k' ys wr'
      obtain ⟨rfl, h2⟩ := h2
      rw [h2]
      exact .suf o i k ys wr' β b cap h1 (h3.trans hm) hb (by omega)
  | ptr o off obj β b h hl hm hb =>
    obtain ⟨o', h1, h2⟩ := t.extM _ _ h (live_nf hl)
    rcases h2 with rfl | ⟨h2, h3⟩
    · exact .ptrDead o off _ h1
    · obtain ⟨β', h5, h6⟩ := h3 β hm
      exact .ptr o off o' β' b h1 h2.nf.2 h5 (h6.b.trans hb)
  | elem o i off k xs wr β b h hm hb hi =>
    obtain ⟨o', h1, h2⟩ := t.extA _ _ h (by simp) (by first | exact .inl rfl | exact .inr rfl)
    rcases h2 with rfl | ⟨h2, h3⟩
    · exact .elemDead o i off _ _ h1
    · cases o' <;> simp [Same] at h2
      rename_i k' ys wr'
      obtain ⟨rfl, h2⟩ := h2
      exact .elem o i off k ys wr' β b h1 (h3.trans hm) hb (by omega)

theorem Row.mono {cs : Array Value} {off : Nat} {ds : List (AV G.T)} (h : Row P G F c cs off ds) (t : Tr G F c c') : Row P G F c' cs off ds := fun j d hd => by
  obtain ⟨v, hv, hr⟩ := h j d hd
  exact ⟨v, hv, hr.mono t⟩

theorem Tr.refl (F : Nat → Prop) (c : Cf G) : Tr G F c c where
  sys := ⟨rfl, rfl, rfl⟩
  size := Nat.le_refl _
  keep := fun _ _ _ => rfl
  ext := fun o obj ho hf => ⟨obj, ho, by cases obj <;> simp_all [Same]⟩
  mv := fun _ _ h => h
  fz := fun _ h => h
  lv := fun _ _ h => h

end
end Go.Proofs.Ytjfmfpnnjgfffaa.Am
