/- The abstract machine: definitions. -/
import GoSem.Step
import Derived.Calls
import Derived.KernelRfl
namespace Go.Proofs.Ytjfmfpnnjgfffaa.Am
open Go
set_option autoImplicit false
set_option linter.unusedVariables false

inductive AV (T : Nat → Type) : Type where
  | lit (v : Value)
  | nil0
  | imm (k : Nat) (xs : List (T k))
  | own (o : Nat)
  | pre (o : Nat) (n : Nat)
  | suf (o : Nat) (i : Nat)
  | ptr (o off : Nat)
  | nsp (o off : Nat)
  | elem (o : Nat) (i : Nat) (off : Nat)
  | pel (k : Nat) (x : T k) (off : Nat)
  | agg (cs : List (AV T))
  | tup (vs : List (AV T))
  | clo (f : FuncId) (caps : List (AV T))
  | undef
  | bl (lo hi : Bool)
  | old (k : Nat) (xs : List (T k))
  | pol (k : Nat) (x : T k) (off : Nat)
  | ref (o j : Nat)
  | jk (o : Nat) (k : Nat) (xs : List (T k))
  | jel (o : Nat) (k : Nat) (x : T k) (off : Nat)
  | zel (o k : Nat) (i : Nat) (off : Nat)
  | sub (o : Nat) (i t : Nat)
  | spe (o k : Nat) (i t j off : Nat)

inductive AObj (T U : Nat → Type) : Type where
  | arr (k : Nat) (xs : List (T k)) (wr : Bool)
  | box (t : TypeId) (cells : List (AV T))
  | usr (u : Nat) (x : U u)
  | dead
  | free

/-- of a zone: its roots; cells that may be written; cells that hold rows -/
structure Zn where
  rt : List Value := []
  lf : Addr → Prop := fun _ => False
  sl : Addr → Value → Prop := fun _ _ => False
  tok : Nat := 0
  hs : List Value := []

/-- where an object lies: its block (none: nowhere yet), how many cells it has, the blocks that are its own -/
structure Blk where
  b : Option Nat
  n : Nat
  fp : List Nat
  z : Zn := {}

/-- how cells of a new variable begin -/
inductive Ini where
  | keep
  | nsp (off : Nat)
  | own (k : Nat)

/-- a row whose cells own rows: kind of its elements, kind of theirs, how often it was changed, the rows, the cell whose row is out -/
structure Grw (T : Nat → Type) where
  K : Nat
  k : Nat
  tok : Nat
  xs : List (List (T k))
  hl : Option Nat

/-- a row of maps from texts to numbers: how often it was changed, the maps (none: nil) -/
structure Mrw where
  tok : Nat
  xs : List (Option (List (ByteArray × Int)))
def mget (s : ByteArray) : List (ByteArray × Int) → Option Int
  | [] => none
  | p :: l => match s == p.1 with | true => some p.2 | false => mget s l
def mset (s : ByteArray) (v : Int) : List (ByteArray × Int) → List (ByteArray × Int)
  | [] => [(s, v)]
  | p :: l => match s == p.1 with | true => (s, v) :: l | false => p :: mset s v l

structure Sig where
  n : Nat
  T : Nat → Type
  U : Nat → Type
  E : Nat → TypeId
  kd : TypeId → Option Nat
  op : (k : Nat) → T k → List (AV T)
  cl : (k : Nat) → List (AV T) → Option (T k)
  df : (k : Nat) → T k
  mode : FuncId → List Bool
  fn : FuncId → Bool
  UR : (u : Nat) → U u → World → Blk → Prop
  u8 : Nat → Bool
  mku : TypeId → Option ((u : Nat) × U u)
  ini : TypeId → List Ini
  flat : Nat → Bool
  suf : TypeId → Bool := fun _ => false
  gl : Nat → Option (Value → Prop) := fun _ => none
  strict : Bool := false
  rt : (u : Nat) → U u → List (AV T) := fun _ _ => []
  zn : FuncId → Bool := fun _ => false
  mkz : List (AV T) → Option ((u : Nat) × U u) := fun _ => none
  jn : FuncId → Bool := fun _ => false
  jnk : (u : Nat) → U u → Option ((u' : Nat) × U u') := fun _ _ => none
  gr : (u : Nat) → U u → Option (Grw T) := fun _ _ => none
  grm : Grw T → Option ((u : Nat) × U u) := fun _ => none
  mkg : TypeId → Option (Nat × Nat) := fun _ => none
  tight : Nat → Bool := fun _ => false
  lo : Nat → Bool := fun _ => false
  mr : (u : Nat) → U u → Option Mrw := fun _ _ => none
  mrm : Mrw → Option ((u : Nat) × U u) := fun _ => none
  mf : (u : Nat) → U u → Option (List (ByteArray × Int)) := fun _ _ => none
  mfm : List (ByteArray × Int) → Option ((u : Nat) × U u) := fun _ => none
  mkm : TypeId → Bool := fun _ => false
  mpt : TypeId → Bool := fun _ => false
  k1 : Nat := 0

inductive Rd (T U : Nat → Type) (α : Type) : Type where
  | pure (a : α)
  | look (o : Nat) (k : AObj T U → Rd T U α)
  | test (b : Bool) (k : Rd T U α)
  | call (f : FuncId) (args : List (AV T)) (objs : List (AObj T U)) (k : AV T → List (AObj T U) → Rd T U α)
  | fail

namespace Rd
variable {T U : Nat → Type}
def bind {α β : Type} : Rd T U α → (α → Rd T U β) → Rd T U β
  | .pure a, f => f a
  | .look o k, f => .look o fun x => (k x).bind f
  | .test b k, f => .test b (k.bind f)
  | .call g args objs k, f => .call g args objs fun r os => (k r os).bind f
  | .fail, _ => .fail
def ofOpt {α : Type} : Option α → Rd T U α
  | some a => .pure a
  | none => .fail
def guard (b : Bool) : Rd T U Unit := .test b (.pure ())
def mapL {α β : Type} (f : α → Rd T U β) : List α → Rd T U (List β)
  | [] => .pure []
  | a :: l => (f a).bind fun b => (mapL f l).bind fun bs => .pure (b :: bs)
end Rd

structure OpRes (T U : Nat → Type) where
  d : AV T
  upd : List (Nat × AObj T U)
  new : List (AObj T U)

section
variable (P : Program) (G : Sig)
abbrev RdG (α : Type) := Rd G.T G.U α
abbrev V := AV G.T

def castL {T : Nat → Type} (k' k : Nat) (xs : List (T k')) : Option (List (T k)) := if h : k' = k then some (h ▸ xs) else none
def castE {T : Nat → Type} (k' k : Nat) (x : T k') : Option (T k) := if h : k' = k then some (h ▸ x) else none

def aggT (t : TypeId) : Bool := match P.underlying t with | some (.struct _) => true | some (.array _ _) => true | _ => false
def szT (t : TypeId) : Nat := match P.info? t with | some i => i.size | none => 0

def lit1 {T : Nat → Type} : Value → AV T
  | .slice none 0 0 => .nil0
  | .agg _ => .undef
  | .tuple _ => .undef
  | v => .lit v
def litOf {T : Nat → Type} : Value → AV T
  | .agg cs => .agg (cs.toList.map lit1)
  | v => lit1 v

def zeroT (t : TypeId) : Option (AV G.T) := match P.info? t with | some i => i.zero.map litOf | none => none

/-- may it stand in one cell? -/
def isCell {T : Nat → Type} : AV T → Bool
  | .lit (.agg _) => false
  | .lit (.tuple _) => false
  | .agg _ => false
  | .tup _ => false
  | .undef => false
  | _ => true
def allCell {T : Nat → Type} : List (AV T) → Bool
  | [] => true
  | v :: l => match isCell v with | true => allCell l | false => false
def flatC {T : Nat → Type} : AV T → Option (List (AV T))
  | .agg cs => match allCell cs with | true => some cs | false => none
  | v => match isCell v with | true => some [v] | false => none

/-- a part of cells, as a value of type t -/
def partOf (t : TypeId) (cs : List (V G)) (off : Nat) : RdG G (V G) :=
  match P.underlying t with
  | none => .fail
  | some _ =>
  if aggT P t then (if off + szT P t ≤ cs.length then .pure (.agg ((cs.drop off).take (szT P t))) else .fail)
  else match cs[off]? with | some v => .pure v | none => .fail

def splice {α : Type} (cs : List α) (off : Nat) (vs : List α) : List α := cs.take off ++ vs ++ cs.drop (off + vs.length)

/-- contents of a slice value, of kind k -/
def content (k : Nat) : V G → RdG G (List (G.T k))
  | .nil0 => .pure []
  | .imm k' xs => .ofOpt (castL k' k xs)
  | .old k' xs => if G.flat k' = true then .ofOpt (castL k' k xs) else .fail
  | .sub o i t => .look o fun | .usr u y => (match G.gr u y with | some g => (match g.hl with | none => .test (decide (g.tok = t)) (.ofOpt (castL g.k k (g.xs.getD i []))) | some _ => .fail) | none => .fail) | _ => .fail
  | .own o => .look o fun | .arr k' xs _ => .ofOpt (castL k' k xs) | _ => .fail
  | .pre o n => .look o fun | .arr k' xs _ => .ofOpt ((castL k' k xs).map (·.take n)) | _ => .fail
  | _ => .fail

/-- a row that is read alone -/
def old1 {T : Nat → Type} : AV T → AV T
  | .imm k xs => .old k xs
  | v => v
def oldV {T : Nat → Type} : AV T → AV T
  | .agg cs => .agg (cs.map old1)
  | v => old1 v

/-- own slices inside a value become plain lists (the rows are frozen) -/
def fz1 : V G → RdG G (V G × List (Nat × AObj G.T G.U))
  | .own o => .look o fun | .arr k xs _ => .pure (.imm k xs, [(o, .arr k xs false)]) | _ => .fail
  | .pre o n => .look o fun | .arr k xs _ => (match G.tight k with | true => .fail | false => .pure (.imm k (xs.take n), [(o, .arr k xs false)])) | _ => .fail
  | .ref o j => .look o fun | .usr u x => (match (G.rt u x)[j]? with | some d => .pure (d, [(o, .dead)]) | none => .fail) | _ => .fail
  | v => .pure (v, [])
def fzL : List (V G) → RdG G (List (V G) × List (Nat × AObj G.T G.U))
  | [] => .pure ([], [])
  | v :: l => (fz1 G v).bind fun p => (fzL l).bind fun q => .pure (p.1 :: q.1, p.2 ++ q.2)

def ret (d : V G) : RdG G (OpRes G.T G.U) := .pure ⟨d, [], []⟩

def vInt : V G → RdG G Int
  | .lit (.int _ n) => .pure n
  | _ => .fail

/-- fields of a struct all of which are numbers, strings or bools -/
def eqFields (t : TypeId) : Option (List (Nat × TypeId)) :=
  match P.underlying t with
  | some (.struct fs) =>
    if P.stoodInHeld t then none else if P.eqGuardType P.depth t then none else
    if fs.toList.all fun f => f.name != "_" && match P.underlying f.type with | some (.int _) => true | some .string => true | some .bool => true | _ => false
    then some (fs.toList.map fun f => (f.offset, f.type)) else none
  | _ => none

def eqTerm (t : TypeId) (x y : V G) : RdG G Bool :=
  match P.underlying t with
  | some (.int _) => (match x, y with | .lit (.int k a), .lit (.int k' b) => if k = k' then .pure (a == b) else .fail | _, _ => .fail)
  | some .string => (match x, y with | .lit (.string a), .lit (.string b) => .pure (a == b) | _, _ => .fail)
  | some .bool => (match x, y with | .lit (.bool a), .lit (.bool b) => .pure (a == b) | _, _ => .fail)
  | _ => .fail
def eqCells (cs ds : List (V G)) : List (Nat × TypeId) → RdG G Bool
  | [] => .pure true
  | (off, t) :: l => match cs[off]?, ds[off]? with
    | some a, some b => (eqTerm P G t a b).bind fun x => match l with
      | [] => .pure x
      | _ => (eqCells cs ds l).bind fun y => .pure (x && y)
    | _, _ => .fail

def maxSz : Nat := 68719476736

def binV (op : BinOp) (xT : TypeId) : V G → V G → RdG G (V G)
  | .lit (.int k a), .lit (.int k' b) =>
    match op with
    | .shl => .test (decide (0 ≤ b)) (.pure (.lit (.int k (k.wrap (a * 2 ^ (min b.toNat k.bits))))))
    | .shr => .test (decide (0 ≤ b)) (.pure (.lit (.int k (a.fdiv (2 ^ (min b.toNat k.bits))))))
    | _ =>
    if k = k' then match op with
      | .add => .pure (.lit (.int k (k.wrap (a + b))))
      | .sub => .pure (.lit (.int k (k.wrap (a - b))))
      | .mul => .pure (.lit (.int k (k.wrap (a * b))))
      | .quo => .test (!decide (b = 0)) (.pure (.lit (.int k (k.wrap (a.tdiv b)))))
      | .rem => .test (!decide (b = 0)) (.pure (.lit (.int k (a.tmod b))))
      | .and => .pure (.lit (.int k (k.wrap (BitVec.ofInt k.bits a &&& BitVec.ofInt k.bits b).toNat)))
      | .or => .pure (.lit (.int k (k.wrap (BitVec.ofInt k.bits a ||| BitVec.ofInt k.bits b).toNat)))
      | .xor => .pure (.lit (.int k (k.wrap (BitVec.ofInt k.bits a ^^^ BitVec.ofInt k.bits b).toNat)))
      | .eql => .pure (.lit (.bool (a == b)))
      | .neq => .pure (.lit (.bool (a != b)))
      | .lss => .pure (.lit (.bool (decide (a < b))))
      | .leq => .pure (.lit (.bool (decide (a ≤ b))))
      | .gtr => .pure (.lit (.bool (decide (a > b))))
      | .geq => .pure (.lit (.bool (decide (a ≥ b))))
      | _ => .fail
    else .fail
  | .lit (.string a), .lit (.string b) =>
    match op with
    | .add => .test (decide (a.size + b.size ≤ maxSz)) (.pure (.lit (.string (a ++ b))))
    | .eql => .pure (.lit (.bool (a.toList == b.toList)))
    | .neq => .pure (.lit (.bool (!(a.toList == b.toList))))
    | .lss => .pure (.lit (.bool (Op.bytesLess a.toList b.toList)))
    | _ => .fail
  | .lit (.bool a), .lit (.bool b) =>
    match P.underlying xT with
    | some .bool => (match op with
      | .eql => .pure (.lit (.bool (a == b)))
      | .neq => .pure (.lit (.bool (!(a == b))))
      | _ => .fail)
    | _ => .fail
  | .agg cs, .agg ds =>
    match eqFields P xT with
    | some fs => (match op with
      | .eql => (eqCells P G cs ds fs).bind fun b => .pure (.lit (.bool b))
      | .neq => (eqCells P G cs ds fs).bind fun b => .pure (.lit (.bool (!b)))
      | _ => .fail)
    | none => .fail
  | _, _ => .fail

/-- the test whether a slice is nil -/
def nilTest : BinOp → Operand → Option Bool
  | .eql, .const (.slice none _ _) => some true
  | .neq, .const (.slice none _ _) => some false
  | _, _ => none
def blOf (eq em : Bool) : V G := match eq with | true => .bl false em | false => .bl (!em) true
def eqNilV (eq : Bool) (t : TypeId) (x : V G) : RdG G (V G) :=
  match P.underlying t with
  | some (.slice _) => (match x with
    | .nil0 => .pure (blOf G eq true)
    | .imm k xs => .pure (blOf G eq (decide (xs.length ≤ 0)))
    | .old k xs => .pure (blOf G eq (decide (xs.length ≤ 0)))
    | .own o => .look o fun | .arr k xs _ => .pure (blOf G eq (decide (xs.length ≤ 0))) | _ => .fail
    | _ => .fail)
  | _ => .fail

def unV (op : UnOp) : V G → RdG G (V G)
  | .lit (.int k n) => match op with | .neg => .pure (.lit (.int k (k.wrap (0 - n)))) | _ => .fail
  | .lit (.bool b) => match op with | .not => .pure (.lit (.bool !b)) | _ => .fail
  | _ => .fail

def bytesOfInts (xs : List Int) : ByteArray := ⟨(xs.map fun n => UInt8.ofNat n.toNat).toArray⟩
def intsOfBytes (s : ByteArray) : List Int := s.data.toList.map fun b => (b.toNat : Int)


def strOf (b : ByteArray) (i : Nat) : Int := if h : i < b.size then ((b[i]'h).toNat : Int) else 0

/-- len -/
def lenV (t : TypeId) : V G → RdG G (V G)
  | .lit (.string s) => match P.underlying t with | some .string => .pure (.lit (.int .i64 (s.size : Int))) | _ => .fail
  | .nil0 => match P.underlying t with | some (.slice _) => .pure (.lit (.int .i64 (0 : Nat))) | _ => .fail
  | .imm _ xs => match P.underlying t with | some (.slice _) => .pure (.lit (.int .i64 (xs.length : Int))) | _ => .fail
  | .old _ xs => match P.underlying t with | some (.slice _) => .pure (.lit (.int .i64 (xs.length : Int))) | _ => .fail
  | .jk _ _ xs => match P.underlying t with | some (.slice _) => .pure (.lit (.int .i64 (xs.length : Int))) | _ => .fail
  | .own o => match P.underlying t with | some (.slice _) => (.look o fun | .arr _ xs _ => .pure (.lit (.int .i64 (xs.length : Int))) | _ => .fail) | _ => .fail
  | .pre o n => match P.underlying t with | some (.slice _) => (.look o fun | .arr _ xs _ => .pure (.lit (.int .i64 (min n xs.length : Nat))) | _ => .fail) | _ => .fail
  | .sub o i t' => match P.underlying t with | some (.slice _) => (.look o fun | .usr u y => (match G.gr u y with | some g => (match g.hl with | none => .test (decide (g.tok = t')) (.pure (.lit (.int .i64 ((g.xs.getD i []).length : Int)))) | some _ => .fail) | none => .fail) | _ => .fail) | _ => .fail
  | .ref o j => match P.underlying t with | some (.slice _) => (.look o fun | .usr u x => (match (G.rt u x)[j]? with | some (.imm _ xs) => .pure (.lit (.int .i64 (xs.length : Int))) | _ => .fail) | _ => .fail) | _ => .fail
  | _ => .fail

/-- a row that is nowhere -/
def nil1 : V G → RdG G (V G)
  | .imm k xs => (match G.tight k with | true => .test (decide (xs.length ≤ 0)) (.pure .nil0) | false => .pure (.imm k xs))
  | v => .pure v
def loadV (t : TypeId) : V G → RdG G (V G)
  | .ptr o off => .look o fun | .box _ cs => partOf P G t cs off | _ => .fail
  | .elem o i off => .look o fun | .arr k xs _ => (match G.lo k with | true => (Rd.mapL (nil1 G) (G.op k (xs.getD i (G.df k)))).bind fun cs => partOf P G t cs off | false => partOf P G t (G.op k (xs.getD i (G.df k))) off) | _ => .fail
  | .pel k x off => partOf P G t (G.op k x) off
  | .pol k x off => partOf P G t ((G.op k x).map old1) off
  | .zel o k i off => .look o fun | .usr u y => (match G.mr u y with | some g => if k = G.k1 ∧ off = 0 then (match P.underlying t with | none => .fail | some _ => (match aggT P t with | true => .fail | false => .pure (.sub o i g.tok))) else .fail | none => match G.gr u y with | some g => (match g.hl with | none => if g.K = k ∧ off = 0 then (match P.underlying t with | none => .fail | some _ => (match aggT P t with | true => .fail | false => .pure (.sub o i g.tok))) else .fail | some _ => .fail) | none => match G.rt u y with | [.imm k' xs] => if k' = k ∧ G.flat k' = true then partOf P G t (G.op k' (xs.getD i (G.df k'))) off else .fail | _ => .fail) | _ => .fail
  | .spe o k i tk j off => .look o fun | .usr u y => (match G.gr u y with | some g => (match g.hl with | none => if g.k = k then .test (decide (g.tok = tk)) (partOf P G t (G.op g.k ((g.xs.getD i []).getD j (G.df g.k))) off) else .fail | some _ => .fail) | none => .fail) | _ => .fail
  | .jel o k x off => match P.underlying t with
    | none => .fail
    | some _ => match aggT P t with
      | true => .fail
      | false => match (G.op k x)[off]? with
        | some (.imm k' ys) => .look o fun
          | .usr u y => (match G.jnk u y with | some _ => .pure (.jk o k' ys) | none => .fail)
          | _ => .fail
        | _ => .fail
  | _ => .fail

def storeV (t : TypeId) (a v : V G) : RdG G (OpRes G.T G.U) :=
  match P.info? t with
  | none => .fail
  | some _ =>
  match flatC v with
  | none => .fail
  | some vs =>
  if vs.length = szT P t then
  match a with
  | .ptr o off => .look o fun
    | .box bt cs => if off + vs.length ≤ cs.length then .pure ⟨.undef, [(o, .box bt (splice cs off vs))], []⟩ else .fail
    | _ => .fail
  | .elem o i off => .look o fun
    | .arr k xs true => if off + vs.length ≤ szT P (G.E k) then (fzL G vs).bind fun q => if q.2.all (fun p => Nat.beq p.1 o == false) then (Rd.ofOpt (G.cl k (splice (G.op k (xs.getD i (G.df k))) off q.1))).bind fun x' =>
        .pure ⟨.undef, q.2 ++ [(o, .arr k (xs.set i x') true)], []⟩ else .fail else .fail
    | _ => .fail
  | .zel o k i off => if vs.length = 1 then .look o (fun
    | .usr u y => (match G.mr u y with
      | some g => if k = G.k1 ∧ off = 0 then (match v with
        | .ref p j => (match j, Nat.beq p o with
          | 0, false => .look p fun
            | .usr u2 y2 => (match G.mf u2 y2 with
              | some es => (match G.mrm ⟨g.tok + 1, g.xs.set i (some es)⟩ with
                | some q => .pure ⟨.undef, [(p, .dead), (o, .usr q.1 q.2)], []⟩
                | none => .fail)
              | none => .fail)
            | _ => .fail
          | _, _ => .fail)
        | .lit (.map none) => (match G.mrm ⟨g.tok + 1, g.xs.set i none⟩ with
          | some q => .pure ⟨.undef, [(o, .usr q.1 q.2)], []⟩
          | none => .fail)
        | _ => .fail) else .fail
      | none => match G.gr u y with
      | some g => (match g.hl, v with
        | some i', .own p => if g.K = k ∧ off = 0 then .test (decide (i' = i)) (.look p fun
          | .arr k' ys true => (Rd.ofOpt (castL k' g.k ys)).bind fun ys => (match G.grm { g with tok := g.tok + 1, hl := none, xs := g.xs.set i ys } with
            | some q => .pure ⟨.undef, [(p, .dead), (o, .usr q.1 q.2)], []⟩
            | none => .fail)
          | _ => .fail) else .fail
        | none, .nil0 => if g.K = k ∧ off = 0 then (match G.grm { g with tok := g.tok + 1, xs := g.xs.set i [] } with
            | some q => .pure ⟨.undef, [(o, .usr q.1 q.2)], []⟩
            | none => .fail) else .fail
        | _, _ => .fail)
      | none => (match G.rt u y with
      | [.imm k' xs] => if k' = k ∧ G.flat k' = true then (Rd.ofOpt (G.cl k' (splice (G.op k' (xs.getD i (G.df k'))) off vs))).bind fun x' => (match G.mkz [.imm k' (xs.set i x')] with
        | some q => .pure ⟨.undef, [(o, .usr q.1 q.2)], []⟩
        | none => .fail) else .fail
      | _ => .fail))
    | _ => .fail) else .fail
  | .jel o k x off => if vs.length = 1 then (match (G.op k x)[off]? with
    | some (.lit _) => .look o fun
      | .usr u y => (match G.jnk u y with | some q => .pure ⟨.undef, [(o, .usr q.1 q.2)], []⟩ | none => .fail)
      | _ => .fail
    | _ => .fail) else .fail
  | _ => .fail
  else .fail

def elemT (t : TypeId) : Option TypeId := match P.underlying t with | some (.slice e) => some e | _ => none
def kindOfSlice (t : TypeId) : Option Nat := (elemT P t).bind G.kd

def okSrc (tx : TypeId) : Bool := match P.underlying tx with | some (.slice _) => true | some .string => true | _ => false

/-- a byte, as an element -/
def ofByte (k : Nat) (n : Int) : G.T k := match G.cl k [.lit (.int .u8 n)] with | some x => x | none => G.df k
/-- what is appended -/
def srcOf (k : Nat) : V G → RdG G (List (G.T k))
  | .lit (.string s) => if G.u8 k = true then .pure ((intsOfBytes s).map (ofByte G k)) else .fail
  | v => content G k v

/-- so many zero elements, onto nil -/
def appendZ (nb : Nat) (t tx : TypeId) (s x : V G) : RdG G (OpRes G.T G.U) :=
  match P.underlying tx, s, x with
  | some (.int _), .nil0, .lit (.int _ m) => (Rd.ofOpt (kindOfSlice P G t)).bind fun k => .test (decide (0 < m)) (.test (decide (m ≤ (maxSz : Nat))) (.pure ⟨.own nb, [], [.arr k (List.replicate m.toNat (G.df k)) true]⟩))
  | _, _, _ => .fail

def noSub {T : Nat → Type} : AV T → Bool
  | .sub _ _ _ => false
  | _ => true
def appendV (nb : Nat) (t tx : TypeId) (s x : V G) : RdG G (OpRes G.T G.U) :=
  if okSrc P tx then
  (Rd.ofOpt (kindOfSlice P G t)).bind fun k =>
  (srcOf G k x).bind fun ys =>
  (match s with
  | .nil0 => .test (decide (ys.length ≤ maxSz)) (.pure ⟨.own nb, [], [.arr k ys true]⟩)
  | .own o => .look o fun
    | .arr k' xs true => (Rd.ofOpt (castL k' k xs)).bind fun xs => .test (decide (xs.length + ys.length ≤ maxSz)) (.pure ⟨.own nb, [(o, .dead)], [.arr k (xs ++ ys) true]⟩)
    | _ => .fail
  | .pre o n => .look o fun
    | .arr k' xs true => (Rd.ofOpt (castL k' k xs)).bind fun xs => .test (!G.tight k) <| .test (decide ((xs.take n).length + ys.length ≤ maxSz)) (.pure ⟨.own nb, [(o, .dead)], [.arr k (xs.take n ++ ys) true]⟩)
    | _ => .fail
  | .sub o i tk => .look o fun
    | .usr u y => (match G.gr u y with
      | some g => (match g.hl, noSub x with
        | none, true => .test (decide (g.tok = tk)) ((Rd.ofOpt (castL g.k k (g.xs.getD i []))).bind fun xs => (match G.grm { g with tok := g.tok + 1, hl := some i } with
          | some q => .test (decide (xs.length + ys.length ≤ maxSz)) (.pure ⟨.own (nb + 1), [(o, .usr q.1 q.2)], [.dead, .arr k (xs ++ ys) true]⟩)
          | none => .fail))
        | _, _ => .fail)
      | none => .fail)
    | _ => .fail
  | _ => .fail)
  else appendZ P G nb t tx s x

/-- clear, of the end of a row -/
def clearV (t : TypeId) : V G → RdG G (OpRes G.T G.U)
  | .suf o i => (Rd.ofOpt (kindOfSlice P G t)).bind fun k0 => .look o fun
    | .arr k xs true => if k = k0 then .pure ⟨.undef, [(o, .arr k (xs.take i ++ List.replicate (xs.length - i) (G.df k)) true)], []⟩ else .fail
    | _ => .fail
  | _ => .fail

/-- cap, of what is nowhere -/
def capV (t : TypeId) : V G → RdG G (V G)
  | .nil0 => match P.underlying t with | some (.slice _) => .pure (.lit (.int .i64 (0 : Nat))) | _ => .fail
  | _ => .fail

def makeV (nb : Nat) (t : TypeId) (l c : V G) : RdG G (OpRes G.T G.U) :=
  (Rd.ofOpt (kindOfSlice P G t)).bind fun k => (vInt G l).bind fun l => (vInt G c).bind fun c =>
  .test (decide (0 ≤ l)) (.test (decide (l ≤ c)) (.test (decide (c ≤ (maxSz : Nat))) (match G.mkg t with
    | none => (match G.tight k with
      | true => .test (decide (l = c)) (.pure ⟨.own nb, [], [.arr k (List.replicate l.toNat (G.df k)) true]⟩)
      | false => .pure ⟨.own nb, [], [.arr k (List.replicate l.toNat (G.df k)) true]⟩)
    | some e => (match G.grm ⟨e.1, e.2, 0, List.replicate l.toNat [], none⟩ with
      | some q => .pure ⟨.ref nb 0, [], [.usr q.1 q.2]⟩
      | none => .fail))))

/-- nil maps -/
def makeM (nb : Nat) (l c : V G) : RdG G (OpRes G.T G.U) :=
  (vInt G l).bind fun l => (vInt G c).bind fun c =>
  .test (decide (0 ≤ l)) (.test (decide (l ≤ c)) (.test (decide (c ≤ (maxSz : Nat))) (match G.mrm ⟨0, List.replicate l.toNat none⟩ with
    | some q => .pure ⟨.ref nb 0, [], [.usr q.1 q.2]⟩
    | none => .fail)))
def mapUpV (t : TypeId) : V G → V G → V G → RdG G (OpRes G.T G.U)
  | .sub o i tk, .lit (.string s), .lit (.int .i64 v) => match G.mpt t with
    | true => .look o fun
      | .usr u y => (match G.mr u y with
        | some g => .test (decide (g.tok = tk)) (.test ((g.xs.getD i none).isSome) (match G.mrm ⟨g.tok, g.xs.set i (some (mset s v ((g.xs.getD i none).getD [])))⟩ with
          | some q => .pure ⟨.undef, [(o, .usr q.1 q.2)], []⟩
          | none => .fail))
        | none => .fail)
      | _ => .fail
    | false => .fail
  | _, _, _ => .fail
def lookV (t : TypeId) (x k : V G) (co : Bool) : RdG G (V G) :=
  match x, k with
  | .sub o i tk, .lit (.string s) => (match G.mpt t with
    | true => .look o fun
      | .usr u y => (match G.mr u y with
        | some g => .test (decide (g.tok = tk)) (.pure (match co with
          | true => .tup [.lit (.int .i64 ((mget s ((g.xs.getD i none).getD [])).getD 0)), .lit (.bool (mget s ((g.xs.getD i none).getD [])).isSome)]
          | false => .lit (.int .i64 ((mget s ((g.xs.getD i none).getD [])).getD 0))))
        | none => .fail)
      | _ => .fail
    | false => .fail)
  | _, _ => .fail

def sliceLit (k : Nat) : Nat → List (Nat × V G) → RdG G (List (G.T k) × List (Nat × AObj G.T G.U))
  | _, [] => .pure ([], [])
  | i, (j, v) :: l => if j = i then
      (Rd.ofOpt (flatC v)).bind fun ds => (fzL G ds).bind fun q => (Rd.ofOpt (G.cl k q.1)).bind fun x =>
      (sliceLit k (i + 1) l).bind fun z => .pure (x :: z.1, q.2 ++ z.2)
    else .fail

def fieldsOf (t : TypeId) : List (Nat × TypeId) := match P.underlying t with | some (.struct fs) => fs.toList.map fun f => (f.offset, f.type) | _ => []

def buildCells (fs : List (Nat × TypeId)) : List (V G) → List (Nat × V G) → RdG G (List (V G))
  | cs, [] => .pure cs
  | cs, (i, v) :: l => match fs[i]?, flatC v with
    | some (off, ft), some vs => if vs.length = szT P ft then (if off + vs.length ≤ cs.length then buildCells fs (splice cs off vs) l else .fail) else .fail
    | _, _ => .fail

def buildV (t : TypeId) (ps : List (Nat × V G)) : RdG G (V G) :=
  match (zeroT P G t).bind flatC, P.underlying t with
  | some z, some (.struct fs) => if fs.toList.all fun f => (P.info? f.type).isSome then (buildCells P G (fieldsOf P t) z ps).bind fun cs => .pure (.agg cs) else .fail
  | _, _ => .fail

def indexAddrV (t : TypeId) (x : V G) (i : Int) : RdG G (V G) :=
  match elemT P t with
  | none => .fail
  | some e =>
  match G.kd e with
  | none => (match x with
    | .ref o j => (match j with
      | 0 => if szT P e = 1 then .look o (fun
        | .usr u y => (match G.mr u y with
          | some g => .test (decide (0 ≤ i)) (.test (decide (i < (g.xs.length : Int))) (.pure (.zel o G.k1 i.toNat 0)))
          | none => .fail)
        | _ => .fail) else .fail
      | _ + 1 => .fail)
    | _ => .fail)
  | some k0 =>
  match x with
  | .imm k xs => if k = k0 then .test (decide (0 ≤ i)) (.test (decide (i < (xs.length : Int))) (.pure (.pel k (xs.getD i.toNat (G.df k)) 0))) else .fail
  | .old k xs => if k = k0 then .test (decide (0 ≤ i)) (.test (decide (i < (xs.length : Int))) (.pure (.pol k (xs.getD i.toNat (G.df k)) 0))) else .fail
  | .jk o k xs => if k = k0 then .test (decide (0 ≤ i)) (.test (decide (i < (xs.length : Int))) (.pure (.jel o k (xs.getD i.toNat (G.df k)) 0))) else .fail
  | .ref o j => match j with
    | 0 => .look o fun
      | .usr u y => (match G.gr u y with
        | some g => if g.K = k0 then .test (decide (0 ≤ i)) (.test (decide (i < (g.xs.length : Int))) (.pure (.zel o g.K i.toNat 0))) else .fail
        | none => (match G.rt u y with
        | [.imm k xs] => if k = k0 then .test (decide (0 ≤ i)) (.test (decide (i < (xs.length : Int))) (.pure (.zel o k i.toNat 0))) else .fail
        | _ => .fail))
      | _ => .fail
    | _ + 1 => .fail
  | .sub o i' tk => .look o fun
    | .usr u y => (match G.gr u y with
      | some g => (match g.hl with
        | none => if g.k = k0 then .test (decide (g.tok = tk)) (.test (decide (0 ≤ i)) (.test (decide (i < ((g.xs.getD i' []).length : Int))) (.pure (.spe o g.k i' tk i.toNat 0)))) else .fail
        | some _ => .fail)
      | none => .fail)
    | _ => .fail
  | .own o => .look o fun
    | .arr k xs _ => if k = k0 then .test (decide (0 ≤ i)) (.test (decide (i < (xs.length : Int))) (.pure (.elem o i.toNat 0))) else .fail
    | _ => .fail
  | .pre o n => .look o fun
    | .arr k xs _ => if k = k0 then .test (decide (0 ≤ i)) (.test (decide (i < (min n xs.length : Nat))) (.pure (.elem o i.toNat 0))) else .fail
    | _ => .fail
  | _ => .fail

def optI : Option (V G) → Int → RdG G Int
  | none, d => .pure d
  | some v, _ => vInt G v

/-- a cut of a row that is read alone -/
def cut0 {α : Type} (lo hi mx : Option (V G)) (n : Int) (K : Int → Int → RdG G α) (Z : RdG G α) : RdG G α :=
  match mx with
  | some m => (match hi with
    | none => .fail
    | some hv => (vInt G m).bind fun m => (optI G lo 0).bind fun l => (vInt G hv).bind fun h =>
      .test (decide (l = 0)) (.test (decide (h = 0)) (.test (decide (m = 0)) Z)))
  | none => (optI G lo 0).bind fun l => (optI G hi n).bind fun h =>
      .test (decide (0 ≤ l)) (.test (decide (l ≤ h)) (.test (decide (h ≤ n)) (K l h)))

def sliceV (t : TypeId) (x : V G) (lo hi mx : Option (V G)) : RdG G (OpRes G.T G.U) :=
  match P.underlying t, x with
  | some .string, .lit (.string s) => match mx with
    | some _ => .fail
    | none => cut0 G lo hi none (s.size : Int) (fun l h => ret G (.lit (.string (s.extract l.toNat h.toNat)))) .fail
  | some (.slice e), .nil0 => match G.kd e with
    | some _ => cut0 G lo hi mx 0 (fun _ _ => ret G .nil0) (ret G .nil0)
    | none => .fail
  | some (.slice e), .imm k xs => match G.kd e with
    | some k0 => if k = k0 then cut0 G lo hi mx (xs.length : Int) (fun l h => match G.tight k with | true => ret G (.old k ((xs.take h.toNat).drop l.toNat)) | false => ret G (.imm k ((xs.take h.toNat).drop l.toNat))) (match G.strict with | true => .fail | false => ret G .nil0) else .fail
    | none => .fail
  | some (.slice e), .old k xs => match G.kd e with
    | some k0 => if k = k0 then cut0 G lo hi mx (xs.length : Int) (fun l h => ret G (.old k ((xs.take h.toNat).drop l.toNat))) (match G.strict with | true => .fail | false => ret G .nil0) else .fail
    | none => .fail
  | some (.slice e), .own o => .look o fun
    | .arr k xs w => match G.kd e with
      | some k0 => if k = k0 then cut0 G lo hi mx (xs.length : Int) (fun l h => match lo with
          | none => ret G (.pre o h.toNat)
          | some _ => match G.suf t, hi with
            | true, none => ret G (.suf o l.toNat)
            | _, _ => match G.tight k with | true => .fail | false => .pure ⟨.imm k ((xs.take h.toNat).drop l.toNat), [(o, .arr k xs false)], []⟩) (match G.strict with | true => .fail | false => ret G .nil0) else .fail
      | none => .fail
    | _ => .fail
  | some (.slice e), .pre o n => .look o fun
    | .arr k xs w => match G.kd e with
      | some k0 => if k = k0 then cut0 G lo hi mx (min n xs.length : Nat) (fun l h => match lo with
          | none => ret G (.pre o h.toNat)
          | some _ => match G.tight k with | true => .fail | false => .pure ⟨.imm k ((xs.take h.toNat).drop l.toNat), [(o, .arr k xs false)], []⟩) (match G.strict with | true => .fail | false => ret G .nil0) else .fail
      | none => .fail
    | _ => .fail
  | _, _ => .fail

def fieldAddrV (s : TypeId) (x : V G) (f : Nat) : RdG G (V G) :=
  match (fieldsOf P s)[f]? with
  | none => .fail
  | some (off, ft) => if szT P ft = 0 then .fail else
    match x with
    | .ptr o a => .pure (.ptr o (a + off))
    | .elem o i a => .pure (.elem o i (a + off))
    | .pel k y a => .pure (.pel k y (a + off))
    | .pol k y a => .pure (.pol k y (a + off))
    | .jel o k y a => .pure (.jel o k y (a + off))
    | .zel o k i a => .pure (.zel o k i (a + off))
    | .spe o k i tk j a => .pure (.spe o k i tk j (a + off))
    | _ => .fail

def fieldV (t : TypeId) (x : V G) (f : Nat) : RdG G (V G) :=
  match (fieldsOf P t)[f]?, x with
  | some (off, ft), .agg cs => partOf P G ft cs off
  | _, _ => .fail

def indexV (t : TypeId) (x : V G) (i : Int) : RdG G (V G) :=
  match P.underlying t, x with
  | some .string, .lit (.string s) => .test (decide (0 ≤ i)) (.test (decide (i < (s.size : Int))) (.pure (.lit (.int .u8 (strOf s i.toNat)))))
  | _, _ => .fail

def byteOf (k : Nat) (y : G.T k) : Int := match G.op k y with | [.lit (.int .u8 n)] => n | _ => 0

def convV (src dst : TypeId) (x : V G) : RdG G (V G) :=
  match P.underlying src, P.underlying dst, x with
  | some (.int _), some (.int k), .lit (.int _ n) => .pure (.lit (.int k (k.wrap n)))
  | some .string, some .string, .lit (.string s) => .pure (.lit (.string s))
  | some (.slice e), some .string, x =>
    match P.underlying e, G.kd e with
    | some (.int .u8), some k => if G.u8 k = true then (content G k x).bind fun xs => .pure (.lit (.string (bytesOfInts (xs.map (byteOf G k))))) else .fail
    | _, _ => .fail
  | _, _, _ => .fail

def minmax2 (mx : Bool) : V G → V G → RdG G (V G)
  | .lit (.int k a), .lit (.int _ b) => match mx with
    | true => .pure (.lit (.int k (if b > a then b else a)))
    | false => .pure (.lit (.int k (if b < a then b else a)))
  | _, _ => .fail
def minmaxV (mx : Bool) (a : V G) : List (V G) → RdG G (V G)
  | [] => .pure a
  | b :: l => (minmax2 G mx a b).bind fun d => minmaxV mx d l

-- calls ---------------------------------------------------------------------------------------------------------------
/-- a slice argument that is handed over to be read -/
def snapV : V G → RdG G (V G × List (Nat × AObj G.T G.U))
  | .agg cs => (fzL G cs).bind fun q => .pure (.agg q.1, q.2)
  | v => fz1 G v

mutual
def namesV {T : Nat → Type} : AV T → List Nat
  | .own o => [o]
  | .pre o _ => [o]
  | .suf o _ => [o]
  | .ptr o _ => [o]
  | .nsp o _ => [o]
  | .elem o _ _ => [o]
  | .ref o _ => [o]
  | .jk o _ _ => [o]
  | .jel o _ _ _ => [o]
  | .zel o _ _ _ => [o]
  | .sub o _ _ => [o]
  | .spe o _ _ _ _ _ => [o]
  | .agg cs => namesL cs
  | .tup cs => namesL cs
  | .clo _ cs => namesL cs
  | _ => []
def namesL {T : Nat → Type} : List (AV T) → List Nat
  | [] => []
  | v :: l => namesV v ++ namesL l
end

mutual
def renV {T : Nat → Type} (f : Nat → Option Nat) : AV T → AV T
  | .own o => match f o with | some o' => .own o' | none => .undef
  | .pre o n => match f o with | some o' => .pre o' n | none => .undef
  | .suf o n => match f o with | some o' => .suf o' n | none => .undef
  | .ptr o a => match f o with | some o' => .ptr o' a | none => .undef
  | .nsp o a => match f o with | some o' => .nsp o' a | none => .undef
  | .elem o i a => match f o with | some o' => .elem o' i a | none => .undef
  | .ref o j => match f o with | some o' => .ref o' j | none => .undef
  | .jk o k xs => match f o with | some o' => .jk o' k xs | none => .undef
  | .jel o k x a => match f o with | some o' => .jel o' k x a | none => .undef
  | .zel o k i a => match f o with | some o' => .zel o' k i a | none => .undef
  | .sub o i t => match f o with | some o' => .sub o' i t | none => .undef
  | .spe o k i t j a => match f o with | some o' => .spe o' k i t j a | none => .undef
  | .agg cs => .agg (renL f cs)
  | .tup cs => .tup (renL f cs)
  | .clo g cs => .clo g (renL f cs)
  | v => v
def renL {T : Nat → Type} (f : Nat → Option Nat) : List (AV T) → List (AV T)
  | [] => []
  | v :: l => renV f v :: renL f l
end
def renO {T U : Nat → Type} (f : Nat → Option Nat) : AObj T U → AObj T U
  | .box t cs => .box t (renL f cs)
  | x => x
def namesO {T U : Nat → Type} : AObj T U → List Nat
  | .box _ cs => namesL cs
  | _ => []

def lmem (o : Nat) : List Nat → Bool
  | [] => false
  | x :: l => match Nat.beq x o with | true => true | false => lmem o l

/-- what is reached from names, with the objects -/
def reach : Nat → List Nat → List (Nat × AObj G.T G.U) → RdG G (List (Nat × AObj G.T G.U))
  | 0, _, _ => .fail
  | _ + 1, [], acc => .pure acc
  | n + 1, o :: l, acc => match lmem o (acc.map (·.1)) with
    | true => reach n l acc
    | false => .look o fun
      | .dead => reach n l acc
      | .free => reach n l acc
      | x => reach n (l ++ namesO x) (acc ++ [(o, x)])

def posFrom (o : Nat) : Nat → List Nat → Option Nat
  | _, [] => none
  | i, x :: l => match Nat.beq x o with | true => some i | false => posFrom o (i + 1) l
def posIn (ns : List Nat) (o : Nat) : Option Nat := posFrom o 0 ns

mutual
def hasImm {T : Nat → Type} : AV T → Bool
  | .imm _ _ => true
  | .pel _ _ _ => true
  | .agg cs => hasImmL cs
  | .tup cs => hasImmL cs
  | .clo _ cs => hasImmL cs
  | _ => false
def hasImmL {T : Nat → Type} : List (AV T) → Bool
  | [] => false
  | v :: l => hasImm v || hasImmL l
end
mutual
def hasOld {T : Nat → Type} : AV T → Bool
  | .old _ _ => true
  | .pol _ _ _ => true
  | .agg cs => hasOldL cs
  | .tup cs => hasOldL cs
  | .clo _ cs => hasOldL cs
  | _ => false
def hasOldL {T : Nat → Type} : List (AV T) → Bool
  | [] => false
  | v :: l => hasOld v || hasOldL l
end
def hasOldO {T U : Nat → Type} : AObj T U → Bool
  | .box _ cs => hasOldL cs
  | _ => false
def hasImmO {T U : Nat → Type} (flatK : Nat → Bool) : AObj T U → Bool
  | .arr k _ _ => !flatK k
  | .box _ cs => hasImmL cs
  | .usr _ _ => false
  | .dead => false
  | .free => false

def snaps (m : List Bool) : List (V G) → RdG G (List (V G) × List (Nat × AObj G.T G.U))
  | [] => .pure ([], [])
  | v :: l => (if m.headD false then Rd.pure (v, []) else snapV G v).bind fun p => (snaps m.tail l).bind fun q => .pure (p.1 :: q.1, p.2 ++ q.2)

def backIn (ns : List Nat) (nb j : Nat) : Option Nat := match ns[j]? with | some o => some o | none => some (nb + (j - ns.length))

/-- a zone that is handed over to be written -/
def jk1 : V G → RdG G (V G)
  | .ref o j => .look o fun
    | .usr u x => (match G.jnk u x, (G.rt u x)[j]? with | some _, some (.imm k xs) => .pure (.jk o k xs) | _, _ => .fail)
    | _ => .fail
  | v => .pure v
def jkV : V G → RdG G (V G)
  | .agg cs => (Rd.mapL (jk1 G) cs).bind fun q => .pure (.agg q)
  | v => jk1 G v
def jkO : AObj G.T G.U → AObj G.T G.U
  | .usr u x => match G.jnk u x with | some q => .usr q.1 q.2 | none => .usr u x
  | x => x

/-- rows of a result: they become a zone -/
def zc1 (nb j : Nat) : V G → Option (V G × List (V G))
  | .imm k xs => some (.ref nb j, [.imm k xs])
  | .lit v => some (.lit v, [])
  | _ => none
def zcL (nb : Nat) : Nat → List (V G) → Option (List (V G) × List (V G))
  | _, [] => some ([], [])
  | j, v :: l => match zc1 G nb j v with
    | some p => (match zcL nb (j + p.2.length) l with | some q => some (p.1 :: q.1, p.2 ++ q.2) | none => none)
    | none => none
def zcV (nb : Nat) : V G → Option (V G × List (V G))
  | .agg cs => match zcL G nb 0 cs with | some q => some (.agg q.1, q.2) | none => none
  | v => zc1 G nb 0 v

/-- what may be handed over to be read alone -/
def zOk1 : V G → Bool
  | .lit _ => true
  | .nil0 => true
  | .imm _ _ => true
  | .old _ _ => true
  | _ => false
def zOkV : V G → Bool
  | .agg cs => cs.all (zOk1 G)
  | v => zOk1 G v
def callZ (nb : Nat) (f : FuncId) (args : List (V G)) : RdG G (OpRes G.T G.U) :=
  (snaps G (G.mode f) args).bind fun q =>
  if q.1.all (zOkV G) = true then .call f (q.1.map oldV) [] fun r os => (match os with
    | [] => (match zcV G nb r with
      | some p => (match G.mkz p.2 with
        | some z => .pure ⟨p.1, [], [.usr z.1 z.2]⟩
        | none => .fail)
      | none => .fail)
    | _ => .fail)
  else .fail

def callN (nb : Nat) (f : FuncId) (args : List (V G)) : RdG G (OpRes G.T G.U) :=
  (if G.jn f = true then (Rd.mapL (jkV G) args).bind fun q => .pure (q, []) else snaps G (G.mode f) args).bind fun q =>
  (reach G 64 (namesL q.1) []).bind fun rs =>
  let ns := rs.map (·.1)
  if q.2.all (fun p => lmem p.1 ns == false) then
  .call f (renL (posIn ns) q.1) (rs.map fun p => renO (posIn ns) (if G.jn f = true then jkO G p.2 else p.2)) fun r os =>
  if ns.length ≤ os.length then if os.length - ns.length ≤ 4 then if hasOld r || os.any hasOldO then .fail else
  .pure ⟨renV (backIn ns nb) r, (if hasImm r || os.any (hasImmO G.flat) then q.2 else []) ++ ns.zip ((os.map (renO (backIn ns nb))).take ns.length), (os.map (renO (backIn ns nb))).drop ns.length⟩
  else .fail else .fail else .fail

/-- a call that is handed a row of a grown row: the row is taken out, and goes back if it comes back -/
def lit1A {T : Nat → Type} : AV T → Bool
  | .lit _ => true
  | _ => false
def litA {T : Nat → Type} : AV T → Bool
  | .agg cs => cs.all lit1A
  | v => lit1A v
def modeAll : List Bool → List (V G) → Bool
  | _, [] => true
  | m, _ :: l => match m.headD false with | true => modeAll m.tail l | false => false
def callS (nb : Nat) (f : FuncId) (o i tk : Nat) (rest : List (V G)) : RdG G (OpRes G.T G.U) :=
  match modeAll G (G.mode f) (.own 0 :: rest), rest.all litA, G.jn f with
  | true, true, false => .look o fun
    | .usr u y => (match G.gr u y with
      | some g => (match g.hl with
        | none => .test (decide (g.tok = tk)) (match G.grm { g with tok := g.tok + 1, hl := some i } with
          | some q => .call f (.own 0 :: rest) [.arr g.k (g.xs.getD i []) true] fun r os => (match r, os with
            | .lit v, [.arr k' ys true] => (Rd.ofOpt (castL k' g.k ys)).bind fun ys => (match G.grm { g with tok := g.tok + 1 + 1, hl := none, xs := g.xs.set i ys } with
              | some q2 => .pure ⟨.lit v, [(o, .usr q2.1 q2.2)], [.dead]⟩
              | none => .fail)
            | .own 1, [.dead, .arr k' ys true] => .pure ⟨.own (nb + 1), [(o, .usr q.1 q.2)], [.dead, .arr k' ys true]⟩
            | _, _ => .fail)
          | none => .fail)
        | some _ => .fail)
      | none => .fail)
    | _ => .fail
  | _, _, _ => .fail
def callV (nb : Nat) (f : FuncId) (args : List (V G)) : RdG G (OpRes G.T G.U) :=
  if G.fn f = true then (if G.zn f = true then callZ G nb f args else (match args with
    | .sub o i tk :: rest => (match (G.mode f).headD false with | true => callS G nb f o i tk rest | false => callN G nb f (.sub o i tk :: rest))
    | args => callN G nb f args)) else .fail

-- operations ----------------------------------------------------------------------------------------------------------
def one (x : RdG G (V G)) : RdG G (OpRes G.T G.U) := x.bind (ret G)

def iniC (nb : Nat) : Nat → List Ini → List (V G) → List (V G) × List (AObj G.T G.U)
  | i, x :: l, v :: z => match x, v with
    | .own k, .nil0 => if k < G.n then (.own (nb + i) :: (iniC nb (i + 1) l z).1, .arr k [] true :: (iniC nb (i + 1) l z).2) else (v :: z, [])
    | .nsp a, .lit (.pointer none) => (.nsp nb a :: (iniC nb i l z).1, (iniC nb i l z).2)
    | _, v => (v :: (iniC nb i l z).1, (iniC nb i l z).2)
  | _, _, z => (z, [])

def opSem (nb : Nat) (o : Oper) (ρ : Operand → V G) : RdG G (OpRes G.T G.U) :=
  match o.op with
  | .move x | .assign x => ret G (ρ x)
  | .pick c a b => match ρ c with | .lit (.bool true) => ret G (ρ a) | .lit (.bool false) => ret G (ρ b) | _ => .fail
  | .alloc e => match (zeroT P G e).bind flatC with
    | some z => (match G.mku e with | some q => .pure ⟨.ptr nb 0, [], [.usr q.1 q.2]⟩ | none => .pure ⟨.ptr nb 0, [], .box e (iniC G nb 1 (G.ini e) z).1 :: (iniC G nb 1 (G.ini e) z).2⟩)
    | none => .fail
  | .box e x => match flatC (ρ x) with | some z => .pure ⟨.ptr nb 0, [], .box e (iniC G nb 1 (G.ini e) z).1 :: (iniC G nb 1 (G.ini e) z).2⟩ | none => .fail
  | .build t ps => one G (buildV P G t (ps.toList.map fun p => (p.1, ρ p.2)))
  | .buildSlice t n ps => (Rd.ofOpt (kindOfSlice P G t)).bind fun k => if n = ps.toList.length then (if n * szT P (G.E k) ≤ 16777216 then (sliceLit G k 0 (ps.toList.map fun p => (p.1, ρ p.2))).bind fun q =>
      .pure ⟨.own nb, q.2, [.arr k q.1 true]⟩ else .fail) else .fail
  | .load t a => one G (loadV P G t (ρ a))
  | .store t a v => storeV P G t (ρ a) (ρ v)
  | .nilCheck x => match ρ x with | .ptr o a => ret G (.ptr o a) | .elem o i a => ret G (.elem o i a) | .pel k y a => ret G (.pel k y a) | .pol k y a => ret G (.pol k y a) | .jel o k y a => ret G (.jel o k y a) | .zel o k i a => ret G (.zel o k i a) | .spe o k i tk j a => ret G (.spe o k i tk j a) | .clo f cs => ret G (.clo f cs) | _ => .fail
  | .binOp op t x y _ => (match nilTest op y with
    | some b => one G (eqNilV P G b t (ρ x))
    | none => one G (binV P G op t (ρ x) (ρ y)))
  | .unOp op _ x => one G (unV G op (ρ x))
  | .convert s d x => one G (convV P G s d (ρ x))
  | .makeFunc fn first cap => (match fn with | .func f => if first.size = 0 then ret G (.clo f (cap.toList.map ρ)) else .fail | _ => .fail)
  | .makeSlice t l c => (match G.mkm t with | true => makeM G nb (ρ l) (ρ c) | false => makeV P G nb t (ρ l) (ρ c))
  | .makeMap t r => (match r, G.mpt t with
    | none, true => (match G.mfm [] with | some q => .pure ⟨.ref nb 0, [], [.usr q.1 q.2]⟩ | none => .fail)
    | _, _ => .fail)
  | .mapUpdate t m k x => mapUpV G t (ρ m) (ρ k) (ρ x)
  | .lookup t x k co => one G (lookV G t (ρ x) (ρ k) co)
  | .slice t x lo hi mx => sliceV P G t (ρ x) (lo.map ρ) (hi.map ρ) (mx.map ρ)
  | .fieldAddr s x f => one G (fieldAddrV P G s (ρ x) f)
  | .field t x f => one G (fieldV P G t (ρ x) f)
  | .indexAddr t x i => (vInt G (ρ i)).bind fun i => one G (indexAddrV P G t (ρ x) i)
  | .index t x i => (vInt G (ρ i)).bind fun i => one G (indexV P G t (ρ x) i)
  | .extract x i => match ρ x with | .tup vs => (match vs[i]? with | some v => ret G v | none => .fail) | _ => .fail
  | .call c =>
    match c.callee with
    | .value f => match ρ f with
      | .clo g cs => callV G nb g (c.args.toList.map ρ ++ cs)
      | _ => .fail
    | .builtin .len => match c.args.toList, c.argTypes.toList with | [x], [t] => one G (lenV P G t (ρ x)) | _, _ => .fail
    | .builtin .append => match c.args.toList, c.argTypes.toList with | [s, x], [t, tx] => appendV P G nb t tx (ρ s) (ρ x) | _, _ => .fail
    | .builtin .clear => match c.args.toList, c.argTypes.toList with | [x], [t] => clearV P G t (ρ x) | _, _ => .fail
    | .builtin .cap => match c.args.toList, c.argTypes.toList with | [x], [t] => one G (capV P G t (ρ x)) | _, _ => .fail
    | .builtin .min => (match c.args.toList.map ρ with | a :: l => one G (minmaxV G false a l) | [] => .fail)
    | .builtin .max => (match c.args.toList.map ρ with | a :: l => one G (minmaxV G true a l) | [] => .fail)
    | _ => .fail
  | _ => .fail

-- states --------------------------------------------------------------------------------------------------------------
structure St where
  slots : List (V G)
  objs : List (AObj G.T G.U)

def opnd (σ : St G) : Operand → V G
  | .tmp t => σ.slots.getD t .undef
  | .const v => litOf v
  | .global _ => .undef
  | .func f => .clo f []

def setObj {T U : Nat → Type} (os : List (AObj T U)) (n : Nat) (x : AObj T U) : List (AObj T U) := os.set n x

def setObjs {T U : Nat → Type} (os : List (AObj T U)) : List (Nat × AObj T U) → List (AObj T U)
  | [] => os
  | (n, x) :: l => setObjs (setObj os n x) l

def addObjs {T U : Nat → Type} (os : List (AObj T U)) (nb : Nat) : List (AObj T U) → List (AObj T U)
  | [] => os
  | x :: l => addObjs (setObj os nb x) (nb + 1) l

def padTo {T U : Nat → Type} (os : List (AObj T U)) (n : Nat) : List (AObj T U) := os ++ List.replicate (n - os.length) .free

def St.app (σ : St G) (dst : Option Tmp) (nb : Nat) (r : OpRes G.T G.U) : St G :=
  { slots := match dst with | some d => σ.slots.set d r.d | none => σ.slots, objs := addObjs (setObjs (padTo σ.objs (nb + r.new.length)) r.upd) nb r.new }

inductive AE where
  | normal
  | exit (id : Nat)
  | ret

structure Out (O : Type) where
  fail : O
  ite : Bool → O → O → O
  both : O → O → O
  lt : {α : Type} → α → (α → O) → O
  call : FuncId → List (V G) → List (AObj G.T G.U) → (V G → List (AObj G.T G.U) → O) → O
  frag : Nat → St G → (AE → St G → O) → O

variable {O : Type} (out : Out G O)

mutual
def forceV : V G → (V G → O) → O
  | .lit (.int k n), K => out.lt n fun n => K (.lit (.int k n))
  | .lit (.bool b), K => out.lt b fun b => K (.lit (.bool b))
  | .lit (.string b), K => out.lt b fun b => K (.lit (.string b))
  | .lit v, K => K (.lit v)
  | .nil0, K => K .nil0
  | .imm k xs, K => out.lt xs fun xs => K (.imm k xs)
  | .own o, K => K (.own o)
  | .pre o n, K => out.lt n fun n => K (.pre o n)
  | .suf o n, K => out.lt n fun n => K (.suf o n)
  | .ptr o a, K => K (.ptr o a)
  | .nsp o a, K => K (.nsp o a)
  | .elem o i a, K => out.lt i fun i => K (.elem o i a)
  | .pel k x a, K => out.lt x fun x => K (.pel k x a)
  | .agg cs, K => forceVL cs fun cs => K (.agg cs)
  | .tup cs, K => forceVL cs fun cs => K (.tup cs)
  | .clo f cs, K => forceVL cs fun cs => K (.clo f cs)
  | .undef, K => K .undef
  | .bl lo hi, K => out.lt lo fun lo => out.lt hi fun hi => K (.bl lo hi)
  | .old k xs, K => out.lt xs fun xs => K (.old k xs)
  | .pol k x a, K => out.lt x fun x => K (.pol k x a)
  | .ref o j, K => K (.ref o j)
  | .jk o k xs, K => out.lt xs fun xs => K (.jk o k xs)
  | .jel o k x a, K => out.lt x fun x => K (.jel o k x a)
  | .zel o k i a, K => out.lt i fun i => K (.zel o k i a)
  | .sub o i t, K => out.lt i fun i => out.lt t fun t => K (.sub o i t)
  | .spe o k i t j a, K => out.lt i fun i => out.lt t fun t => out.lt j fun j => K (.spe o k i t j a)
def forceVL : List (V G) → (List (V G) → O) → O
  | [], K => K []
  | v :: l, K => forceV v fun v => forceVL l fun l => K (v :: l)
end

def forceO : AObj G.T G.U → (AObj G.T G.U → O) → O
  | .arr k xs true, K => out.lt xs fun xs => K (.arr k xs true)
  | .arr k xs false, K => out.lt xs fun xs => K (.arr k xs false)
  | .box t cs, K => forceVL G out cs fun cs => K (.box t cs)
  | .usr u x, K => out.lt x fun x => K (.usr u x)
  | .dead, K => K .dead
  | .free, K => K .free
def forceOL : List (AObj G.T G.U) → (List (AObj G.T G.U) → O) → O
  | [], K => K []
  | v :: l, K => forceO G out v fun v => forceOL l fun l => K (v :: l)

def lsetK {α : Type} : List α → Nat → α → (List α → O) → O
  | [], _, _, K => K []
  | _ :: l, 0, a, K => K (a :: l)
  | b :: l, i + 1, a, K => lsetK l i a fun l => K (b :: l)

def St.appK (σ : St G) (dst : Option Tmp) (nb : Nat) (r : OpRes G.T G.U) (K : St G → O) : O :=
  forceV G out r.d fun d => forceOL G out (addObjs (setObjs (padTo σ.objs (nb + r.new.length)) r.upd) nb r.new) fun os =>
  match dst with
  | some t => lsetK σ.slots t d fun ss => K ⟨ss, os⟩
  | none => K ⟨σ.slots, os⟩

def St.forceK (σ : St G) (K : St G → O) : O := forceVL G out σ.slots fun ss => forceOL G out σ.objs fun os => K ⟨ss, os⟩

def runRd {α : Type} (objs : List (AObj G.T G.U)) : RdG G α → List Nat → (α → List Nat → O) → O
  | .pure a, log, K => K a log
  | .look o k, log, K => runRd objs (k (objs.getD o .free)) (log ++ [o]) K
  | .test b k, log, K => out.ite b (runRd objs k log K) out.fail
  | .call f args os k, log, K => out.call f args os fun r os' => runRd objs (k r os') log K
  | .fail, _, _ => out.fail

/-- what an operation touches -/
structure Fp where
  dst : List Tmp
  ops : List Tmp
  reads : List Nat
  writes : List Nat
  many : Nat

def tmpsOf (o : Oper) : List Tmp := o.op.operands.toList.filterMap fun | .tmp t => some t | _ => none

def fpOf (o : Oper) (g : List Tmp) (nb : Nat) (log : List Nat) (r : OpRes G.T G.U) : Fp :=
  ⟨o.dst.toList, g ++ tmpsOf o, log, r.upd.map (·.1) ++ List.range' nb r.new.length, r.new.length⟩

/-- what is changed is there -/
def updOk {T U : Nat → Type} (os : List (AObj T U)) : List (Nat × AObj T U) → Bool
  | [] => true
  | (o, _) :: l => match os.getD o .free with | .free => false | _ => updOk os l

/-- the state, where a slot is known -/
def setLit (σ : St G) (d : Tmp) (t : Bool) (K : St G → O) : O := lsetK σ.slots d (.lit (.bool t)) fun ss => K ⟨ss, σ.objs⟩

/-- one operation -/
def op1 (ops : Array Oper) (o : Oper) (nb : Nat) (σ : St G) (K : St G → Fp → O) : O :=
  let go (g : List Tmp) (σ : St G) : O := runRd G out σ.objs (opSem P G nb o (opnd G σ)) [] fun r log => if updOk σ.objs r.upd = true then σ.appK G out o.dst nb r fun σ' => K σ' (fpOf G o g nb log r) else out.fail
  let goP (g : List Tmp) (σ : St G) : O := match o.op with
    | .pick (.tmp d) _ _ => (match σ.slots.getD d .undef with
      | .lit (.bool c) => out.ite c (setLit G σ d true (go g)) (setLit G σ d false (go g))
      | _ => out.fail)
    | _ => go g σ
  match o.guard with
  | none => goP [] σ
  | some (j, want) =>
    match (ops[j]?).bind (·.dst) with
    | none => out.fail
    | some d =>
      let skip (σ : St G) : O := σ.appK G out o.dst nb ⟨.lit Go.undef, [], []⟩ fun σ' => K σ' (fpOf G o [d] nb [] ⟨.lit Go.undef, [], []⟩)
      match σ.slots.getD d .undef with
      | .lit (.bool c) => match want with
        | true => out.ite c (setLit G σ d true (goP [d])) (setLit G σ d false skip)
        | false => out.ite c (setLit G σ d true skip) (setLit G σ d false (goP [d]))
      | .lit (.tuple _) => skip σ
      | _ => out.fail

def opsRun (ops : Array Oper) : List Oper → St G → (St G → O) → O
  | [], σ, K => K σ
  | o :: l, σ, K => op1 P G out ops o σ.objs.length σ fun σ' _ => opsRun ops l σ' K

def disj (a b : List Nat) : Bool := a.all fun x => match lmem x b with | true => false | false => true

def fpIndep (a b : Fp) : Bool :=
  disj a.dst b.ops && disj b.dst a.ops && disj a.dst b.dst &&
  disj a.writes b.reads && disj a.writes b.writes && disj b.writes a.reads

/-- what binds an operation stands ahead of it -/
def edgesOk : Nat → List Oper → Bool
  | _, [] => true
  | i, o :: l => match o.after.toList.all fun e => match Region.binds .any e with | true => decide (e.on < i) | false => true with
    | true => edgesOk (i + 1) l
    | false => false

/-- for each operation the operations that come before it in every order, as bits -/
def befOf (T : List Nat) (o : Oper) : Nat := o.after.toList.foldl (fun s e => if Region.binds .any e then s ||| (2 ^ e.on) ||| T.getD e.on 0 else s) 0
def befs : List Oper → List Nat → List Nat
  | [], T => T
  | o :: l, T => befs l (T ++ [befOf T o])

def opsDraw (ops : Array Oper) (T : List Nat) (N : Nat) : List Oper → Nat → List (Nat × Fp) → St G → (St G → O) → O
  | [], _, log, σ, K => K σ
  | o :: l, i, log, σ, K => op1 P G out ops o (N + 6 * i) σ fun σ' fp =>
      if (if fp.many ≤ 6 then log.all fun q => (T.getD i 0).testBit q.1 || fpIndep q.2 fp else false) = true then opsDraw ops T N l (i + 1) (log ++ [(i, fp)]) σ' K else out.fail

-- norm ----------------------------------------------------------------------------------------------------------------
inductive Frm where
  | imm (k : Nat)
  | own (k : Nat)
  | fz
  | mv (k : Nat)
  | cell (i : Nat) (f : Frm)
  | fld (i : Nat) (f : Frm)
  | obj (o i : Nat) (f : Frm)

def notIn {α : Type} (o : Nat) : List (Nat × α) → Bool
  | [] => true
  | p :: l => match Nat.beq p.1 o with | true => false | false => notIn o l
def setAt {α : Type} : List α → Nat → α → List α
  | [], _, _ => []
  | _ :: l, 0, a => a :: l
  | b :: l, i + 1, a => b :: setAt l i a

def runP {α : Type} (os : List (AObj G.T G.U)) : RdG G α → Option α
  | .pure a => some a
  | .look o k => runP os (k (os.getD o .free))
  | .test b k => match b with | true => runP os k | false => none
  | .call _ _ _ _ => none
  | .fail => none

structure Nrm where
  live : List Nat
  frm : List (Nat × Frm)

inductive Ann where
  | no
  | use (i : Nat)
  | nd (a b : Ann)
def Ann.a : Ann → Ann | .nd a _ => a | _ => .no
def Ann.b : Ann → Ann | .nd _ b => b | _ => .no

def frmB (os : List (AObj G.T G.U)) (f : Frm) (v : V G) : Option (V G × List (Nat × AObj G.T G.U) × List (AObj G.T G.U)) :=
  match f, v with
  | .fz, v => (match runP G os (snaps G [] [v]) with
    | some ([d], upd) => some (d, upd, [])
    | _ => none)
  | .imm k, .nil0 => if k < G.n then some (.imm k [], [], []) else none
  | .imm _, .own o => match os.getD o .free with | .arr k xs _ => some (.imm k xs, [(o, .arr k xs false)], []) | _ => none
  | .imm _, .pre o n => match os.getD o .free with | .arr k xs _ => (match G.tight k with | true => none | false => some (.imm k (xs.take n), [(o, .arr k xs false)], [])) | _ => none
  | .imm _, v => some (v, [], [])
  | .own k, .nil0 => if k < G.n then some (.own os.length, [], [.arr k [] true]) else none
  | .own _, v => some (v, [], [])
  | .mv k, .nil0 => if k < G.n then some (.own os.length, [], [.arr k [] true]) else none
  | .mv _, .own o => match os.getD o .free with | .arr k xs true => some (.own os.length, [(o, .dead)], [.arr k xs true]) | _ => none
  | .mv _, .pre o n => match os.getD o .free with | .arr k xs true => (match G.tight k with | true => none | false => some (.own os.length, [(o, .dead)], [.arr k (xs.take n) true])) | _ => none
  | .mv _, v => some (v, [], [])
  | .cell _ _, _ => none
  | .fld _ _, _ => none
  | .obj _ _ _, _ => none

def frmV (os : List (AObj G.T G.U)) : Frm → V G → Option (V G × List (Nat × AObj G.T G.U) × List (AObj G.T G.U))
  | .cell i f, .ptr o off => match os.getD o .free with
    | .box bt cs => (match cs[i]? with
      | some x => (match frmB G os f x with
        | some q => (match notIn o q.2.1 with | true => some (.ptr o off, q.2.1 ++ [(o, .box bt (setAt cs i q.1))], q.2.2) | false => none)
        | none => none)
      | none => none)
    | _ => none
  | .cell _ _, v => some (v, [], [])
  | .fld i f, .agg l => (match l[i]? with
      | some x => (match frmB G os f x with
        | some q => some (.agg (setAt l i q.1), q.2.1, q.2.2)
        | none => none)
      | none => none)
  | .fld _ _, v => some (v, [], [])
  | .obj o i f, v => match os.getD o .free with
    | .box bt cs => (match cs[i]? with
      | some x => (match frmB G os f x with
        | some q => (match notIn o q.2.1 with | true => some (v, q.2.1 ++ [(o, .box bt (setAt cs i q.1))], q.2.2) | false => none)
        | none => none)
      | none => none)
    | _ => none
  | f, v => frmB G os f v

def frms : List (Nat × Frm) → St G → Option (St G)
  | [], σ => some σ
  | (t, f) :: l, σ => (frmV G σ.objs f (σ.slots.getD t .undef)).bind fun q => frms l (σ.app G (some t) σ.objs.length ⟨q.1, q.2.1, q.2.2⟩)

def keepSlots (live : List Nat) : Nat → List (V G) → List (V G)
  | _, [] => []
  | i, v :: l => (match lmem i live with | true => v | false => .undef) :: keepSlots live (i + 1) l

def reachP (os : List (AObj G.T G.U)) : Nat → List Nat → List Nat → List Nat
  | 0, _, acc => acc
  | _ + 1, [], acc => acc
  | n + 1, o :: l, acc => match lmem o acc with
    | true => reachP os n l acc
    | false => match os.getD o .free with
      | .dead => reachP os n l acc
      | .free => reachP os n l acc
      | x => reachP os n (l ++ namesO x) (acc ++ [o])

def dedup : List Nat → List Nat → List Nat
  | [], acc => acc
  | o :: l, acc => match lmem o acc with | true => dedup l acc | false => dedup l (acc ++ [o])

/-- the p first objects stay; the others get new names -/
def gc (p : Nat) (σ : St G) : St G :=
  let ns := dedup (reachP G σ.objs 1024 (List.range p ++ namesL σ.slots) []) (List.range p)
  { slots := renL (posIn ns) σ.slots, objs := ns.map fun o => renO (posIn ns) (σ.objs.getD o .free) }

def nrm (p : Nat) (n : Nrm) (σ : St G) : Option (St G) :=
  (frms G n.frm { σ with slots := keepSlots G n.live 0 σ.slots }).map (gc G p)

def nrmThen (p : Nat) (n : Nrm) (σ : St G) (K : St G → O) : O :=
  match nrm G p n σ with | some σ' => σ'.forceK G out K | none => out.fail

/-- how the state is put in form where code ends -/
structure XN where
  nl : Nrm
  rl : Nrm
  ex : List (Nat × Nrm)
def XN.find (d : Nrm) (id : Nat) : List (Nat × Nrm) → Nrm
  | [] => d
  | x :: l => match Nat.beq x.1 id with | true => x.2 | false => XN.find d id l
def XN.get (x : XN) : AE → Nrm
  | .normal => x.nl
  | .ret => x.rl
  | .exit id => XN.find x.nl id x.ex
def kNrm (p : Nat) (x : XN) (K : AE → St G → O) : AE → St G → O := fun e σ => nrmThen G out p (x.get e) σ (K e)

variable (p : Nat)

def exec : Code → Ann → St G → (AE → St G → O) → O
  | .skip, _, σ, K => K .normal σ
  | .label _, _, σ, K => K .normal σ
  | .region _ ops draw, _, σ, K =>
    if draw = true then
      (if P.follows .mixedOrders = true then if edgesOk 0 ops.toList = true then opsDraw P G out ops (befs ops.toList []) σ.objs.length ops.toList 0 [] ⟨σ.slots, padTo σ.objs (σ.objs.length + 6 * ops.toList.length)⟩ (fun σ' => (gc G p σ').forceK G out (K .normal)) else out.fail else out.fail)
    else opsRun P G out ops ops.toList σ (K .normal)
  | .seq a b, n, σ, K => match n with
    | .use i => out.frag i σ K
    | n => exec a n.a σ fun e σ' => match e with
      | .normal => exec b n.b σ' K
      | e => K e σ'
  | .cond c a b, n, σ, K => match n with
    | .use i => out.frag i σ K
    | n => match opnd G σ c with
      | .lit (.bool t) => (match c with
        | .tmp d => out.ite t (setLit G σ d true fun σ => exec a n.a σ K) (setLit G σ d false fun σ => exec b n.b σ K)
        | _ => out.ite t (exec a n.a σ K) (exec b n.b σ K))
      | .bl lo hi => out.ite lo (exec a n.a σ K) (out.ite hi (out.both (exec a n.a σ K) (exec b n.b σ K)) (exec b n.b σ K))
      | _ => out.fail
  | .block id c, n, σ, K => match n with
    | .use i => out.frag i σ K
    | n => exec c n.a σ fun e σ' => match e with
      | .exit id' => if id' = id then K .normal σ' else K (.exit id') σ'
      | e => K e σ'
  | .loop _, n, σ, K => match n with
    | .use i => out.frag i σ K
    | _ => out.fail
  | .exit id, _, σ, K => K (.exit id) σ
  | .ret, _, σ, K => K .ret σ
  | _, _, _, _ => out.fail

/-- pieces that are done elsewhere -/
def uses : Code → Ann → List (Nat × Code)
  | .seq a b, n => match n with
    | .use i => [(i, .seq a b)]
    | n => uses a n.a ++ uses b n.b
  | .cond c a b, n => match n with
    | .use i => [(i, .cond c a b)]
    | n => uses a n.a ++ uses b n.b
  | .block id c, n => match n with
    | .use i => [(i, .block id c)]
    | n => uses c n.a
  | .loop c, n => match n with
    | .use i => [(i, .loop c)]
    | _ => []
  | _, _ => []

end
end Go.Proofs.Ytjfmfpnnjgfffaa.Am
