/- The abstract machine: kinds out of a table. -/
import Derived.Test.YtjfmfpnnjgfffaaAmFun
namespace Go.Proofs.Ytjfmfpnnjgfffaa.Am
open Go
set_option autoImplicit false
set_option linter.unusedVariables false
set_option linter.unusedSimpArgs false

inductive Cd where
  | int (k : IntKind)
  | bool
  | str
  | imm (k : Nat)
def Cd.den (T : Nat → Type) : Cd → Type
  | .int _ => Int
  | .bool => Bool
  | .str => ByteArray
  | .imm k => List (T k)
def Cd.enc {T : Nat → Type} : (c : Cd) → c.den T → AV T
  | .int k, x => .lit (.int k x)
  | .bool, x => .lit (.bool x)
  | .str, x => .lit (.string x)
  | .imm k, x => .imm k x
def Cd.dec {T : Nat → Type} : (c : Cd) → AV T → Option (c.den T)
  | .int k => fun | .lit (.int k' x) => if k = k' then some x else none | _ => none
  | .bool => fun | .lit (.bool x) => some x | _ => none
  | .str => fun | .lit (.string x) => some x | _ => none
  | .imm k => fun | .imm k' xs => castL k' k xs | .nil0 => some [] | _ => none
def Cd.df {T : Nat → Type} : (c : Cd) → c.den T
  | .int _ => (0 : Int)
  | .bool => false
  | .str => (⟨#[]⟩ : ByteArray)
  | .imm _ => []
def denC (T : Nat → Type) : List Cd → Type
  | [] => Unit
  | c :: l => c.den T × denC T l
def encC {T : Nat → Type} : (l : List Cd) → denC T l → List (AV T)
  | [], _ => []
  | c :: l, x => c.enc x.1 :: encC l x.2
def decC {T : Nat → Type} : (l : List Cd) → List (AV T) → Option (denC T l)
  | [], [] => some ()
  | c :: l, v :: vs => match c.dec v with
    | some x => (match decC l vs with | some y => some (x, y) | none => none)
    | none => none
  | _, _ => none
def dfC {T : Nat → Type} : (l : List Cd) → denC T l
  | [] => ()
  | c :: l => (c.df, dfC l)

structure Kd (T : Nat → Type) (α : Type) where
  E : TypeId
  cds : List Cd
  to : denC T cds → α
  fro : α → denC T cds
  inv : ∀ d, fro (to d) = d

structure Tb where
  n : Nat
  T : Nat → Type
  kd : (k : Nat) → Kd T (T k)

def Tb.find (tb : Tb) (e : TypeId) : Nat → Option Nat
  | 0 => none
  | k + 1 => match Nat.beq (tb.kd k).E e with | true => some k | false => tb.find e k

def flatC2 : List Cd → Bool
  | [] => true
  | .imm _ :: _ => false
  | _ :: l => flatC2 l

def okFn (P : Program) (f : FuncId) : Bool := match P.funcs[f]? with | some fn => !(fn.name == "runtime.NumGoroutine") && !fn.body.isNone | none => false

def sigOf (P : Program) (tb : Tb) (U : Nat → Type) (UR : (u : Nat) → U u → World → Blk → Prop) (mku : TypeId → Option ((u : Nat) × U u)) (ini : TypeId → List Ini) (mode : FuncId → List Bool) (suf : TypeId → Bool := fun _ => false) (gl : Nat → Option (Value → Prop) := fun _ => none) (strict : Bool := false) : Sig :=
  { n := tb.n, T := tb.T, U := U, E := fun k => (tb.kd k).E, kd := fun e => tb.find e tb.n
    op := fun k x => encC (tb.kd k).cds ((tb.kd k).fro x)
    cl := fun k cs => match decC (tb.kd k).cds cs with | some d => some ((tb.kd k).to d) | none => none
    df := fun k => (tb.kd k).to (dfC _)
    mode := mode, fn := okFn P, UR := UR
    u8 := fun k => match (tb.kd k).cds with | [.int .u8] => true | _ => false
    mku := mku, ini := ini
    flat := fun k => flatC2 (tb.kd k).cds
    suf := suf, gl := gl, strict := strict }

-- what is asked ----------------------------------------------------------------------------------------------------------------
def zeroOk (n : Nat) : List Cd → List Value → Bool
  | [], [] => true
  | .int k :: l, .int k' m :: vs => decide (k = k') && decide (m = 0) && zeroOk n l vs
  | .bool :: l, .bool b :: vs => !b && zeroOk n l vs
  | .str :: l, .string s :: vs => decide (s = ⟨#[]⟩) && zeroOk n l vs
  | .imm k :: l, .slice none 0 0 :: vs => decide (k < n) && zeroOk n l vs
  | _, _ => false
def kindOk (P : Program) (tb : Tb) (k : Nat) : Bool :=
  match P.info? (tb.kd k).E with
  | none => false
  | some i => decide (i.size = (tb.kd k).cds.length) && decide (0 < i.size) && decide (0 < i.bytes) && decide (i.bytes ≤ 1024) &&
    (match i.zero with | some z => zeroOk tb.n (tb.kd k).cds z.cells.toList | none => false)
def tbOk (P : Program) (tb : Tb) : Nat → Bool
  | 0 => true
  | k + 1 => kindOk P tb k && tbOk P tb k

theorem tbOk_kind {P : Program} {tb : Tb} : ∀ {n k : Nat}, tbOk P tb n = true → k < n → kindOk P tb k = true
  | n + 1, k, h, hk => by
    simp only [tbOk, Bool.and_eq_true] at h
    by_cases e : k = n
    · subst e; exact h.1
    · exact tbOk_kind h.2 (by omega)

theorem Tb.find_ok {tb : Tb} {e : TypeId} : ∀ {n k : Nat}, tb.find e n = some k → k < n ∧ (tb.kd k).E = e
  | n + 1, k, h => by
    simp only [Tb.find] at h
    split at h
    · rename_i hb; cases h; exact ⟨by omega, Nat.eq_of_beq_eq_true hb⟩
    · have := Tb.find_ok h; exact ⟨by omega, this.2⟩

theorem encC_len {T : Nat → Type} : ∀ (l : List Cd) (x : denC T l), (encC l x).length = l.length
  | [], _ => rfl
  | c :: l, x => by simp [encC, encC_len l]
theorem decC_len {T : Nat → Type} : ∀ (l : List Cd) (vs : List (AV T)) (x : denC T l), decC l vs = some x → vs.length = l.length
  | [], [], _, _ => rfl
  | c :: l, v :: vs, x, h => by
    simp only [decC] at h
    split at h
    · split at h
      · rename_i y hy; simp [decC_len l vs y hy]
      · cases h
    · cases h
  | [], v :: vs, _, h => by simp [decC] at h
  | c :: l, [], _, h => by simp [decC] at h

theorem zeroOk_imm {n : Nat} : ∀ {l : List Cd} {vs : List Value}, zeroOk n l vs = true → ∀ k, Cd.imm k ∈ l → k < n
  | [], [], h, k, hk => by simp at hk
  | .int a :: l, .int b m :: vs, h, k, hk => by
    simp only [zeroOk, Bool.and_eq_true] at h
    exact zeroOk_imm h.2 k (by simpa using hk)
  | .bool :: l, .bool b :: vs, h, k, hk => by
    simp only [zeroOk, Bool.and_eq_true] at h
    exact zeroOk_imm h.2 k (by simpa using hk)
  | .str :: l, .string s :: vs, h, k, hk => by
    simp only [zeroOk, Bool.and_eq_true] at h
    exact zeroOk_imm h.2 k (by simpa using hk)
  | .imm a :: l, .slice none 0 0 :: vs, h, k, hk => by
    simp only [zeroOk, Bool.and_eq_true, decide_eq_true_eq] at h
    rcases List.mem_cons.1 hk with e | hk
    · cases e; exact h.1
    · exact zeroOk_imm h.2 k hk

theorem zeroOk_len {n : Nat} : ∀ {l : List Cd} {vs : List Value}, zeroOk n l vs = true → l.length = vs.length
  | [], [], _ => rfl
  | .int a :: l, .int b m :: vs, h => by
    simp only [zeroOk, Bool.and_eq_true] at h; simp [zeroOk_len h.2]
  | .bool :: l, .bool b :: vs, h => by
    simp only [zeroOk, Bool.and_eq_true] at h; simp [zeroOk_len h.2]
  | .str :: l, .string s :: vs, h => by
    simp only [zeroOk, Bool.and_eq_true] at h; simp [zeroOk_len h.2]
  | .imm a :: l, .slice none 0 0 :: vs, h => by
    simp only [zeroOk, Bool.and_eq_true] at h; simp [zeroOk_len h.2]

theorem zeroOk_at {T : Nat → Type} {n : Nat} : ∀ {l : List Cd} {vs : List Value}, zeroOk n l vs = true → ∀ (j : Nat) (v : Value) (d : AV T), vs[j]? = some v → (encC l (dfC l))[j]? = some d → d = litOf v ∨ ((litOf v : AV T) = .nil0 ∧ ∃ k', k' < n ∧ d = .imm k' [])
  | [], [], _, j, v, d, h1, h2 => by simp at h1
  | .int a :: l, .int b m :: vs, h, j, v, d, h1, h2 => by
    simp only [zeroOk, Bool.and_eq_true, decide_eq_true_eq] at h
    cases j with
    | zero => simp [encC, dfC, Cd.enc, Cd.df] at h1 h2; obtain ⟨⟨rfl, rfl⟩, -⟩ := h; subst h1; subst h2; exact .inl rfl
    | succ j => simp [encC, dfC] at h1 h2; exact zeroOk_at h.2 j v d h1 h2
  | .bool :: l, .bool b :: vs, h, j, v, d, h1, h2 => by
    simp only [zeroOk, Bool.and_eq_true] at h
    cases j with
    | zero => simp [encC, dfC, Cd.enc, Cd.df] at h1 h2; have := h.1; simp at this; subst this; subst h1; subst h2; exact .inl rfl
    | succ j => simp [encC, dfC] at h1 h2; exact zeroOk_at h.2 j v d h1 h2
  | .str :: l, .string s :: vs, h, j, v, d, h1, h2 => by
    simp only [zeroOk, Bool.and_eq_true, decide_eq_true_eq] at h
    cases j with
    | zero => simp [encC, dfC, Cd.enc, Cd.df] at h1 h2; obtain ⟨rfl, -⟩ := h; subst h1; subst h2; exact .inl rfl
    | succ j => simp [encC, dfC] at h1 h2; exact zeroOk_at h.2 j v d h1 h2
  | .imm a :: l, .slice none 0 0 :: vs, h, j, v, d, h1, h2 => by
    simp only [zeroOk, Bool.and_eq_true, decide_eq_true_eq] at h
    cases j with
    | zero => simp [encC, dfC, Cd.enc, Cd.df] at h1 h2; subst h1; subst h2; exact .inr ⟨rfl, a, h.1, rfl⟩
    | succ j => simp [encC, dfC] at h1 h2; exact zeroOk_at h.2 j v d h1 h2

theorem enc_leaf {T : Nat → Type} {n : Nat} : ∀ {l : List Cd}, (∀ k, Cd.imm k ∈ l → k < n) → ∀ (x : denC T l) (j : Nat) (d : AV T), (encC l x)[j]? = some d → (∃ v, d = .lit v ∧ v.oneCell' = true) ∨ ∃ k' ys, d = .imm k' ys ∧ k' < n
  | [], _, x, j, d, h => by simp [encC] at h
  | c :: l, hl, x, j, d, h => by
    cases j with
    | zero =>
      simp [encC] at h; subst h
      cases c with
      | int k => exact .inl ⟨_, rfl, rfl⟩
      | bool => exact .inl ⟨_, rfl, rfl⟩
      | str => exact .inl ⟨_, rfl, rfl⟩
      | imm k => exact .inr ⟨k, x.1, rfl, hl k (by simp)⟩
    | succ j =>
      simp [encC] at h
      exact enc_leaf (fun k hk => hl k (List.mem_cons_of_mem _ hk)) x.2 j d h

theorem enc_nsl {T : Nat → Type} : ∀ {l : List Cd} (x : denC T l) (j : Nat) (v : Value), (encC l x)[j]? = some (.lit v) → ∀ a n cap, v ≠ .slice a n cap
  | [], x, j, v, h => by simp [encC] at h
  | c :: l, x, j, v, h => by
    cases j with
    | zero =>
      simp [encC] at h
      intro a n cap e
      subst e
      cases c <;> simp [Cd.enc] at h
    | succ j => simp [encC] at h; exact enc_nsl x.2 j v h

theorem flatC2_lit {T : Nat → Type} : ∀ {l : List Cd}, flatC2 l = true → ∀ (x : denC T l) (j : Nat) (d : AV T), (encC l x)[j]? = some d → ∃ v, d = .lit v
  | [], _, x, j, d, h => by simp [encC] at h
  | c :: l, hl, x, j, d, h => by
    cases j with
    | zero =>
      simp [encC] at h; subst h
      cases c with
      | imm k => simp [flatC2] at hl
      | _ => exact ⟨_, rfl⟩
    | succ j =>
      simp [encC] at h
      exact flatC2_lit (by cases c <;> first | exact hl | simp [flatC2] at hl) x.2 j d h

theorem Cd.dec_enc {T : Nat → Type} {n : Nat} {c : Cd} (hc : ∀ k, c = .imm k → k < n) {d : AV T} {x : c.den T} (h : c.dec d = some x) : d = c.enc x ∨ (d = .nil0 ∧ ∃ k', k' < n ∧ c.enc x = .imm k' []) := by
  cases c with
  | int k =>
    match d, h with
    | .lit (.int k' m), h =>
      simp only [Cd.dec] at h
      split at h
      · rename_i e; subst e; cases h; exact .inl rfl
      · cases h
  | bool => match d, h with | .lit (.bool b), h => cases h; exact .inl rfl
  | str => match d, h with | .lit (.string b), h => cases h; exact .inl rfl
  | imm k =>
    match d, h with
    | .imm k' xs, h => obtain ⟨e, h⟩ := castL_some h; subst e; subst h; exact .inl rfl
    | .nil0, h => cases h; exact .inr ⟨rfl, k, hc k rfl, rfl⟩

theorem decC_enc {T : Nat → Type} {n : Nat} : ∀ {l : List Cd}, (∀ k, Cd.imm k ∈ l → k < n) → ∀ {vs : List (AV T)} {x : denC T l}, decC l vs = some x → ∀ (j : Nat) (d e : AV T), vs[j]? = some d → (encC l x)[j]? = some e → d = e ∨ (d = .nil0 ∧ ∃ k', k' < n ∧ e = .imm k' [])
  | [], _, [], _, _, j, d, e, h1, h2 => by simp at h1
  | c :: l, hl, v :: vs, x, h, j, d, e, h1, h2 => by
    simp only [decC] at h
    split at h
    · rename_i a ha
      split at h
      · rename_i b hb
        cases h
        cases j with
        | zero => simp [encC] at h1 h2; subst h1; subst h2; exact Cd.dec_enc (fun k hk => hl k (by simp [hk])) ha
        | succ j => simp [encC] at h1 h2; exact decC_enc (fun k hk => hl k (List.mem_cons_of_mem _ hk)) hb j d e h1 h2
      · cases h
    · cases h
  | [], _, v :: vs, x, h, j, d, e, h1, h2 => by simp [decC] at h
  | c :: l, _, [], x, h, j, d, e, h1, h2 => by simp [decC] at h

variable {P : Program} {tb : Tb} {U : Nat → Type} {UR : (u : Nat) → U u → World → Blk → Prop} {mku : TypeId → Option ((u : Nat) × U u)} {ini : TypeId → List Ini} {mode : FuncId → List Bool} {suf : TypeId → Bool} {gl : Nat → Option (Value → Prop)} {strict : Bool}

def MkuOK (P : Program) (G : Sig) : Prop := ∀ e q, G.mku e = some q → ∀ z, (zeroT P G e).bind flatC = some z → ∀ (F : Nat → Prop) (c : Cf G) (β : Blk), ObjR P G F c β (.box e z) → ObjR P G F c β (.usr q.1 q.2)

theorem laws_of (h : tbOk P tb tb.n = true) (hm : MkuOK P (sigOf P tb U UR mku ini mode suf gl strict)) : Laws P (sigOf P tb U UR mku ini mode suf gl strict) := by
  have each : ∀ k, k < tb.n → ∃ i z, P.info? (tb.kd k).E = some i ∧ i.size = (tb.kd k).cds.length ∧ 0 < i.size ∧ 0 < i.bytes ∧ i.bytes ≤ 1024 ∧ i.zero = some z ∧ zeroOk tb.n (tb.kd k).cds z.cells.toList = true := by
    intro k hk
    have := tbOk_kind h hk
    unfold kindOk at this
    split at this
    · cases this
    · rename_i i hi
      split at this
      · rename_i z hz
        simp only [Bool.and_eq_true, decide_eq_true_eq] at this
        obtain ⟨⟨⟨⟨a, b⟩, c⟩, d⟩, e⟩ := this
        exact ⟨i, z, hi, a, b, c, d, hz, e⟩
      · simp at this
  have sz : ∀ k, k < tb.n → esz P (sigOf P tb U UR mku ini mode suf gl strict) k = (tb.kd k).cds.length := by
    intro k hk
    obtain ⟨i, z, h1, h2, _⟩ := each k hk
    show szT P (tb.kd k).E = _
    unfold szT; rw [h1]; exact h2
  exact {
    kd := fun e k hk => Tb.find_ok hk
    len := fun k hk x => by rw [sz k hk]; exact encC_len _ _
    pos := fun k hk => by
      obtain ⟨i, z, h1, h2, h3, _⟩ := each k hk
      rw [sz k hk, ← h2]; exact h3
    bytes := fun k hk => by
      obtain ⟨i, z, h1, h2, h3, h4, h5, _⟩ := each k hk
      exact ⟨i, h1, h4, h5⟩
    leaf := fun k hk x j d hd => by
      obtain ⟨i, z, h1, h2, h3, h4, h5, h6, h7⟩ := each k hk
      exact enc_leaf (zeroOk_imm h7) _ j d hd
    cl := fun k hk cs x hx j d e hd he => by
      obtain ⟨i, z, h1, h2, h3, h4, h5, h6, h7⟩ := each k hk
      simp only [sigOf] at hx he
      split at hx
      · rename_i y hy
        cases hx
        rw [(tb.kd k).inv] at he
        exact decC_enc (zeroOk_imm h7) hy j d e hd he
      · cases hx
    cln := fun k hk cs x hx => by
      simp only [sigOf] at hx
      split at hx
      · rename_i y hy
        rw [sz k hk]; exact decC_len _ _ _ hy
      · cases hx
    flat := fun k hk x j d hd => flatC2_lit hk _ j d hd
    u8 := fun k hk y => by
      simp only [sigOf] at hk ⊢
      split at hk
      · rename_i he
        generalize (tb.kd k).fro y = z
        revert z
        rw [he]
        intro z
        exact ⟨z.1, rfl⟩
      · cases hk
    b8 := fun k hk n => by
      simp only [sigOf] at hk ⊢
      split at hk
      · rename_i he
        obtain ⟨d, hd⟩ : ∃ d, decC (T := tb.T) (tb.kd k).cds [.lit (.int .u8 n)] = some d := by rw [he]; exact ⟨_, rfl⟩
        rw [hd]
        exact ⟨_, rfl⟩
      · cases hk
    mku := hm
    df := fun k hk => by
      obtain ⟨i, z, h1, h2, h3, h4, h5, h6, h7⟩ := each k hk
      refine ⟨z, ?_, ?_, ?_⟩
      · show (P.info? (tb.kd k).E).bind (·.zero) = some z
        rw [h1]; exact h6
      · rw [sz k hk, zeroOk_len h7]; simp
      · intro j v d hv hd
        simp only [sigOf] at hd
        rw [(tb.kd k).inv] at hd
        exact zeroOk_at h7 j v d (by simpa using hv) hd
    zrt := fun u x w β _ j d v h => by
      have h : ([] : List (AV tb.T))[j]? = some d := h
      rw [List.getElem?_nil] at h; cases h
    zrj := fun u x q h => by simp [sigOf] at h
    ztt := fun u x h => (h rfl).elim
    tst := fun _ _ => rfl
    mkg := fun t e h => by simp [sigOf] at h
    zju := fun u x q h => by simp [sigOf] at h
    zjw := fun u x q h => by simp [sigOf] at h
    zjs := fun u x q h => by simp [sigOf] at h
    zmk := fun l q h => by simp [sigOf] at h
    zst := fun u y k xs h => by simp [sigOf] at h
    gru := fun u y g h => by simp [sigOf] at h
    grmu := fun g q h => by simp [sigOf] at h
    grg := fun g q h => by simp [sigOf] at h
    mru := fun u y g h => by simp [sigOf] at h
    mrmu := fun g q h => by simp [sigOf] at h
    mfu := fun u y es h => by simp [sigOf] at h
    mfmu := fun es q h => by simp [sigOf] at h
    mkmt := fun t h => by simp [sigOf] at h
    mptt := fun t h => by simp [sigOf] at h
    nsl := fun k hk x j v h a n cap e => enc_nsl _ j v h a n cap e }

-- zones ------------------------------------------------------------------------------------------------------------------------
def ZJ (w : World) (β : Blk) : Prop :=
  (∀ a, β.z.lf a → a.block ∈ β.fp ∧ (w.cell? a).isSome = true ∧ w.frozen? a = false) ∧ (∀ a v, β.z.sl a v → a.block ∈ β.fp ∧ w.cell? a = some v) ∧ ∀ a v, β.z.lf a → ¬ β.z.sl a v
theorem ZJ.mono {w w' : World} {β : Blk} (h : ZJ w β) (hw : ∀ b ∈ β.fp, w'.heap[b]? = w.heap[b]?) : ZJ w' β := by
  refine ⟨fun a ha => ?_, fun a v ha => ?_, h.2.2⟩
  · obtain ⟨h1, h2, h3⟩ := h.1 a ha
    refine ⟨h1, ?_, ?_⟩
    · rw [← h2]; simp only [World.cell?, hw _ h1]
    · rw [← h3]; simp only [World.frozen?, hw _ h1]
  · obtain ⟨h1, h2⟩ := h.2.1 a v ha
    exact ⟨h1, by rw [← h2]; simp only [World.cell?, hw _ h1]⟩
theorem ZJ.set {w : World} {β : Blk} (h : ZJ w β) {a : Addr} (ha : β.z.lf a) (v : Value) : ZJ (w.setCell a v) β := by
  refine ⟨fun b hb => ?_, fun b u hb => ?_, h.2.2⟩
  · obtain ⟨h1, h2, h3⟩ := h.1 b hb
    refine ⟨h1, ?_, by rw [World.frozen?_setCell]; exact h3⟩
    by_cases e : a = b
    · subst e
      obtain ⟨u, hu⟩ := Option.isSome_iff_exists.1 h2
      rw [World.cell?_setCell_same _ _ _ hu]; rfl
    · rw [World.cell?_setCell_other _ _ _ _ e]; exact h2
  · obtain ⟨h1, h2⟩ := h.2.1 b u hb
    refine ⟨h1, ?_⟩
    have e : a ≠ b := fun e => by subst e; exact h.2.2 a u ha hb
    rw [World.cell?_setCell_other _ _ _ _ e]; exact h2

theorem add_inj {a : Addr} {x y : Nat} (h : a.add x = a.add y) : x = y := by
  have h := congrArg Addr.off h
  unfold Addr.add at h
  split at h <;> split at h <;> simp_all <;> omega
def UZ (T : Nat → Type) (zc : List Cd) : Nat → Type | 0 => denC T zc | _ + 1 => Unit
def URZ (P : Program) (tb : Tb) (zc : List Cd) : (u : Nat) → UZ tb.T zc u → World → Blk → Prop
  | 0, x, w, β => (∀ (j : Nat) (d : AV tb.T) (v : Value), (encC zc x)[j]? = some d → β.z.rt[j]? = some v →
      TR' tb.n (fun k x => encC (tb.kd k).cds ((tb.kd k).fro x)) (fun k => szT P (tb.kd k).E) w β.fp d v ∧ JR' tb.n (fun k x => encC (tb.kd k).cds ((tb.kd k).fro x)) (fun k => szT P (tb.kd k).E) β.z d v) ∧ ZJ w β
  | _ + 1, _, w, β => ZJ w β
def zrtF (tb : Tb) (zc : List Cd) : (u : Nat) → UZ tb.T zc u → List (AV tb.T) | 0, x => encC zc x | _ + 1, _ => []
def zmkF (tb : Tb) (zc : List Cd) (l : List (AV tb.T)) : Option ((u : Nat) × UZ tb.T zc u) := match decC zc l with | some x => some ⟨0, x⟩ | none => none
def zjnF (tb : Tb) (zc : List Cd) (u : Nat) (_ : UZ tb.T zc u) : Option ((u' : Nat) × UZ tb.T zc u') := match u with | 0 => some ⟨1, ()⟩ | 1 => some ⟨1, ()⟩ | _ => none

/-- a signature with zones: what lies in one, the functions that make one, those that write one -/
def sigZ (P : Program) (tb : Tb) (zc : List Cd) (zn jn : FuncId → Bool) (ini : TypeId → List Ini) (mode : FuncId → List Bool) (suf : TypeId → Bool := fun _ => false) (gl : Nat → Option (Value → Prop) := fun _ => none) (strict : Bool := false) : Sig :=
  { n := tb.n, T := tb.T, U := UZ tb.T zc, E := fun k => (tb.kd k).E, kd := fun e => tb.find e tb.n
    op := fun k x => encC (tb.kd k).cds ((tb.kd k).fro x)
    cl := fun k cs => match decC (tb.kd k).cds cs with | some d => some ((tb.kd k).to d) | none => none
    df := fun k => (tb.kd k).to (dfC _)
    mode := mode, fn := okFn P, UR := URZ P tb zc
    u8 := fun k => match (tb.kd k).cds with | [.int .u8] => true | _ => false
    mku := fun _ => none, ini := ini
    flat := fun k => flatC2 (tb.kd k).cds
    suf := suf, gl := gl, strict := strict
    rt := zrtF tb zc, zn := zn, mkz := zmkF tb zc, jn := jn, jnk := zjnF tb zc }

def zcOk (n : Nat) : List Cd → Bool
  | [] => true
  | .imm k :: l => decide (k < n) && zcOk n l
  | _ :: _ => false
theorem zcOk_imm {n : Nat} : ∀ {l : List Cd}, zcOk n l = true → ∀ k, Cd.imm k ∈ l → k < n
  | [], h, k, hk => by simp at hk
  | .imm a :: l, h, k, hk => by
    simp only [zcOk, Bool.and_eq_true, decide_eq_true_eq] at h
    rcases List.mem_cons.1 hk with e | hk
    · cases e; exact h.1
    · exact zcOk_imm h.2 k hk
  | .int _ :: l, h, k, hk => by simp [zcOk] at h
  | .bool :: l, h, k, hk => by simp [zcOk] at h
  | .str :: l, h, k, hk => by simp [zcOk] at h

theorem TR'_lit {T : Nat → Type} {n : Nat} {op : (k : Nat) → T k → List (AV T)} {es : Nat → Nat} {w w' : World} {fp : List Nat} {d : AV T} {u : Value} (hd : ∃ v, d = .lit v) (h : TR' n op es w fp d u) : TR' n op es w' fp d u := by
  obtain ⟨v, rfl⟩ := hd
  cases h; exact .lit _
theorem zst_z {zc : List Cd} (hz0 : zcOk tb.n zc = true) {k : Nat} (hk : k < tb.n) (hes0 : ∀ x, (encC (tb.kd k).cds ((tb.kd k).fro x)).length = szT P (tb.kd k).E) (hfl0 : ∀ x (j : Nat) (d : AV tb.T), (encC (tb.kd k).cds ((tb.kd k).fro x))[j]? = some d → ∃ v, d = .lit v)
    (u : Nat) (y : UZ tb.T zc u) (xs : List (tb.T k)) (hrt : zrtF tb zc u y = [.imm k xs]) (i off : Nat) (x x' : tb.T k) (v0 : Value) (hx : xs[i]? = some x) (hoff : off < (encC (tb.kd k).cds ((tb.kd k).fro x)).length) (hop : encC (tb.kd k).cds ((tb.kd k).fro x') = (encC (tb.kd k).cds ((tb.kd k).fro x)).set off (.lit v0))
    (q : (u : Nat) × UZ tb.T zc u) (hq : zmkF tb zc [.imm k (xs.set i x')] = some q) (w : World) (β : Blk) (ad : Addr) (n cap : Nat) (hu : URZ P tb zc u y w β) (hr : β.z.rt[0]? = some (.slice (some ad) n cap)) :
    (ad.add (i * szT P (tb.kd k).E + off)).block ∈ β.fp ∧ (w.cell? (ad.add (i * szT P (tb.kd k).E + off))).isSome = true ∧ w.frozen? (ad.add (i * szT P (tb.kd k).E + off)) = false ∧ ∀ w', (∀ b ∈ β.fp, w'.heap[b]? = (w.setCell (ad.add (i * szT P (tb.kd k).E + off)) v0).heap[b]?) → URZ P tb zc q.1 q.2 w' β := by
  match u, y, hrt, hu with
  | u + 1, y, hrt, hu => exact absurd hrt (by simp [zrtF])
  | 0, y, hrt, hu =>
  have hrt : encC zc y = [.imm k xs] := hrt
  obtain ⟨t1, t2⟩ := hu.1 0 (.imm k xs) _ (by rw [hrt]; rfl) hr
  have hi : i < xs.length := (List.getElem?_eq_some_iff.1 hx).1
  have hes : ∀ x, (encC (tb.kd k).cds ((tb.kd k).fro x)).length = szT P (tb.kd k).E := hes0
  have hfl' : ∀ x (j : Nat) (d : AV tb.T), (encC (tb.kd k).cds ((tb.kd k).fro x))[j]? = some d → ∃ v, d = .lit v := hfl0
  have hop : encC (tb.kd k).cds ((tb.kd k).fro x') = (encC (tb.kd k).cds ((tb.kd k).fro x)).set off (.lit v0) := hop
  have hoff' : off < (encC (tb.kd k).cds ((tb.kd k).fro x)).length := hoff
  obtain ⟨w0, hw0⟩ := hfl' x off _ (List.getElem?_eq_getElem hoff')
  have hx0 : (encC (tb.kd k).cds ((tb.kd k).fro x))[off]? = some (.lit w0) := by rw [← hw0]; exact List.getElem?_eq_getElem hoff'
  cases t1 with
  | imm _ _ _ _ f hk1 hcap hc hv =>
  cases t2 with
  | imm _ _ _ _ g hk2 hcap2 hl hs2 hv2 =>
  obtain ⟨ad', e1, hlf⟩ := hl i x hx off w0 hx0
  cases e1
  obtain ⟨hb, hcell, hfr⟩ := hu.2.1 _ hlf
  refine ⟨hb, hcell, hfr, fun w' hw => ?_⟩
  have hz := (hu.2.set hlf v0).mono hw
  have hq : zmkF tb zc [.imm k (xs.set i x')] = some q := hq
  unfold zmkF at hq
  split at hq
  · rename_i y' hy'
    cases hq
    refine ⟨fun j d v hd hv3 => ?_, hz⟩
    have hd : (encC zc y')[j]? = some d := hd
    have hl1 : (encC zc y').length = 1 := by
      have a1 : (encC zc y).length = 1 := congrArg List.length hrt
      have a2 : (encC zc y).length = zc.length := encC_len zc y
      have a3 : (encC zc y').length = zc.length := encC_len zc y'
      omega
    have hj : j = 0 := by
      have := (List.getElem?_eq_some_iff.1 hd).1
      omega
    subst hj
    rw [hr] at hv3; cases hv3
    rcases decC_enc (zcOk_imm hz0) hy' 0 _ _ rfl hd with e | ⟨e, _⟩
    · subst e
      have hset : ∀ (r : Nat) (z : tb.T k), (xs.set i x')[r]? = some z → (r = i ∧ z = x') ∨ (r ≠ i ∧ xs[r]? = some z) := fun r z h => by
        by_cases e : i = r
        · subst e; rw [List.getElem?_set_self hi] at h; cases h; exact .inl ⟨rfl, rfl⟩
        · rw [List.getElem?_set_ne e] at h; exact .inr ⟨Ne.symm e, h⟩
      have hlen : (xs.set i x').length = xs.length := List.length_set
      have apart : ∀ (r j : Nat), j < szT P (tb.kd k).E → (r ≠ i ∨ j ≠ off) → ad.add (i * szT P (tb.kd k).E + off) ≠ ad.add (r * szT P (tb.kd k).E + j) := fun r j hj hne e => by
        have ho2 : off < szT P (tb.kd k).E := by rw [← hes x]; exact hoff'
        have e2 := add_inj e
        rcases Nat.lt_trichotomy r i with h | h | h
        · have : (r + 1) * szT P (tb.kd k).E ≤ i * szT P (tb.kd k).E := Nat.mul_le_mul_right _ h
          rw [Nat.add_mul] at this; omega
        · subst h; omega
        · have : (i + 1) * szT P (tb.kd k).E ≤ r * szT P (tb.kd k).E := Nat.mul_le_mul_right _ h
          rw [Nat.add_mul] at this; omega
      have other : ∀ (r j : Nat) (v : Value), j < szT P (tb.kd k).E → (r ≠ i ∨ j ≠ off) → ad.block ∈ β.fp → w.cell? (ad.add (r * szT P (tb.kd k).E + j)) = some v → w'.cell? (ad.add (r * szT P (tb.kd k).E + j)) = some v := fun r j v hj hne hb2 hc2 => by
        have h1 : (w.setCell (ad.add (i * szT P (tb.kd k).E + off)) v0).cell? (ad.add (r * szT P (tb.kd k).E + j)) = some v := by
          rw [World.cell?_setCell_other _ _ _ _ (apart r j hj hne)]; exact hc2
        exact cell_block h1 (hw _ (by rw [add_block]; exact hb2))
      have self : w'.cell? (ad.add (i * szT P (tb.kd k).E + off)) = some v0 := by
        obtain ⟨u, hu⟩ := Option.isSome_iff_exists.1 hcell
        have h1 : (w.setCell (ad.add (i * szT P (tb.kd k).E + off)) v0).cell? (ad.add (i * szT P (tb.kd k).E + off)) = some v0 := World.cell?_setCell_same _ _ _ hu
        exact cell_block h1 (hw _ hb)
      have hlt : ∀ (z : tb.T k) (j : Nat) (d : AV tb.T), (encC (tb.kd k).cds ((tb.kd k).fro z))[j]? = some d → j < szT P (tb.kd k).E := fun z j d hd => by
        rw [← hes z]; exact (List.getElem?_eq_some_iff.1 hd).1
      have hnew : ∀ (j : Nat) (d : AV tb.T), (encC (tb.kd k).cds ((tb.kd k).fro x'))[j]? = some d → (j = off ∧ d = .lit v0) ∨ (j ≠ off ∧ (encC (tb.kd k).cds ((tb.kd k).fro x))[j]? = some d) := fun j d hd => by
        rw [hop] at hd
        by_cases e : off = j
        · subst e; rw [List.getElem?_set_self hoff'] at hd; cases hd; exact .inl ⟨rfl, rfl⟩
        · rw [List.getElem?_set_ne e] at hd; exact .inr ⟨Ne.symm e, hd⟩
      constructor
      · have key := TR'.imm (n := tb.n) (op := fun k x => encC (tb.kd k).cds ((tb.kd k).fro x)) (es := fun k => szT P (tb.kd k).E) (w := w') (fp := β.fp) k (xs.set i x') (some ad) cap (fun r j => if r = i ∧ j = off then v0 else f r j) hk1 (by rw [hlen]; exact hcap) (fun r z hz2 j d hd2 => by
          have hjl := hlt z j d hd2
          rcases hset r z hz2 with ⟨rfl, rfl⟩ | ⟨h1, h2⟩
          · rcases hnew j d hd2 with ⟨rfl, -⟩ | ⟨h3, h4⟩
            · rw [if_pos ⟨rfl, rfl⟩]; exact ⟨ad, rfl, by rw [add_block] at hb; exact hb, self⟩
            · rw [if_neg fun h => h3 h.2]
              obtain ⟨ad', e1, b1, c1⟩ := hc r x hx j d h4
              cases e1
              exact ⟨ad, rfl, b1, other r j _ hjl (.inr h3) b1 c1⟩
          · rw [if_neg fun h => h1 h.1]
            obtain ⟨ad', e1, b1, c1⟩ := hc r z h2 j d hd2
            cases e1
            exact ⟨ad, rfl, b1, other r j _ hjl (.inl h1) b1 c1⟩) (fun r z hz2 j d hd2 => by
          rcases hset r z hz2 with ⟨rfl, rfl⟩ | ⟨h1, h2⟩
          · rcases hnew j d hd2 with ⟨rfl, rfl⟩ | ⟨h3, h4⟩
            · rw [if_pos ⟨rfl, rfl⟩]; exact .lit _
            · rw [if_neg fun h => h3 h.2]; exact TR'_lit (hfl' _ _ _ h4) (hv r x hx j d h4)
          · rw [if_neg fun h => h1 h.1]; exact TR'_lit (hfl' _ _ _ hd2) (hv r z h2 j d hd2))
        rw [hlen] at key
        exact key
      · have key := JR'.imm (n := tb.n) (op := fun k x => encC (tb.kd k).cds ((tb.kd k).fro x)) (es := fun k => szT P (tb.kd k).E) (z := β.z) k (xs.set i x') (some ad) cap g hk2 (by rw [hlen]; exact hcap2) (fun r z hz2 j v hd2 => by
          rcases hset r z hz2 with ⟨rfl, rfl⟩ | ⟨h1, h2⟩
          · rcases hnew j _ hd2 with ⟨rfl, -⟩ | ⟨h3, h4⟩
            · exact ⟨ad, rfl, hlf⟩
            · exact hl r x hx j v h4
          · exact hl r z h2 j v hd2) (fun r z hz2 j k' ys hd2 => by obtain ⟨v, e⟩ := hfl' z j _ hd2; cases e) (fun r z hz2 j k' ys hd2 => by obtain ⟨v, e⟩ := hfl' z j _ hd2; cases e)
        rw [hlen] at key
        exact key
    · cases e
  · cases hq

theorem laws_z {zc : List Cd} {zn jn : FuncId → Bool} (h : tbOk P tb tb.n = true) (hz0 : zcOk tb.n zc = true) : Laws P (sigZ P tb zc zn jn ini mode suf gl strict) :=
  have B : Laws P (sigOf P tb (fun _ => Unit) (fun _ _ _ _ => False) (fun _ => none) ini mode suf gl strict) := laws_of h (fun e q h => by cases h)
  { kd := B.kd, len := B.len, pos := B.pos, bytes := B.bytes, leaf := B.leaf, cl := B.cl, cln := B.cln, flat := B.flat, u8 := B.u8, b8 := B.b8, df := B.df, nsl := B.nsl
    mku := fun e q h => by simp [sigZ] at h
    zrt := fun u x w β hu j d v hd hv => by
      cases u with
      | zero => exact (hu.1 j d v hd hv).1
      | succ u =>
        have hd : ([] : List (AV tb.T))[j]? = some d := hd
        rw [List.getElem?_nil] at hd; cases hd
    zrj := fun u x q hq w β hu j d v hd hv => by
      cases u with
      | zero => exact (hu.1 j d v hd hv).2
      | succ u =>
        have hd : ([] : List (AV tb.T))[j]? = some d := hd
        rw [List.getElem?_nil] at hd; cases hd
    mkg := fun t e h => by simp [sigZ] at h
    ztt := fun _ _ _ _ => rfl
    tst := fun _ _ => rfl
    zju := fun u x q hq w β hu w' hw => by
      match u, x, hq, hu with
      | 0, x, hq, hu => cases hq; exact hu.2.mono hw
      | 1, x, hq, hu => cases hq; exact ZJ.mono hu hw
      | u + 2, x, hq, hu => exact absurd (show none = some q from hq) (by simp)
    zjw := fun u x q hq w β hu a ha => by
      match u, x, hq, hu with
      | 0, x, hq, hu =>
        cases hq
        obtain ⟨h1, h2, h3⟩ := hu.2.1 a ha
        exact ⟨h1, h2, h3, fun v w' hw => (hu.2.set ha v).mono hw⟩
      | 1, x, hq, hu =>
        cases hq
        obtain ⟨h1, h2, h3⟩ := hu.1 a ha
        exact ⟨h1, h2, h3, fun v w' hw => (ZJ.set hu ha v).mono hw⟩
      | u + 2, x, hq, hu => exact absurd (show none = some q from hq) (by simp)
    zjs := fun u x q hq w β hu a v ha => by
      match u, x, hq, hu with
      | 0, x, hq, hu => exact (hu.2.2.1 a v ha).2
      | 1, x, hq, hu => exact (hu.2.1 a v ha).2
      | u + 2, x, hq, hu => exact absurd (show none = some q from hq) (by simp)
    gru := fun u y g h => by simp [sigZ] at h
    grmu := fun g q h => by simp [sigZ] at h
    grg := fun g q h => by simp [sigZ] at h
    mru := fun u y g h => by simp [sigZ] at h
    mrmu := fun g q h => by simp [sigZ] at h
    mfu := fun u y es h => by simp [sigZ] at h
    mfmu := fun es q h => by simp [sigZ] at h
    mkmt := fun t h => by simp [sigZ] at h
    mptt := fun t h => by simp [sigZ] at h
    zst := fun u y k xs hrt hfl hk i off x x' v0 hx hoff hop q hq w β ad n cap hu hr => zst_z hz0 hk (fun x => B.len k hk x) (fun x j d hd => B.flat k hfl x j d hd) u y xs hrt i off x x' v0 hx hoff hop q hq w β ad n cap hu hr
    zmk := fun l q hq w β hr hl h1 h2 h3 w' hw => by
      simp only [sigZ, zmkF] at hq
      split at hq
      · rename_i x hx
        cases hq
        refine ⟨fun j d v hd hv => ?_, ZJ.mono ⟨h1, h2, h3⟩ hw⟩
        have hlt : j < l.length := by rw [← hr]; exact (List.getElem?_eq_some_iff.1 hv).1
        have he : l[j]? = some l[j] := List.getElem?_eq_getElem hlt
        obtain ⟨t1, t2⟩ := hl j _ v he hv
        rcases decC_enc (zcOk_imm hz0) hx j _ _ he hd with e | ⟨e, _⟩
        · rw [e] at t1 t2; exact ⟨t1.mono hw, t2⟩
        · rw [e] at t2; cases t2
      · cases hq }

theorem fnok_z {zc : List Cd} {zn jn : FuncId → Bool} : FnOK P (sigZ P tb zc zn jn ini mode suf gl strict) := ⟨fun f hf => by
  simp only [sigZ, okFn] at hf
  split at hf
  · rename_i fn hfn
    simp only [Bool.and_eq_true, Bool.not_eq_true'] at hf
    exact ⟨fn, hfn, hf.1, hf.2⟩
  · cases hf⟩

theorem fnok_of : FnOK P (sigOf P tb U UR mku ini mode suf gl strict) := ⟨fun f hf => by
  simp only [sigOf, okFn] at hf
  split at hf
  · rename_i fn hfn
    simp only [Bool.and_eq_true, Bool.not_eq_true'] at hf
    exact ⟨fn, hfn, hf.1, hf.2⟩
  · cases hf⟩
end Go.Proofs.Ytjfmfpnnjgfffaa.Am
