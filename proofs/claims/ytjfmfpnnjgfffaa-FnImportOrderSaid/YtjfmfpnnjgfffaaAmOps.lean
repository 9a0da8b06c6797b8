/- The abstract machine: values and single operations. -/
import Derived.Test.YtjfmfpnnjgfffaaAmRel
import Derived.Laws.Sem
import Derived.Laws.AppendOwn
import Derived.Laws.MakeOwn
namespace Go.Proofs.Ytjfmfpnnjgfffaa.Am
open Go
set_option autoImplicit false
set_option linter.unusedVariables false
set_option linter.unusedSectionVars false

/-- a row in a cell of a grown row -/
def InR (P : Program) (G : Sig) (w : World) (ob : Option Nat) (k : Nat) (v : Value) (ys : List (G.T k)) : Prop :=
  (ys = [] ∧ ob = none ∧ ∃ a, v = .slice a 0 0 ∧ (G.strict = true → a = none)) ∨ ∃ bi cs cap, ob = some bi ∧ v = .slice (some ⟨bi, 0, none⟩) ys.length cap ∧ ys.length ≤ cap ∧ w.heap[bi]? = some (.cells cs (G.E k) (0, 0)) ∧ cap * esz P G k ≤ cs.size ∧
    ∀ (q : Nat) (y : G.T k), ys[q]? = some y → ∀ (j : Nat) (d : AV G.T), (G.op k y)[j]? = some d → ∃ u, d = .lit u ∧ cs[q * esz P G k + j]? = some u
/-- a grown row -/
structure GR (P : Program) (G : Sig) (g : Grw G.T) (w : World) (β : Blk) (b : Nat) (bl : Nat → Option Nat) : Prop where
  hk : g.k < G.n
  hK : g.K < G.n
  one : esz P G g.K = 1
  flat : G.flat g.k = true
  nt : G.tight g.k = false
  tok : β.z.tok = g.tok
  len : β.z.hs.length = g.xs.length
  head : ∃ cap, g.xs.length ≤ cap ∧ β.z.rt[0]? = some (.slice (some ⟨b, 0, none⟩) g.xs.length cap)
  outb : b ∈ β.fp
  cells : ∃ cs, w.heap[b]? = some (.cells cs (G.E g.K) (0, 0)) ∧ g.xs.length ≤ cs.size ∧ ∀ (i : Nat) (v : Value), β.z.hs[i]? = some v → cs[i]? = some v
  inj : ∀ i j bi, i ≠ j → bl i = some bi → bl j ≠ some bi
  inb : ∀ i bi, bl i = some bi → bi ∈ β.fp ∧ bi ≠ b
  inn : ∀ (i : Nat) (v : Value) (ys : List (G.T g.k)), β.z.hs[i]? = some v → g.xs[i]? = some ys → g.hl ≠ some i → InR P G w (bl i) g.k v ys
theorem InR.mono {P : Program} {G : Sig} {w w' : World} {ob : Option Nat} {k : Nat} {v : Value} {ys : List (G.T k)} (h : InR P G w ob k v ys) (hw : ∀ bi, ob = some bi → w'.heap[bi]? = w.heap[bi]?) : InR P G w' ob k v ys := by
  rcases h with h | ⟨bi, cs, cap, h1, h2, h3, h4, h5⟩
  · exact .inl h
  · exact .inr ⟨bi, cs, cap, h1, h2, h3, (hw bi h1).trans h4, h5⟩
theorem GR.mono {P : Program} {G : Sig} {g : Grw G.T} {w w' : World} {β : Blk} {b : Nat} {bl : Nat → Option Nat} (h : GR P G g w β b bl) (hw : ∀ b ∈ β.fp, w'.heap[b]? = w.heap[b]?) : GR P G g w' β b bl :=
  { h with
    cells := by
      obtain ⟨cs, h1, h2⟩ := h.cells
      exact ⟨cs, (hw b h.outb).trans h1, h2⟩
    inn := fun i v ys h1 h2 h3 => (h.inn i v ys h1 h2 h3).mono fun bi hb => hw bi (h.inb i bi hb).1 }

/-- the entries of a map -/
def MapAt (w : World) (bm : Nat) (es : List (ByteArray × Int)) : Prop :=
  ∃ E clock, w.heap[bm]? = some (.map E clock) ∧ E.toList.map (fun e => (e.key, e.val)) = es.map fun p => (Value.string p.1, Value.int .i64 p.2)
/-- a map in a cell of a row of maps -/
def InM (w : World) (ob : Option Nat) (v : Value) : Option (List (ByteArray × Int)) → Prop
  | none => ob = none ∧ v = .map none
  | some es => ∃ bm, ob = some bm ∧ v = .map (some bm) ∧ MapAt w bm es
theorem MapAt.mono {w w' : World} {bm : Nat} {es : List (ByteArray × Int)} (h : MapAt w bm es) (hw : w'.heap[bm]? = w.heap[bm]?) : MapAt w' bm es := by
  obtain ⟨E, k, h1, h2⟩ := h
  exact ⟨E, k, hw.trans h1, h2⟩
theorem InM.mono {w w' : World} {ob : Option Nat} {v : Value} {x : Option (List (ByteArray × Int))} (h : InM w ob v x) (hw : ∀ bm, ob = some bm → w'.heap[bm]? = w.heap[bm]?) : InM w' ob v x := by
  cases x with
  | none => exact h
  | some es => obtain ⟨bm, h1, h2, h3⟩ := h; exact ⟨bm, h1, h2, h3.mono (hw bm h1)⟩
/-- a row of maps -/
structure MR (P : Program) (G : Sig) (g : Mrw) (w : World) (β : Blk) (b : Nat) (bl : Nat → Option Nat) : Prop where
  one : esz P G G.k1 = 1
  tok : β.z.tok = g.tok
  len : β.z.hs.length = g.xs.length
  head : ∃ cap, g.xs.length ≤ cap ∧ β.z.rt[0]? = some (.slice (some ⟨b, 0, none⟩) g.xs.length cap)
  outb : b ∈ β.fp
  cells : ∃ cs e, w.heap[b]? = some (.cells cs e (0, 0)) ∧ g.xs.length ≤ cs.size ∧ ∀ (i : Nat) (v : Value), β.z.hs[i]? = some v → cs[i]? = some v
  inj : ∀ i j bi, i ≠ j → bl i = some bi → bl j ≠ some bi
  inb : ∀ i bi, bl i = some bi → bi ∈ β.fp ∧ bi ≠ b
  inn : ∀ (i : Nat) (v : Value) (x : Option (List (ByteArray × Int))), β.z.hs[i]? = some v → g.xs[i]? = some x → InM w (bl i) v x
theorem MR.mono {P : Program} {G : Sig} {g : Mrw} {w w' : World} {β : Blk} {b : Nat} {bl : Nat → Option Nat} (h : MR P G g w β b bl) (hw : ∀ b ∈ β.fp, w'.heap[b]? = w.heap[b]?) : MR P G g w' β b bl :=
  { h with
    cells := by
      obtain ⟨cs, e, h1, h2⟩ := h.cells
      exact ⟨cs, e, (hw b h.outb).trans h1, h2⟩
    inn := fun i v x h1 h2 => (h.inn i v x h1 h2).mono fun bi hb => hw bi (h.inb i bi hb).1 }
/-- a map of one's own -/
def MF (w : World) (β : Blk) (bm : Nat) (es : List (ByteArray × Int)) : Prop := bm ∈ β.fp ∧ β.z.rt[0]? = some (.map (some bm)) ∧ MapAt w bm es
theorem MF.mono {w w' : World} {β : Blk} {bm : Nat} {es : List (ByteArray × Int)} (h : MF w β bm es) (hw : ∀ b ∈ β.fp, w'.heap[b]? = w.heap[b]?) : MF w' β bm es := ⟨h.1, h.2.1, h.2.2.mono (hw bm h.1)⟩

/-- what is told of the kinds -/
structure Laws (P : Program) (G : Sig) : Prop where
  kd : ∀ e k, G.kd e = some k → k < G.n ∧ G.E k = e
  len : ∀ k, k < G.n → ∀ x, (G.op k x).length = esz P G k
  pos : ∀ k, k < G.n → 0 < esz P G k
  bytes : ∀ k, k < G.n → ∃ i, P.info? (G.E k) = some i ∧ 0 < i.bytes ∧ i.bytes ≤ 1024
  leaf : ∀ k, k < G.n → ∀ x (j : Nat) (d : AV G.T), (G.op k x)[j]? = some d → (∃ v, d = .lit v ∧ v.oneCell' = true) ∨ ∃ k' ys, d = .imm k' ys ∧ k' < G.n
  cl : ∀ k, k < G.n → ∀ cs x, G.cl k cs = some x → ∀ (j : Nat) (d e : AV G.T), cs[j]? = some d → (G.op k x)[j]? = some e → d = e ∨ (d = .nil0 ∧ ∃ k', k' < G.n ∧ e = .imm k' [])
  cln : ∀ k, k < G.n → ∀ cs x, G.cl k cs = some x → cs.length = esz P G k
  flat : ∀ k, G.flat k = true → ∀ x (j : Nat) (d : AV G.T), (G.op k x)[j]? = some d → ∃ v, d = .lit v
  u8 : ∀ k, G.u8 k = true → ∀ y, ∃ n, G.op k y = [.lit (.int .u8 n)]
  b8 : ∀ k, G.u8 k = true → ∀ n, ∃ x, G.cl k [.lit (.int .u8 n)] = some x
  mku : ∀ e q, G.mku e = some q → ∀ z, (zeroT P G e).bind flatC = some z → ∀ (F : Nat → Prop) (c : Cf G) (β : Blk), ObjR P G F c β (.box e z) → ObjR P G F c β (.usr q.1 q.2)
  zrt : ∀ u (x : G.U u) w β, G.UR u x w β → ∀ (j : Nat) (d : AV G.T) (v : Value), (G.rt u x)[j]? = some d → β.z.rt[j]? = some v → TR P G w β.fp d v
  zrj : ∀ u (x : G.U u) q, G.jnk u x = some q → ∀ w β, G.UR u x w β → ∀ (j : Nat) (d : AV G.T) (v : Value), (G.rt u x)[j]? = some d → β.z.rt[j]? = some v → JR P G β.z d v
  mkg : ∀ t e, G.mkg t = some e → kindOfSlice P G t = some e.1 ∧ G.tight e.2 = false ∧ e.2 < G.n ∧ G.flat e.2 = true ∧ G.op e.1 (G.df e.1) = [.imm e.2 []]
  ztt : ∀ u (x : G.U u), G.rt u x ≠ [] → ∀ k, G.tight k = false
  tst : G.strict = true → ∀ k, G.tight k = false
  zju : ∀ u (x : G.U u) q, G.jnk u x = some q → ∀ w β, G.UR u x w β → ∀ w', (∀ b ∈ β.fp, w'.heap[b]? = w.heap[b]?) → G.UR q.1 q.2 w' β
  zjw : ∀ u (x : G.U u) q, G.jnk u x = some q → ∀ w β, G.UR u x w β → ∀ (a : Addr), β.z.lf a → a.block ∈ β.fp ∧ (w.cell? a).isSome = true ∧ w.frozen? a = false ∧ ∀ v w', (∀ b ∈ β.fp, w'.heap[b]? = (w.setCell a v).heap[b]?) → G.UR q.1 q.2 w' β
  zjs : ∀ u (x : G.U u) q, G.jnk u x = some q → ∀ w β, G.UR u x w β → ∀ (a : Addr) v, β.z.sl a v → w.cell? a = some v
  zmk : ∀ (l : List (AV G.T)) q, G.mkz l = some q → ∀ (w : World) (β : Blk), β.z.rt.length = l.length → (∀ (j : Nat) (d : AV G.T) (v : Value), l[j]? = some d → β.z.rt[j]? = some v → TR P G w β.fp d v ∧ JR P G β.z d v) →
    (∀ a, β.z.lf a → a.block ∈ β.fp ∧ (w.cell? a).isSome = true ∧ w.frozen? a = false) → (∀ a v, β.z.sl a v → a.block ∈ β.fp ∧ w.cell? a = some v) → (∀ a v, β.z.lf a → ¬ β.z.sl a v) → ∀ w', (∀ b ∈ β.fp, w'.heap[b]? = w.heap[b]?) → G.UR q.1 q.2 w' β
  zst : ∀ u (y : G.U u) (k : Nat) (xs : List (G.T k)), G.rt u y = [.imm k xs] → G.flat k = true → k < G.n → ∀ (i off : Nat) (x x' : G.T k) (v0 : Value), xs[i]? = some x → off < (G.op k x).length → G.op k x' = (G.op k x).set off (.lit v0) →
    ∀ q, G.mkz [.imm k (xs.set i x')] = some q → ∀ (w : World) (β : Blk) (ad : Addr) (n cap : Nat), G.UR u y w β → β.z.rt[0]? = some (.slice (some ad) n cap) →
    (ad.add (i * esz P G k + off)).block ∈ β.fp ∧ (w.cell? (ad.add (i * esz P G k + off))).isSome = true ∧ w.frozen? (ad.add (i * esz P G k + off)) = false ∧ ∀ w', (∀ b ∈ β.fp, w'.heap[b]? = (w.setCell (ad.add (i * esz P G k + off)) v0).heap[b]?) → G.UR q.1 q.2 w' β
  gru : ∀ u (y : G.U u) g, G.gr u y = some g → ∀ w β, G.UR u y w β → ∃ b bl, GR P G g w β b bl
  grmu : ∀ g q, G.grm g = some q → ∀ w β b bl, GR P G g w β b bl → G.UR q.1 q.2 w β
  grg : ∀ g q, G.grm g = some q → G.gr q.1 q.2 = some g
  mru : ∀ u (y : G.U u) g, G.mr u y = some g → ∀ w β, G.UR u y w β → ∃ b bl, MR P G g w β b bl
  mrmu : ∀ g q, G.mrm g = some q → ∀ w β b bl, MR P G g w β b bl → G.UR q.1 q.2 w β
  mfu : ∀ u (y : G.U u) es, G.mf u y = some es → ∀ w β, G.UR u y w β → ∃ bm, MF w β bm es
  mfmu : ∀ es q, G.mfm es = some q → ∀ w β bm, MF w β bm es → G.UR q.1 q.2 w β
  mkmt : ∀ t, G.mkm t = true → esz P G G.k1 = 1 ∧ ∃ e ii, P.underlying t = some (.slice e) ∧ P.info? e = some ii ∧ ii.zero = some (.map none) ∧ ii.size = 1 ∧ 0 < ii.bytes ∧ ii.bytes ≤ 1024
  mptt : ∀ t, G.mpt t = true → ∃ ke ve, P.underlying t = some (.map ke ve) ∧ P.underlying ke = some .string ∧ (P.info? ve).bind (·.zero) = some (.int .i64 0)
  nsl : ∀ k, k < G.n → ∀ x (j : Nat) (v : Value), (G.op k x)[j]? = some (.lit v) → ∀ a n cap, v ≠ .slice a n cap
  df : ∀ k, k < G.n → ∃ z : Value, (P.info? (G.E k)).bind (·.zero) = some z ∧ z.cells.size = esz P G k ∧ ∀ (j : Nat) (v : Value) (d : AV G.T), z.cells[j]? = some v → (G.op k (G.df k))[j]? = some d → d = litOf v ∨ ((litOf v : AV G.T) = .nil0 ∧ ∃ k', k' < G.n ∧ d = .imm k' [])

section
variable {P : Program} {G : Sig}

theorem lit1_rel (F : Nat → Prop) (c : Cf G) (v : Value) : VR P G F c (lit1 v) v := by
  unfold lit1
  split
  · exact .nil0 _ fun _ => rfl
  · exact .undef _
  · exact .undef _
  · exact .lit _
theorem litOf_rel (F : Nat → Prop) (c : Cf G) (v : Value) : VR P G F c (litOf v) v := by
  unfold litOf
  split
  · rename_i cs
    refine .agg _ _ (by simp) fun i d v hd hv => ?_
    simp only [List.getElem?_map, Option.map_eq_some_iff] at hd
    obtain ⟨u, hu, rfl⟩ := hd
    have : u = v := by
      have h1 : cs[i]? = some u := by simpa using hu
      rw [h1] at hv; exact Option.some.inj hv
    subst this
    exact lit1_rel _ _ _
  · exact lit1_rel _ _ _

/-- slots and temporaries -/
def Slots (P : Program) (G : Sig) (F : Nat → Prop) (c : Cf G) (ss : List (AV G.T)) (a : Act) : Prop :=
  ss.length = a.tmps.size ∧ ∀ (t : Nat) (d : AV G.T) (v : Value), ss[t]? = some d → a.tmps[t]? = some v → VR P G F c d v

theorem opnd_rel {F : Nat → Prop} {c : Cf G} {ss : List (AV G.T)} {a : Act} {os : List (AObj G.T G.U)} (h : Slots P G F c ss a) (x : Operand) : VR P G F c (opnd G ⟨ss, os⟩ x) (a.eval x) := by
  cases x with
  | tmp t =>
    simp only [opnd, Act.eval]
    by_cases ht : t < ss.length
    · have ht' : t < a.tmps.size := h.1 ▸ ht
      have := h.2 t (ss[t]) (a.tmps[t]) (by simp [ht]) (by simp [ht'])
      simpa [List.getD, Array.getD, ht, ht'] using this
    · have : ss.getD t .undef = .undef := by simp [List.getD, List.getElem?_eq_none (Nat.le_of_not_lt ht)]
      rw [this]; exact .undef _
  | const v => exact litOf_rel _ _ _
  | global g => exact .undef _
  | func f => exact .clo f [] #[] rfl (by simp)

/-- calls of the abstract machine -/
def Nof (c : Cf G) (b : Nat) : Prop := b < c.w.heap.size ∧ ∀ (o : Nat) (obj : AObj G.T G.U) (β : Blk), c.os[o]? = some obj → c.m[o]? = some β → isMut obj = true → b ∉ β.fp

def SoundCall (P : Program) (G : Sig) (f : FuncId) (args : List (AV G.T)) (objs : List (AObj G.T G.U)) (r : AV G.T) (objs' : List (AObj G.T G.U)) : Prop :=
  ∀ (F : Nat → Prop) (w : World) (m : List Blk) (vals : List Value), OK P G F (Nof ⟨w, m, objs⟩) ⟨w, m, objs⟩ → args.length = vals.length →
    (∀ (i : Nat) (d : AV G.T) (v : Value), args[i]? = some d → vals[i]? = some v → VR P G F ⟨w, m, objs⟩ d v) →
    Calls P f vals.toArray w fun e w' => ∃ v m', e = .returned v ∧ Tr G F ⟨w, m, objs⟩ ⟨w', m', objs'⟩ ∧ OK P G F (Nof ⟨w, m, objs⟩) ⟨w', m', objs'⟩ ∧ VR P G F ⟨w', m', objs'⟩ r v

/-- what a tree of reads comes to -/
inductive Runs (P : Program) (G : Sig) (os : List (AObj G.T G.U)) {α : Type} : RdG G α → List Nat → α → Prop where
  | pure (a : α) : Runs P G os (.pure a) [] a
  | look (o : Nat) (k : AObj G.T G.U → RdG G α) (l : List Nat) (a : α) (h : Runs P G os (k (os.getD o .free)) l a) : Runs P G os (.look o k) (o :: l) a
  | test (k : RdG G α) (l : List Nat) (a : α) (h : Runs P G os k l a) : Runs P G os (.test true k) l a
  | call (f : FuncId) (args : List (AV G.T)) (objs : List (AObj G.T G.U)) (k : AV G.T → List (AObj G.T G.U) → RdG G α) (r : AV G.T) (objs' : List (AObj G.T G.U)) (l : List Nat) (a : α)
      (hs : SoundCall P G f args objs r objs') (h : Runs P G os (k r objs') l a) : Runs P G os (.call f args objs k) l a

variable {os : List (AObj G.T G.U)}

theorem Runs.pure_inv {α : Type} {a b : α} {l : List Nat} (h : Runs P G os (.pure a) l b) : b = a ∧ l = [] := by cases h; exact ⟨rfl, rfl⟩
theorem Runs.fail_inv {α : Type} {b : α} {l : List Nat} (h : Runs P G os (.fail : RdG G α) l b) : False := by cases h
theorem Runs.test_inv {α : Type} {t : Bool} {k : RdG G α} {b : α} {l : List Nat} (h : Runs P G os (.test t k) l b) : t = true ∧ Runs P G os k l b := by cases h; exact ⟨rfl, ‹_›⟩
theorem Runs.look_inv {α : Type} {o : Nat} {k : AObj G.T G.U → RdG G α} {b : α} {l : List Nat} (h : Runs P G os (.look o k) l b) : ∃ l', l = o :: l' ∧ Runs P G os (k (os.getD o .free)) l' b := by
  cases h; exact ⟨_, rfl, ‹_›⟩
theorem Runs.ofOpt_inv {α : Type} {x : Option α} {b : α} {l : List Nat} (h : Runs P G os (Rd.ofOpt x : RdG G α) l b) : x = some b ∧ l = [] := by
  cases x with
  | none => exact h.fail_inv.elim
  | some a => obtain ⟨rfl, rfl⟩ := h.pure_inv; exact ⟨rfl, rfl⟩
theorem Runs.bind_inv {α β : Type} {x : RdG G α} {f : α → RdG G β} {b : β} {l : List Nat} (h : Runs P G os (x.bind f) l b) : ∃ a l1 l2, l = l1 ++ l2 ∧ Runs P G os x l1 a ∧ Runs P G os (f a) l2 b := by
  induction x generalizing l with
  | pure a => exact ⟨a, [], l, rfl, .pure a, h⟩
  | fail => exact h.fail_inv.elim
  | test t k ih =>
    obtain ⟨rfl, h'⟩ := h.test_inv
    obtain ⟨a, l1, l2, rfl, h1, h2⟩ := ih h'
    exact ⟨a, l1, l2, rfl, .test k l1 a h1, h2⟩
  | look o k ih =>
    obtain ⟨l', rfl, h'⟩ := h.look_inv
    obtain ⟨a, l1, l2, rfl, h1, h2⟩ := ih _ h'
    exact ⟨a, o :: l1, l2, rfl, .look o k l1 a h1, h2⟩
  | call g args objs k ih =>
    cases h with
    | call _ _ _ _ r os' _ _ hs h =>
      obtain ⟨a, l1, l2, rfl, h1, h2⟩ := ih _ _ h
      exact ⟨a, l1, l2, rfl, .call g args objs k r os' l1 a hs h1, h2⟩

theorem castL_inv {T : Nat → Type} {k' k : Nat} {xs : List (T k')} {ys : List (T k)} (h : castL k' k xs = some ys) : ∃ e : k' = k, ys = e ▸ xs := by
  unfold castL at h
  split at h
  · rename_i e; subst e; exact ⟨rfl, (Option.some.inj h).symm⟩
  · cases h

end

end Go.Proofs.Ytjfmfpnnjgfffaa.Am
