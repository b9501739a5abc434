/- Laws about the machine's run of the program's functions, part 2, in import order. No condition. -/
import Derived.Orders
import Derived.Tactics
import Derived.Laws.Rows
import Derived.Laws.Tables
import Derived.Laws.AppendOwn
import Derived.WalkKit
import Derived.KernelRfl
import Derived.Test.YtnaafbdgkmlnaaaGreatProg

set_option linter.unusedVariables false
set_option linter.unusedSimpArgs false
set_option linter.unnecessarySimpa false
/- The abstract machine: what a value, a heap and a frame of the model are said to hold. -/
namespace Go.Proofs.YtnaafbdgkmlnaaaGreat
set_option linter.unusedVariables false
set_option linter.unusedSimpArgs false

/-- What is known of a value. 'sl': a slice that nobody writes; 'ref': one into a block that is written; 'pe', 'pf': a pointer to an element, a field of such a block; 'qe': a pointer to what nobody writes. -/
inductive AV where
  | any
  | int (k : IntKind) (n : Int)
  | bool (b : Bool)
  | str (s : ByteArray)
  | sl (sz : Nat) (xs : List (List AV))
  | nils
  | ref (id sz off n : Nat)
  | agg (xs : List AV)
  | tup (xs : List AV)
  | pe (id sz i : Nat)
  | pf (id sz i k : Nat)
  | qe (xs : List AV)
  | nilp
  | fn (f : FuncId) (cap : List AV)
  | nilf

/-- Which blocks of the world the heap's names stand for; which blocks nobody writes any more. -/
structure G where
  m : Nat → Option Nat
  I : Nat → Prop

def at2 {α : Type} (xs : List (List α)) (j k : Nat) : Option α := (xs[j]?).bind (·[k]?)

inductive RepV (g : G) (w : World) : AV → Value → Prop
  | any (v : Value) : RepV g w .any v
  | int (k : IntKind) (n : Int) : RepV g w (.int k n) (.int k n)
  | bool (b : Bool) : RepV g w (.bool b) (.bool b)
  | str (s : ByteArray) : RepV g w (.str s) (.string s)
  | sl0 (sz : Nat) (a : Option Addr) (c : Nat) : RepV g w (.sl sz []) (.slice a 0 c)
  | sl (sz : Nat) (xs : List (List AV)) (b o n c : Nat) (vs : Nat → Nat → Value) (hn : xs.length = n) (hb : g.I b) (hc : n ≤ c) (hs : ∀ x ∈ xs, x.length = sz)
      (h1 : ∀ j k x, at2 xs j k = some x → w.cell? ⟨b, o + j * sz + k, none⟩ = some (vs j k))
      (h2 : ∀ j k x, at2 xs j k = some x → RepV g w x (vs j k)) : RepV g w (.sl sz xs) (.slice (some ⟨b, o, none⟩) n c)
  | nils (a : Option Addr) : RepV g w .nils (.slice a 0 0)
  | ref (id sz off n b c : Nat) (cs : Array Value) (e : TypeId) (fz : Nat × Nat) (hm : g.m id = some b) (hc : n ≤ c) (hb : w.heap[b]? = some (.cells cs e fz)) (hs : (off + c) * sz ≤ cs.size) :
      RepV g w (.ref id sz off n) (.slice (some ⟨b, off * sz, none⟩) n c)
  | agg (xs : List AV) (vs : Array Value) (hl : xs.length = vs.size) (h : ∀ (k : Nat) (x : AV) (v : Value), xs[k]? = some x → vs[k]? = some v → RepV g w x v) : RepV g w (.agg xs) (.agg vs)
  | tup (xs : List AV) (vs : Array Value) (hl : xs.length = vs.size) (h : ∀ (k : Nat) (x : AV) (v : Value), xs[k]? = some x → vs[k]? = some v → RepV g w x v) : RepV g w (.tup xs) (.tuple vs)
  | pe (id sz i b : Nat) (hm : g.m id = some b) : RepV g w (.pe id sz i) (.pointer (some ⟨b, i * sz, none⟩))
  | pf (id sz i k b : Nat) (hm : g.m id = some b) : RepV g w (.pf id sz i k) (.pointer (some ⟨b, i * sz + k, none⟩))
  | qe (xs : List AV) (b o : Nat) (vs : Nat → Value) (hb : g.I b) (h1 : ∀ (k : Nat) (x : AV), xs[k]? = some x → w.cell? ⟨b, o + k, none⟩ = some (vs k)) (h2 : ∀ (k : Nat) (x : AV), xs[k]? = some x → RepV g w x (vs k)) :
      RepV g w (.qe xs) (.pointer (some ⟨b, o, none⟩))
  | nilp : RepV g w .nilp (.pointer none)
  | fn (f : FuncId) (xs : List AV) (vs : Array Value) (hl : xs.length = vs.size) (h : ∀ (k : Nat) (x : AV) (v : Value), xs[k]? = some x → vs[k]? = some v → RepV g w x v) : RepV g w (.fn f xs) (.func (.func f) #[] vs)
  | nilf : RepV g w .nilf .nilFunc

/-- What stays: names, blocks that nobody writes, sizes. -/
structure Le (g : G) (w : World) (g' : G) (w' : World) : Prop where
  m : ∀ id b, g.m id = some b → g'.m id = some b
  I : ∀ b, g.I b → g'.I b
  same : ∀ b, g.I b → w'.heap[b]? = w.heap[b]?
  sizes : ∀ (b : Nat) (cs : Array Value) (e : TypeId) (fz : Nat × Nat), w.heap[b]? = some (.cells cs e fz) → ∃ (cs' : Array Value) (fz' : Nat × Nat), w'.heap[b]? = some (.cells cs' e fz') ∧ cs'.size = cs.size

theorem Le.refl (g : G) (w : World) : Le g w g w := ⟨fun _ _ h => h, fun _ h => h, fun _ _ => rfl, fun _ cs _ fz h => ⟨cs, fz, h, rfl⟩⟩
theorem Le.trans {g g1 g2 : G} {w w1 w2 : World} (h : Le g w g1 w1) (k : Le g1 w1 g2 w2) : Le g w g2 w2 :=
  ⟨fun i b e => k.m i b (h.m i b e), fun b e => k.I b (h.I b e), fun b e => (k.same b (h.I b e)).trans (h.same b e), fun b cs e fz hb => by
    obtain ⟨cs1, fz1, h1, e1⟩ := h.sizes b cs e fz hb
    obtain ⟨cs2, fz2, h2, e2⟩ := k.sizes b cs1 e fz1 h1
    exact ⟨cs2, fz2, h2, e2.trans e1⟩⟩

theorem RepV.mono {g g' : G} {w w' : World} (hle : Le g w g' w') {x : AV} {v : Value} (h : RepV g w x v) : RepV g' w' x v := by
  induction h with
  | any v => exact .any v
  | int k n => exact .int k n
  | bool b => exact .bool b
  | str s => exact .str s
  | sl0 sz a c => exact .sl0 sz a c
  | sl sz xs b o n c vs hn hb hc hs h1 h2 ih =>
    exact .sl sz xs b o n c vs hn (hle.I b hb) hc hs (fun j k x hx => by rw [World.cell?_of_block (w := w) (hle.same b hb)]; exact h1 j k x hx) ih
  | nils a => exact .nils a
  | ref id sz off n b c cs e fz hm hc hb hs =>
    obtain ⟨cs', fz', h', e'⟩ := hle.sizes b cs e fz hb
    exact .ref id sz off n b c cs' e fz' (hle.m _ _ hm) hc h' (by omega)
  | agg xs vs hl h ih => exact .agg xs vs hl ih
  | tup xs vs hl h ih => exact .tup xs vs hl ih
  | pe id sz i b hm => exact .pe id sz i b (hle.m _ _ hm)
  | pf id sz i k b hm => exact .pf id sz i k b (hle.m _ _ hm)
  | qe xs b o vs hb h1 h2 ih => exact .qe xs b o vs (hle.I b hb) (fun k x hx => by rw [World.cell?_of_block (w := w) (hle.same b hb)]; exact h1 k x hx) ih
  | nilp => exact .nilp
  | fn f xs vs hl h ih => exact .fn f xs vs hl ih
  | nilf => exact .nilf

/-- A block that is written: its elements' type, how many cells each has, the elements that are told of. -/
structure Blk where
  e : TypeId
  sz : Nat
  rows : List (List AV)

abbrev Hp := Nat → Option Blk
def Hp.set (H : Hp) (a : Nat) (b : Blk) : Hp := fun c => if c = a then some b else H c
def Hp.del (H : Hp) (a : Nat) : Hp := fun c => if c = a then none else H c
def Hp.nil : Hp := fun _ => none
@[simp] theorem Hp.set_app (H : Hp) (a : Nat) (b : Blk) (c : Nat) : (H.set a b) c = if c = a then some b else H c := rfl
@[simp] theorem Hp.del_app (H : Hp) (a : Nat) (c : Nat) : (H.del a) c = if c = a then none else H c := rfl
@[simp] theorem Hp.nil_app (c : Nat) : Hp.nil c = none := rfl

structure RepB (g : G) (w : World) (k : Blk) (b : Nat) (cs : Array Value) : Prop where
  free : ¬ g.I b
  heap : w.heap[b]? = some (.cells cs k.e (0, 0))
  size : k.rows.length * k.sz ≤ cs.size
  len : ∀ x ∈ k.rows, x.length = k.sz
  rep : ∀ i j x, at2 k.rows i j = some x → ∃ v, cs[i * k.sz + j]? = some v ∧ RepV g w x v

/-- The state of the memory; 'B': the first name that stands for nothing yet. -/
structure StC (g : G) (H : Hp) (B : Nat) (w : World) : Prop where
  blk : ∀ id k, H id = some k → ∃ b cs, g.m id = some b ∧ RepB g w k b cs
  inj : ∀ id id' k k' b, H id = some k → H id' = some k' → g.m id = some b → g.m id' = some b → id = id'
  free : ∀ id, B ≤ id → g.m id = none
  inI : ∀ b, g.I b → b < w.heap.size

/-- Where a call began. -/
structure Ctx where
  w0 : World
  H0 : Hp
  g0 : G
  B0 : Nat

def Ctx.W (c : Ctx) (b : Nat) : Prop := ∃ id k, c.H0 id = some k ∧ c.g0.m id = some b

structure Base (c : Ctx) (g : G) (H : Hp) (B : Nat) (w : World) : Prop where
  os : w.os = c.w0.os
  tape : w.tape = c.w0.tape
  output : w.output = c.w0.output
  size : c.w0.heap.size ≤ w.heap.size
  same : ∀ b, b < c.w0.heap.size → ¬ c.W b → w.heap[b]? = c.w0.heap[b]?
  sizes : ∀ (b : Nat) (cs : Array Value) (e : TypeId) (fz : Nat × Nat), c.w0.heap[b]? = some (.cells cs e fz) → ∃ (cs' : Array Value) (fz' : Nat × Nat), w.heap[b]? = some (.cells cs' e fz') ∧ cs'.size = cs.size
  own : ∀ id k b, H id = some k → g.m id = some b → c.W b ∨ c.w0.heap.size ≤ b
  ids : ∀ id k, H id = some k → (∃ k', c.H0 id = some k') ∨ c.B0 ≤ id
  I0 : ∀ b, c.g0.I b → g.I b
  I1 : ∀ b, g.I b → c.g0.I b ∨ c.W b ∨ c.w0.heap.size ≤ b
  m0 : ∀ id b, c.g0.m id = some b → g.m id = some b
  m1 : ∀ id, id < c.B0 → g.m id = c.g0.m id
  bound : c.B0 ≤ B

structure StH (c : Ctx) (g : G) (H : Hp) (B : Nat) (w : World) : Prop extends StC g H B w, Base c g H B w

theorem Base.start (g : G) (H : Hp) (B : Nat) (w : World) : Base ⟨w, H, g, B⟩ g H B w where
  os := rfl
  tape := rfl
  output := rfl
  size := Nat.le_refl _
  same := fun _ _ _ => rfl
  sizes := fun _ cs _ fz h => ⟨cs, fz, h, rfl⟩
  own := fun id k b h hm => .inl ⟨id, k, h, hm⟩
  ids := fun id k h => .inl ⟨k, h⟩
  I0 := fun _ h => h
  I1 := fun _ h => .inl h
  m0 := fun _ _ h => h
  m1 := fun _ _ => rfl
  bound := Nat.le_refl _

end Go.Proofs.YtnaafbdgkmlnaaaGreat

/- The abstract machine: frames, what an operation does, code, calls: the rules of control. -/
namespace Go.Proofs.YtnaafbdgkmlnaaaGreat
set_option linter.unusedVariables false
set_option linter.unusedSimpArgs false

/-! ### Frames -/
abbrev Fr := Nat → AV
def Fr.nil : Fr := fun _ => .any
def Fr.set (F : Fr) (d : Nat) (v : AV) : Fr := fun t => if t = d then v else F t
@[simp] theorem Fr.set_app (F : Fr) (d : Nat) (v : AV) (t : Nat) : (F.set d v) t = if t = d then v else F t := rfl
@[simp] theorem Fr.nil_app (t : Nat) : Fr.nil t = .any := rfl
def Fr.put (F : Fr) (d : Option Nat) (v : AV) : Fr := match d with | some d => F.set d v | none => F
@[simp] theorem Fr.put_some (F : Fr) (d : Nat) (v : AV) : F.put (some d) v = F.set d v := rfl
@[simp] theorem Fr.put_none (F : Fr) (v : AV) : F.put none v = F := rfl

def constAV : Value → AV
  | .int k n => .int k n
  | .bool b => .bool b
  | .string s => .str s
  | .pointer none => .nilp
  | .slice none 0 0 => .nils
  | .nilFunc => .nilf
  | _ => .any
def Fr.ev (F : Fr) : Operand → AV
  | .tmp t => F t
  | .const v => constAV v
  | .func f => .fn f []
  | .global _ => .any

structure RepF (g : G) (w : World) (N : Nat) (F : Fr) (a : Act) : Prop where
  size : a.tmps.size = N
  defers : a.defers = []
  rep : ∀ t, RepV g w (F t) (a.tmps.getD t undef)

theorem RepF.mono {g g' : G} {w w' : World} {N : Nat} {F : Fr} {a : Act} (hle : Le g w g' w') (h : RepF g w N F a) : RepF g' w' N F a := ⟨h.size, h.defers, fun t => (h.rep t).mono hle⟩

theorem repConst (g : G) (w : World) (v : Value) : RepV g w (constAV v) v := by
  cases v <;> try exact .any _
  case int k n => exact .int k n
  case bool b => exact .bool b
  case string s => exact .str s
  case pointer a => cases a with | none => exact .nilp | some a => exact .any _
  case slice a n c =>
    cases a with
    | none => cases n with
      | zero => cases c with | zero => exact .nils none | succ c => exact .any _
      | succ n => exact .any _
    | some a => exact .any _
  case nilFunc => exact .nilf

theorem RepF.ev {g : G} {w : World} {N : Nat} {F : Fr} {a : Act} (h : RepF g w N F a) (x : Operand) : RepV g w (F.ev x) (a.eval x) := by
  cases x with
  | tmp t => exact h.rep t
  | const v => exact repConst g w v
  | global n => exact .any _
  | func f => exact .fn f [] #[] rfl (by simp)

theorem RepF.put {g : G} {w : World} {N : Nat} {F : Fr} {a : Act} (h : RepF g w N F a) {d : Option Nat} {v : AV} {cv : Value} (hv : RepV g w v cv) (hd : ∀ t, d = some t → t < N) : RepF g w N (F.put d v) (a.put d cv) := by
  cases d with
  | none => exact h
  | some d =>
    refine ⟨by simp [Act.put, h.size], h.defers, fun t => ?_⟩
    have hd' := hd d rfl
    by_cases ht : t = d
    · subst ht
      simp [Fr.put, Act.put, Array.getD_eq_getD_getElem?, h.size, hd', hv]
    · have := h.rep t
      simp only [Fr.put, Act.put, Fr.set, ht, if_false, Array.getD_eq_getD_getElem?] at this ⊢
      rw [Array.getElem?_setIfInBounds_ne (Ne.symm ht)]
      exact this

theorem RepF.weaken {g : G} {w : World} {N : Nat} {F F' : Fr} {a : Act} (h : RepF g w N F a) (hw : ∀ t, F' t = .any ∨ F' t = F t) : RepF g w N F' a :=
  ⟨h.size, h.defers, fun t => by rcases hw t with e | e <;> rw [e]; exact .any _; exact h.rep t⟩

/-! ### An operation -/
def Hp.app (H : Hp) (U : List (Nat × Option Blk)) : Hp := U.foldl (fun H p => match p.2 with | some b => H.set p.1 b | none => H.del p.1) H
@[simp] theorem Hp.app_nil (H : Hp) : H.app [] = H := rfl
@[simp] theorem Hp.app_some (H : Hp) (a : Nat) (b : Blk) (U : List (Nat × Option Blk)) : H.app ((a, some b) :: U) = (H.set a b).app U := rfl
@[simp] theorem Hp.app_none (H : Hp) (a : Nat) (U : List (Nat × Option Blk)) : H.app ((a, none) :: U) = (H.del a).app U := rfl

/-- What an operation does, told by what it reads of the heap (R), what it leaves there (U), how many names it gives out (B to B'), and its value. -/
def OpL (P : Program) (o : Oper) (F : Fr) (R : List (Nat × Blk)) (U : List (Nat × Option Blk)) (Bm B B' : Nat) (v : AV) : Prop :=
  ∀ (c : Ctx) (g : G) (H : Hp) (Bx Bx' : Nat) (w : World) (a : Act), (B < B' → Bx = B ∧ Bx' = B') → (B' = B → Bm ≤ Bx ∧ Bx' = Bx) → StH c g H Bx w →
    (∀ x ∈ o.op.operands, RepV g w (F.ev x) (a.eval x)) → (∀ p ∈ R, H p.1 = some p.2) →
    ∀ (next : Act → World → Prop) (Q : Exit → Act → World → Prop), (∀ g' w' cv, RepV g' w' v cv → StH c g' (H.app U) Bx' w' → Le g w g' w' → next (a.put o.dst cv) w') → o.wp P a w next Q

structure Info where
  rd : List Nat
  wr : List Nat
  mks : Bool
  bad : Bool := false
  bm : Nat := 0

def wantV (x : AV) (b : Bool) : Option Bool := match x with | .bool x => some (x == b) | .tup [] => some false | _ => none
theorem wantV_bool (x b : Bool) : wantV (.bool x) b = some (x == b) := rfl
theorem wantV_undef (b : Bool) : wantV (.tup []) b = some false := rfl

/-- Is the operation wanted? none: it is not known. -/
def want (ops : Array Oper) (F : Fr) (o : Oper) : Option Bool :=
  match o.guard with
  | none => some true
  | some (j, b) => match (ops[j]?).bind (·.dst) with
    | some t => wantV (F t) b
    | none => none

def okDst (N : Nat) (o : Oper) : Bool := match o.dst with | some d => d < N | none => true

/-! ### Calls -/
def ACalls (P : Program) (f : FuncId) (args : List AV) (H : Hp) (B : Nat) (Q : AV → Hp → Nat → Prop) : Prop :=
  ∀ g w (vs : Array Value), StC g H B w → RepV g w (.tup args) (.tuple vs) →
    Calls P f vs w fun e w' => ∃ cv v g' H' B', e = .returned cv ∧ Q v H' B' ∧ RepV g' w' v cv ∧ StH ⟨w, H, g, B⟩ g' H' B' w'

/-- The heap behind a call that got the part Hs of it and left H'. -/
def Hp.after (H Hs H' : Hp) : Hp := fun id => match Hs id with
  | some _ => H' id
  | none => match H' id with
    | some k => some k
    | none => H id

theorem Hp.after_some {H Hs H' : Hp} {id : Nat} {k : Blk} (h : Hp.after H Hs H' id = some k) : H' id = some k ∨ (Hs id = none ∧ H' id = none ∧ H id = some k) := by
  unfold Hp.after at h
  split at h
  · exact .inl h
  · rename_i h1
    split at h
    · rename_i h2; exact .inl (h2.trans h)
    · rename_i h2; exact .inr ⟨h1, h2, h⟩

theorem call_step {c : Ctx} {g g' : G} {H Hs H' : Hp} {B B' : Nat} {w w' : World} (h : StH c g H B w) (hsub : ∀ id k, Hs id = some k → H id = some k) (h' : StH ⟨w, Hs, g, B⟩ g' H' B' w') :
    StH c g' (Hp.after H Hs H') B' w' ∧ Le g w g' w' := by
  have hW : ∀ b, (Ctx.mk w Hs g B).W b → ∃ id k, H id = some k ∧ g.m id = some b := fun b ⟨id, k, h1, h2⟩ => ⟨id, k, hsub _ _ h1, h2⟩
  have hWI : ∀ b, (Ctx.mk w Hs g B).W b → ¬ g.I b := fun b hb hi => by
    obtain ⟨id, k, h1, h2⟩ := hW b hb
    obtain ⟨b', cs, h3, h4⟩ := h.blk id k h1
    rw [h2] at h3
    cases h3
    exact h4.free hi
  have hle : Le g w g' w' := ⟨h'.m0, h'.I0, fun b hb => h'.same b (h.inI b hb) (fun hw => hWI b hw hb), h'.sizes⟩
  have hfr : ∀ id k, Hs id = none → H id = some k → ∀ b, g.m id = some b → ¬ (Ctx.mk w Hs g B).W b := fun id k hn hk b hm hw => by
    obtain ⟨id', k', h1, h2⟩ := hw
    have := h.inj id id' k k' b hk (hsub _ _ h1) hm h2
    subst this
    have h1' : Hs id = some k' := h1
    rw [hn] at h1'
    cases h1'
  refine ⟨?_, hle⟩
  constructor
  · constructor
    · intro id k e
      rcases Hp.after_some e with e | ⟨e1, e2, e3⟩
      · exact h'.blk id k e
      · obtain ⟨b, cs, h1, h2⟩ := h.blk id k e3
        have hb : b < w.heap.size := (Array.getElem?_eq_some_iff.1 h2.heap).1
        have hnw := hfr id k e1 e3 b h1
        refine ⟨b, cs, h'.m0 _ _ h1, fun hi => ?_, (h'.same b hb hnw).trans h2.heap, h2.size, h2.len, fun i j x hx => let ⟨v, a1, a2⟩ := h2.rep i j x hx; ⟨v, a1, a2.mono hle⟩⟩
        rcases h'.I1 b hi with hi | hi | hi
        · exact h2.free hi
        · exact hnw hi
        · exact Nat.not_lt.2 hi hb
    · intro id id' k k' b e e' m m'
      have old : ∀ id k, Hs id = none → H id = some k → ∀ b, g'.m id = some b → g.m id = some b ∧ b < w.heap.size ∧ ¬ (Ctx.mk w Hs g B).W b := fun id k e1 e3 b m => by
        obtain ⟨b', cs, h1, h2⟩ := h.blk id k e3
        have := h'.m0 _ _ h1
        rw [m] at this
        cases this
        exact ⟨h1, (Array.getElem?_eq_some_iff.1 h2.heap).1, hfr id k e1 e3 _ h1⟩
      rcases Hp.after_some e with e | ⟨e1, e2, e3⟩ <;> rcases Hp.after_some e' with e' | ⟨f1, f2, f3⟩
      · exact h'.inj id id' k k' b e e' m m'
      · obtain ⟨a1, a2, a3⟩ := old id' k' f1 f3 b m'
        rcases h'.own id k b e m with q | q
        · exact absurd q a3
        · exact absurd a2 (Nat.not_lt.2 q)
      · obtain ⟨a1, a2, a3⟩ := old id k e1 e3 b m
        rcases h'.own id' k' b e' m' with q | q
        · exact absurd q a3
        · exact absurd a2 (Nat.not_lt.2 q)
      · exact h.inj id id' k k' b e3 f3 (old id k e1 e3 b m).1 (old id' k' f1 f3 b m').1
    · exact h'.free
    · exact h'.inI
  · constructor
    · exact h'.os.trans h.os
    · exact h'.tape.trans h.tape
    · exact h'.output.trans h.output
    · exact Nat.le_trans h.size h'.size
    · intro b hb hw
      refine (h'.same b (Nat.lt_of_lt_of_le hb h.size) (fun q => ?_)).trans (h.same b hb hw)
      obtain ⟨id, k, h1, h2⟩ := hW b q
      rcases h.own id k b h1 h2 with q | q
      · exact hw q
      · exact absurd hb (Nat.not_lt.2 q)
    · intro b cs e fz hb
      obtain ⟨cs1, fz1, h1, h2⟩ := h.sizes b cs e fz hb
      obtain ⟨cs2, fz2, h3, h4⟩ := h'.sizes b cs1 e fz1 h1
      exact ⟨cs2, fz2, h3, h4.trans h2⟩
    · intro id k b e m
      rcases Hp.after_some e with e | ⟨e1, e2, e3⟩
      · rcases h'.own id k b e m with q | q
        · obtain ⟨id', k', h1, h2⟩ := hW b q
          exact h.own id' k' b h1 h2
        · exact .inr (Nat.le_trans h.size q)
      · obtain ⟨b', cs, h1, h2⟩ := h.blk id k e3
        have := h'.m0 _ _ h1
        rw [m] at this
        cases this
        exact h.own id k b e3 h1
    · intro id k e
      rcases Hp.after_some e with e | ⟨e1, e2, e3⟩
      · rcases h'.ids id k e with ⟨k', q⟩ | q
        · exact h.ids id k' (hsub _ _ q)
        · exact .inr (Nat.le_trans h.bound q)
      · exact h.ids id k e3
    · exact fun b hb => h'.I0 b (h.I0 b hb)
    · intro b hb
      rcases h'.I1 b hb with q | q | q
      · exact h.I1 b q
      · obtain ⟨id, k, h1, h2⟩ := hW b q
        rcases h.own id k b h1 h2 with q | q
        · exact .inr (.inl q)
        · exact .inr (.inr q)
      · exact .inr (.inr (Nat.le_trans h.size q))
    · exact fun id b hm => h'.m0 id b (h.m0 id b hm)
    · intro id hid
      exact (h'.m1 id (Nat.lt_of_lt_of_le hid h.bound)).trans (h.m1 id hid)
    · exact Nat.le_trans h.bound h'.bound

/-- The operation calls the function f with these. -/
def CallOf (P : Program) (o : Oper) (F : Fr) (f : FuncId) (args : List AV) : Prop :=
  ∀ g w (a : Act), (∀ x ∈ o.op.operands, RepV g w (F.ev x) (a.eval x)) → ∃ vs, (execOp a.eval o).run P w = .ok (.enter f vs) w ∧ RepV g w (.tup args) (.tuple vs)

/-- What an operation yields, where its value is not known, but one of these. -/
def OpN (P : Program) (o : Oper) (F : Fr) (S : AV → Prop) : Prop :=
  ∀ (c : Ctx) (g : G) (H : Hp) (B : Nat) (w : World) (a : Act), StH c g H B w → (∀ x ∈ o.op.operands, RepV g w (F.ev x) (a.eval x)) →
    ∀ (next : Act → World → Prop) (Q : Exit → Act → World → Prop), (∀ v cv, S v → RepV g w v cv → next (a.put o.dst cv) w) → o.wp P a w next Q

/-- The operations in the order of the text. -/
def ALc (P : Program) (N : Nat) (ops : Array Oper) (dr : Bool) : List Oper → Fr → Hp → Nat → List Info → (Fr → Hp → Nat → List Info → Prop) → Prop
  | [], F, H, B, acc, K => K F H B acc
  | o :: rest, F, H, B, acc, K => okDst N o = true ∧
    ((want ops F o = some false ∧ ALc P N ops dr rest (F.put o.dst (.tup [])) H B (acc ++ [⟨[], [], false, false, 0⟩]) K) ∨
     (want ops F o = some true ∧ ∃ R U Bm B' v, OpL P o F R U Bm B B' v ∧ Bm ≤ B ∧ (∀ p ∈ R, H p.1 = some p.2) ∧ B ≤ B' ∧ (∀ p ∈ U, (∃ k, (p.1, k) ∈ R) ∨ (B ≤ p.1 ∧ p.1 < B')) ∧
       ALc P N ops dr rest (F.put o.dst v) (H.app U) B' (acc ++ [⟨R.map (·.1), U.map (·.1), decide (B < B'), false, Bm⟩]) K) ∨
     (dr = false ∧ want ops F o = some true ∧ ∃ f args Hs Q, CallOf P o F f args ∧ ACalls P f args Hs B Q ∧ (∀ id k, Hs id = some k → H id = some k) ∧
       ∀ v H' B', Q v H' B' → B ≤ B' → ALc P N ops dr rest (F.put o.dst v) (Hp.after H Hs H') B' (acc ++ [⟨[], [], true, true, 0⟩]) K) ∨
     (dr = false ∧ want ops F o = some true ∧ ∃ S, OpN P o F S ∧ ∀ v, S v → ALc P N ops dr rest (F.put o.dst v) H B (acc ++ [⟨[], [], true, true, 0⟩]) K))

/-! ### Code -/
def Post (c : Ctx) (N : Nat) (Q : Exit → Fr → Hp → Nat → Prop) (e : Exit) (a : Act) (w : World) : Prop := ∃ g F H B, Q e F H B ∧ StH c g H B w ∧ RepF g w N F a
def AWP (P : Program) (N : Nat) (cd : Code) (F : Fr) (H : Hp) (B : Nat) (Q : Exit → Fr → Hp → Nat → Prop) : Prop :=
  ∀ c g a w, StH c g H B w → RepF g w N F a → cd.wp P (Post c N Q) a w

def thenA (next : Fr → Hp → Nat → Prop) (Q : Exit → Fr → Hp → Nat → Prop) : Exit → Fr → Hp → Nat → Prop
  | .normal, F, H, B => next F H B
  | e, F, H, B => Q e F H B
def inBlockA (id : Nat) (Q : Exit → Fr → Hp → Nat → Prop) : Exit → Fr → Hp → Nat → Prop
  | .exit id', F, H, B => if id' = id then Q .normal F H B else Q (.exit id') F H B
  | e, F, H, B => Q e F H B

section
variable {P : Program} {N : Nat} {F : Fr} {H : Hp} {B : Nat} {Q : Exit → Fr → Hp → Nat → Prop}

theorem awp_skip (h : Q .normal F H B) : AWP P N .skip F H B Q := fun c g a w hs hf => wp_skip ⟨g, F, H, B, h, hs, hf⟩
theorem awp_ret (h : Q .ret F H B) : AWP P N .ret F H B Q := fun c g a w hs hf => wp_ret ⟨g, F, H, B, h, hs, hf⟩
theorem awp_exit {id : Nat} (h : Q (.exit id) F H B) : AWP P N (.exit id) F H B Q := fun c g a w hs hf => wp_exit ⟨g, F, H, B, h, hs, hf⟩
theorem awp_mono {cd : Code} {Q' : Exit → Fr → Hp → Nat → Prop} (h : AWP P N cd F H B Q) (hq : ∀ e F H B, Q e F H B → Q' e F H B) : AWP P N cd F H B Q' :=
  fun c g a w hs hf => wp_mono (h c g a w hs hf) fun e a w ⟨g, F, H, B, q, s, f⟩ => ⟨g, F, H, B, hq _ _ _ _ q, s, f⟩
theorem awp_seq {x y : Code} (h : AWP P N x F H B (thenA (fun F H B => AWP P N y F H B Q) Q)) : AWP P N (.seq x y) F H B Q :=
  fun c g a w hs hf => wp_seq (wp_mono (h c g a w hs hf) fun e a w ⟨g, F, H, B, q, s, f⟩ => by
    cases e <;> first | exact q c g a w s f | exact ⟨g, F, H, B, q, s, f⟩)
theorem awp_block {id : Nat} {x : Code} (h : AWP P N x F H B (inBlockA id Q)) : AWP P N (.block id x) F H B Q :=
  fun c g a w hs hf => wp_block (wp_mono (h c g a w hs hf) fun e a w ⟨g, F, H, B, q, s, f⟩ => by
    cases e <;> try exact ⟨g, F, H, B, q, s, f⟩
    rename_i id'
    simp only [Exit.inBlock, inBlockA] at q ⊢
    split
    · rename_i e; rw [if_pos e] at q; exact ⟨g, F, H, B, q, s, f⟩
    · rename_i e; rw [if_neg e] at q; exact ⟨g, F, H, B, q, s, f⟩)
theorem awp_cond {cnd : Operand} {x y : Code} {t : Bool} (hc : F.ev cnd = .bool t) (h : AWP P N (if t then x else y) F H B Q) : AWP P N (.cond cnd x y) F H B Q :=
  fun c g a w hs hf => wp_cond (t := t) (by
    have := hf.ev cnd
    rw [hc] at this
    generalize a.eval cnd = z at this
    cases this
    rfl) (h c g a w hs hf)
theorem awp_if {cnd : Operand} {x y : Code} {t : Bool} (hc : F.ev cnd = .bool t) (h1 : t = true → AWP P N x F H B Q) (h0 : t = false → AWP P N y F H B Q) : AWP P N (.cond cnd x y) F H B Q :=
  awp_cond hc (by cases t; exact h0 rfl; exact h1 rfl)
theorem awp_weaken {cd : Code} {F' : Fr} (hw : ∀ t, F' t = .any ∨ F' t = F t) (h : AWP P N cd F' H B Q) : AWP P N cd F H B Q :=
  fun c g a w hs hf => h c g a w hs (hf.weaken hw)

/-- A loop, at its head. -/
def LW (P : Program) (cd : Code) (Q : Exit → Act → World → Prop) (a : Act) (w : World) : Prop :=
  ∀ (b : Frame) (k : List Item) (cs : List Frame), ∃ e a' w', Q e a' w' ∧ Arrives P (lone (b.at a (.code cd :: .inLoop cd :: k)) cs w) b k cs e a' w'
theorem LW.start {cd : Code} {Q : Exit → Act → World → Prop} {a : Act} {w : World} (h : LW P cd Q a w) : (Code.loop cd).wp P Q a w :=
  fun b k cs => let ⟨e, a', w', q, r⟩ := h b k cs; ⟨e, a', w', q, .of_steps (.one step_loop) r⟩
theorem LW.round {cd : Code} {Q : Exit → Act → World → Prop} {a : Act} {w : World} (h : cd.wp P (Exit.then (LW P cd Q) Q) a w) : LW P cd Q a w := by
  intro b k cs
  obtain ⟨e, a₁, w₁, hq, harr⟩ := h b (.inLoop cd :: k) cs
  cases e with
  | normal =>
    obtain ⟨e₂, a₂, w₂, hq₂, harr₂⟩ := hq b k cs
    exact ⟨e₂, a₂, w₂, hq₂, .of_steps (Steps.trans harr (.one step_inLoop)) harr₂⟩
  | exit id => exact ⟨_, a₁, w₁, hq, .pass (x := .inLoop cd) rfl (fun _ _ => .inl (by simp)) harr⟩
  | goto l => exact ⟨_, a₁, w₁, hq, .pass (x := .inLoop cd) rfl (fun _ _ => .inl (by simp)) harr⟩
  | ret => exact ⟨_, a₁, w₁, hq, .pass (x := .inLoop cd) rfl (fun _ _ => .inl (by simp)) harr⟩
  | panic ch => exact ⟨_, a₁, w₁, hq, .pass (x := .inLoop cd) rfl (fun _ _ => .inl (by simp)) harr⟩
  | outgrown => exact ⟨_, a₁, w₁, hq, .pass (x := .inLoop cd) rfl (fun _ _ => .inl (by simp)) harr⟩

def ALoop (P : Program) (N : Nat) (cd : Code) (F : Fr) (H : Hp) (B : Nat) (Q : Exit → Fr → Hp → Nat → Prop) : Prop :=
  ∀ c g a w, StH c g H B w → RepF g w N F a → LW P cd (Post c N Q) a w
theorem awp_loop {cd : Code} (h : ALoop P N cd F H B Q) : AWP P N (.loop cd) F H B Q := fun c g a w hs hf => LW.start (h c g a w hs hf)
theorem aloop {cd : Code} (h : AWP P N cd F H B (thenA (fun F H B => ALoop P N cd F H B Q) Q)) : ALoop P N cd F H B Q :=
  fun c g a w hs hf => LW.round (wp_mono (h c g a w hs hf) fun e a w ⟨g, F, H, B, q, s, f⟩ => by
    cases e <;> first | exact q c g a w s f | exact ⟨g, F, H, B, q, s, f⟩)
theorem aloop_weaken {cd : Code} {F' : Fr} (hw : ∀ t, F' t = .any ∨ F' t = F t) (h : ALoop P N cd F' H B Q) : ALoop P N cd F H B Q :=
  fun c g a w hs hf => h c g a w hs (hf.weaken hw)

/-! ### Names that nobody asks for any more -/
theorem StH.drop {c : Ctx} {g : G} {H H' : Hp} {B : Nat} {w : World} (h : StH c g H B w) (hs : ∀ id k, H' id = some k → H id = some k) : StH c g H' B w where
  blk := fun id k e => h.blk id k (hs _ _ e)
  inj := fun id id' k k' b e e' => h.inj id id' k k' b (hs _ _ e) (hs _ _ e')
  free := h.free
  inI := h.inI
  os := h.os
  tape := h.tape
  output := h.output
  size := h.size
  same := h.same
  sizes := h.sizes
  own := fun id k b e => h.own id k b (hs _ _ e)
  ids := fun id k e => h.ids id k (hs _ _ e)
  I0 := h.I0
  I1 := h.I1
  m0 := h.m0
  m1 := h.m1
  bound := h.bound
theorem awp_drop {cd : Code} {H' : Hp} (hs : ∀ id k, H' id = some k → H id = some k) (h : AWP P N cd F H' B Q) : AWP P N cd F H B Q :=
  fun c g a w hh hf => h c g a w (hh.drop hs) hf
theorem aloop_drop {cd : Code} {H' : Hp} (hs : ∀ id k, H' id = some k → H id = some k) (h : ALoop P N cd F H' B Q) : ALoop P N cd F H B Q :=
  fun c g a w hh hf => h c g a w (hh.drop hs) hf
theorem StH.more {c : Ctx} {g : G} {H : Hp} {B B' : Nat} {w : World} (h : StH c g H B w) (hb : B ≤ B') : StH c g H B' w :=
  { h with free := fun id e => h.free id (Nat.le_trans hb e), bound := Nat.le_trans h.bound hb }
theorem aloop_more {cd : Code} {B' : Nat} (hb : B ≤ B') (h : ALoop P N cd F H B' Q) : ALoop P N cd F H B Q :=
  fun c g a w hh hf => h c g a w (hh.more hb) hf
theorem awp_more {cd : Code} {B' : Nat} (hb : B ≤ B') (h : AWP P N cd F H B' Q) : AWP P N cd F H B Q :=
  fun c g a w hh hf => h c g a w (hh.more hb) hf

/-! ### A region whose order is that of the text -/
theorem repOps {g : G} {w : World} {a : Act} (hf : RepF g w N F a) (o : Oper) : ∀ x ∈ o.op.operands, RepV g w (F.ev x) (a.eval x) := fun x _ => hf.ev x

theorem rep_undef {g : G} {w : World} : RepV g w (.tup []) undef := .tup [] #[] rfl (by simp)

theorem want_sound {ops : Array Oper} {o : Oper} {b : Bool} {g : G} {w : World} {a : Act} (hf : RepF g w N F a) (h : want ops F o = some b) : Region.wanted o (yielded ops a.tmps) = b := by
  unfold want at h
  unfold Region.wanted
  split at h
  · rename_i hg; rw [hg]; simpa using h
  · rename_i j b' hg
    rw [hg]
    dsimp only
    split at h
    · rename_i t ht
      unfold wantV at h
      split at h
      · rename_i x hx
        have := hf.rep t
        rw [hx] at this
        unfold yielded
        rw [ht]
        generalize hv : a.tmps.getD t undef = cv at this
        cases this
        simp only [Option.some.injEq] at h
        simp only [Array.getD_eq_getD_getElem?] at hv
        cases hz : a.tmps[t]? with
        | none => rw [hz] at hv; simp [undef] at hv
        | some z =>
          rw [hz] at hv
          simp only [Option.getD_some] at hv
          subst hv
          rw [← h]
          cases x <;> cases b' <;> simp [hz]
      · rename_i hx
        have := hf.rep t
        rw [hx] at this
        unfold yielded
        rw [ht]
        generalize hv : a.tmps.getD t undef = cv at this
        cases this with
        | tup _ vs hl _ =>
          simp only [Option.some.injEq] at h
          simp only [Array.getD_eq_getD_getElem?] at hv
          cases hz : a.tmps[t]? with
          | none => subst h; simp [hz]
          | some z =>
            rw [hz] at hv
            simp only [Option.getD_some] at hv
            subst hv
            subst h
            simp [hz]
      · cases h
    · cases h

theorem okDst_lt {o : Oper} (h : okDst N o = true) : ∀ t, o.dst = some t → t < N := by
  intro t ht
  unfold okDst at h
  rw [ht] at h
  simpa using h

theorem alc_sound {ops : Array Oper} (l : List Oper) : ∀ (F : Fr) (H : Hp) (B : Nat) (acc : List Info) (c : Ctx) (g : G) (a : Act) (w : World),
    ALc P N ops false l F H B acc (fun F H B _ => Q .normal F H B) → StH c g H B w → RepF g w N F a → wpList P ops (Post c N Q) l a w := by
  induction l with
  | nil => intro F H B acc c g a w h hs hf; exact ⟨g, F, H, B, h, hs, hf⟩
  | cons o l ih =>
    intro F H B acc c g a w h hs hf
    obtain ⟨hd, h⟩ := h
    unfold wpList
    rcases h with ⟨hw, h⟩ | ⟨hw, R, U, Bm, B', v, hop, hBm, hR, hB, hU, h⟩ | ⟨_, hw, f, args, Hs, Qc, hco, hca, hsub, h⟩ | ⟨_, hw, S, hop, h⟩
    · rw [if_neg (by rw [want_sound hf hw]; simp)]
      exact ih _ _ _ _ c g _ w h hs (hf.put rep_undef (okDst_lt hd))
    · rw [if_pos (want_sound hf hw)]
      refine .inl ?_
      refine hop c g H B B' w a (fun _ => ⟨rfl, rfl⟩) (fun e => ⟨hBm, e⟩) hs (repOps hf o) hR _ _ ?_
      intro g' w' cv hv hs' hle
      exact ih _ _ _ _ c g' _ w' h hs' ((hf.mono hle).put hv (okDst_lt hd))
    · rw [if_pos (want_sound hf hw)]
      refine .inl ?_
      obtain ⟨vs, hrun, hvs⟩ := hco g w a (repOps hf o)
      unfold Oper.wp
      rw [hrun]
      have hsub' : StC g Hs B w := (hs.drop hsub).toStC
      refine Calls.mono (hca g w vs hsub' hvs) ?_
      rintro e w' ⟨cv, v, g', H', B', rfl, hq, hv, hs'⟩
      obtain ⟨hs2, hle⟩ := call_step hs hsub hs'
      exact ih _ _ _ _ c g' _ w' (h v H' B' hq hs'.bound) hs2 ((hf.mono hle).put hv (okDst_lt hd))
    · rw [if_pos (want_sound hf hw)]
      refine .inl ?_
      exact hop c g H B w a hs (repOps hf o) _ _ fun v cv hv hr => ih _ _ _ _ c g _ w (h v hv) hs (hf.put hr (okDst_lt hd))

theorem awp_region {id : Nat} {ops : Array Oper} (h : ALc P N ops false ops.toList F H B [] (fun F H B _ => Q .normal F H B)) : AWP P N (.region id ops false) F H B Q :=
  fun c g a w hs hf => wp_region_list (alc_sound _ _ _ _ _ c g a w h hs hf)

end

end Go.Proofs.YtnaafbdgkmlnaaaGreat

/- The abstract machine: the program's types, and what an operation that changes no memory comes to. -/
namespace Go.Proofs.YtnaafbdgkmlnaaaGreat
set_option linter.unusedVariables false
set_option linter.unusedSimpArgs false

/-- A type: 0 one cell, 1 a struct of fields of one cell, 2 a slice, 3 an array of elements of one cell; its zero value's cells; its elements' type; its bytes. -/
structure TY where
  kind : Nat
  zero : List AV
  el : TypeId
  bytes : Nat

def TY.size (y : TY) : Nat := y.zero.length
def TY.agg (y : TY) : Bool := y.kind == 1 || y.kind == 3

def zOk : Value → AV → Bool
  | .int k n, .int k' n' => k == k' && n == n'
  | .bool b, .bool b' => b == b'
  | .slice none 0 0, .nils => true
  | .nilFunc, .nilf => true
  | .pointer none, .nilp => true
  | _, _ => false

theorem zOk_rep {g : G} {w : World} {v : Value} {x : AV} (h : zOk v x = true) : RepV g w x v := by
  unfold zOk at h
  split at h <;> simp at h
  · obtain ⟨rfl, rfl⟩ := h; exact .int _ _
  · subst h; exact .bool _
  · exact .nils _
  · exact .nilf
  · exact .nilp

def one? (P : Program) (t : TypeId) : Bool := match P.info? t with | some j => j.size == 1 | none => false

def zsOk : List Value → List AV → Bool
  | [], [] => true
  | v :: vs, x :: xs => zOk v x && zsOk vs xs
  | _, _ => false

def zeroOk (z : Option Value) (y : TY) : Bool := match z with
  | some (.agg cs) => y.agg && zsOk cs.toList y.zero
  | some v => !y.agg && zsOk [v] y.zero
  | none => false

def fieldsOk (P : Program) (k : Nat) : List Field → Bool
  | [] => true
  | f :: fs => f.offset == k && one? P f.type && fieldsOk P (k + 1) fs

def descOk (P : Program) (d : TypeDesc) (y : TY) : Bool := match d with
  | .int _ | .bool | .string | .func .. | .pointer _ => y.kind == 0 && y.size == 1
  | .struct fs => y.kind == 1 && fs.size == y.size && fieldsOk P 0 fs.toList
  | .slice e => y.kind == 2 && y.size == 1 && e == y.el
  | .array n e => y.kind == 3 && n == y.size && e == y.el && one? P e
  | _ => false

def tyCheck (P : Program) (t : TypeId) (y : TY) : Bool := match P.underlying t, P.info? t with
  | some d, some i => i.size == y.size && i.bytes == y.bytes && zeroOk i.zero y && descOk P d y
  | _, _ => false

structure TyOk (P : Program) (t : TypeId) (y : TY) where
  d : TypeDesc
  i : TypeInfo
  z : Value
  hd : P.underlying t = some d
  hi : P.info? t = some i
  hsize : i.size = y.size
  hbytes : i.bytes = y.bytes
  hz : i.zero = some z
  hz0 : zeroOk (some z) y = true
  hdesc : descOk P d y = true

theorem tyOk {P : Program} {t : TypeId} {y : TY} (h : tyCheck P t y = true) : Nonempty (TyOk P t y) := by
  unfold tyCheck at h
  split at h
  · rename_i d i hd hi
    simp only [Bool.and_eq_true, beq_iff_eq] at h
    obtain ⟨⟨⟨h1, h2⟩, h3⟩, h4⟩ := h
    cases hz : i.zero with
    | none => rw [hz] at h3; simp [zeroOk] at h3
    | some z => exact ⟨⟨d, i, z, hd, hi, h1, h2, hz, hz ▸ h3, h4⟩⟩
  · cases h

def i0 : AV := .int .i64 0
def tInt : TY := ⟨0, [i0], 0, 8⟩
def tt : TypeId → Option TY
  | 3 => some tInt
  | 4 => some ⟨0, [.bool false], 0, 1⟩
  | 5 => some ⟨0, [.int .u8 0], 0, 1⟩
  | 22 => some ⟨2, [.nils], 5, 24⟩
  | 23 => some ⟨2, [.nils], 42, 24⟩
  | 25 => some ⟨2, [.nils], 38, 24⟩
  | 28 => some ⟨2, [.nils], 71, 24⟩
  | 30 => some ⟨1, [.nils, .nils, .nils, i0, .bool false], 0, 88⟩
  | 36 => some ⟨2, [.nils], 3, 24⟩
  | 38 => some ⟨1, [i0, i0, .nils], 0, 40⟩
  | 42 => some ⟨1, [i0, i0, i0, i0, i0, .nils], 0, 64⟩
  | 51 => some ⟨2, [.nils], 129, 24⟩
  | 52 => some ⟨2, [.nils], 132, 24⟩
  | 54 => some ⟨1, [.nils, .nils, .nils, i0, .bool false], 0, 88⟩
  | 62 => some ⟨2, [.nils], 103, 24⟩
  | 71 => some ⟨1, [i0, i0, i0, i0, i0, i0, i0, i0], 0, 64⟩
  | 103 => some ⟨1, [i0, i0, i0, i0, i0, .nils], 0, 64⟩
  | 123 => some ⟨3, [i0, i0, i0, i0], 3, 32⟩
  | 125 => some ⟨1, [.nils, i0], 0, 32⟩
  | 129 => some ⟨1, [i0, i0, .nils], 0, 40⟩
  | 132 => some ⟨1, [i0, i0, i0, i0, i0, i0, i0, i0], 0, 64⟩
  | 133 => some ⟨0, [.nilp], 0, 8⟩
  | _ => none

theorem tt_ok {t : TypeId} {y : TY} (h : tt t = some y) : tyCheck Tryz.prog t y = true := by
  unfold tt at h
  split at h <;> first | (cases h; kernel_rfl) | cases h

end Go.Proofs.YtnaafbdgkmlnaaaGreat
