/- Laws about the machine's run of the program's functions, part 7, in import order. No condition. -/
import Derived.Test.YtnaafbdgkmlnaaaGreatM06

set_option linter.unusedVariables false
set_option linter.unusedSimpArgs false
set_option linter.unnecessarySimpa false
/- The abstract machine: calls within a region. -/
namespace Go.Proofs.YtnaafbdgkmlnaaaGreat
set_option linter.unusedVariables false
set_option linter.unusedSimpArgs false
set_option linter.unnecessarySimpa false

/-! ### Values that speak of names below B alone -/
mutual
def AV.lt (B : Nat) : AV → Prop
  | .sl _ xs => AV.ltLL B xs
  | .ref id _ _ _ => id < B
  | .pe id _ _ => id < B
  | .pf id _ _ _ => id < B
  | .agg xs => AV.ltL B xs
  | .tup xs => AV.ltL B xs
  | .qe xs => AV.ltL B xs
  | .fn _ xs => AV.ltL B xs
  | _ => True
def AV.ltL (B : Nat) : List AV → Prop
  | [] => True
  | x :: xs => AV.lt B x ∧ AV.ltL B xs
def AV.ltLL (B : Nat) : List (List AV) → Prop
  | [] => True
  | x :: xs => AV.ltL B x ∧ AV.ltLL B xs
end

theorem AV.ltL_at {B : Nat} {xs : List AV} (h : AV.ltL B xs) {k : Nat} {x : AV} (hk : xs[k]? = some x) : AV.lt B x := by
  induction xs generalizing k with
  | nil => simp at hk
  | cons y ys ih =>
    simp only [AV.ltL] at h
    cases k with
    | zero => simp only [List.getElem?_cons_zero, Option.some.injEq] at hk; subst hk; exact h.1
    | succ k => exact ih h.2 (by simpa using hk)
theorem AV.ltLL_at {B : Nat} {xs : List (List AV)} (h : AV.ltLL B xs) {k : Nat} {x : List AV} (hk : xs[k]? = some x) : AV.ltL B x := by
  induction xs generalizing k with
  | nil => simp at hk
  | cons y ys ih =>
    simp only [AV.ltLL] at h
    cases k with
    | zero => simp only [List.getElem?_cons_zero, Option.some.injEq] at hk; subst hk; exact h.1
    | succ k => exact ih h.2 (by simpa using hk)
theorem AV.ltLL_at2 {B : Nat} {xs : List (List AV)} (h : AV.ltLL B xs) {j k : Nat} {x : AV} (hk : at2 xs j k = some x) : AV.lt B x := by
  obtain ⟨_, r, h1, h2⟩ := at2_lt hk
  exact AV.ltL_at (AV.ltLL_at h h1) h2
theorem AV.ltLL_map {α : Type} {B : Nat} (f : α → List AV) (h : ∀ x, AV.ltL B (f x)) : ∀ L : List α, AV.ltLL B (L.map f)
  | [] => trivial
  | x :: L => ⟨h x, AV.ltLL_map f h L⟩
theorem AV.ltLL_of {B : Nat} : ∀ {L : List (List AV)}, (∀ x ∈ L, AV.ltL B x) → AV.ltLL B L
  | [], _ => trivial
  | x :: L, h => ⟨h x (by simp), AV.ltLL_of fun y hy => h y (by simp [hy])⟩

def G.below (g : G) (B : Nat) : G := ⟨fun id => if id < B then g.m id else none, g.I⟩

theorem RepV.cut {g : G} {w : World} {B C : Nat} (hC : B ≤ C) {x : AV} {v : Value} (h : RepV g w x v) : AV.lt B x → RepV (g.below C) w x v := by
  induction h with
  | any v => intro _; exact .any v
  | int k n => intro _; exact .int k n
  | bool b => intro _; exact .bool b
  | str s => intro _; exact .str s
  | sl0 sz a c => intro _; exact .sl0 sz a c
  | sl sz xs b o n c vs hn hb hc hs h1 h2 ih => intro hl; simp only [AV.lt] at hl; exact .sl sz xs b o n c vs hn hb hc hs h1 (fun j k x hx => ih j k x hx (AV.ltLL_at2 hl hx))
  | nils a => intro _; exact .nils a
  | ref id sz off n b c cs e fz hm hc hb hs => intro hl; simp only [AV.lt] at hl; exact .ref id sz off n b c cs e fz (by simp only [G.below]; rw [if_pos (Nat.lt_of_lt_of_le hl hC)]; exact hm) hc hb hs
  | agg xs vs hl0 h ih => intro hl; simp only [AV.lt] at hl; exact .agg xs vs hl0 (fun k x v hk hv => ih k x v hk hv (AV.ltL_at hl hk))
  | tup xs vs hl0 h ih => intro hl; simp only [AV.lt] at hl; exact .tup xs vs hl0 (fun k x v hk hv => ih k x v hk hv (AV.ltL_at hl hk))
  | pe id sz i b hm => intro hl; simp only [AV.lt] at hl; exact .pe id sz i b (by simp only [G.below]; rw [if_pos (Nat.lt_of_lt_of_le hl hC)]; exact hm)
  | pf id sz i k b hm => intro hl; simp only [AV.lt] at hl; exact .pf id sz i k b (by simp only [G.below]; rw [if_pos (Nat.lt_of_lt_of_le hl hC)]; exact hm)
  | qe xs b o vs hb h1 h2 ih => intro hl; simp only [AV.lt] at hl; exact .qe xs b o vs hb h1 (fun k x hx => ih k x hx (AV.ltL_at hl hx))
  | nilp => intro _; exact .nilp
  | fn f xs vs hl0 h ih => intro hl; simp only [AV.lt] at hl; exact .fn f xs vs hl0 (fun k x v hk hv => ih k x v hk hv (AV.ltL_at hl hk))
  | nilf => intro _; exact .nilf

/-- A heap, told name by name. -/
def Hp.of : List (Nat × Blk) → Hp
  | [] => Hp.nil
  | p :: l => (Hp.of l).set p.1 p.2
@[simp] theorem Hp.of_nil (t : Nat) : Hp.of [] t = none := rfl
@[simp] theorem Hp.of_cons (p : Nat × Blk) (l : List (Nat × Blk)) (t : Nat) : Hp.of (p :: l) t = if t = p.1 then some p.2 else Hp.of l t := rfl
theorem Hp.of_mem {l : List (Nat × Blk)} {id : Nat} {k : Blk} (h : Hp.of l id = some k) : (id, k) ∈ l := by
  induction l with
  | nil => cases h
  | cons p l ih =>
    simp only [Hp.of_cons] at h
    split at h
    · rename_i e; subst e; cases h; simp
    · exact List.mem_cons_of_mem _ (ih h)

def upds (l : List (Nat × Blk)) : List (Nat × Option Blk) := l.map fun p => (p.1, some p.2)

theorem Hp.app_upds {H : Hp} : ∀ {l : List (Nat × Blk)} {id : Nat} {k : Blk}, H.app (upds l) id = some k → (id, k) ∈ l ∨ ((∀ p ∈ l, p.1 ≠ id) ∧ H id = some k) := by
  intro l
  induction l generalizing H with
  | nil => intro id k h; exact .inr ⟨by simp, h⟩
  | cons p l ih =>
    intro id k h
    have h' : (H.set p.1 p.2).app (upds l) id = some k := h
    rcases ih h' with h1 | ⟨h1, h2⟩
    · exact .inl (List.mem_cons_of_mem _ h1)
    · simp only [Hp.set_app] at h2
      split at h2
      · rename_i e; cases h2; subst e; exact .inl (by simp)
      · rename_i e
        refine .inr ⟨fun q hq => ?_, h2⟩
        rcases List.mem_cons.1 hq with rfl | hq
        · exact fun e' => e e'.symm
        · exact h1 q hq

/-- A call that may write into blocks that have names, and gives out none. -/
theorem opl_call {o : Oper} {F : Fr} {Bm B : Nat} {f : FuncId} {args : List AV} {v : AV} {hs us : List (Nat × Blk)} (hco : CallOf PP o F f args)
    (hc : ∀ Bx, Bm ≤ Bx → ACalls PP f args (Hp.of hs) Bx (fun v' H' _ => v' = v ∧ ∀ p ∈ us, H' p.1 = some p.2)) (hkeys : ∀ p ∈ us, ∃ k, (p.1, k) ∈ hs) (hv : AV.lt Bm v) (hr : ∀ p ∈ us, AV.ltLL Bm p.2.rows)
    (hnd : ∀ p ∈ hs, Hp.of hs p.1 = some p.2) (hall : ∀ p ∈ hs, ∃ k, (p.1, k) ∈ us) : OpL PP o F hs (upds us) Bm B B v := by
  intro c g H Bx Bx' w a _ hBB hst hx hR next Q hnext
  obtain ⟨hB1, rfl⟩ := hBB rfl
  obtain ⟨vs, hrun, hvs⟩ := hco g w a hx
  have hsub : ∀ id k, Hp.of hs id = some k → H id = some k := fun id k h => hR (id, k) (Hp.of_mem h)
  unfold Oper.wp
  rw [hrun]
  refine Calls.mono (hc Bx' hB1 g w vs (hst.drop hsub).toStC hvs) ?_
  rintro e w' ⟨cv, v', g', H', B', rfl, ⟨rfl, hq⟩, hv', hs'⟩
  obtain ⟨h1, hle⟩ := call_step hst hsub hs'
  have hid : ∀ id k, H id = some k → id < Bx' := fun id k h => by
    rcases Nat.lt_or_ge id Bx' with q | q
    · exact q
    · obtain ⟨b, cs, e1, e2⟩ := hst.blk id k h
      rw [hst.free id q] at e1
      cases e1
  have hmid : ∀ id b, g.m id = some b → id < Bx' := fun id b h => by
    rcases Nat.lt_or_ge id Bx' with q | q
    · exact q
    · rw [hst.free id q] at h
      cases h
  have hleb : Le g w (g'.below Bx') w' := ⟨fun id b h => by simp only [G.below]; rw [if_pos (hmid id b h)]; exact hle.m id b h, hle.I, hle.same, hle.sizes⟩
  have hsubU : ∀ id k, H.app (upds us) id = some k → Hp.after H (Hp.of hs) H' id = some k := fun id k h => by
    rcases Hp.app_upds h with h | ⟨h, h2⟩
    · obtain ⟨k0, hk0⟩ := hkeys _ h
      have e1 := hnd _ hk0
      have e2 := hq _ h
      simp only at e1 e2
      unfold Hp.after
      rw [e1]
      exact e2
    · have hn : Hp.of hs id = none := by
        cases hz : Hp.of hs id with
        | none => rfl
        | some k1 =>
          obtain ⟨k2, hk2⟩ := hall _ (Hp.of_mem hz)
          exact absurd rfl (h _ hk2)
      have hn' : H' id = none := by
        cases hz : H' id with
        | none => rfl
        | some k1 =>
          rcases hs'.ids id k1 hz with ⟨k2, q⟩ | q
          · have : Hp.of hs id = some k2 := q
            rw [hn] at this
            cases this
          · have h3 : Bx' ≤ id := q
            have := hid id k h2
            omega
      unfold Hp.after
      rw [hn]
      simp only [hn']
      exact h2
  have hst2 := h1.drop hsubU
  refine hnext (g'.below Bx') w' cv (hv'.cut hB1 hv) ?_ hleb
  constructor
  · constructor
    · intro id k h
      rcases Hp.app_upds h with hm | ⟨hm, h2⟩
      · obtain ⟨b, cs, e1, e2⟩ := hst2.blk id k h
        obtain ⟨k0, hk0⟩ := hkeys _ hm
        have hlt : id < Bx' := hid _ _ (hsub _ _ (hnd _ hk0))
        refine ⟨b, cs, by simp only [G.below]; rw [if_pos hlt]; exact e1, e2.free, e2.heap, e2.size, e2.len, fun i j x hx => ?_⟩
        obtain ⟨v, a1, a2⟩ := e2.rep i j x hx
        exact ⟨v, a1, a2.cut hB1 (AV.ltLL_at2 (hr _ hm) hx)⟩
      · obtain ⟨b, cs, e1, e2⟩ := hst2.blk id k h
        obtain ⟨b0, cs0, f1, f2⟩ := hst.blk id k h2
        have := hle.m _ _ f1
        rw [e1] at this
        cases this
        have hcs : cs = cs0 := by
          have hnw : ¬ (Ctx.mk w (Hp.of hs) g Bx').W b := by
            rintro ⟨id', k', g1, g2⟩
            have := hst.inj id id' k k' b h2 (hsub _ _ g1) f1 g2
            subst this
            obtain ⟨k3, hk3⟩ := hall _ (Hp.of_mem g1)
            exact hm _ hk3 rfl
          have g3 := hs'.same b (Array.getElem?_eq_some_iff.1 f2.heap).1 hnw
          rw [e2.heap, f2.heap] at g3
          simp only [Option.some.injEq, Obj.cells.injEq] at g3
          exact g3.1
        subst hcs
        exact ⟨b, cs, by simp only [G.below]; rw [if_pos (hid id k h2)]; exact e1, e2.free, e2.heap, e2.size, e2.len, fun i j x hx => by
          obtain ⟨v, a1, a2⟩ := f2.rep i j x hx
          exact ⟨v, a1, a2.mono hleb⟩⟩
    · intro id id' k k' b h h' m m'
      simp only [G.below] at m m'
      split at m
      · split at m'
        · exact hst2.inj id id' k k' b h h' m m'
        · cases m'
      · cases m
    · intro id hid'
      simp only [G.below]
      rw [if_neg (by omega)]
    · exact hst2.inI
  · constructor
    · exact hst2.os
    · exact hst2.tape
    · exact hst2.output
    · exact hst2.size
    · exact hst2.same
    · exact hst2.sizes
    · intro id k b h m
      simp only [G.below] at m
      split at m
      · exact hst2.own id k b h m
      · cases m
    · exact hst2.ids
    · exact hst2.I0
    · exact hst2.I1
    · intro id b m
      have h3 := hst2.m0 id b m
      simp only [G.below]
      have h4 := hst.m0 id b m
      rw [if_pos (hmid id b h4)]
      exact h3
    · intro id hid'
      simp only [G.below]
      have hb := hst.bound
      rw [if_pos (by omega)]
      exact hst2.m1 id hid'
    · exact hst.bound

/-- A call that only reads, and hands back this. -/
theorem opl_quiet {o : Oper} {F : Fr} {B : Nat} {f : FuncId} {args : List AV} {v : AV} (hco : CallOf PP o F f args) (hc : Quiet f args v) (hv : AV.lt 0 v) : OpL PP o F [] [] 0 B B v := by
  exact opl_call (hs := []) (us := []) hco (fun Bx _ => (hc Bx).mono fun v' H' B' h => ⟨h, by simp⟩) (by simp) hv (by simp) (by simp) (by simp)

section
variable {N : Nat} {ops : Array Oper} {dr : Bool} {o : Oper} {rest : List Oper} {F : Fr} {H : Hp} {B : Nat} {acc : List Info} {K : Fr → Hp → Nat → List Info → Prop}

/-- An operation told by OpL, that gives out no name. -/
theorem alc_op {R : List (Nat × Blk)} {U : List (Nat × Option Blk)} {v : AV} {Bm : Nat} (hop : OpL PP o F R U Bm B B v) (hBm : Bm ≤ B) (hd : okDst N o = true) (hw : want ops F o = some true) (hR : ∀ p ∈ R, H p.1 = some p.2) (hU : ∀ p ∈ U, ∃ k, (p.1, k) ∈ R)
    (h : ALc PP N ops dr rest (F.put o.dst v) (H.app U) B (acc ++ [⟨R.map (·.1), U.map (·.1), false, false, Bm⟩]) K) : ALc PP N ops dr (o :: rest) F H B acc K :=
  ⟨hd, .inr (.inl ⟨hw, R, U, Bm, B, v, hop, hBm, hR, Nat.le_refl _, fun p hp => .inl (hU p hp), by simpa using h⟩)⟩
/-- One that gives out the name B. -/
theorem alc_mk {R : List (Nat × Blk)} {U : List (Nat × Option Blk)} {v : AV} (hop : OpL PP o F R U 0 B (B + 1) v) (hd : okDst N o = true) (hw : want ops F o = some true) (hR : ∀ p ∈ R, H p.1 = some p.2) (hU : ∀ p ∈ U, (∃ k, (p.1, k) ∈ R) ∨ p.1 = B)
    (h : ALc PP N ops dr rest (F.put o.dst v) (H.app U) (B + 1) (acc ++ [⟨R.map (·.1), U.map (·.1), true, false, 0⟩]) K) : ALc PP N ops dr (o :: rest) F H B acc K :=
  ⟨hd, .inr (.inl ⟨hw, R, U, 0, B + 1, v, hop, Nat.zero_le _, hR, Nat.le_succ _, fun p hp => (hU p hp).imp id (fun e => ⟨by omega, by omega⟩), by simpa using h⟩)⟩

/-- A call that only reads. -/
theorem alc_q {f : FuncId} {args : List AV} {v : AV} {x : Operand} {xs : Array Operand} {ats : Array TypeId} {caps : List AV} (hq : Quiet f args v) (ho : o.op = .call { callee := .value x, args := xs, argTypes := ats }) (hx : F.ev x = .fn f caps)
    (ha : xs.toList.map F.ev ++ caps = args) (hf : callB PP f = true) (hd : okDst N o = true) (hw : want ops F o = some true) (hv : AV.lt 0 v) (h : ALc PP N ops dr rest (F.put o.dst v) H B (acc ++ [⟨[], [], false, false, 0⟩]) K) : ALc PP N ops dr (o :: rest) F H B acc K :=
  alc_op (opl_quiet (callOf ho hx ha.symm hf) hq hv) (Nat.zero_le _) hd hw (by simp) (by simp) h

/-- A call, whatever it does (not where the order is drawn). -/
theorem alc_call {f : FuncId} {args : List AV} {Hs : Hp} {Qc : AV → Hp → Nat → Prop} {x : Operand} {xs : Array Operand} {ats : Array TypeId} {caps : List AV} (hq : ACalls PP f args Hs B Qc) (ho : o.op = .call { callee := .value x, args := xs, argTypes := ats }) (hx : F.ev x = .fn f caps)
    (ha : xs.toList.map F.ev ++ caps = args) (hf : callB PP f = true) (hd : okDst N o = true) (hw : want ops F o = some true) (hs : ∀ id k, Hs id = some k → H id = some k)
    (h : ∀ v H' B', Qc v H' B' → B ≤ B' → ALc PP N ops false rest (F.put o.dst v) (Hp.after H Hs H') B' (acc ++ [⟨[], [], true, true, 0⟩]) K) : ALc PP N ops false (o :: rest) F H B acc K :=
  ⟨hd, .inr (.inr (.inl ⟨rfl, hw, f, args, Hs, Qc, callOf ho hx ha.symm hf, hq, hs, h⟩))⟩

end

end Go.Proofs.YtnaafbdgkmlnaaaGreat

/- The abstract machine: a region that draws its order may be walked in the order of the text. -/
namespace Go.Proofs.YtnaafbdgkmlnaaaGreat
set_option linter.unusedVariables false
set_option linter.unusedSimpArgs false
set_option linter.unnecessarySimpa false

structure Stp where
  U : List (Nat × Option Blk)
  R : List (Nat × Blk)
  Bm : Nat
  B : Nat
  B' : Nat
  v : AV

abbrev OS := Oper × Stp
def sel {α : Type} (S : Nat → Bool) : Nat → List α → List α
  | _, [] => []
  | k, x :: xs => bif S k then x :: sel S (k + 1) xs else sel S (k + 1) xs
def frAll : List OS → Fr → Fr
  | [], F => F
  | x :: l, F => frAll l (F.put x.1.dst x.2.v)
def hpAll : List OS → Hp → Hp
  | [], H => H
  | x :: l, H => hpAll l (H.app x.2.U)
def bAll : List OS → Nat → Nat
  | [], B => B
  | x :: l, B => bAll l (if x.2.B < x.2.B' then x.2.B' else B)

theorem sel_lt {α : Type} (i : Nat) : ∀ (l : List α) (k : Nat), sel (fun j => decide (j < k + i)) k l = l.take i
  | [], k => by simp [sel]
  | x :: l, k => by
    cases i with
    | zero =>
      have h := sel_lt 0 l (k + 1)
      have e : ∀ (l : List α) (m : Nat), k ≤ m → sel (fun j => decide (j < k)) m l = [] := by
        intro l
        induction l with
        | nil => intro m _; rfl
        | cons y l ih => intro m hm; simp only [sel]; rw [show decide (m < k) = false by simp; omega]; exact ih (m + 1) (by omega)
      simpa using e (x :: l) k (Nat.le_refl _)
    | succ i =>
      have h := sel_lt i l (k + 1)
      simp only [sel]
      rw [show decide (k < k + (i + 1)) = true by simp]
      simp only [cond_true, List.take_succ_cons]
      rw [show (fun j => decide (j < k + (i + 1))) = (fun j => decide (j < k + 1 + i)) by funext j; congr 1; apply propext; omega, h]

theorem sel_all {α : Type} {S : Nat → Bool} : ∀ (l : List α) (k : Nat), (∀ j, j < l.length → S (k + j) = true) → sel S k l = l
  | [], _, _ => rfl
  | x :: l, k, h => by
    simp only [sel]
    rw [show S k = true by simpa using h 0 (by simp)]
    simp only [cond_true]
    rw [sel_all l (k + 1) (fun j hj => by rw [show k + 1 + j = k + (j + 1) by omega]; exact h (j + 1) (by simpa using hj))]

/-! ### What the frame, the heap and the bound hold depends on some of the operations alone -/
theorem frAll_congr {t : Nat} {S S' : Nat → Bool} : ∀ (l : List OS) (k : Nat) (F F' : Fr), F t = F' t → (∀ j x, l[j]? = some x → x.1.dst = some t → S (k + j) = S' (k + j)) → frAll (sel S k l) F t = frAll (sel S' k l) F' t
  | [], _, _, _, h, _ => h
  | x :: l, k, F, F', h, hs => by
    have ih := fun F F' h => frAll_congr (t := t) (S := S) (S' := S') l (k + 1) F F' h (fun j y hy hd => by rw [show k + 1 + j = k + (j + 1) by omega]; exact hs (j + 1) y (by simpa using hy) hd)
    by_cases hx : x.1.dst = some t
    · have := hs 0 x rfl hx
      simp only [Nat.add_zero] at this
      simp only [sel, this]
      cases S' k
      · exact ih _ _ h
      · exact ih _ _ (by simp [frAll, hx])
    · have hput : ∀ F : Fr, (F.put x.1.dst x.2.v) t = F t := fun F => by
        cases hd : x.1.dst with
        | none => rfl
        | some d => simp only [Fr.put_some, Fr.set_app]; rw [if_neg (fun e => hx (by rw [hd, e]))]
      simp only [sel]
      cases S k <;> cases S' k <;> simp only [cond_true, cond_false, frAll] <;> refine ih _ _ ?_ <;> (try rw [hput]) <;> (try rw [hput]) <;> exact h

theorem frAll_last {t i : Nat} {S : Nat → Bool} {x : OS} : ∀ (l : List OS) (k : Nat) (F : Fr), l[i]? = some x → x.1.dst = some t → S (k + i) = true → (∀ j y, l[j]? = some y → y.1.dst = some t → S (k + j) = true → j ≤ i) → frAll (sel S k l) F t = x.2.v := by
  induction i with
  | zero =>
    intro l k F hx hd hS hl
    cases l with
    | nil => cases hx
    | cons y l =>
      simp only [List.getElem?_cons_zero, Option.some.injEq] at hx
      subst hx
      simp only [sel]
      rw [show S k = true by simpa using hS]
      simp only [cond_true, frAll]
      rw [frAll_congr (S := S) (S' := fun _ => false) l (k + 1) _ _ rfl (fun j z hz hzd => by
        cases hq : S (k + 1 + j) with
        | false => rfl
        | true => exact absurd (hl (j + 1) z (by simpa using hz) hzd (by rw [show k + (j + 1) = k + 1 + j by omega]; exact hq)) (by omega))]
      have e : ∀ (l : List OS) (m : Nat) (F : Fr), frAll (sel (fun _ => false) m l) F = F := by
        intro l
        induction l with
        | nil => intro m F; rfl
        | cons z l ih => intro m F; simp only [sel, cond_false]; exact ih _ _
      rw [e]
      simp [hd]
  | succ i ih =>
    intro l k F hx hd hS hl
    cases l with
    | nil => cases hx
    | cons y l =>
      have := fun F => ih l (k + 1) F (by simpa using hx) hd (by rw [show k + 1 + i = k + (i + 1) by omega]; exact hS) (fun j z hz hzd hq => by
        have := hl (j + 1) z (by simpa using hz) hzd (by rw [show k + (j + 1) = k + 1 + j by omega]; exact hq)
        omega)
      simp only [sel]
      cases S k
      · exact this _
      · exact this _

theorem app_out {id : Nat} {U : List (Nat × Option Blk)} (h : ∀ p ∈ U, p.1 ≠ id) : ∀ H : Hp, H.app U id = H id := by
  induction U with
  | nil => intro H; rfl
  | cons p U ih =>
    intro H
    have := ih (fun q hq => h q (by simp [hq]))
    have hp := h p (by simp)
    obtain ⟨a, b⟩ := p
    cases b with
    | none => rw [Hp.app_none, this]; simp only [Hp.del_app]; rw [if_neg (fun e => hp e.symm)]
    | some b => rw [Hp.app_some, this]; simp only [Hp.set_app]; rw [if_neg (fun e => hp e.symm)]
theorem app_in {id : Nat} {U : List (Nat × Option Blk)} (h : ∃ p ∈ U, p.1 = id) : ∀ H H' : Hp, H.app U id = H'.app U id := by
  induction U with
  | nil => obtain ⟨p, hp, _⟩ := h; cases hp
  | cons p U ih =>
    intro H H'
    by_cases hU : ∃ q ∈ U, q.1 = id
    · have := ih hU
      obtain ⟨a, b⟩ := p
      cases b with
      | none => rw [Hp.app_none, Hp.app_none]; exact this _ _
      | some b => rw [Hp.app_some, Hp.app_some]; exact this _ _
    · have hout : ∀ q ∈ U, q.1 ≠ id := fun q hq e => hU ⟨q, hq, e⟩
      obtain ⟨q, hq, e⟩ := h
      rcases List.mem_cons.1 hq with rfl | hq
      · obtain ⟨a, b⟩ := q
        simp only at e
        subst e
        cases b with
        | none => rw [Hp.app_none, Hp.app_none, app_out hout, app_out hout]; simp
        | some b => rw [Hp.app_some, Hp.app_some, app_out hout, app_out hout]; simp
      · exact absurd e (hout q hq)

def inU (id : Nat) (x : OS) : Prop := ∃ p ∈ x.2.U, p.1 = id

theorem hpAll_congr {id : Nat} {S S' : Nat → Bool} : ∀ (l : List OS) (k : Nat) (H H' : Hp), H id = H' id → (∀ j x, l[j]? = some x → inU id x → S (k + j) = S' (k + j)) → hpAll (sel S k l) H id = hpAll (sel S' k l) H' id
  | [], _, _, _, h, _ => h
  | x :: l, k, H, H', h, hs => by
    have ih := fun F F' h => hpAll_congr (id := id) (S := S) (S' := S') l (k + 1) F F' h (fun j y hy hd => by rw [show k + 1 + j = k + (j + 1) by omega]; exact hs (j + 1) y (by simpa using hy) hd)
    by_cases hx : inU id x
    · have := hs 0 x rfl hx
      simp only [Nat.add_zero] at this
      simp only [sel, this]
      cases S' k
      · exact ih _ _ h
      · exact ih _ _ (app_in hx _ _)
    · have hput : ∀ F : Hp, (F.app x.2.U) id = F id := app_out (fun p hp e => hx ⟨p, hp, e⟩)
      simp only [sel]
      cases S k <;> cases S' k <;> simp only [cond_true, cond_false, hpAll] <;> refine ih _ _ ?_ <;> (try rw [hput]) <;> (try rw [hput]) <;> exact h

theorem hpAll_last {id i : Nat} {S : Nat → Bool} {x : OS} : ∀ (l : List OS) (k : Nat) (H H' : Hp), l[i]? = some x → inU id x → S (k + i) = true → (∀ j y, l[j]? = some y → inU id y → S (k + j) = true → j ≤ i) → hpAll (sel S k l) H id = (H'.app x.2.U) id := by
  induction i with
  | zero =>
    intro l k H H' hx hd hS hl
    cases l with
    | nil => cases hx
    | cons y l =>
      simp only [List.getElem?_cons_zero, Option.some.injEq] at hx
      subst hx
      simp only [sel]
      rw [show S k = true by simpa using hS]
      simp only [cond_true, hpAll]
      rw [hpAll_congr (S := S) (S' := fun _ => false) l (k + 1) _ _ rfl (fun j z hz hzd => by
        cases hq : S (k + 1 + j) with
        | false => rfl
        | true => exact absurd (hl (j + 1) z (by simpa using hz) hzd (by rw [show k + (j + 1) = k + 1 + j by omega]; exact hq)) (by omega))]
      have e : ∀ (l : List OS) (m : Nat) (F : Hp), hpAll (sel (fun _ => false) m l) F = F := by
        intro l
        induction l with
        | nil => intro m F; rfl
        | cons z l ih => intro m F; simp only [sel, cond_false]; exact ih _ _
      rw [e]
      exact app_in hd _ _
  | succ i ih =>
    intro l k H H' hx hd hS hl
    cases l with
    | nil => cases hx
    | cons y l =>
      have := fun F => ih l (k + 1) F H' (by simpa using hx) hd (by rw [show k + 1 + i = k + (i + 1) by omega]; exact hS) (fun j z hz hzd hq => by
        have := hl (j + 1) z (by simpa using hz) hzd (by rw [show k + (j + 1) = k + 1 + j by omega]; exact hq)
        omega)
      simp only [sel]
      cases S k
      · exact this _
      · exact this _

theorem bAll_congr {S S' : Nat → Bool} : ∀ (l : List OS) (k : Nat) (B : Nat), (∀ j x, l[j]? = some x → x.2.B < x.2.B' → S (k + j) = S' (k + j)) → bAll (sel S k l) B = bAll (sel S' k l) B
  | [], _, _, _ => rfl
  | x :: l, k, B, hs => by
    have ih := fun B => bAll_congr (S := S) (S' := S') l (k + 1) B (fun j y hy hd => by rw [show k + 1 + j = k + (j + 1) by omega]; exact hs (j + 1) y (by simpa using hy) hd)
    by_cases hx : x.2.B < x.2.B'
    · have := hs 0 x rfl hx
      simp only [Nat.add_zero] at this
      simp only [sel, this]
      cases S' k
      · exact ih _
      · exact ih _
    · simp only [sel]
      cases S k <;> cases S' k <;> simp only [cond_true, cond_false, bAll, hx, if_false] <;> exact ih _

theorem bAll_last {i : Nat} {S : Nat → Bool} {x : OS} : ∀ (l : List OS) (k : Nat) (B : Nat), l[i]? = some x → x.2.B < x.2.B' → S (k + i) = true → (∀ j y, l[j]? = some y → y.2.B < y.2.B' → S (k + j) = true → j ≤ i) → bAll (sel S k l) B = x.2.B' := by
  induction i with
  | zero =>
    intro l k B hx hd hS hl
    cases l with
    | nil => cases hx
    | cons y l =>
      simp only [List.getElem?_cons_zero, Option.some.injEq] at hx
      subst hx
      simp only [sel]
      rw [show S k = true by simpa using hS]
      simp only [cond_true, bAll, hd, if_true]
      rw [bAll_congr (S := S) (S' := fun _ => false) l (k + 1) _ (fun j z hz hzd => by
        cases hq : S (k + 1 + j) with
        | false => rfl
        | true => exact absurd (hl (j + 1) z (by simpa using hz) hzd (by rw [show k + (j + 1) = k + 1 + j by omega]; exact hq)) (by omega))]
      have e : ∀ (l : List OS) (m : Nat) (F : Nat), bAll (sel (fun _ => false) m l) F = F := by
        intro l
        induction l with
        | nil => intro m F; rfl
        | cons z l ih => intro m F; simp only [sel, cond_false]; exact ih _ _
      rw [e]
  | succ i ih =>
    intro l k B hx hd hS hl
    cases l with
    | nil => cases hx
    | cons y l =>
      have := fun F => ih l (k + 1) F (by simpa using hx) hd (by rw [show k + 1 + i = k + (i + 1) by omega]; exact hS) (fun j z hz hzd hq => by
        have := hl (j + 1) z (by simpa using hz) hzd (by rw [show k + (j + 1) = k + 1 + j by omega]; exact hq)
        omega)
      simp only [sel]
      cases S k
      · exact this _
      · exact this _

/-! ### The walk in the order of the text, as data -/
def Chain (N : Nat) (ops : Array Oper) : List OS → Fr → Hp → Nat → Prop
  | [], _, _, _ => True
  | (o, s) :: l, F, H, B => okDst N o = true ∧ s.B = B ∧ s.Bm ≤ B ∧
    ((want ops F o = some false ∧ s.v = .tup [] ∧ s.U = [] ∧ s.R = [] ∧ s.B' = B) ∨
     (want ops F o = some true ∧ OpL PP o F s.R s.U s.Bm B s.B' s.v ∧ (∀ p ∈ s.R, H p.1 = some p.2) ∧ B ≤ s.B')) ∧
    Chain N ops l (F.put o.dst s.v) (H.app s.U) (if s.B < s.B' then s.B' else B)

def infoOf (x : OS) : Info := ⟨x.2.R.map (·.1), x.2.U.map (·.1), decide (x.2.B < x.2.B'), false, x.2.Bm⟩

theorem alc_chain {N : Nat} {ops : Array Oper} {K : KT} : ∀ (l : List Oper) (F : Fr) (H : Hp) (B : Nat) (acc : List Info), ALc PP N ops true l F H B acc K →
    ∃ ss : List OS, ss.map (·.1) = l ∧ Chain N ops ss F H B ∧ K (frAll ss F) (hpAll ss H) (bAll ss B) (acc ++ ss.map infoOf)
  | [], F, H, B, acc, h => ⟨[], rfl, trivial, by simp only [List.map_nil, List.append_nil]; exact h⟩
  | o :: l, F, H, B, acc, h => by
    obtain ⟨hd, h⟩ := h
    rcases h with ⟨hw, h⟩ | ⟨hw, R, U, Bm, B', v, hop, hBm, hR, hB, hU, h⟩ | ⟨hf, _⟩ | ⟨hf, _⟩
    · obtain ⟨ss, h1, h2, h3⟩ := alc_chain l _ _ _ _ h
      refine ⟨(o, ⟨[], [], 0, B, B, .tup []⟩) :: ss, by simp [h1], ⟨hd, rfl, Nat.zero_le _, .inl ⟨hw, rfl, rfl, rfl, rfl⟩, by simpa using h2⟩, ?_⟩
      simpa [frAll, hpAll, bAll, infoOf] using h3
    · obtain ⟨ss, h1, h2, h3⟩ := alc_chain l _ _ _ _ h
      have e : (if B < B' then B' else B) = B' := by split <;> omega
      refine ⟨(o, ⟨U, R, Bm, B, B', v⟩) :: ss, by simp [h1], ⟨hd, rfl, hBm, .inr ⟨hw, hop, hR, hB⟩, by simp only; rw [e]; exact h2⟩, ?_⟩
      simpa [frAll, hpAll, bAll, infoOf, e] using h3
    · cases hf
    · cases hf

theorem chain_at {N : Nat} {ops : Array Oper} : ∀ (ss : List OS) (F : Fr) (H : Hp) (B : Nat) (i : Nat) (o : Oper) (s : Stp), Chain N ops ss F H B → ss[i]? = some (o, s) →
    okDst N o = true ∧ s.B = bAll (ss.take i) B ∧ s.Bm ≤ s.B ∧
    ((want ops (frAll (ss.take i) F) o = some false ∧ s.v = .tup [] ∧ s.U = [] ∧ s.R = [] ∧ s.B' = s.B) ∨
     (want ops (frAll (ss.take i) F) o = some true ∧ OpL PP o (frAll (ss.take i) F) s.R s.U s.Bm s.B s.B' s.v ∧ (∀ p ∈ s.R, hpAll (ss.take i) H p.1 = some p.2) ∧ s.B ≤ s.B'))
  | [], F, H, B, i, o, s, _, h => by simp at h
  | x :: ss, F, H, B, 0, o, s, hc, h => by
    simp only [List.getElem?_cons_zero, Option.some.injEq] at h
    subst h
    obtain ⟨h1, h2, h3, h4, _⟩ := hc
    refine ⟨h1, h2, by omega, ?_⟩
    rcases h4 with ⟨a, b, c, d, e⟩ | ⟨a, b, c, d⟩
    · exact .inl ⟨a, b, c, d, by omega⟩
    · exact .inr ⟨a, by rw [h2]; exact b, c, by omega⟩
  | x :: ss, F, H, B, i + 1, o, s, hc, h => by
    obtain ⟨_, _, _, _, h5⟩ := hc
    exact chain_at ss _ _ _ i o s h5 (by simpa using h)

end Go.Proofs.YtnaafbdgkmlnaaaGreat
