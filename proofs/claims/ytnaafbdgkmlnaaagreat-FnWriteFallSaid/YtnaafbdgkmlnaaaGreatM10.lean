/- Laws about the machine's run of the program's functions, part 10, in import order. No condition. -/
import Derived.Test.YtnaafbdgkmlnaaaGreatM08
import Derived.Test.YtnaafbdgkmlnaaaGreatM09

set_option linter.unusedVariables false
set_option linter.unusedSimpArgs false
set_option linter.unnecessarySimpa false
/- The abstract machine: what a piece of code needs, by computation: regions, code. -/
namespace Go.Proofs.YtnaafbdgkmlnaaaGreat
set_option linter.unusedVariables false
set_option linter.unusedSimpArgs false
set_option linter.unnecessarySimpa false

/-- An equation that simp is not to take for one by computation. -/
theorem nr {α : Sort _} {a b : α} (h : a = b) : a = b := h

/-! ### Calls -/
def okF (f : Nat) : Bool := decide (3 ≤ f) && decide (f < 232)
theorem okF_all : ((List.range 232).all fun f => decide (f < 3) || callB PP f) = true := by kernel_rfl
theorem okF_ok {f : FuncId} (h : okF f = true) : callB PP f = true := by
  unfold okF at h
  simp only [Bool.and_eq_true, decide_eq_true_eq] at h
  have := List.all_eq_true.1 okF_all f (by simpa using h.2)
  simp only [Bool.or_eq_true, decide_eq_true_eq] at this
  rcases this with h1 | h1
  · omega
  · exact h1

def callee (o : Op) (F : Fr) : Option (FuncId × List AV) := match o with
  | .call { callee := .value x, args := xs, argTypes := _ } => match F.ev x with
    | .fn f caps => if okF f then some (f, xs.toList.map F.ev ++ caps) else none
    | _ => none
  | _ => none

theorem callee_of {o : Oper} {F : Fr} {f : FuncId} {args : List AV} (h : callee o.op F = some (f, args)) : CallOf PP o F f args := by
  unfold callee at h
  split at h
  · rename_i x xs ats ho
    split at h
    · rename_i f' caps hx
      split at h
      · rename_i hf
        cases h
        exact callOf ho hx rfl (okF_ok hf)
      · cases h
    · cases h
  · cases h

/-- A call that hands back v, reads (and may write) the blocks hs, that are us then. -/
structure Told (f : FuncId) (args : List AV) (hs us : List (Nat × Blk)) (Bm : Nat) (v : AV) : Prop where
  call : ∀ Bx, Bm ≤ Bx → ACalls PP f args (Hp.of hs) Bx (fun v' H' _ => v' = v ∧ ∀ p ∈ us, H' p.1 = some p.2)
  keys : ∀ p ∈ us, ∃ k, (p.1, k) ∈ hs
  lt : AV.lt Bm v
  rows : ∀ p ∈ us, AV.ltLL Bm p.2.rows
  nd : ∀ p ∈ hs, Hp.of hs p.1 = some p.2
  all : ∀ p ∈ hs, ∃ k, (p.1, k) ∈ us

theorem Told.keys' {f : FuncId} {args : List AV} {hs us : List (Nat × Blk)} {Bm : Nat} {v : AV} (h : Told f args hs us Bm v) : ∀ p ∈ upds us, ∃ k, (p.1, k) ∈ hs := by
  intro p hp
  simp only [upds, List.mem_map] at hp
  obtain ⟨q, hq, rfl⟩ := hp
  exact h.keys q hq

theorem Told.op {o : Oper} {F : Fr} {f : FuncId} {args : List AV} {hs us : List (Nat × Blk)} {Bm B : Nat} {v : AV} (h : Told f args hs us Bm v) (hco : CallOf PP o F f args) : OpL PP o F hs (upds us) Bm B B v :=
  opl_call hco h.call h.keys h.lt h.rows h.nd h.all

def CallW (f : FuncId) (args : List AV) (H : Hp) (B : Nat) (K : AV → Hp → Nat → Prop) : Prop :=
  (∃ v hs us Bm, Told f args hs us Bm v ∧ Bm ≤ B ∧ (∀ p ∈ hs, H p.1 = some p.2) ∧ K v (H.app (upds us)) B) ∨
  (∃ Hs Qc, ACalls PP f args Hs B Qc ∧ (∀ id k, Hs id = some k → H id = some k) ∧ ∀ v H' B', Qc v H' B' → B ≤ B' → K v (Hp.after H Hs H') B') ∨
  (∃ v hs us new, ToldN f args hs us B v new ∧ (∀ p ∈ hs, H p.1 = some p.2) ∧ K v (H.app (upds us ++ newU B new)) (B + new.length))

def CallD (f : FuncId) (args : List AV) (H : Hp) (B : Nat) (K : AV → Hp → Nat → Info → Prop) : Prop :=
  (∃ v hs us Bm, Told f args hs us Bm v ∧ Bm ≤ B ∧ (∀ p ∈ hs, H p.1 = some p.2) ∧ K v (H.app (upds us)) B ⟨hs.map (·.1), us.map (·.1), false, false, Bm⟩) ∨
  (∃ v hs us new, ToldN f args hs us B v new ∧ (∀ p ∈ hs, H p.1 = some p.2) ∧ K v (H.app (upds us ++ newU B new)) (B + new.length) ⟨hs.map (·.1), (upds us ++ newU B new).map (·.1), true, false, 0⟩)

theorem toldN_keys {f : FuncId} {args : List AV} {hs us : List (Nat × Blk)} {B : Nat} {v : AV} {new : List Blk} (h : ToldN f args hs us B v new) : ∀ p ∈ upds us ++ newU B new, (∃ k, (p.1, k) ∈ hs) ∨ (B ≤ p.1 ∧ p.1 < B + new.length) := by
  intro p hp
  rcases List.mem_append.1 hp with hp | hp
  · simp only [upds, List.mem_map] at hp
    obtain ⟨q, hq, rfl⟩ := hp
    exact .inl (h.keys q hq)
  · obtain ⟨j, k, h1, rfl⟩ := newU_mem hp
    have := (List.getElem?_eq_some_iff.1 h1).1
    exact .inr ⟨by simp, by simp; omega⟩

/-- How a walk goes: which slots get what will be written; which calls are known. -/
structure Cfg where
  mu : Nat → Bool
  an : FuncId → List AV → Option AV
  ok : ∀ f args v, an f args = some v → Told f args [] [] 0 v

/-! ### Is it nil? -/
/-- Of x it is asked whether it is nil; true: it may be. -/
def nilT (o : Op) (F : Fr) : Option Bool := match o with
  | .binOp .eql t x (.const (.slice none 0 0)) _ => (match tt t with
    | some y => if y.kind = 2 then (match F.ev x with
      | .sl _ xs => some xs.isEmpty
      | .nils => some true
      | .ref _ _ _ _ => some false
      | _ => none) else none
    | none => none)
  | _ => none

theorem run_equal_nil {t : TypeId} {y : TY} (h : tt t = some y) (hk : y.kind = 2) (a : Option Addr) (n c : Nat) (w : World) : (Op.equal t (.slice a n c) (.slice none 0 0)).run PP w = .ok a.isNone w := by
  have : ∀ d, (Op.equalIn (d + 1) t (.slice a n c) (.slice none 0 0)).run PP w = .ok a.isNone w := fun d => by
    cases a <;> simp [Op.equalIn, Sem.run_bind, run_underlying (elOf h hk), Result.andThen_ok, Sem.run_pure]
  exact this 9999

theorem opn_nil {o : Oper} {F : Fr} {e : Bool} (h : nilT o.op F = some e) : OpN PP o F (fun v => ∃ b, v = .bool b ∧ (b = true → e = true)) := by
  intro c g H B w a hs hx next Q hn
  unfold nilT at h
  split at h
  · rename_i t x t' ho
    split at h
    · rename_i y hy
      split at h
      · rename_i hk
        have hrx : RepV g w (F.ev x) (a.eval x) := hx x (by rw [ho]; simp [Op.operands])
        have key : ∀ (ad : Option Addr) (n cp : Nat), a.eval x = .slice ad n cp → (ad.isNone = true → e = true) → o.wp PP a w next Q := by
          intro ad n cp he hem
          have hc : a.eval (.const (.slice none 0 0)) = .slice none 0 0 := rfl
          have hg : eqGuard .eql t x (.const (.slice none 0 0)) (.slice ad n cp) (.slice none 0 0) = pure () := rfl
          have hb : binOp .eql t (.slice ad n cp) (.slice none 0 0) = (do pure (.bool (← Op.equal t (.slice ad n cp) (.slice none 0 0)))) := rfl
          have hr : (execOp a.eval o).run PP w = .ok (.value (.bool ad.isNone)) w := by
            obtain ⟨dst, op, ty, pos, aft, gd⟩ := o
            simp only at ho
            subst ho
            simp only [execOp, he, hc, hg, hb, Sem.run_bind, Sem.run_pure, Result.andThen_ok, run_equal_nil hy hk]
          unfold Oper.wp
          rw [hr]
          exact hn _ _ ⟨_, rfl, hem⟩ (.bool _)
        split at h
        · rename_i sz xs hv
          rw [hv] at hrx
          cases h
          generalize hcv : a.eval x = cv at hrx
          cases hrx with
          | sl0 _ ad c => exact key ad 0 c hcv (fun _ => rfl)
          | sl _ _ b o n c vs => exact key _ n c hcv (by simp)
        · rename_i hv
          rw [hv] at hrx
          cases h
          generalize hcv : a.eval x = cv at hrx
          cases hrx with
          | nils ad => exact key ad 0 0 hcv (fun _ => rfl)
        · rename_i id sz off m hv
          rw [hv] at hrx
          cases h
          generalize hcv : a.eval x = cv at hrx
          cases hrx with
          | ref _ _ _ _ b c cs e fz => exact key _ _ c hcv (by simp)
        · cases h
      · cases h
    · cases h
  · cases h

/-! ### A region -/
def muOf (M : Cfg) (o : Oper) : Bool := match o.dst with | some d => M.mu d | none => false

def wpOps (M : Cfg) (N : Nat) (ops : Array Oper) : List Oper → Fr → Hp → Nat → QT → Prop
  | [], F, H, B, Q => Q .normal F H B
  | o :: rest, F, H, B, Q => okDst N o = true ∧ (match want ops F o with
    | some b => (b = true → (match evOp o.op F H with
      | some (v, _) => wpOps M N ops rest (F.put o.dst v) H B Q
      | none => (match stepM (muOf M o) o.op F H B with
        | some m => wpOps M N ops rest (F.put o.dst m.v) (H.app m.U) m.B' Q
        | none => (match callee o.op F with
          | some (f, args) => (match M.an f args with
            | some v => wpOps M N ops rest (F.put o.dst v) H B Q
            | none => CallW f args H B (fun v H B => wpOps M N ops rest (F.put o.dst v) H B Q))
          | none => (match xOp o.op F with
            | some v => wpOps M N ops rest (F.put o.dst v) H B Q
            | none => (match nilT o.op F with
              | some e => ∀ x : Bool, (x = true → e = true) → wpOps M N ops rest (F.put o.dst (.bool x)) H B Q
              | none => False)))))) ∧ (b = false → wpOps M N ops rest (F.put o.dst (.tup [])) H B Q)
    | none => False)
def kCall (M : Cfg) (N : Nat) (ops : Array Oper) (d : Option Nat) (rest : List Oper) (F : Fr) (Q : QT) (v : AV) (H : Hp) (B : Nat) : Prop := wpOps M N ops rest (F.put d v) H B Q
def GuardO (b : Bool) (M : Cfg) (N : Nat) (ops : Array Oper) (o : Oper) (rest : List Oper) (F : Fr) (H : Hp) (B : Nat) (Q : QT) : Prop :=
  match b with
  | true => (match evOp o.op F H with
      | some (v, _) => wpOps M N ops rest (F.put o.dst v) H B Q
      | none => (match stepM (muOf M o) o.op F H B with
        | some m => wpOps M N ops rest (F.put o.dst m.v) (H.app m.U) m.B' Q
        | none => (match callee o.op F with
          | some (f, args) => (match M.an f args with
            | some v => wpOps M N ops rest (F.put o.dst v) H B Q
            | none => CallW f args H B (kCall M N ops o.dst rest F Q))
          | none => (match xOp o.op F with
            | some v => wpOps M N ops rest (F.put o.dst v) H B Q
            | none => (match nilT o.op F with
              | some e => ∀ x : Bool, (x = true → e = true) → wpOps M N ops rest (F.put o.dst (.bool x)) H B Q
              | none => False)))))
  | false => wpOps M N ops rest (F.put o.dst (.tup [])) H B Q

theorem kCall_app {M : Cfg} {N : Nat} {ops : Array Oper} {d : Option Nat} {rest : List Oper} {F : Fr} {Q : QT} {v : AV} {H : Hp} {B : Nat} : kCall M N ops d rest F Q v H B = wpOps M N ops rest (F.put d v) H B Q := nr rfl

section
variable {M : Cfg} {N : Nat} {ops : Array Oper} {o : Oper} {rest : List Oper} {F : Fr} {H : Hp} {B : Nat} {Q : QT} {p : Prop} [Decidable p]
theorem wpOps_nil : wpOps M N ops [] F H B Q = Q .normal F H B := by rw [wpOps]
theorem wpOps_cons : wpOps M N ops (o :: rest) F H B Q = (okDst N o = true ∧ (match want ops F o with
    | some b => GuardO b M N ops o rest F H B Q
    | none => False)) := by
  rw [wpOps]
  cases want ops F o with
  | none => rfl
  | some b =>
    cases b <;> simp [GuardO]
    intro _; exact Iff.rfl
theorem guard_true : GuardO true M N ops o rest F H B Q = (match evOp o.op F H with
      | some (v, _) => wpOps M N ops rest (F.put o.dst v) H B Q
      | none => (match stepM (muOf M o) o.op F H B with
        | some m => wpOps M N ops rest (F.put o.dst m.v) (H.app m.U) m.B' Q
        | none => (match callee o.op F with
          | some (f, args) => (match M.an f args with
            | some v => wpOps M N ops rest (F.put o.dst v) H B Q
            | none => CallW f args H B (kCall M N ops o.dst rest F Q))
          | none => (match xOp o.op F with
            | some v => wpOps M N ops rest (F.put o.dst v) H B Q
            | none => (match nilT o.op F with
              | some e => ∀ x : Bool, (x = true → e = true) → wpOps M N ops rest (F.put o.dst (.bool x)) H B Q
              | none => False))))) := nr rfl
theorem guard_false : GuardO false M N ops o rest F H B Q = wpOps M N ops rest (F.put o.dst (.tup [])) H B Q := nr rfl
theorem guard_dec : GuardO (decide p) M N ops o rest F H B Q = ((p → GuardO true M N ops o rest F H B Q) ∧ (¬ p → GuardO false M N ops o rest F H B Q)) := by by_cases h : p <;> simp [h]
theorem guard_ndec : GuardO (!decide p) M N ops o rest F H B Q = ((p → GuardO false M N ops o rest F H B Q) ∧ (¬ p → GuardO true M N ops o rest F H B Q)) := by by_cases h : p <;> simp [h]
end

def ChkW (ops : Array Oper) (B0 : Nat) (acc : List Info) : Prop := chk ops B0 0 acc

def wpD (M : Cfg) (N : Nat) (ops : Array Oper) (B0 : Nat) : List Oper → Fr → Hp → Nat → List Info → QT → Prop
  | [], F, H, B, acc, Q => chk ops B0 0 acc ∧ Q .normal F H B
  | o :: rest, F, H, B, acc, Q => okDst N o = true ∧ (match want ops F o with
    | some b => (b = true → (match evOp o.op F H with
      | some (v, rd) => wpD M N ops B0 rest (F.put o.dst v) H B (acc ++ [⟨rd, [], false, false, 0⟩]) Q
      | none => (match stepM (muOf M o) o.op F H B with
        | some m => wpD M N ops B0 rest (F.put o.dst m.v) (H.app m.U) m.B' (acc ++ [⟨m.R.map (·.1), m.U.map (·.1), decide (B < m.B'), false, 0⟩]) Q
        | none => (match callee o.op F with
          | some (f, args) => (match M.an f args with
            | some v => wpD M N ops B0 rest (F.put o.dst v) H B (acc ++ [⟨[], [], false, false, 0⟩]) Q
            | none => CallD f args H B (fun v H B i => wpD M N ops B0 rest (F.put o.dst v) H B (acc ++ [i]) Q))
          | none => (match xOp o.op F with
            | some v => wpD M N ops B0 rest (F.put o.dst v) H B (acc ++ [⟨[], [], false, false, 0⟩]) Q
            | none => False))))) ∧ (b = false → wpD M N ops B0 rest (F.put o.dst (.tup [])) H B (acc ++ [⟨[], [], false, false, 0⟩]) Q)
    | none => False)
def kCallD (M : Cfg) (N : Nat) (ops : Array Oper) (B0 : Nat) (d : Option Nat) (rest : List Oper) (F : Fr) (acc : List Info) (Q : QT) (v : AV) (H : Hp) (B : Nat) (i : Info) : Prop := wpD M N ops B0 rest (F.put d v) H B (acc ++ [i]) Q
def GuardD (b : Bool) (M : Cfg) (N : Nat) (ops : Array Oper) (B0 : Nat) (o : Oper) (rest : List Oper) (F : Fr) (H : Hp) (B : Nat) (acc : List Info) (Q : QT) : Prop :=
  match b with
  | true => (match evOp o.op F H with
      | some (v, rd) => wpD M N ops B0 rest (F.put o.dst v) H B (acc ++ [⟨rd, [], false, false, 0⟩]) Q
      | none => (match stepM (muOf M o) o.op F H B with
        | some m => wpD M N ops B0 rest (F.put o.dst m.v) (H.app m.U) m.B' (acc ++ [⟨m.R.map (·.1), m.U.map (·.1), decide (B < m.B'), false, 0⟩]) Q
        | none => (match callee o.op F with
          | some (f, args) => (match M.an f args with
            | some v => wpD M N ops B0 rest (F.put o.dst v) H B (acc ++ [⟨[], [], false, false, 0⟩]) Q
            | none => CallD f args H B (kCallD M N ops B0 o.dst rest F acc Q))
          | none => (match xOp o.op F with
            | some v => wpD M N ops B0 rest (F.put o.dst v) H B (acc ++ [⟨[], [], false, false, 0⟩]) Q
            | none => False))))
  | false => wpD M N ops B0 rest (F.put o.dst (.tup [])) H B (acc ++ [⟨[], [], false, false, 0⟩]) Q

theorem kCallD_app {M : Cfg} {N : Nat} {ops : Array Oper} {B0 : Nat} {d : Option Nat} {rest : List Oper} {F : Fr} {B : Nat} {acc : List Info} {Q : QT} {v : AV} {H : Hp} {i : Info} : kCallD M N ops B0 d rest F acc Q v H B i = wpD M N ops B0 rest (F.put d v) H B (acc ++ [i]) Q := nr rfl

section
variable {M : Cfg} {N : Nat} {ops : Array Oper} {B0 : Nat} {o : Oper} {rest : List Oper} {F : Fr} {H : Hp} {B : Nat} {acc : List Info} {Q : QT} {p : Prop} [Decidable p]
theorem wpD_nil : wpD M N ops B0 [] F H B acc Q = (ChkW ops B0 acc ∧ Q .normal F H B) := by rw [wpD]; rfl
theorem wpD_cons : wpD M N ops B0 (o :: rest) F H B acc Q = (okDst N o = true ∧ (match want ops F o with
    | some b => GuardD b M N ops B0 o rest F H B acc Q
    | none => False)) := by
  rw [wpD]
  cases want ops F o with
  | none => rfl
  | some b =>
    cases b <;> simp [GuardD]
    intro _; exact Iff.rfl
theorem guardD_true : GuardD true M N ops B0 o rest F H B acc Q = (match evOp o.op F H with
      | some (v, rd) => wpD M N ops B0 rest (F.put o.dst v) H B (acc ++ [⟨rd, [], false, false, 0⟩]) Q
      | none => (match stepM (muOf M o) o.op F H B with
        | some m => wpD M N ops B0 rest (F.put o.dst m.v) (H.app m.U) m.B' (acc ++ [⟨m.R.map (·.1), m.U.map (·.1), decide (B < m.B'), false, 0⟩]) Q
        | none => (match callee o.op F with
          | some (f, args) => (match M.an f args with
            | some v => wpD M N ops B0 rest (F.put o.dst v) H B (acc ++ [⟨[], [], false, false, 0⟩]) Q
            | none => CallD f args H B (kCallD M N ops B0 o.dst rest F acc Q))
          | none => (match xOp o.op F with
            | some v => wpD M N ops B0 rest (F.put o.dst v) H B (acc ++ [⟨[], [], false, false, 0⟩]) Q
            | none => False)))) := nr rfl
theorem guardD_false : GuardD false M N ops B0 o rest F H B acc Q = wpD M N ops B0 rest (F.put o.dst (.tup [])) H B (acc ++ [⟨[], [], false, false, 0⟩]) Q := nr rfl
theorem guardD_dec : GuardD (decide p) M N ops B0 o rest F H B acc Q = ((p → GuardD true M N ops B0 o rest F H B acc Q) ∧ (¬ p → GuardD false M N ops B0 o rest F H B acc Q)) := by by_cases h : p <;> simp [h]
theorem guardD_ndec : GuardD (!decide p) M N ops B0 o rest F H B acc Q = ((p → GuardD false M N ops B0 o rest F H B acc Q) ∧ (¬ p → GuardD true M N ops B0 o rest F H B acc Q)) := by by_cases h : p <;> simp [h]
end

theorem wpOps_sound {M : Cfg} {N : Nat} {ops : Array Oper} {Q : QT} {K : KT} (hK : ∀ F H B acc, Q .normal F H B → K F H B acc) : ∀ (l : List Oper) (F : Fr) (H : Hp) (B : Nat) (acc : List Info), wpOps M N ops l F H B Q → ALc PP N ops false l F H B acc K := by
  intro l
  induction l with
  | nil => intro F H B acc h; rw [wpOps] at h; exact hK _ _ _ _ h
  | cons o l ih =>
    intro F H B acc h
    rw [wpOps] at h
    obtain ⟨hd, h⟩ := h
    split at h
    · rename_i b hw
      obtain ⟨h, hf⟩ := h
      cases b
      · exact alc_skip hd hw (ih _ _ _ _ (hf rfl))
      replace h := h rfl
      split at h
      · rename_i v rd he; exact alc_pure hd hw he (ih _ _ _ _ h)
      · split at h
        · rename_i m hm
          obtain ⟨h1, h2, h3, h4⟩ := stepM_sound hm
          exact ⟨hd, .inr (.inl ⟨hw, m.R, m.U, 0, m.B', m.v, h1, Nat.zero_le _, h2, h3, h4, ih _ _ _ _ h⟩)⟩
        · split at h
          · rename_i f args hf
            split at h
            · rename_i v hv
              exact alc_op ((M.ok f args v hv).op (callee_of hf)) (Nat.zero_le _) hd hw (by simp) (by simp [upds]) (by simpa [upds] using ih _ _ _ _ h)
            rcases h with ⟨v, hs, us, Bm, ht, hB, hH, h⟩ | ⟨Hs, Qc, ht, hs, h⟩ | ⟨v, hs, us, new, ht, hH, h⟩
            · exact alc_op (ht.op (callee_of hf)) hB hd hw hH ht.keys' (ih _ _ _ _ h)
            · exact ⟨hd, .inr (.inr (.inl ⟨rfl, hw, f, args, Hs, Qc, callee_of hf, ht, hs, fun v H' B' hq hb => ih _ _ _ _ (h v H' B' hq hb)⟩))⟩
            · exact ⟨hd, .inr (.inl ⟨hw, hs, _, 0, _, v, opl_callN (callee_of hf) ht, Nat.zero_le _, hH, Nat.le_add_right _ _, toldN_keys ht, ih _ _ _ _ h⟩)⟩
          · split at h
            · rename_i v hv
              exact alc_op (opl_run fun g w a hx => xOp_run hv g w a hx) (Nat.zero_le _) hd hw (by simp) (by simp) (by simpa using ih _ _ _ _ h)
            · split at h
              · rename_i e he
                exact ⟨hd, .inr (.inr (.inr ⟨rfl, hw, _, opn_nil he, fun v hv => by obtain ⟨x, rfl, hx⟩ := hv; exact ih _ _ _ _ (h x hx)⟩))⟩
              · cases h
    · cases h

theorem wpD_sound {M : Cfg} {N : Nat} {ops : Array Oper} {B0 : Nat} {Q : QT} : ∀ (l : List Oper) (F : Fr) (H : Hp) (B : Nat) (acc : List Info), wpD M N ops B0 l F H B acc Q →
    ALc PP N ops true l F H B acc (fun F H B acc => chk ops B0 0 acc ∧ Q .normal F H B) := by
  intro l
  induction l with
  | nil => intro F H B acc h; rw [wpD] at h; exact h
  | cons o l ih =>
    intro F H B acc h
    rw [wpD] at h
    obtain ⟨hd, h⟩ := h
    split at h
    · rename_i b hw
      obtain ⟨h, hf⟩ := h
      cases b
      · exact alc_skip hd hw (ih _ _ _ _ (hf rfl))
      replace h := h rfl
      split at h
      · rename_i v rd he; exact alc_pure hd hw he (ih _ _ _ _ h)
      · split at h
        · rename_i m hm
          obtain ⟨h1, h2, h3, h4⟩ := stepM_sound hm
          exact ⟨hd, .inr (.inl ⟨hw, m.R, m.U, 0, m.B', m.v, h1, Nat.zero_le _, h2, h3, h4, ih _ _ _ _ h⟩)⟩
        · split at h
          · rename_i f args hf
            split at h
            · rename_i v hv
              exact alc_op ((M.ok f args v hv).op (callee_of hf)) (Nat.zero_le _) hd hw (by simp) (by simp [upds]) (by simpa [upds] using ih _ _ _ _ h)
            rcases h with ⟨v, hs, us, Bm, ht, hB, hH, h⟩ | ⟨v, hs, us, new, ht, hH, h⟩
            · have e : us.map (·.1) = (upds us).map (·.1) := by simp [upds]
              rw [e] at h
              exact alc_op (ht.op (callee_of hf)) hB hd hw hH ht.keys' (ih _ _ _ _ h)
            · have hpos := ht.pos
              have e : decide (B < B + new.length) = true := by simp; omega
              exact ⟨hd, .inr (.inl ⟨hw, hs, _, 0, _, v, opl_callN (callee_of hf) ht, Nat.zero_le _, hH, Nat.le_add_right _ _, toldN_keys ht, by rw [e]; exact ih _ _ _ _ h⟩)⟩
          · split at h
            · rename_i v hv
              exact alc_op (opl_run fun g w a hx => xOp_run hv g w a hx) (Nat.zero_le _) hd hw (by simp) (by simp) (by simpa using ih _ _ _ _ h)
            · cases h
    · cases h

/-! ### Code -/
/-- All orders are told of. -/
theorem mixed : PP.follows .mixedOrders = true := by kernel_rfl

def wpC (M : Cfg) (N : Nat) : Code → Fr → Hp → Nat → QT → Prop
  | .skip, F, H, B, Q => Q .normal F H B
  | .ret, F, H, B, Q => Q .ret F H B
  | .exit id, F, H, B, Q => Q (.exit id) F H B
  | .seq x y, F, H, B, Q => wpC M N x F H B (thenA (fun F H B => wpC M N y F H B Q) Q)
  | .block id x, F, H, B, Q => wpC M N x F H B (inBlockA id Q)
  | .cond c x y, F, H, B, Q => (match F.ev c with
    | .bool t => (t = true → wpC M N x F H B Q) ∧ (t = false → wpC M N y F H B Q)
    | _ => False)
  | .loop x, F, H, B, Q => ALoop PP N x F H B Q
  | .region _ ops dr, F, H, B, Q => (match dr with
    | false => wpOps M N ops ops.toList F H B Q
    | true => wpD M N ops B ops.toList F H B [] Q)
  | .rangeFunc .., _, _, _, _ => False
  | .scope _, _, _, _, _ => False
  | .label _, _, _, _, _ => False
  | .goto _, _, _, _, _ => False
  | .refuse _, _, _, _, _ => False
def kSeq (M : Cfg) (N : Nat) (y : Code) (Q : QT) : QT := thenA (fun F H B => wpC M N y F H B Q) Q
def CondW (t : Bool) (M : Cfg) (N : Nat) (x y : Code) (F : Fr) (H : Hp) (B : Nat) (Q : QT) : Prop := match t with
  | true => wpC M N x F H B Q
  | false => wpC M N y F H B Q

section
variable {M : Cfg} {N : Nat} {x y : Code} {F : Fr} {H : Hp} {B : Nat} {Q : QT} {p : Prop} [Decidable p] {c : Operand} {ops : Array Oper} {i : Nat}
theorem wpC_skip : wpC M N .skip F H B Q = Q .normal F H B := nr rfl
theorem wpC_ret : wpC M N .ret F H B Q = Q .ret F H B := nr rfl
theorem wpC_exit : wpC M N (.exit i) F H B Q = Q (.exit i) F H B := nr rfl
theorem wpC_seq : wpC M N (.seq x y) F H B Q = wpC M N x F H B (kSeq M N y Q) := nr rfl
theorem wpC_block : wpC M N (.block i x) F H B Q = wpC M N x F H B (inBlockA i Q) := nr rfl
theorem wpC_loop : wpC M N (.loop x) F H B Q = ALoop PP N x F H B Q := nr rfl
theorem wpC_region : wpC M N (.region i ops false) F H B Q = wpOps M N ops ops.toList F H B Q := nr rfl
theorem wpC_draw : wpC M N (.region i ops true) F H B Q = wpD M N ops B ops.toList F H B [] Q := nr rfl
theorem wpC_cond : wpC M N (.cond c x y) F H B Q = (match F.ev c with
    | .bool t => CondW t M N x y F H B Q
    | _ => False) := by
  rw [wpC]
  cases F.ev c <;> try rfl
  rename_i t
  cases t <;> simp [CondW]
theorem cond_t : CondW true M N x y F H B Q = wpC M N x F H B Q := nr rfl
theorem cond_f : CondW false M N x y F H B Q = wpC M N y F H B Q := nr rfl
theorem cond_dec : CondW (decide p) M N x y F H B Q = ((p → wpC M N x F H B Q) ∧ (¬ p → wpC M N y F H B Q)) := by by_cases h : p <;> simp [h, CondW]
theorem cond_ndec : CondW (!decide p) M N x y F H B Q = ((p → wpC M N y F H B Q) ∧ (¬ p → wpC M N x F H B Q)) := by by_cases h : p <;> simp [h, CondW]
end

section
variable {M : Cfg} {N : Nat} {y : Code} {Q : QT} {F : Fr} {H : Hp} {B : Nat}
@[simp] theorem kSeq_normal : kSeq M N y Q .normal F H B = wpC M N y F H B Q := nr rfl
@[simp] theorem kSeq_ret : kSeq M N y Q .ret F H B = Q .ret F H B := nr rfl
@[simp] theorem kSeq_exit {i : Nat} : kSeq M N y Q (.exit i) F H B = Q (.exit i) F H B := nr rfl
@[simp] theorem inBlockA_normal {i : Nat} : inBlockA i Q .normal F H B = Q .normal F H B := nr rfl
@[simp] theorem inBlockA_ret {i : Nat} : inBlockA i Q .ret F H B = Q .ret F H B := nr rfl
@[simp] theorem inBlockA_exit {i j : Nat} : inBlockA i Q (.exit j) F H B = if j = i then Q .normal F H B else Q (.exit j) F H B := nr rfl
@[simp] theorem thenA_normal {n : Fr → Hp → Nat → Prop} : thenA n Q .normal F H B = n F H B := nr rfl
@[simp] theorem thenA_ret {n : Fr → Hp → Nat → Prop} : thenA n Q .ret F H B = Q .ret F H B := nr rfl
@[simp] theorem thenA_exit {n : Fr → Hp → Nat → Prop} {i : Nat} : thenA n Q (.exit i) F H B = Q (.exit i) F H B := nr rfl
end

/-- The regions that draw their order can be told of. -/
def drOk : Code → Bool
  | .seq x y => drOk x && drOk y
  | .block _ x => drOk x
  | .cond _ x y => drOk x && drOk y
  | .loop x => drOk x
  | .region _ ops true => dstOk ops
  | _ => true

theorem wpC_sound (M : Cfg) {N : Nat} : ∀ (cd : Code) (F : Fr) (H : Hp) (B : Nat) (Q : QT), drOk cd = true → wpC M N cd F H B Q → AWP PP N cd F H B Q
  | .skip, F, H, B, Q, _, h => awp_skip (by rw [wpC] at h; exact h)
  | .ret, F, H, B, Q, _, h => awp_ret (by rw [wpC] at h; exact h)
  | .exit id, F, H, B, Q, _, h => awp_exit (by rw [wpC] at h; exact h)
  | .seq x y, F, H, B, Q, hd, h => by
    rw [wpC] at h
    simp only [drOk, Bool.and_eq_true] at hd
    refine awp_seq (awp_mono (wpC_sound M x F H B _ hd.1 h) fun e F H B hq => ?_)
    cases e <;> first | exact wpC_sound M y F H B Q hd.2 hq | exact hq
  | .block id x, F, H, B, Q, hd, h => by
    rw [wpC] at h
    simp only [drOk] at hd
    exact awp_block (wpC_sound M x F H B _ hd h)
  | .cond c x y, F, H, B, Q, hd, h => by
    rw [wpC] at h
    simp only [drOk, Bool.and_eq_true] at hd
    split at h
    · rename_i t ht
      exact awp_if ht (fun e => wpC_sound M x F H B Q hd.1 (h.1 e)) (fun e => wpC_sound M y F H B Q hd.2 (h.2 e))
    · cases h
  | .loop x, F, H, B, Q, _, h => awp_loop (by rw [wpC] at h; exact h)
  | .region _ ops false, F, H, B, Q, _, h => by
    rw [wpC] at h
    exact awp_region_k fun K hK => wpOps_sound hK _ _ _ _ _ h
  | .region _ ops true, F, H, B, Q, hd, h => by
    rw [wpC] at h
    simp only [drOk] at hd
    exact awp_draw mixed hd (wpD_sound _ _ _ _ _ h)
  | .rangeFunc .., F, H, B, Q, _, h => by rw [wpC] at h; cases h
  | .scope _, F, H, B, Q, _, h => by rw [wpC] at h; cases h
  | .label _, F, H, B, Q, _, h => by rw [wpC] at h; cases h
  | .goto _, F, H, B, Q, _, h => by rw [wpC] at h; cases h
  | .refuse _, F, H, B, Q, _, h => by rw [wpC] at h; cases h

/-! ### A function -/
theorem acalls (M : Cfg) {f : FuncId} {fn : Func} {cd : Code} {args : List AV} {H : Hp} {B : Nat} {Q : AV → Hp → Nat → Prop} (hf : PP.funcs[f]? = some fn) (hb : fn.body = some cd) (hl : args.length ≤ fn.ntmps) (hd : drOk cd = true)
    (h : (∀ id k, H id = some k → id < B) → wpC M fn.ntmps cd (Fr.args args) H B (fun e F H B => (e = .normal ∨ e = .ret) ∧ ∃ v, resAV fn.results F H = some v ∧ Q v H B)) : ACalls PP f args H B Q := by
  intro g w vs hs hv
  have hlt : ∀ id k, H id = some k → id < B := fun id k h => by
    rcases Nat.lt_or_ge id B with q | q
    · exact q
    · obtain ⟨b, cs, e1, e2⟩ := hs.blk id k h
      rw [hs.free id q] at e1
      cases e1
  exact acalls_of hf hb hl (wpC_sound M _ _ _ _ _ hd (h hlt)) g w vs hs hv

/-- The same: what is decided by looking at the function, in one. -/
def bodyOk (fn : Func) (n : Nat) : Bool := match fn.body with
  | some cd => drOk cd && decide (n ≤ fn.ntmps)
  | none => false
def bodyOf (fn : Func) : Code := fn.body.getD .skip
theorem acallsF (M : Cfg) {f : FuncId} {fn : Func} {args : List AV} {H : Hp} {B : Nat} {Q : AV → Hp → Nat → Prop} (hf : PP.funcs[f]? = some fn) (hb : bodyOk fn args.length = true)
    (h : (∀ id k, H id = some k → id < B) → wpC M fn.ntmps (bodyOf fn) (Fr.args args) H B (fun e F H B => (e = .normal ∨ e = .ret) ∧ ∃ v, resAV fn.results F H = some v ∧ Q v H B)) : ACalls PP f args H B Q := by
  unfold bodyOk at hb
  split at hb
  · rename_i cd hcd
    simp only [Bool.and_eq_true, decide_eq_true_eq] at hb
    refine acalls M hf hcd hb.2 hb.1 ?_
    rw [bodyOf, hcd] at h
    exact h
  · cases hb

/-! ### Who waits for whom -/
def qacc : List Info → Bool
  | [] => true
  | x :: l => (match x.wr with | [] => true | _ => false) && !x.mks && (x.bm == 0) && qacc l
theorem chk_q {ops : Array Oper} {B0 : Nat} : ∀ (acc : List Info) (i : Nat), qacc acc = true → chk ops B0 i acc := by
  intro acc
  induction acc with
  | nil => intro i _; trivial
  | cons x l ih =>
    intro i h
    simp only [qacc, Bool.and_eq_true, Bool.not_eq_true', beq_iff_eq] at h
    obtain ⟨⟨⟨h1, h2⟩, h3⟩, h4⟩ := h
    have hx : x.wr = [] := by cases hw : x.wr with | nil => rfl | cons a b => rw [hw] at h1; cases h1
    refine ⟨by omega, fun j y hy hc => ?_, ih _ h4⟩
    exfalso
    have hy' : y.wr = [] := by
      have : ∀ (l : List Info) (j : Nat) (y : Info), qacc l = true → l[j]? = some y → y.wr = [] := by
        intro l
        induction l with
        | nil => intro j y _ h; simp at h
        | cons z l ih =>
          intro j y h hy
          simp only [qacc, Bool.and_eq_true] at h
          cases j with
          | zero => simp only [List.getElem?_cons_zero, Option.some.injEq] at hy; subst hy; cases hw : z.wr with | nil => rfl | cons a b => rw [hw] at h; simp at h
          | succ j => exact ih j y h.2 (by simpa using hy)
      exact this l j y h4 hy
    rcases hc with ⟨id, a, b⟩ | ⟨id, a, b⟩ | ⟨a, b⟩
    · rw [hx] at a; cases a
    · rw [hy'] at b; cases b
    · rw [h2] at a; cases a
theorem chkW_q {ops : Array Oper} {B0 : Nat} {acc : List Info} (h : qacc acc = true) : ChkW ops B0 acc = True := eq_true (chk_q acc 0 h)

end Go.Proofs.YtnaafbdgkmlnaaaGreat
