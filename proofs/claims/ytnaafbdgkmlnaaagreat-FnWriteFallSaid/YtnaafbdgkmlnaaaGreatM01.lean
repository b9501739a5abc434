/- Laws about the machine's run of the program's functions, part 1, in import order. No condition. -/

set_option linter.unusedVariables false
set_option linter.unusedSimpArgs false
set_option linter.unnecessarySimpa false
/- Records, pages, logs, engines, as plain Lean: what they are, and what is done with them. -/
namespace Go.Proofs.YtnaafbdgkmlnaaaGreat
set_option linter.unusedVariables false

structure R where
  kind : Int
  tx : Int
  page : Int
  slot : Int
  old : Int
  new : Int
  prev : Int
  next : Int
deriving DecidableEq

structure Pg where
  lsn : Int
  owner : Int
  vals : List Int
deriving DecidableEq

structure Eng where
  disk : List Pg
  mem : List Pg
  log : List R
  safe : Int
  down : Bool
deriving DecidableEq

/-! ### Records -/
def In (n lo hi : Int) : Prop := lo ≤ n ∧ n ≤ hi
instance (n lo hi : Int) : Decidable (In n lo hi) := inferInstanceAs (Decidable (_ ∧ _))
def Ends (r : R) : Prop := r.kind = 4 ∨ r.kind = 5
instance (r : R) : Decidable (Ends r) := inferInstanceAs (Decidable (_ ∨ _))
def Changes (k : Int) : Prop := k = 1 ∨ k = 2 ∨ k = 6
instance (k : Int) : Decidable (Changes k) := inferInstanceAs (Decidable (_ ∨ _))
def backR (r : R) (prev : Int) : R := ⟨6, r.tx, r.page, r.slot, 0, r.old, prev, r.prev⟩

/-- A record is valid. -/
def PutOk (r : R) : Prop := In r.page 0 4 ∧ In r.slot 0 2 ∧ In r.old 0 9 ∧ In r.new 0 9 ∧ r.next = 0
def OwnOk (r : R) : Prop := In r.page 0 4 ∧ r.slot = -1 ∧ In r.old 0 3 ∧ In r.new 0 3 ∧ r.next = 0
def LoadOk (r : R) : Prop := In r.page 0 4 ∧ r.slot = 0 ∧ r.old = 0 ∧ r.new = 0 ∧ r.next = 0
def EndOk (r : R) : Prop := r.page = 0 ∧ r.slot = 0 ∧ r.old = 0 ∧ r.new = 0 ∧ r.next = 0
def UndoOk (r : R) : Prop := In r.page 0 4 ∧ In r.slot (-1) 2 ∧ r.old = 0 ∧ ((r.slot = -1 ∧ In r.new 0 3) ∨ (¬ r.slot = -1 ∧ In r.new 0 9)) ∧ In r.next 0 150
def RecOkP (r : R) : Prop := ((r.kind = 1 ∧ PutOk r) ∨ (r.kind = 2 ∧ OwnOk r) ∨ (r.kind = 3 ∧ LoadOk r) ∨ ((r.kind = 4 ∨ r.kind = 5) ∧ EndOk r) ∨ (r.kind = 6 ∧ UndoOk r)) ∧ In r.tx 1 3 ∧ In r.prev 0 150
instance (r : R) : Decidable (RecOkP r) := by unfold RecOkP PutOk OwnOk LoadOk EndOk UndoOk; infer_instance

theorem RecOkP.tx {r : R} (h : RecOkP r) : 1 ≤ r.tx ∧ r.tx ≤ 3 := h.2.1
theorem RecOkP.prev {r : R} (h : RecOkP r) : 0 ≤ r.prev ∧ r.prev ≤ 150 := h.2.2
theorem RecOkP.page {r : R} (h : RecOkP r) : 0 ≤ r.page ∧ r.page ≤ 4 := by
  simp only [RecOkP, PutOk, OwnOk, LoadOk, EndOk, UndoOk, In] at h; omega
theorem RecOkP.next {r : R} (h : RecOkP r) : 0 ≤ r.next ∧ r.next ≤ 150 := by
  simp only [RecOkP, PutOk, OwnOk, LoadOk, EndOk, UndoOk, In] at h; omega
theorem RecOkP.slot {r : R} (h : RecOkP r) : -1 ≤ r.slot ∧ r.slot ≤ 2 := by
  simp only [RecOkP, PutOk, OwnOk, LoadOk, EndOk, UndoOk, In] at h; omega
theorem RecOkP.kind {r : R} (h : RecOkP r) : 1 ≤ r.kind ∧ r.kind ≤ 6 := by
  simp only [RecOkP, PutOk, OwnOk, LoadOk, EndOk, UndoOk, In] at h; omega

/-! ### Pages -/
def AllZ (vs : List Int) : Prop := ∀ v ∈ vs, v = 0
instance (vs : List Int) : Decidable (AllZ vs) := inferInstanceAs (Decidable (∀ v ∈ vs, v = 0))
def PageOkP (p : Pg) : Prop := In p.lsn 0 150 ∧ In p.owner 0 3 ∧ p.vals.length = 3 ∧ (∀ v ∈ p.vals, In v 0 9) ∧ (p.owner = 0 → AllZ p.vals)
instance (p : Pg) : Decidable (PageOkP p) := by unfold PageOkP; infer_instance
def PagesOkP (ps : List Pg) : Prop := ps.length = 5 ∧ ∀ p ∈ ps, PageOkP p
instance (ps : List Pg) : Decidable (PagesOkP ps) := by unfold PagesOkP; infer_instance
def pgNew : Pg := ⟨0, 0, [0, 0, 0]⟩
/-- A page behind a record. -/
def wr (p : Pg) (r : R) (lsn : Int) : Pg := if 0 ≤ r.slot then ⟨lsn, p.owner, p.vals.set r.slot.toNat r.new⟩ else ⟨lsn, r.new, if r.new = 0 then [0, 0, 0] else p.vals⟩
def pgAt (ps : List Pg) (n : Int) : Pg := (ps[n.toNat]?).getD pgNew
def pgSet (ps : List Pg) (n : Int) (p : Pg) : List Pg := ps.set n.toNat p

/-! ### Logs -/
def lastB (L : List R) (tx : Int) : Nat → Nat
  | 0 => 0
  | n + 1 => match L[n]? with
    | some r => if r.tx = tx then (if Ends r then 0 else n + 1) else lastB L tx n
    | none => 0
def last (L : List R) (tx : Int) : Nat := lastB L tx L.length
def LogGood (L : List R) : Prop := ∀ i r, L[i]? = some r → RecOkP r ∧ r.prev = lastB L r.tx i ∧ r.next ≤ i ∧ (0 < r.next → ∃ q, L[(r.next - 1).toNat]? = some q ∧ q.tx = r.tx)
def LogOkP (L : List R) : Prop := LogGood L ∧ L.length ≤ 150
noncomputable instance (L : List R) : Decidable (LogOkP L) := Classical.propDecidable _

def prevAt (L : List R) (n : Nat) : Nat := match L[n - 1]? with | some r => r.prev.toNat | none => 0
/-- The places of a chain, from one on. -/
def chainF (L : List R) : Nat → Nat → List Nat
  | 0, _ => []
  | _ + 1, 0 => []
  | f + 1, n + 1 => (n + 1) :: chainF L f (prevAt L (n + 1))
def chainAt (L : List R) (n : Nat) : List Nat := chainF L n n
def chain (L : List R) (tx : Int) : List Nat := chainAt L (last L tx)
/-- The place of the record that is to be undone next. -/
def backF (L : List R) : Nat → Nat → Nat
  | 0, _ => 0
  | _ + 1, 0 => 0
  | f + 1, n + 1 => match L[n]? with
    | some r => if r.kind = 1 ∨ r.kind = 2 then n + 1 else if r.kind = 6 then backF L f r.next.toNat else backF L f r.prev.toNat
    | none => 0
def back (L : List R) (n : Nat) : Nat := backF L n n
def undosF (L : List R) : Nat → Nat → List Nat
  | 0, _ => []
  | f + 1, n => match back L n with
    | 0 => []
    | m + 1 => (m + 1) :: undosF L f (prevAt L (m + 1))
def undosAt (L : List R) (n : Nat) : List Nat := undosF L n n
def undos (L : List R) (tx : Int) : List Nat := undosAt L (last L tx)
def opn (L : List R) : List Int := [1, 2, 3].filter fun tx => last L tx ≠ 0
def needTx (L : List R) (tx : Int) : Nat := if last L tx = 0 then 0 else (undos L tx).length + 1
def need (L : List R) : Nat := needTx L 1 + needTx L 2 + needTx L 3
def recAt (L : List R) (n : Nat) : R := (L[n - 1]?).getD ⟨0, 0, 0, 0, 0, 0, 0, 0⟩
def Has (L : List R) (tx : Int) (page : Int) : Prop := ∃ n ∈ chain L tx, (recAt L n).page = page
instance (L : List R) (tx page : Int) : Decidable (Has L tx page) := by unfold Has; infer_instance
def LoadedTx (L : List R) (tx : Int) (page : Int) : Prop := ∃ n ∈ chain L tx, (recAt L n).kind = 3 ∧ (recAt L n).page = page
instance (L : List R) (tx page : Int) : Decidable (LoadedTx L tx page) := by unfold LoadedTx; infer_instance
def Loaded (L : List R) (page : Int) : Prop := LoadedTx L 1 page ∨ LoadedTx L 2 page ∨ LoadedTx L 3 page
instance (L : List R) (page : Int) : Decidable (Loaded L page) := by unfold Loaded; infer_instance
def lastPB (L : List R) (page : Int) : Nat → Nat
  | 0 => 0
  | n + 1 => match L[n]? with
    | some r => if r.page = page ∧ (Changes r.kind ∨ r.kind = 3) then n + 1 else lastPB L page n
    | none => 0
def lastP (L : List R) (page : Int) : Nat := lastPB L page L.length

/-! ### Engines -/
def redoStep (ps : List Pg) (i : Nat) (r : R) : List Pg := if Changes r.kind ∧ (pgAt ps r.page).lsn < i + 1 then pgSet ps r.page (wr (pgAt ps r.page) r (i + 1)) else ps
def redoB (ps : List Pg) (L : List R) : Nat → List Pg
  | 0 => ps
  | n + 1 => match L[n]? with
    | some r => redoStep (redoB ps L n) n r
    | none => redoB ps L n
def redo (ps : List Pg) (L : List R) : List Pg := redoB ps L L.length
def undoPg (L : List R) (ps : List Pg) (n : Nat) : Pg := wr (pgAt ps (recAt L n).page) (backR (recAt L n) 0) (pgAt ps (recAt L n).page).lsn
def UndoneL (L : List R) : List Nat → List Pg → Prop
  | [], _ => True
  | n :: ns, ps => PageOkP (undoPg L ps n) ∧ UndoneL L ns (pgSet ps (recAt L n).page (undoPg L ps n))
def allUndos (L : List R) : List Nat := undos L 1 ++ undos L 2 ++ undos L 3
def Undone (ps : List Pg) (L : List R) : Prop := UndoneL L (allUndos L) ps
noncomputable instance (ps : List Pg) (L : List R) : Decidable (Undone ps L) := Classical.propDecidable _
def Fits (L : List R) : Prop := L.length + need L ≤ 150
instance (L : List R) : Decidable (Fits L) := inferInstanceAs (Decidable (_ ≤ _))
def PrefixesOk (e : Eng) : Prop := ∀ n : Nat, e.safe ≤ n → n ≤ e.log.length → PagesOkP (redoB e.disk e.log n) ∧ Undone (redoB e.disk e.log n) (e.log.take n)
noncomputable instance (e : Eng) : Decidable (PrefixesOk e) := Classical.propDecidable _
def One (L : List R) (page : Int) : Prop := ¬ (Has L 1 page ∧ Has L 2 page) ∧ ¬ (Has L 1 page ∧ Has L 3 page) ∧ ¬ (Has L 2 page ∧ Has L 3 page)
instance (L : List R) (page : Int) : Decidable (One L page) := by unfold One; infer_instance
def MemOk (e : Eng) (page : Int) (q : Pg) : Prop :=
  if Loaded e.log page then (pgAt e.mem page).owner = q.owner ∧ (pgAt e.mem page).lsn = lastP e.log page ∧ ((pgAt e.disk page).lsn < (pgAt e.mem page).lsn ∨ pgAt e.mem page = pgAt e.disk page)
  else pgAt e.mem page = q
instance (e : Eng) (page : Int) (q : Pg) : Decidable (MemOk e page q) := by unfold MemOk; infer_instance
def PageFine (e : Eng) (page : Int) : Prop := One e.log page ∧ (pgAt e.disk page).lsn ≤ e.safe ∧ (if e.down then pgAt e.mem page = pgAt e.disk page else MemOk e page (pgAt (redo e.disk e.log) page))
instance (e : Eng) (page : Int) : Decidable (PageFine e page) := by unfold PageFine; infer_instance
def EngOk (e : Eng) : Prop := PagesOkP e.disk ∧ PagesOkP e.mem ∧ LogOkP e.log ∧ In e.safe 0 e.log.length ∧ Fits e.log ∧ PrefixesOk e ∧ ∀ p : Nat, p < 5 → PageFine e p
noncomputable instance (e : Eng) : Decidable (EngOk e) := Classical.propDecidable _

end Go.Proofs.YtnaafbdgkmlnaaaGreat

/- Logs, as plain Lean: chains, and what is to be undone, step by step. -/
namespace Go.Proofs.YtnaafbdgkmlnaaaGreat
set_option linter.unusedVariables false

theorem lastB_le (L : List R) (tx : Int) : ∀ n, lastB L tx n ≤ n
  | 0 => Nat.le_refl _
  | n + 1 => by
    simp only [lastB]
    split
    · split
      · split <;> omega
      · exact Nat.le_succ_of_le (lastB_le L tx n)
    · omega

theorem lastB_congr {L L' : List R} {tx : Int} : ∀ n, (∀ i, i < n → L[i]? = L'[i]?) → lastB L tx n = lastB L' tx n
  | 0, _ => rfl
  | n + 1, h => by
    simp only [lastB]
    rw [h n (by omega), lastB_congr n fun i hi => h i (by omega)]

theorem lastB_take {L : List R} {tx : Int} {m n : Nat} (h : n ≤ m) : lastB (L.take m) tx n = lastB L tx n :=
  lastB_congr n fun i hi => by rw [List.getElem?_take, if_pos (by omega)]

theorem last_take {L : List R} {tx : Int} {n : Nat} (h : n ≤ L.length) : last (L.take n) tx = lastB L tx n := by
  unfold last
  rw [List.length_take, Nat.min_eq_left h]
  exact lastB_take (Nat.le_refl _)

theorem last_le (L : List R) (tx : Int) : last L tx ≤ L.length := lastB_le L tx _

theorem LogGood.take {L : List R} (h : LogGood L) (n : Nat) : LogGood (L.take n) := by
  intro i r hr
  rw [List.getElem?_take] at hr
  split at hr
  · rename_i hi
    obtain ⟨h1, h2, h3, h4⟩ := h i r hr
    refine ⟨h1, by rw [lastB_take (by omega)]; exact h2, h3, fun h5 => ?_⟩
    obtain ⟨q, hq, hq'⟩ := h4 h5
    exact ⟨q, by rw [List.getElem?_take, if_pos (by omega)]; exact hq, hq'⟩
  · cases hr

theorem LogOkP.take {L : List R} (h : LogOkP L) (n : Nat) : LogOkP (L.take n) := ⟨h.1.take n, by rw [List.length_take]; exact Nat.le_trans (Nat.min_le_right _ _) h.2⟩

theorem LogGood.prev_le {L : List R} (h : LogGood L) {n : Nat} {r : R} (hr : L[n]? = some r) : 0 ≤ r.prev ∧ r.prev.toNat ≤ n := by
  obtain ⟨h1, h2, _⟩ := h n r hr
  have := lastB_le L r.tx n
  omega

theorem prevAt_eq {L : List R} {n : Nat} {r : R} (hr : L[n]? = some r) : prevAt L (n + 1) = r.prev.toNat := by simp [prevAt, hr]

theorem LogGood.prevAt_le {L : List R} (h : LogGood L) {n : Nat} (hn : n < L.length) : prevAt L (n + 1) ≤ n := by
  have hr : L[n]? = some L[n] := by simp [hn]
  rw [prevAt_eq hr]
  exact (h.prev_le hr).2

theorem chainF_fuel {L : List R} (h : LogGood L) : ∀ (n f f' : Nat), n ≤ L.length → n ≤ f → n ≤ f' → chainF L f n = chainF L f' n := by
  intro n
  induction n using Nat.strongRecOn with
  | _ n ih =>
    intro f f' hl hf hf'
    cases n with
    | zero => cases f <;> cases f' <;> rfl
    | succ n =>
      cases f with
      | zero => omega
      | succ f =>
        cases f' with
        | zero => omega
        | succ f' =>
          have := h.prevAt_le (n := n) (by omega)
          simp only [chainF]
          rw [ih (prevAt L (n + 1)) (by omega) f f' (by omega) (by omega) (by omega)]

@[simp] theorem chainAt_zero (L : List R) : chainAt L 0 = [] := rfl
theorem chainAt_succ {L : List R} (h : LogGood L) {n : Nat} (hn : n < L.length) : chainAt L (n + 1) = (n + 1) :: chainAt L (prevAt L (n + 1)) := by
  have := h.prevAt_le hn
  show chainF L (n + 1) (n + 1) = _
  simp only [chainF, chainAt]
  rw [chainF_fuel h (prevAt L (n + 1)) n (prevAt L (n + 1)) (by omega) (by omega) (Nat.le_refl _)]

theorem chainF_mem {L : List R} : ∀ (f n m : Nat), m ∈ chainF L f n → 0 < m
  | 0, _, _, h => by simp [chainF] at h
  | f + 1, 0, _, h => by simp [chainF] at h
  | f + 1, n + 1, m, h => by
    simp only [chainF, List.mem_cons] at h
    rcases h with rfl | h
    · omega
    · exact chainF_mem f _ m h

theorem chainAt_le {L : List R} (h : LogGood L) : ∀ (n : Nat), n ≤ L.length → ∀ m ∈ chainAt L n, m ≤ n := by
  intro n
  induction n using Nat.strongRecOn with
  | _ n ih =>
    intro hn m hm
    cases n with
    | zero => simp at hm
    | succ n =>
      rw [chainAt_succ h (by omega)] at hm
      have := h.prevAt_le (n := n) (by omega)
      rcases List.mem_cons.1 hm with rfl | hm
      · omega
      · have := ih _ (by omega) (by omega) m hm
        omega

/-! ### What is to be undone -/
theorem backF_fuel {L : List R} (h : LogGood L) : ∀ (n f f' : Nat), n ≤ L.length → n ≤ f → n ≤ f' → backF L f n = backF L f' n := by
  intro n
  induction n using Nat.strongRecOn with
  | _ n ih =>
    intro f f' hl hf hf'
    cases n with
    | zero => cases f <;> cases f' <;> rfl
    | succ n =>
      cases f with
      | zero => omega
      | succ f =>
        cases f' with
        | zero => omega
        | succ f' =>
          have hr : L[n]? = some L[n] := List.getElem?_eq_getElem (by omega)
          obtain ⟨h1, h2⟩ := h.prev_le hr
          obtain ⟨h3, _, h4, _⟩ := h n _ hr
          have h5 := h3.next
          simp only [backF, hr]
          rw [ih _ (by omega) f f' (by omega) (by omega) (by omega), ih L[n].prev.toNat (by omega) f f' (by omega) (by omega) (by omega)]

@[simp] theorem back_zero (L : List R) : back L 0 = 0 := rfl
theorem back_succ {L : List R} (h : LogGood L) {n : Nat} {r : R} (hr : L[n]? = some r) : back L (n + 1) = if r.kind = 1 ∨ r.kind = 2 then n + 1 else if r.kind = 6 then back L r.next.toNat else back L r.prev.toNat := by
  have hn := (List.getElem?_eq_some_iff.1 hr).1
  obtain ⟨h1, h2⟩ := h.prev_le hr
  obtain ⟨h3, _, h4, _⟩ := h n _ hr
  have h5 := h3.next
  show backF L (n + 1) (n + 1) = _
  simp only [backF, hr, back]
  rw [backF_fuel h r.next.toNat n r.next.toNat (by omega) (by omega) (Nat.le_refl _), backF_fuel h r.prev.toNat n r.prev.toNat (by omega) (by omega) (Nat.le_refl _)]

theorem back_spec {L : List R} (h : LogGood L) : ∀ (n : Nat), n ≤ L.length → back L n ≤ n ∧ (∀ m, back L n = m + 1 → ∃ r, L[m]? = some r ∧ (r.kind = 1 ∨ r.kind = 2)) := by
  intro n
  induction n using Nat.strongRecOn with
  | _ n ih =>
    intro hn
    cases n with
    | zero => exact ⟨Nat.le_refl _, fun m hm => by simp at hm⟩
    | succ n =>
      have hr : L[n]? = some L[n] := List.getElem?_eq_getElem (by omega)
      obtain ⟨h1, h2⟩ := h.prev_le hr
      obtain ⟨h3, _, h4, _⟩ := h n _ hr
      have h5 := h3.next
      rw [back_succ h hr]
      split
      · rename_i hk
        exact ⟨Nat.le_refl _, fun m hm => by simp at hm; subst hm; exact ⟨_, hr, hk⟩⟩
      · split
        · have := ih L[n].next.toNat (by omega) (by omega)
          exact ⟨by omega, this.2⟩
        · have := ih L[n].prev.toNat (by omega) (by omega)
          exact ⟨by omega, this.2⟩
theorem back_le {L : List R} (h : LogGood L) {n : Nat} (hn : n ≤ L.length) : back L n ≤ n := (back_spec h n hn).1

theorem undosF_fuel {L : List R} (h : LogGood L) : ∀ (n f f' : Nat), n ≤ L.length → n ≤ f → n ≤ f' → undosF L f n = undosF L f' n := by
  intro n
  induction n using Nat.strongRecOn with
  | _ n ih =>
    intro f f' hl hf hf'
    have hb := back_le h hl
    cases f with
    | zero => obtain rfl : n = 0 := by omega
              cases f' <;> simp [undosF]
    | succ f =>
      cases f' with
      | zero => obtain rfl : n = 0 := by omega
                simp [undosF]
      | succ f' =>
        simp only [undosF]
        cases hm : back L n with
        | zero => rfl
        | succ m =>
          have := h.prevAt_le (n := m) (by omega)
          simp only
          rw [ih (prevAt L (m + 1)) (by omega) f f' (by omega) (by omega) (by omega)]

theorem undosAt_nil {L : List R} {n : Nat} (h : back L n = 0) : undosAt L n = [] := by
  unfold undosAt
  cases n with
  | zero => rfl
  | succ n => simp only [undosF, h]
theorem undosAt_succ {L : List R} (h : LogGood L) {n m : Nat} (hn : n ≤ L.length) (hm : back L n = m + 1) : undosAt L n = (m + 1) :: undosAt L (prevAt L (m + 1)) := by
  have hb := back_le h hn
  have := h.prevAt_le (n := m) (by omega)
  cases n with
  | zero => simp at hm
  | succ n =>
    show undosF L (n + 1) (n + 1) = _
    simp only [undosF, hm, undosAt]
    rw [undosF_fuel h (prevAt L (m + 1)) n (prevAt L (m + 1)) (by omega) (by omega) (Nat.le_refl _)]

end Go.Proofs.YtnaafbdgkmlnaaaGreat

/- Engines, as plain Lean: what is done again, one by one; when a page is as it must be. -/
namespace Go.Proofs.YtnaafbdgkmlnaaaGreat
set_option linter.unusedVariables false

theorem redoB_congr {ps : List Pg} {L L' : List R} : ∀ n, (∀ i, i < n → L[i]? = L'[i]?) → redoB ps L n = redoB ps L' n
  | 0, _ => rfl
  | n + 1, h => by
    simp only [redoB]
    rw [h n (by omega), redoB_congr n fun i hi => h i (by omega)]
theorem redoB_take {ps : List Pg} {L : List R} {m n : Nat} (h : n ≤ m) : redoB ps (L.take m) n = redoB ps L n :=
  redoB_congr n fun i hi => by rw [List.getElem?_take, if_pos (by omega)]
theorem redo_take {ps : List Pg} {L : List R} {n : Nat} (h : n ≤ L.length) : redo ps (L.take n) = redoB ps L n := by
  unfold redo
  rw [List.length_take, Nat.min_eq_left h]
  exact redoB_take (Nat.le_refl _)

theorem pgAt_set {ps : List Pg} {n m : Int} {p : Pg} (hn : n.toNat < ps.length) : pgAt (pgSet ps n p) m = if m.toNat = n.toNat then p else pgAt ps m := by
  unfold pgAt pgSet
  by_cases h : m.toNat = n.toNat
  · rw [if_pos h, h]; simp [hn]
  · rw [if_neg h, List.getElem?_set_ne (by omega)]
theorem redoStep_lsn {ps : List Pg} (i : Nat) (r : R) (m : Int) (h0 : 0 ≤ r.page) (h1 : r.page.toNat < ps.length) : (pgAt ps m).lsn ≤ (pgAt (redoStep ps i r) m).lsn := by
  unfold redoStep
  split
  · rename_i h
    rw [pgAt_set h1]
    split
    · rename_i e
      have : pgAt ps m = pgAt ps r.page := by unfold pgAt; rw [e]
      rw [this]
      unfold wr
      split <;> (simp only; omega)
    · exact Int.le_refl _
  · exact Int.le_refl _
theorem redoStep_len {ps : List Pg} (i : Nat) (r : R) : (redoStep ps i r).length = ps.length := by
  unfold redoStep pgSet; split <;> simp
theorem redoB_len {ps : List Pg} {L : List R} : ∀ n, (redoB ps L n).length = ps.length
  | 0 => rfl
  | n + 1 => by
    simp only [redoB]
    split
    · rw [redoStep_len, redoB_len n]
    · exact redoB_len n
theorem redoB_lsn {ps : List Pg} {L : List R} (hps : ps.length = 5) (hL : ∀ r ∈ L, RecOkP r) (m : Int) : ∀ n, (pgAt ps m).lsn ≤ (pgAt (redoB ps L n) m).lsn
  | 0 => Int.le_refl _
  | n + 1 => by
    simp only [redoB]
    split
    · rename_i r hr
      have hp := (hL r (List.mem_of_getElem? hr)).page
      exact Int.le_trans (redoB_lsn hps hL m n) (redoStep_lsn n r m hp.1 (by rw [redoB_len, hps]; omega))
    · exact redoB_lsn hps hL m n

theorem LogGood.rec {L : List R} (h : LogGood L) : ∀ r ∈ L, RecOkP r := fun r hr => by
  obtain ⟨i, hi⟩ := List.mem_iff_getElem?.1 hr
  exact (h i r hi).1

def hasN (L : List R) (t page : Int) : Nat := if Has L t page then 1 else 0
def heldN (L : List R) (page : Int) : Nat → Nat
  | 0 => 0
  | k + 1 => heldN L page k + hasN L ((k + 1 : Nat) : Int) page
theorem heldN_le (L : List R) (page : Int) : ∀ k, heldN L page k ≤ k
  | 0 => Nat.le_refl _
  | k + 1 => by
    have := heldN_le L page k
    simp only [heldN, hasN]
    split <;> omega
theorem One_iff (L : List R) (page : Int) : One L page ↔ heldN L page 3 ≤ 1 := by
  simp only [One, heldN, hasN]
  by_cases h1 : Has L 1 page <;> by_cases h2 : Has L 2 page <;> by_cases h3 : Has L 3 page <;> simp [h1, h2, h3]

end Go.Proofs.YtnaafbdgkmlnaaaGreat

/- Logs, as plain Lean: a record more. -/
namespace Go.Proofs.YtnaafbdgkmlnaaaGreat
set_option linter.unusedVariables false

theorem snoc_lt {L : List R} {r : R} {i : Nat} (h : i < L.length) : (L ++ [r])[i]? = L[i]? := by rw [List.getElem?_append_left h]
theorem snoc_at {L : List R} {r : R} : (L ++ [r])[L.length]? = some r := by simp

theorem lastB_spec {L : List R} {tx : Int} : ∀ {n m : Nat}, lastB L tx n = m + 1 → m < n ∧ ∃ q, L[m]? = some q ∧ q.tx = tx ∧ ¬ Ends q
  | 0, m, h => by simp [lastB] at h
  | n + 1, m, h => by
    simp only [lastB] at h
    split at h
    · rename_i r hr
      split at h
      · rename_i ht
        split at h
        · omega
        · rename_i he
          obtain rfl : n = m := by omega
          exact ⟨by omega, r, hr, ht, he⟩
      · obtain ⟨h1, h2⟩ := lastB_spec h
        exact ⟨by omega, h2⟩
    · omega

theorem lastB_snoc (L : List R) (r : R) (tx : Int) {n : Nat} (h : n ≤ L.length) : lastB (L ++ [r]) tx n = lastB L tx n := lastB_congr n fun i hi => snoc_lt (by omega)
theorem last_snoc (L : List R) (r : R) (tx : Int) : last (L ++ [r]) tx = if r.tx = tx then (if Ends r then 0 else L.length + 1) else last L tx := by
  unfold last
  rw [List.length_append, List.length_singleton]
  simp only [lastB, snoc_at]
  rw [lastB_snoc L r tx (Nat.le_refl _)]

theorem LogGood.snoc {L : List R} (h : LogGood L) {r : R} (hr : RecOkP r) (hp : r.prev = last L r.tx) (hn : r.next ≤ L.length) (hq : 0 < r.next → ∃ q, L[(r.next - 1).toNat]? = some q ∧ q.tx = r.tx) : LogGood (L ++ [r]) := by
  intro i q hi
  have hlt := (List.getElem?_eq_some_iff.1 hi).1
  rw [List.length_append, List.length_singleton] at hlt
  by_cases hl : i < L.length
  · rw [snoc_lt hl] at hi
    obtain ⟨h1, h2, h3, h4⟩ := h i q hi
    refine ⟨h1, by rw [lastB_snoc L r _ (by omega)]; exact h2, h3, fun h5 => ?_⟩
    obtain ⟨u, hu, ht⟩ := h4 h5
    exact ⟨u, by rw [snoc_lt (List.getElem?_eq_some_iff.1 hu).1]; exact hu, ht⟩
  · obtain rfl : i = L.length := by omega
    rw [snoc_at] at hi
    cases hi
    refine ⟨hr, by rw [lastB_snoc L r _ (Nat.le_refl _)]; exact hp, hn, fun h5 => ?_⟩
    obtain ⟨u, hu, ht⟩ := hq h5
    exact ⟨u, by rw [snoc_lt (List.getElem?_eq_some_iff.1 hu).1]; exact hu, ht⟩

theorem LogGood.left {L : List R} {r : R} (h : LogGood (L ++ [r])) : LogGood L := by
  have := h.take L.length
  rwa [List.take_left'] at this
  rfl

/-! ### The same behind what is there -/
theorem prevAt_snoc {L : List R} {r : R} {n : Nat} (h0 : 0 < n) (h : n ≤ L.length) : prevAt (L ++ [r]) n = prevAt L n := by
  unfold prevAt; rw [snoc_lt (by omega)]
theorem recAt_snoc {L : List R} {r : R} {n : Nat} (h0 : 0 < n) (h : n ≤ L.length) : recAt (L ++ [r]) n = recAt L n := by
  unfold recAt; rw [snoc_lt (by omega)]
theorem recAt_end {L : List R} {r : R} : recAt (L ++ [r]) (L.length + 1) = r := by simp [recAt]

theorem chainAt_congr {L L' : List R} (h : LogGood L) (h' : LogGood L') : ∀ n, n ≤ L.length → n ≤ L'.length → (∀ i, i < n → L'[i]? = L[i]?) → chainAt L' n = chainAt L n := by
  intro n
  induction n using Nat.strongRecOn with
  | _ n ih =>
    intro hn hn' hc
    cases n with
    | zero => simp
    | succ n =>
      have hp := h.prevAt_le (n := n) (by omega)
      have e : prevAt L' (n + 1) = prevAt L (n + 1) := by unfold prevAt; rw [hc _ (by omega)]
      rw [chainAt_succ h (by omega), chainAt_succ h' (by omega), e, ih _ (by omega) (by omega) (by omega) fun i hi => hc i (by omega)]
theorem back_congr {L L' : List R} (h : LogGood L) (h' : LogGood L') : ∀ n, n ≤ L.length → n ≤ L'.length → (∀ i, i < n → L'[i]? = L[i]?) → back L' n = back L n := by
  intro n
  induction n using Nat.strongRecOn with
  | _ n ih =>
    intro hn hn' hc
    cases n with
    | zero => simp
    | succ n =>
      have hr : L[n]? = some L[n] := List.getElem?_eq_getElem (by omega)
      have hr' : L'[n]? = some L[n] := by rw [hc n (by omega)]; exact hr
      obtain ⟨h1, h2⟩ := h.prev_le hr
      obtain ⟨h3, _, h4, _⟩ := h n _ hr
      have h5 := h3.next
      rw [back_succ h hr, back_succ h' hr', ih _ (by omega) (by omega) (by omega) fun i hi => hc i (by omega), ih L[n].prev.toNat (by omega) (by omega) (by omega) fun i hi => hc i (by omega)]
theorem undosAt_congr {L L' : List R} (h : LogGood L) (h' : LogGood L') : ∀ n, n ≤ L.length → n ≤ L'.length → (∀ i, i < n → L'[i]? = L[i]?) → undosAt L' n = undosAt L n := by
  intro n
  induction n using Nat.strongRecOn with
  | _ n ih =>
    intro hn hn' hc
    have e := back_congr h h' n hn hn' hc
    have hb := back_le h hn
    cases hm : back L n with
    | zero => rw [undosAt_nil hm, undosAt_nil (by rw [e, hm])]
    | succ m =>
      have hp := h.prevAt_le (n := m) (by omega)
      have e2 : prevAt L' (m + 1) = prevAt L (m + 1) := by unfold prevAt; rw [hc _ (by omega)]
      rw [undosAt_succ h hn hm, undosAt_succ h' hn' (by rw [e, hm]), e2, ih _ (by omega) (by omega) (by omega) fun i hi => hc i (by omega)]

section
variable {L : List R} {r : R}
theorem chainAt_snoc (h : LogGood (L ++ [r])) {n : Nat} (hn : n ≤ L.length) : chainAt (L ++ [r]) n = chainAt L n :=
  chainAt_congr h.left h n hn (by simp; omega) fun i hi => snoc_lt (by omega)
theorem back_snoc (h : LogGood (L ++ [r])) {n : Nat} (hn : n ≤ L.length) : back (L ++ [r]) n = back L n :=
  back_congr h.left h n hn (by simp; omega) fun i hi => snoc_lt (by omega)
theorem undosAt_snoc (h : LogGood (L ++ [r])) {n : Nat} (hn : n ≤ L.length) : undosAt (L ++ [r]) n = undosAt L n :=
  undosAt_congr h.left h n hn (by simp; omega) fun i hi => snoc_lt (by omega)

theorem LogGood.end (h : LogGood (L ++ [r])) : RecOkP r ∧ r.prev = last L r.tx ∧ r.next ≤ L.length ∧ (0 < r.next → ∃ q, L[(r.next - 1).toNat]? = some q ∧ q.tx = r.tx) := by
  obtain ⟨h1, h2, h3, h4⟩ := h L.length r snoc_at
  rw [lastB_snoc L r _ (Nat.le_refl _)] at h2
  refine ⟨h1, h2, h3, fun h5 => ?_⟩
  obtain ⟨q, hq, ht⟩ := h4 h5
  rw [snoc_lt (by omega)] at hq
  exact ⟨q, hq, ht⟩

theorem chain_other (h : LogGood (L ++ [r])) {tx : Int} (ht : r.tx ≠ tx) : chain (L ++ [r]) tx = chain L tx := by
  unfold chain; rw [last_snoc, if_neg ht, chainAt_snoc h (last_le _ _)]
theorem undos_other (h : LogGood (L ++ [r])) {tx : Int} (ht : r.tx ≠ tx) : undos (L ++ [r]) tx = undos L tx := by
  unfold undos; rw [last_snoc, if_neg ht, undosAt_snoc h (last_le _ _)]
theorem needTx_other (h : LogGood (L ++ [r])) {tx : Int} (ht : r.tx ≠ tx) : needTx (L ++ [r]) tx = needTx L tx := by
  unfold needTx; rw [undos_other h ht, last_snoc, if_neg ht]

theorem chain_end (h : Ends r) : chain (L ++ [r]) r.tx = [] := by
  unfold chain; rw [last_snoc, if_pos rfl, if_pos h]; rfl
theorem chain_same (h : LogGood (L ++ [r])) (he : ¬ Ends r) : chain (L ++ [r]) r.tx = (L.length + 1) :: chain L r.tx := by
  obtain ⟨h1, h2, -⟩ := h.end
  unfold chain
  rw [last_snoc, if_pos rfl, if_neg he, chainAt_succ h (by simp), prevAt_eq snoc_at, chainAt_snoc h (by have := last_le L r.tx; omega)]
  congr 2
  omega
theorem needTx_end (h : Ends r) : needTx (L ++ [r]) r.tx = 0 := by
  unfold needTx; rw [last_snoc, if_pos rfl, if_pos h]; rfl
theorem undos_end (h : Ends r) : undos (L ++ [r]) r.tx = [] := by
  unfold undos; rw [last_snoc, if_pos rfl, if_pos h]; rfl
theorem needTx_same (he : ¬ Ends r) : needTx (L ++ [r]) r.tx = (undos (L ++ [r]) r.tx).length + 1 := by
  unfold needTx; rw [last_snoc, if_pos rfl, if_neg he, if_neg (by omega)]
theorem undos_nil {tx : Int} (h : last L tx = 0) : undos L tx = [] := by unfold undos; rw [h]; rfl
theorem undos_put (h : LogGood (L ++ [r])) (hk : r.kind = 1 ∨ r.kind = 2) : undos (L ++ [r]) r.tx = (L.length + 1) :: undos L r.tx := by
  obtain ⟨h1, h2, -⟩ := h.end
  have he : ¬ Ends r := by simp only [Ends]; omega
  have hb : back (L ++ [r]) (L.length + 1) = L.length + 1 := by rw [back_succ h snoc_at, if_pos hk]
  unfold undos
  rw [last_snoc, if_pos rfl, if_neg he, undosAt_succ h (by simp) hb, prevAt_eq snoc_at, undosAt_snoc h (by have := last_le L r.tx; omega)]
  congr 2
  omega
theorem undosAt_back {L : List R} (h : LogGood L) {n n' : Nat} (hn : n ≤ L.length) (hn' : n' ≤ L.length) (hb : back L n = back L n') : undosAt L n = undosAt L n' := by
  cases hm : back L n with
  | zero => rw [undosAt_nil hm, undosAt_nil (by rw [← hb, hm])]
  | succ m => rw [undosAt_succ h hn hm, undosAt_succ h hn' (by rw [← hb, hm])]
theorem undos_load (h : LogGood (L ++ [r])) (hk : r.kind = 3) : undos (L ++ [r]) r.tx = undos L r.tx := by
  obtain ⟨h1, h2, -⟩ := h.end
  have he : ¬ Ends r := by simp only [Ends]; omega
  have hb : back (L ++ [r]) (L.length + 1) = back (L ++ [r]) r.prev.toNat := by rw [back_succ h snoc_at, if_neg (by omega), if_neg (by omega)]
  have hl := last_le L r.tx
  unfold undos
  rw [last_snoc, if_pos rfl, if_neg he, undosAt_back h (by simp) (by simp; omega) hb, undosAt_snoc h (by omega)]
  congr 1
  omega
theorem undos_undo (h : LogGood (L ++ [r])) (hk : r.kind = 6) : undos (L ++ [r]) r.tx = undosAt L r.next.toNat := by
  obtain ⟨h1, h2, h3, -⟩ := h.end
  have he : ¬ Ends r := by simp only [Ends]; omega
  have hb : back (L ++ [r]) (L.length + 1) = back (L ++ [r]) r.next.toNat := by rw [back_succ h snoc_at, if_neg (by omega), if_pos hk]
  have h0 := h1.next
  unfold undos
  rw [last_snoc, if_pos rfl, if_neg he, undosAt_back h (by simp) (by simp; omega) hb, undosAt_snoc h (by omega)]
end

theorem back_tx {L : List R} (h : LogGood L) {tx : Int} : ∀ (n : Nat), n ≤ L.length → (∀ m q, n = m + 1 → L[m]? = some q → q.tx = tx) → ∀ m q, back L n = m + 1 → L[m]? = some q → q.tx = tx := by
  intro n
  induction n using Nat.strongRecOn with
  | _ n ih =>
    intro hn h0 m q hm hq
    cases n with
    | zero => simp at hm
    | succ n =>
      have hr : L[n]? = some L[n] := List.getElem?_eq_getElem (by omega)
      have htx := h0 n _ rfl hr
      obtain ⟨h1, h2⟩ := h.prev_le hr
      obtain ⟨h3, hp, h4, h6⟩ := h n _ hr
      have h5 := h3.next
      rw [back_succ h hr] at hm
      split at hm
      · obtain rfl : n = m := by omega
        rw [hr] at hq; cases hq; exact htx
      · split at hm
        · refine ih L[n].next.toNat (by omega) (by omega) (fun m' q' e hq' => ?_) m q hm hq
          obtain ⟨u, hu, ht⟩ := h6 (by omega)
          have : (L[n].next - 1).toNat = m' := by omega
          rw [this, hq'] at hu
          cases hu
          rw [ht, htx]
        · refine ih L[n].prev.toNat (by omega) (by omega) (fun m' q' e hq' => ?_) m q hm hq
          have e2 : lastB L L[n].tx n = m' + 1 := by clear h6 hm; omega
          obtain ⟨_, u, hu, ht, _⟩ := lastB_spec e2
          rw [hq'] at hu
          cases hu
          rw [ht, htx]
theorem last_tx {L : List R} {tx : Int} {m : Nat} {q : R} (h : last L tx = m + 1) (hq : L[m]? = some q) : q.tx = tx := by
  obtain ⟨_, u, hu, ht, _⟩ := lastB_spec h
  rw [hq] at hu; cases hu; exact ht
/-- What is undone next is one's own. -/
theorem back_last {L : List R} (h : LogGood L) {tx : Int} {m : Nat} (hm : back L (last L tx) = m + 1) : ∃ q, L[m]? = some q ∧ (q.kind = 1 ∨ q.kind = 2) ∧ q.tx = tx := by
  obtain ⟨q, hq, hk⟩ := (back_spec h _ (last_le L tx)).2 m hm
  exact ⟨q, hq, hk, back_tx h _ (last_le L tx) (fun m' q' e hq' => last_tx e hq') m q hm hq⟩

end Go.Proofs.YtnaafbdgkmlnaaaGreat

/- Engines, as plain Lean: what is done with them (the reference's steps). -/
namespace Go.Proofs.YtnaafbdgkmlnaaaGreat
set_option linter.unusedVariables false

/-- The first one that is open. -/
def first (L : List R) : Int := if 0 < last L 1 then 1 else if 0 < last L 2 then 2 else if 0 < last L 3 then 3 else 0
/-- Who holds a page. -/
def lockOf (L : List R) (page : Int) : Int := if Has L 1 page then 1 else if Has L 2 page then 2 else if Has L 3 page then 3 else 0

def addR (L : List R) (r : R) : R := { r with prev := last L r.tx }
def addL (L : List R) (r : R) : List R := L ++ [addR L r]
def addOk (e : Eng) (r : R) : Prop := ¬ 150 < (addL e.log r).length + need (addL e.log r)
instance (e : Eng) (r : R) : Decidable (addOk e r) := by unfold addOk; infer_instance
def addI (e : Eng) (r : R) : Eng := { e with log := addL e.log r, mem := if Changes r.kind then pgSet e.mem r.page (wr (pgAt e.mem r.page) (addR e.log r) ((addL e.log r).length : Int)) else e.mem }
def addE (e : Eng) (r : R) : Eng := if addOk e r then addI e r else e
theorem addL_len (L : List R) (r : R) : (addL L r).length = L.length + 1 := by simp [addL]

/-- Who may change a page. -/
def mayP (e : Eng) (tx page : Int) : Prop := e.down = false ∧ In tx 1 3 ∧ In page 0 4 ∧ (lockOf e.log page = 0 ∨ lockOf e.log page = tx)
instance (e : Eng) (tx page : Int) : Decidable (mayP e tx page) := by unfold mayP; infer_instance

def valAt (p : Pg) (k : Int) : Int := (p.vals[k.toNat]?).getD 0
def putR (e : Eng) (tx page slot val : Int) : R := ⟨1, tx, page, slot, valAt (pgAt e.mem page) slot, val, 0, 0⟩
def putMay (e : Eng) (tx page slot val : Int) : Prop := mayP e tx page ∧ In slot 0 2 ∧ In val 0 9 ∧ ¬ (pgAt e.mem page).owner = 0
instance (e : Eng) (tx page slot val : Int) : Decidable (putMay e tx page slot val) := by unfold putMay; infer_instance
def putOk (e : Eng) (tx page slot val : Int) : Prop := putMay e tx page slot val ∧ addOk e (putR e tx page slot val)
instance (e : Eng) (tx page slot val : Int) : Decidable (putOk e tx page slot val) := by unfold putOk; infer_instance
def putE (e : Eng) (tx page slot val : Int) : Eng := if putMay e tx page slot val then addE e (putR e tx page slot val) else e

def ownR (e : Eng) (tx page table : Int) : R := ⟨2, tx, page, -1, (pgAt e.mem page).owner, table, 0, 0⟩
def ownMay (e : Eng) (tx page table : Int) : Prop := mayP e tx page ∧ In table 0 3 ∧ ¬ ((pgAt e.mem page).owner = 0 ↔ table = 0) ∧ AllZ (pgAt e.mem page).vals
instance (e : Eng) (tx page table : Int) : Decidable (ownMay e tx page table) := by unfold ownMay; infer_instance
def ownOk (e : Eng) (tx page table : Int) : Prop := ownMay e tx page table ∧ addOk e (ownR e tx page table)
instance (e : Eng) (tx page table : Int) : Decidable (ownOk e tx page table) := by unfold ownOk; infer_instance
def ownE (e : Eng) (tx page table : Int) : Eng := if ownMay e tx page table then addE e (ownR e tx page table) else e

/-- One gave the page to a table. -/
def TookAt (L : List R) (n : Nat) (page : Int) : Prop := ∃ m ∈ chainAt L n, (recAt L m).kind = 2 ∧ (recAt L m).page = page ∧ 0 < (recAt L m).new
instance (L : List R) (n : Nat) (page : Int) : Decidable (TookAt L n page) := by unfold TookAt; infer_instance
def Took (L : List R) (tx page : Int) : Prop := TookAt L (last L tx) page
instance (L : List R) (tx page : Int) : Decidable (Took L tx page) := by unfold Took; infer_instance
def loadR (tx page : Int) : R := ⟨3, tx, page, 0, 0, 0, 0, 0⟩
def loadMay (e : Eng) (tx page : Int) (vals : List Int) : Prop := mayP e tx page ∧ vals.length = 3 ∧ ¬ (pgAt e.mem page).owner = 0 ∧ AllZ (pgAt e.mem page).vals ∧ Took e.log tx page ∧ ∀ v ∈ vals, In v 0 9
instance (e : Eng) (tx page : Int) (vals : List Int) : Decidable (loadMay e tx page vals) := by unfold loadMay; infer_instance
def loadOk (e : Eng) (tx page : Int) (vals : List Int) : Prop := loadMay e tx page vals ∧ addOk e (loadR tx page)
instance (e : Eng) (tx page : Int) (vals : List Int) : Decidable (loadOk e tx page vals) := by unfold loadOk; infer_instance
def loadI (e : Eng) (tx page : Int) (vals : List Int) : Eng := { addI e (loadR tx page) with mem := pgSet e.mem page ⟨(e.log.length : Int) + 1, (pgAt e.mem page).owner, vals⟩ }
def loadE (e : Eng) (tx page : Int) (vals : List Int) : Eng := if loadOk e tx page vals then loadI e tx page vals else e

/-- A page is written. -/
def writeE (e : Eng) (page : Int) : Eng := { e with safe := max e.safe (pgAt e.mem page).lsn, disk := pgSet e.disk page (pgAt e.mem page) }
def doneW : List Nat → Eng → Eng
  | [], e => e
  | n :: l, e => doneW l (if (recAt e.log n).kind = 3 then writeE e (recAt e.log n).page else e)
def endR (k tx : Int) : R := ⟨k, tx, 0, 0, 0, 0, 0, 0⟩
/-- One is open, and may go on. -/
def goes (e : Eng) (tx : Int) : Prop := e.down = false ∧ In tx 1 3 ∧ ¬ last e.log tx = 0
instance (e : Eng) (tx : Int) : Decidable (goes e tx) := by unfold goes; infer_instance
def doneI (e : Eng) (tx : Int) : Eng := { addE (doneW (chain e.log tx) e) (endR 4 tx) with safe := ((addE (doneW (chain e.log tx) e) (endR 4 tx)).log.length : Int) }
def doneE (e : Eng) (tx : Int) : Eng := if goes e tx then doneI e tx else e

/-- A step back. -/
def stepR (L : List R) (tx : Int) : R := if back L (last L tx) = 0 then endR 5 tx else backR (recAt L (back L (last L tx))) (last L tx)
def stepE (e : Eng) (tx : Int) : Eng := addE e (stepR e.log tx)
def undoF : Nat → Eng → Int → Eng
  | 0, e, _ => e
  | n + 1, e, tx => undoF n (stepE e tx) tx
def undoI (e : Eng) (tx : Int) : Eng := undoF (needTx e.log tx) e tx
def undoE (e : Eng) (tx : Int) : Eng := if goes e tx then undoI e tx else e

/-- What is left. -/
def leftN (e : Eng) (left : Int) : Int := max (min left e.log.length) e.safe
def fallI (e : Eng) (left : Int) : Eng := ⟨e.disk, e.disk, e.log.take (leftN e left).toNat, e.safe, true⟩

/-- It rises. -/
def redoneE (e : Eng) : Eng := { e with mem := redo e.disk e.log }
def upF : Nat → Eng → Eng
  | 0, e => e
  | n + 1, e => if first e.log = 0 then e else upF n (stepE e (first e.log))
def upB (e : Eng) (steps : Int) : Eng := upF steps.toNat (redoneE e)
def upI (e : Eng) (steps : Int) : Eng := if first (upB e steps).log = 0 then { upB e steps with down := false } else { upB e steps with mem := (upB e steps).disk }
def upOk (e : Eng) (steps : Int) : Prop := first (upB e steps).log = 0
instance (e : Eng) (steps : Int) : Decidable (upOk e steps) := by unfold upOk; infer_instance

/-- What may happen. -/
structure Ev where
  kind : Int
  tx : Int
  page : Int
  slot : Int
  n : Int
  vals : List Int
deriving DecidableEq

def evE (e : Eng) (v : Ev) : Eng :=
  if v.kind = 1 then putE e v.tx v.page v.slot v.n
  else if v.kind = 2 then ownE e v.tx v.page v.n
  else if v.kind = 3 then loadE e v.tx v.page v.vals
  else if v.kind = 4 then doneE e v.tx
  else if v.kind = 5 then undoE e v.tx
  else if v.kind = 6 then (if e.down = false ∧ In v.page 0 4 then writeE e v.page else e)
  else if v.kind = 7 then (if e.down = false then { e with safe := (e.log.length : Int) } else e)
  else if v.kind = 8 then (if 0 ≤ v.n then fallI e v.n else e)
  else if v.kind = 9 then (if 0 ≤ v.n ∧ e.down = true then upI e v.n else e)
  else e

def engNew : Eng := ⟨List.replicate 5 pgNew, List.replicate 5 pgNew, [], 0, false⟩

end Go.Proofs.YtnaafbdgkmlnaaaGreat
