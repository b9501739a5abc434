/- Laws about the machine's run of the program's functions, part 17, in import order. No condition. -/
import Derived.Test.YtnaafbdgkmlnaaaGreatM16

set_option linter.unusedVariables false
set_option linter.unusedSimpArgs false
set_option linter.unnecessarySimpa false
/- Engines of plays: what holds of them, whatever happens. -/
namespace Go.Proofs.YtnaafbdgkmlnaaaGreat
set_option linter.unusedVariables false

/-- A page has its form. -/
def WkPg (p : Pg) : Prop := In p.owner 0 3 ∧ p.vals.length = 3 ∧ ∀ v ∈ p.vals, In v 0 9
def WkPs (ps : List Pg) : Prop := ps.length = 5 ∧ ∀ p ∈ ps, WkPg p
theorem WkPg.new : WkPg pgNew := by simp [WkPg, pgNew, In]
theorem WkPs.new : WkPs (List.replicate 5 pgNew) := ⟨rfl, fun p hp => by rw [List.eq_of_mem_replicate hp]; exact .new⟩
theorem WkPs.get {ps : List Pg} (h : WkPs ps) {n : Int} (h0 : 0 ≤ n) (h1 : n ≤ 4) : pgAt ps n ∈ ps ∧ ps[n.toNat]? = some (pgAt ps n) := by
  have hl := h.1
  have e : ps[n.toNat]? = some (ps[n.toNat]'(by omega)) := List.getElem?_eq_getElem _
  have e2 : pgAt ps n = ps[n.toNat]'(by omega) := by simp [pgAt, e]
  rw [e2]
  exact ⟨List.getElem_mem _, e⟩
theorem WkPs.at {ps : List Pg} (h : WkPs ps) {n : Int} (h0 : 0 ≤ n) (h1 : n ≤ 4) : WkPg (pgAt ps n) := h.2 _ (h.get h0 h1).1
theorem WkPs.set {ps : List Pg} (h : WkPs ps) (n : Int) {p : Pg} (hp : WkPg p) : WkPs (pgSet ps n p) := by
  refine ⟨by simp [pgSet, h.1], fun q hq => ?_⟩
  rcases List.mem_or_eq_of_mem_set hq with hq | rfl
  · exact h.2 q hq
  · exact hp
theorem wr_wk {p : Pg} (h : WkPg p) {r : R} (hr : RecOkP r) (hc : Changes r.kind) (n : Int) : WkPg (wr p r n) := by
  obtain ⟨h1, h2, h3⟩ := h
  unfold wr
  split
  · rename_i h0
    refine ⟨h1, by simp [h2], fun v hv => ?_⟩
    rcases List.mem_or_eq_of_mem_set hv with hv | rfl
    · exact h3 v hv
    · have hk := hr.1
      simp only [PutOk, OwnOk, LoadOk, EndOk, UndoOk, In, Changes] at hk hc ⊢
      omega
  · rename_i h0
    refine ⟨?_, ?_, ?_⟩
    · have hk := hr.1
      simp only [PutOk, OwnOk, LoadOk, EndOk, UndoOk, In, Changes] at hk hc ⊢
      omega
    · split
      · rfl
      · exact h2
    · split
      · intro v hv; simp at hv; subst hv; simp [In]
      · exact h3
theorem wr_lsn (p : Pg) (r : R) (n : Int) : (wr p r n).lsn = n := by unfold wr; split <;> rfl

def LsnLe (ps : List Pg) (n : Int) : Prop := ∀ p ∈ ps, p.lsn ≤ n
theorem LsnLe.set {ps : List Pg} {n : Int} (h : LsnLe ps n) (k : Int) {p : Pg} (hp : p.lsn ≤ n) : LsnLe (pgSet ps k p) n := fun q hq => by
  rcases List.mem_or_eq_of_mem_set hq with hq | rfl
  · exact h q hq
  · exact hp
theorem LsnLe.mono {ps : List Pg} {n m : Int} (h : LsnLe ps n) (hn : n ≤ m) : LsnLe ps m := fun p hp => Int.le_trans (h p hp) hn

theorem redoB_wk {ps : List Pg} (h : WkPs ps) {L : List R} (hL : ∀ r ∈ L, RecOkP r) : ∀ n, WkPs (redoB ps L n)
  | 0 => h
  | n + 1 => by
    have ih := redoB_wk h hL n
    simp only [redoB]
    split
    · rename_i r hr
      have hok := hL r (List.mem_of_getElem? hr)
      unfold redoStep
      split
      · rename_i hc
        exact ih.set _ (wr_wk (ih.at hok.page.1 hok.page.2) hok hc.1 _)
      · exact ih
    · exact ih
theorem redoB_lsnLe {ps : List Pg} {L : List R} {m : Int} (h : LsnLe ps m) : ∀ n : Nat, n ≤ m → LsnLe (redoB ps L n) m
  | 0, _ => h
  | n + 1, hn => by
    have ih := redoB_lsnLe (L := L) h n (by omega)
    simp only [redoB]
    split
    · unfold redoStep
      split
      · exact ih.set _ (by rw [wr_lsn]; omega)
      · exact ih
    · exact ih

structure PlayInv (e : Eng) : Prop where
  log : PlayLog e.log
  disk : WkPs e.disk
  mem : WkPs e.mem
  s0 : 0 ≤ e.safe
  s1 : e.safe ≤ e.log.length
  dl : LsnLe e.disk e.safe
  ml : LsnLe e.mem e.log.length

theorem PlayInv.new : PlayInv engNew := ⟨.nil, .new, .new, Int.le_refl 0, Int.le_refl 0,
  fun p hp => by rw [List.eq_of_mem_replicate hp]; decide, fun p hp => by rw [List.eq_of_mem_replicate hp]; decide⟩

theorem PlayInv.len {e : Eng} (h : PlayInv e) : e.log.length ≤ 150 := h.log.len

/-- A record that may be put behind all. -/
theorem PlayInv.pAddI {e : Eng} (h : PlayInv e) {r : R} (hl : PlayLog (addL e.log r)) : PlayInv (addI e r) := by
  have hr : RecOkP (addR e.log r) := hl.good.recOk addL_at
  have hlen := addL_len e.log r
  refine ⟨hl, h.disk, ?_, h.s0, ?_, h.dl, ?_⟩
  · show WkPs (if Changes r.kind then _ else _)
    split
    · rename_i hc
      exact h.mem.set _ (wr_wk (h.mem.at hr.page.1 hr.page.2) hr hc _)
    · exact h.mem
  · show e.safe ≤ ((addL e.log r).length : Int)
    have := h.s1; omega
  · show LsnLe (if Changes r.kind then _ else _) ((addL e.log r).length : Int)
    split
    · exact (h.ml.mono (by omega)).set _ (by rw [wr_lsn]; exact Int.le_refl _)
    · exact h.ml.mono (by omega)
theorem PlayInv.pAddE {e : Eng} (h : PlayInv e) {r : R} (hl : addOk e r → PlayLog (addL e.log r)) : PlayInv (addE e r) := by
  unfold addE
  split
  · rename_i ho; exact h.pAddI (hl ho)
  · exact h

theorem valAt_in {p : Pg} (h : WkPg p) (k : Int) : In (valAt p k) 0 9 := by
  unfold valAt
  cases hk : p.vals[k.toNat]? with
  | none => simp [In]
  | some v => exact h.2.2 v (List.mem_of_getElem? hk)

theorem putR_ok {e : Eng} {tx page slot val : Int} (hm : WkPs e.mem) (h : putMay e tx page slot val) : RecOkP { putR e tx page slot val with prev := 0 } := by
  obtain ⟨⟨_, h1, h2, _⟩, h3, h4, h5⟩ := h
  exact ⟨.inl ⟨rfl, h2, h3, valAt_in (hm.at h2.1 h2.2) _, h4, rfl⟩, h1, by simp [In]⟩
theorem PlayInv.put {e : Eng} (h : PlayInv e) (tx page slot val : Int) : PlayInv (putE e tx page slot val) := by
  unfold putE
  split
  · rename_i hm
    exact h.pAddE fun ho => h.log.add (putR_ok h.mem hm) rfl (by simp [putR]) ho hm.1.2.2.2
  · exact h
theorem ownR_ok {e : Eng} {tx page table : Int} (hm : WkPs e.mem) (h : ownMay e tx page table) : RecOkP { ownR e tx page table with prev := 0 } := by
  obtain ⟨⟨_, h1, h2, _⟩, h3, h4, h5⟩ := h
  exact ⟨.inr (.inl ⟨rfl, h2, rfl, (hm.at h2.1 h2.2).1, h3, rfl⟩), h1, by simp [In]⟩
theorem PlayInv.own {e : Eng} (h : PlayInv e) (tx page table : Int) : PlayInv (ownE e tx page table) := by
  unfold ownE
  split
  · rename_i hm
    exact h.pAddE fun ho => h.log.add (ownR_ok h.mem hm) rfl (by simp [ownR]) ho hm.1.2.2.2
  · exact h
theorem loadR_ok {tx page : Int} (h1 : In tx 1 3) (h2 : In page 0 4) : RecOkP { loadR tx page with prev := 0 } :=
  ⟨.inr (.inr (.inl ⟨rfl, h2, rfl, rfl, rfl, rfl⟩)), h1, by simp [In]⟩
theorem PlayInv.load {e : Eng} (h : PlayInv e) (tx page : Int) (vals : List Int) : PlayInv (loadE e tx page vals) := by
  unfold loadE
  split
  · rename_i hm
    obtain ⟨⟨⟨_, h1, h2, h3⟩, h4, h5, h6, h7, h8⟩, ho⟩ := hm
    have hl := h.log.add (loadR_ok h1 h2) rfl (by simp [loadR]) ho h3
    have := h.pAddI hl
    have hlen := addL_len e.log (loadR tx page)
    have hwk := h.mem.at h2.1 h2.2
    refine ⟨this.log, this.disk, h.mem.set _ ⟨hwk.1, h4, h8⟩, this.s0, this.s1, this.dl, ?_⟩
    show LsnLe _ ((addL e.log (loadR tx page)).length : Int)
    exact (h.ml.mono (by omega)).set _ (by simp only; omega)
  · exact h

theorem PlayInv.write {e : Eng} (h : PlayInv e) {page : Int} (hp : In page 0 4) : PlayInv (writeE e page) := by
  obtain ⟨h1, h2⟩ := h.mem.get hp.1 hp.2
  have hle := h.ml _ h1
  have := h.s0
  have := h.s1
  refine ⟨h.log, h.disk.set _ (h.mem.at hp.1 hp.2), h.mem, ?_, ?_, ?_, h.ml⟩
  · show 0 ≤ max e.safe _; omega
  · show max e.safe _ ≤ _; simp only [writeE]; omega
  · show LsnLe (pgSet e.disk page _) (max e.safe _)
    exact (h.dl.mono (by omega)).set _ (by omega)
theorem writeE_log (e : Eng) (page : Int) : (writeE e page).log = e.log := rfl
theorem doneW_log : ∀ (l : List Nat) (e : Eng), (doneW l e).log = e.log
  | [], e => rfl
  | n :: l, e => by
    simp only [doneW]
    rw [doneW_log l]
    split <;> rfl
theorem doneW_down : ∀ (l : List Nat) (e : Eng), (doneW l e).down = e.down
  | [], e => rfl
  | n :: l, e => by
    simp only [doneW]
    rw [doneW_down l]
    split <;> rfl
theorem doneW_mem : ∀ (l : List Nat) (e : Eng), (doneW l e).mem = e.mem
  | [], e => rfl
  | n :: l, e => by
    simp only [doneW]
    rw [doneW_mem l]
    split <;> rfl
theorem PlayInv.pDoneW : ∀ {l : List Nat} {e : Eng}, PlayInv e → (∀ n ∈ l, 0 < n ∧ n ≤ e.log.length) → PlayInv (doneW l e)
  | [], e, h, _ => h
  | n :: l, e, h, hl => by
    simp only [doneW]
    obtain ⟨h0, h1⟩ := hl n (by simp)
    split
    · obtain ⟨m, rfl⟩ : ∃ m, n = m + 1 := ⟨n - 1, by omega⟩
      have hr : e.log[m]? = some e.log[m] := List.getElem?_eq_getElem (by omega)
      have hok := h.log.good.recOk hr
      rw [recAt_some hr]
      exact (h.write hok.page).pDoneW fun k hk => by rw [writeE_log]; exact hl k (by simp [hk])
    · exact h.pDoneW fun k hk => hl k (by simp [hk])
theorem chain_in {L : List R} (h : LogGood L) (tx : Int) : ∀ n ∈ chain L tx, 0 < n ∧ n ≤ L.length := fun n hn =>
  ⟨chainF_mem _ _ _ hn, Nat.le_trans (chainAt_le h _ (last_le L tx) n hn) (last_le L tx)⟩

theorem PlayInv.ends_ok {e : Eng} (h : PlayInv e) {k tx : Int} (hk : k = 4 ∨ k = 5) (ht : In tx 1 3) (ho : ¬ last e.log tx = 0) : addOk e (endR k tx) := by
  have hg : LogGood (addL e.log (endR k tx)) := addL_good0 h.log.good h.log.len (endR_ok hk ht) rfl
  have := end_fits hk hg ho
  have hf := h.log.fits
  simp only [Fits, addOk] at *
  omega
theorem PlayInv.step_ok {e : Eng} (h : PlayInv e) {tx : Int} (ht : In tx 1 3) (ho : ¬ last e.log tx = 0) : addOk e (stepR e.log tx) := by
  have := step_fits h.log.good h.log.len ht ho
  have hf := h.log.fits
  simp only [Fits, addOk] at *
  omega
theorem PlayInv.step {e : Eng} (h : PlayInv e) {tx : Int} (ht : In tx 1 3) (ho : ¬ last e.log tx = 0) : PlayInv (stepE e tx) :=
  h.pAddE fun _ => h.log.step ht ho
theorem stepE_eq {e : Eng} (h : PlayInv e) {tx : Int} (ht : In tx 1 3) (ho : ¬ last e.log tx = 0) : stepE e tx = addI e (stepR e.log tx) := if_pos (h.step_ok ht ho)
theorem stepE_need {e : Eng} (h : PlayInv e) {tx : Int} (ht : In tx 1 3) (ho : ¬ last e.log tx = 0) : needTx (stepE e tx).log tx + 1 = needTx e.log tx := by
  rw [stepE_eq h ht ho]
  exact step_need h.log.good h.log.len ht ho

theorem PlayInv.done {e : Eng} (h : PlayInv e) (tx : Int) : PlayInv (doneE e tx) := by
  unfold doneE
  split
  · rename_i hg
    obtain ⟨_, ht, ho⟩ := hg
    have hw : PlayInv (doneW (chain e.log tx) e) := h.pDoneW (chain_in h.log.good tx)
    have hl := doneW_log (chain e.log tx) e
    have ha : PlayInv (addE (doneW (chain e.log tx) e) (endR 4 tx)) := hw.pAddE fun _ => by rw [hl]; exact h.log.ends (.inl rfl) ht ho
    unfold doneI
    generalize addE (doneW (chain e.log tx) e) (endR 4 tx) = y at ha
    have h0 := ha.s0
    have h1 := ha.s1
    exact ⟨ha.log, ha.disk, ha.mem, Int.natCast_nonneg _, Int.le_refl _, ha.dl.mono h1, ha.ml⟩
  · exact h

theorem last_needTx {L : List R} {tx : Int} : last L tx = 0 ↔ needTx L tx = 0 := by
  unfold needTx
  split
  · rename_i h; exact ⟨fun _ => rfl, fun _ => h⟩
  · rename_i h; exact ⟨fun h' => absurd h' h, fun h' => by omega⟩
theorem PlayInv.pUndoF : ∀ {n : Nat} {e : Eng}, PlayInv e → ∀ {tx : Int}, In tx 1 3 → n = needTx e.log tx → PlayInv (undoF n e tx)
  | 0, e, h, tx, ht, hn => h
  | n + 1, e, h, tx, ht, hn => by
    simp only [undoF]
    have ho : ¬ last e.log tx = 0 := fun h0 => by rw [last_needTx] at h0; omega
    have := stepE_need h ht ho
    exact (h.step ht ho).pUndoF ht (by omega)
theorem PlayInv.undo {e : Eng} (h : PlayInv e) (tx : Int) : PlayInv (undoE e tx) := by
  unfold undoE
  split
  · rename_i hg; exact h.pUndoF hg.2.1 rfl
  · exact h

theorem PlayInv.fall {e : Eng} (h : PlayInv e) {left : Int} (h0 : 0 ≤ left) : PlayInv (fallI e left) := by
  have := h.s0
  have := h.s1
  have hn : 0 ≤ leftN e left ∧ leftN e left ≤ e.log.length ∧ e.safe ≤ leftN e left := by simp only [leftN]; omega
  have hlen : (((e.log.take (leftN e left).toNat).length : Nat) : Int) = leftN e left := by rw [List.length_take]; omega
  refine ⟨h.log.take _, h.disk, h.disk, h.s0, ?_, h.dl, ?_⟩
  · show e.safe ≤ ((e.log.take (leftN e left).toNat).length : Int); omega
  · show LsnLe e.disk ((e.log.take (leftN e left).toNat).length : Int); exact h.dl.mono (by omega)

theorem PlayInv.redone {e : Eng} (h : PlayInv e) : PlayInv (redoneE e) :=
  ⟨h.log, h.disk, redoB_wk h.disk h.log.good.rec _, h.s0, h.s1, h.dl, redoB_lsnLe (h.dl.mono h.s1) _ (Int.le_refl _)⟩
theorem first_open {L : List R} (h : ¬ first L = 0) : In (first L) 1 3 ∧ ¬ last L (first L) = 0 := by
  unfold first at h ⊢
  split
  · exact ⟨by simp [In], by omega⟩
  · split
    · exact ⟨by simp [In], by omega⟩
    · split
      · exact ⟨by simp [In], by omega⟩
      · rename_i h1 h2 h3; exact absurd (by rw [if_neg h1, if_neg h2, if_neg h3]) h
theorem PlayInv.pUpF : ∀ {n : Nat} {e : Eng}, PlayInv e → PlayInv (upF n e)
  | 0, e, h => h
  | n + 1, e, h => by
    simp only [upF]
    split
    · exact h
    · rename_i h0
      obtain ⟨ht, ho⟩ := first_open h0
      exact (h.step ht ho).pUpF
theorem PlayInv.up {e : Eng} (h : PlayInv e) (steps : Int) : PlayInv (upI e steps) := by
  have hu : PlayInv (upB e steps) := h.redone.pUpF
  unfold upI
  split
  · exact ⟨hu.log, hu.disk, hu.mem, hu.s0, hu.s1, hu.dl, hu.ml⟩
  · exact ⟨hu.log, hu.disk, hu.disk, hu.s0, hu.s1, hu.dl, hu.dl.mono hu.s1⟩

theorem PlayInv.ev {e : Eng} (h : PlayInv e) (v : Ev) : PlayInv (evE e v) := by
  unfold evE
  split; exact h.put _ _ _ _
  split; exact h.own _ _ _
  split; exact h.load _ _ _
  split; exact h.done _
  split; exact h.undo _
  split
  · split
    · rename_i hp; exact h.write hp.2
    · exact h
  split
  · split
    · have := h.s0
      have := h.s1
      exact ⟨h.log, h.disk, h.mem, Int.natCast_nonneg _, Int.le_refl _, h.dl.mono h.s1, h.ml⟩
    · exact h
  split
  · split
    · rename_i h0; exact h.fall h0
    · exact h
  split
  · split
    · exact h.up _
    · exact h
  · exact h

end Go.Proofs.YtnaafbdgkmlnaaaGreat

/- Functions: may one change a page? An engine is lent to who reads it. -/
namespace Go.Proofs.YtnaafbdgkmlnaaaGreat
set_option linter.unusedVariables false
set_option linter.unusedSimpArgs false
set_option linter.unnecessarySimpa false
set_option maxRecDepth 20000
set_option maxHeartbeats 2000000

theorem WkPs.sh {ps : List Pg} (h : WkPs ps) : ShP ps := ⟨h.1, fun p hp => (h.2 p hp).2.1⟩

/-- What a step back needs. -/
structure StepInv (e : Eng) : Prop where
  good : LogGood e.log
  fits : Fits e.log
  disk : ShP e.disk
  mem : ShP e.mem
theorem PlayInv.st {e : Eng} (h : PlayInv e) : StepInv e := ⟨h.log.good, h.log.fits, h.disk.sh, h.mem.sh⟩
theorem StepInv.len {e : Eng} (h : StepInv e) : e.log.length ≤ 150 := by have := h.fits; unfold Fits at this; omega
theorem StepInv.step_ok {e : Eng} (h : StepInv e) {tx : Int} (ht : In tx 1 3) (ho : ¬ last e.log tx = 0) : addOk e (stepR e.log tx) := by
  have := step_fits h.good h.len ht ho
  have hf := h.fits
  simp only [Fits, addOk] at *
  omega
theorem StepInv.eq {e : Eng} (h : StepInv e) {tx : Int} (ht : In tx 1 3) (ho : ¬ last e.log tx = 0) : stepE e tx = addI e (stepR e.log tx) := if_pos (h.step_ok ht ho)
theorem StepInv.step {e : Eng} (h : StepInv e) {tx : Int} (ht : In tx 1 3) (ho : ¬ last e.log tx = 0) : StepInv (stepE e tx) := by
  rw [h.eq ht ho]
  refine ⟨step_good h.good h.len ht, ?_, h.disk, ?_⟩
  · have := step_fits h.good h.len ht ho
    have hf := h.fits
    show (addL e.log (stepR e.log tx)).length + need (addL e.log (stepR e.log tx)) ≤ 150
    simp only [Fits] at hf
    omega
  · show ShP (if Changes (stepR e.log tx).kind then _ else _)
    split
    · have hp := (stepR_ok h.good ht).page
      exact h.mem.set _ (wr_len _ _ _ (h.mem.at hp.1 hp.2).2)
    · exact h.mem
theorem StepInv.need {e : Eng} (h : StepInv e) {tx : Int} (ht : In tx 1 3) (ho : ¬ last e.log tx = 0) : needTx (stepE e tx).log tx + 1 = needTx e.log tx := by
  rw [h.eq ht ho]
  exact step_need h.good h.len ht ho
theorem StepInv.total {e : Eng} (h : StepInv e) {tx : Int} (ht : In tx 1 3) (ho : ¬ last e.log tx = 0) : Go.Proofs.YtnaafbdgkmlnaaaGreat.need (stepE e tx).log + 1 = Go.Proofs.YtnaafbdgkmlnaaaGreat.need e.log := by
  rw [h.eq ht ho]
  have := step_fits h.good h.len ht ho
  have := addL_len e.log (stepR e.log tx)
  show Go.Proofs.YtnaafbdgkmlnaaaGreat.need (addL e.log (stepR e.log tx)) + 1 = _
  omega
theorem StepInv.redone {e : Eng} (h : StepInv e) : StepInv (redoneE e) := ⟨h.good, h.fits, h.disk, h.disk.redoB h.good.rec _⟩
theorem StepInv.upF : ∀ {n : Nat} {e : Eng}, StepInv e → StepInv (upF n e)
  | 0, e, h => h
  | n + 1, e, h => by
    simp only [Go.Proofs.YtnaafbdgkmlnaaaGreat.upF]
    split
    · exact h
    · rename_i h0
      obtain ⟨ht, ho⟩ := first_open h0
      exact (h.step ht ho).upF
theorem StepInv.up {e : Eng} (h : StepInv e) (steps : Int) : StepInv (upI e steps) := by
  have hu : StepInv (upB e steps) := h.redone.upF
  unfold upI
  split
  · exact ⟨hu.good, hu.fits, hu.disk, hu.mem⟩
  · exact ⟨hu.good, hu.fits, hu.disk, hu.disk⟩

theorem ebl_keep {D M Bm : Nat} {e : Eng} (hDM : D ≠ M) : Keep (ebl D M e) Bm := ⟨by simp [ebl, Hp.of, hDM, Ne.symm hDM], by simp [ebl, lt_pgs]⟩
theorem ebl_D {D M : Nat} {e : Eng} (hDM : D ≠ M) : Hp.of (ebl D M e) D = some (pgs e.disk) := by simp [ebl, Hp.of]
theorem ebl_M {D M : Nat} {e : Eng} (hDM : D ≠ M) : Hp.of (ebl D M e) M = some (pgs e.mem) := by simp [ebl, Hp.of, hDM, Ne.symm hDM]
/-- An engine's pages, as they are read. -/
theorem fz_eng {D M : Nat} {e : Eng} (hDM : D ≠ M) (hd : ShP e.disk) (hm : ShP e.mem) : Fz allS (Hp.of (ebl D M e)) (.agg (encN D M e)) (.agg (encE e)) := by
  refine Fz.agg' ?_
  refine .cons (Fz.slice (ebl_D hDM) rfl rfl (by simp [hd.1])) (.cons (Fz.slice (ebl_M hDM) rfl rfl (by simp [hm.1])) (.cons (.same _) (.cons (.same _) (.cons (.same _) .nil))))
theorem FzL.same (H : Hp) : ∀ xs : List AV, FzL allS H xs xs
  | [] => .nil
  | x :: xs => .cons (.same x) (FzL.same H xs)

/-- An engine is lent to who reads it. -/
theorem lend_eng {f : FuncId} {D M Bm : Nat} {e : Eng} {args : List AV} {v : AV} (hDM : D ≠ M) (hd : ShP e.disk) (hm : ShP e.mem) (h : Told f (.agg (encE e) :: args) [] [] 0 v) (ho : Own v) (hv : AV.lt Bm v) :
    Told f (.agg (encN D M e) :: args) (ebl D M e) (ebl D M e) Bm v :=
  told_borrow h ho (ebl_keep hDM) (Fz.tup' (.cons (fz_eng hDM hd hm) (FzL.same _ _))) hv

theorem hs_ebl {H : Hp} {D M : Nat} {e : Eng} (hD : H D = some (pgs e.disk)) (hM : H M = some (pgs e.mem)) : ∀ p ∈ ebl D M e, H p.1 = some p.2 := by
  simp [ebl, hD, hM]

theorem c176 (D M : Nat) (hDM : D ≠ M) (e : Eng) (tx page : Int) (hd : ShP e.disk) (hm : ShP e.mem) (hg : LogGood e.log) (hL : e.log.length ≤ 1000000) :
    Told 176 [.agg (encN D M e), I64 tx, I64 page] (ebl D M e) (ebl D M e) 0 (.bool (decide (mayP e tx page))) := by
  refine told_of (ebl_keep hDM) trivial fun B _ => ?_
  refine acallsF M3 Tryz.func176 (by kernel_rfl) fun hlt => ?_
  have h205 := lend_eng (Bm := 0) hDM hd hm (c205 e page hg hL) (.int _ _) trivial
  simp only [encN, encG] at h205
  simp [Tryz.f176, encN, encG]
  refine gO (fun c1 => ?_) (fun c1 => ?_) <;> simp at c1 <;> simp [c1]
  · refine gO (fun c2 => ?_) (fun c2 => ?_) <;> simp at c2 <;> simp [c2]
    · refine gC (fun c3 => ?_) (fun c3 => ?_) <;> simp at c3 <;> simp
      · simp [mayP, c3]
      · rw [c1] at h205
        refine callw_told h205 (Nat.zero_le _) (fun p hp => (ebl_keep hDM (Bm := 0)).nd p hp) ?_
        simp
        refine gO (fun c4 => ?_) (fun c4 => ?_) <;> simp at c4 <;> simp [c4, mayP, c1, c2, c3]
    · simp [mayP, c2]
  · simp [mayP, c1]

end Go.Proofs.YtnaafbdgkmlnaaaGreat

/- Functions: a value is put in a slot; a page is given to a table. -/
namespace Go.Proofs.YtnaafbdgkmlnaaaGreat
set_option linter.unusedVariables false
set_option linter.unusedSimpArgs false
set_option linter.unnecessarySimpa false
set_option maxRecDepth 20000
set_option maxHeartbeats 2000000

/-! ### Drawn regions whose calls write -/
def Tk.infoB (ids : List Nat) (t : Tk × Nat) : Info := ⟨t.1.rd.map (ids.getD · 0), t.1.wr.map (ids.getD · 0), t.1.mks, false, t.2⟩
theorem chk_bmT {ops : Array Oper} {B0 : Nat} {ids : List Nat} : ∀ (l : List (Tk × Nat)) (i : Nat), (∀ t ∈ l, t.2 ≤ B0) → chk ops B0 i ((l.map (·.1)).map (Tk.info ids)) → chk ops B0 i (l.map (Tk.infoB ids))
  | [], _, _, _ => trivial
  | x :: l, i, hb, h => by
    refine ⟨hb x (by simp), fun j y hy hc => ?_, chk_bmT l (i + 1) (fun t ht => hb t (by simp [ht])) h.2.2⟩
    simp only [List.getElem?_map, Option.map_eq_some_iff] at hy
    obtain ⟨t, ht, rfl⟩ := hy
    exact h.2.1 j (Tk.info ids t.1) (by simp [ht]) hc
theorem chkW_tkb {ops : Array Oper} {B0 : Nat} {acc : List Info} (ids : List Nat) (l : List (Tk × Nat)) (hn : ids.Nodup) (hb : ∀ t ∈ l, t.2 ≤ B0) (ha : acc = l.map (Tk.infoB ids)) (h : tkAll ops ids.length 0 (l.map (·.1)) = true) : ChkW ops B0 acc := by
  rw [ha]; exact chk_bmT l 0 hb (chk_tk hn _ 0 h)
def shape0 (x : Info) : Sh := ⟨!x.rd.isEmpty, !x.wr.isEmpty, x.mks, true⟩
theorem chk_bm0 {ops : Array Oper} {B0 : Nat} : ∀ (l : List Info) (i : Nat), (∀ x ∈ l, x.bm ≤ B0) → chk ops B0 i (l.map fun x => { x with bm := 0 }) → chk ops B0 i l
  | [], _, _, _ => trivial
  | x :: l, i, hb, h => ⟨hb x (by simp), fun j y hy hc => h.2.1 j { y with bm := 0 } (by simp [hy]) hc, chk_bm0 l (i + 1) (fun t ht => hb t (by simp [ht])) h.2.2⟩
/-- Whatever the names are: who reads or writes waits for who wrote. -/
theorem chkW_shb {ops : Array Oper} {B0 : Nat} {acc : List Info} (hb : ∀ x ∈ acc, x.bm ≤ B0) (h : shAll ops 0 (acc.map shape0) = true) : ChkW ops B0 acc :=
  chk_bm0 acc 0 hb (chk_sh _ 0 (by rw [List.map_map]; exact h))
theorem calld_upd {f : FuncId} {args : List AV} {hs us : List (Nat × Blk)} {Bm B : Nat} {v : AV} {H : Hp} {K : AV → Hp → Nat → Info → Prop} (h : Told f args hs us Bm v) (hB : Bm ≤ B) (hH : ∀ p ∈ hs, H p.1 = some p.2) (k : K v (H.app (upds us)) B ⟨hs.map (·.1), us.map (·.1), false, false, Bm⟩) : CallD f args H B K :=
  .inl ⟨v, hs, us, Bm, h, hB, hH, k⟩

theorem calld_eng {f : FuncId} {args : List AV} {D M Bm B : Nat} {e e' : Eng} {v : AV} {H : Hp} {K : AV → Hp → Nat → Info → Prop} (h : Told f args (ebl D M e) (ebl D M e') Bm v) (hB : Bm ≤ B) (HD : H D = some (pgs e.disk)) (HM : H M = some (pgs e.mem))
    (k : K v ((H.set D ⟨38, 3, e'.disk.map encP⟩).set M ⟨38, 3, e'.mem.map encP⟩) B ⟨[D, M], [D, M], false, false, Bm⟩) : CallD f args H B K := calld_upd h hB (hs_ebl HD HM) k
theorem callw_eng {f : FuncId} {args : List AV} {D M Bm B : Nat} {e e' : Eng} {v : AV} {H : Hp} {K : AV → Hp → Nat → Prop} (h : Told f args (ebl D M e) (ebl D M e') Bm v) (hB : Bm ≤ B) (HD : H D = some (pgs e.disk)) (HM : H M = some (pgs e.mem))
    (k : K v ((H.set D ⟨38, 3, e'.disk.map encP⟩).set M ⟨38, 3, e'.mem.map encP⟩) B) : CallW f args H B K :=
  .inl ⟨v, _, _, Bm, h, hB, hs_ebl HD HM, k⟩

/-- With the table of known scalar calls. -/
noncomputable def M3u (l : List Nat) : Cfg := M3.with (fun d => decide (d ∈ l))
@[simp] theorem M3u_mu (l : List Nat) (d : Nat) : (M3u l).mu d = decide (d ∈ l) := nr rfl
@[simp] theorem M3u_an (l : List Nat) : (M3u l).an = M3.an := nr rfl

theorem told_N2 {f : FuncId} {args : List AV} {D M Bm : Nat} {e e' : Eng} {v : AV} (hDM : D ≠ M) (hv : AV.lt Bm v)
    (h : ∀ B, Bm ≤ B → ∀ H0 : Hp, H0 D = some (pgs e.disk) → H0 M = some (pgs e.mem) → ACalls PP f args H0 B (fun v' H' _ => v' = v ∧ H' D = some (pgs e'.disk) ∧ H' M = some (pgs e'.mem))) : Told f args (ebl D M e) (ebl D M e') Bm v :=
  told_N hDM hv fun B hB => h B hB _ (ebl_D hDM) (ebl_M hDM)

theorem valAt_get {p : Pg} (h : p.vals.length = 3) {k : Int} (h0 : In k 0 2) : (ints p.vals)[k.toNat]? = some [I64 (valAt p k)] := by
  have hk : k.toNat < p.vals.length := by simp only [In] at h0; omega
  simp [ints, valAt, List.getElem?_eq_getElem hk]

theorem c123 (D M : Nat) (hDM : D ≠ M) (Bm : Nat) (hD : D < Bm) (hM : M < Bm) (e : Eng) (tx page slot val : Int) (h : PlayInv e) :
    Told 123 [.agg (encN D M e), I64 tx, I64 page, I64 slot, I64 val] (ebl D M e) (ebl D M (putE e tx page slot val)) Bm (.tup [.agg (encN D M (putE e tx page slot val)), .bool (decide (putOk e tx page slot val))]) := by
  refine told_N2 hDM (by simp only [AV.lt, AV.ltL, and_true]; exact lt_encN hD hM _) fun B hB H0 HD HM => ?_
  have hlen := h.len
  have hd := h.disk.sh
  have hm := h.mem.sh
  have h176 := c176 D M hDM e tx page hd hm h.log.good (by omega)
  refine acallsF (M3u [10]) Tryz.func123 (by kernel_rfl) fun hlt => ?_
  have n1 : ¬ D = B := by omega
  have n2 : ¬ M = B := by omega
  have n3 : ¬ M = D := Ne.symm hDM
  have n4 : ¬ B = M := by omega
  have n5 : ¬ B = D := by omega
  simp only [encN, encG] at h176
  simp [Tryz.f123, encN, encG]
  refine callw_told h176 (Nat.zero_le _) (by simp [ebl, HD, HM, n1, n2]) ?_
  simp
  have no : ¬ putMay e tx page slot val → putE e tx page slot val = e ∧ ¬ putOk e tx page slot val := fun hn => ⟨if_neg hn, fun q => hn q.1⟩
  refine gO (fun c1 => ?_) (fun c1 => ?_) <;> simp at c1 <;> simp [c1]
  rotate_left
  · obtain ⟨e1, e2⟩ := no (fun q => c1 q.1)
    simp [e1, e2, HD, HM, n1, n2]
  have p0 := c1.2.2.1.1
  have p4 := c1.2.2.1.2
  have p5 : page < 5 := by omega
  obtain ⟨m1, m2⟩ := hm.at p0 p4
  simp only [pgs] at HD HM
  refine gO (fun c2 => ?_) (fun c2 => ?_) <;> simp at c2 <;> simp [c2]
  rotate_left
  · obtain ⟨e1, e2⟩ := no (fun q => c2 q.2.1)
    simp [e1, e2, HD, HM, n1, n2, pgs]
  have s0 := c2.1
  have s3 : slot < 3 := by have := c2.2; omega
  refine gO (fun c3 => ?_) (fun c3 => ?_) <;> simp at c3 <;> simp [c3, p0, p5, n1, n2, HM, m1, encP, pgRow]
  rotate_left
  · obtain ⟨e1, e2⟩ := no (fun q => c3 q.2.2.1)
    simp [e1, e2, HD, HM, n1, n2, pgs, encP, pgRow]
  refine gC (fun c4 => ?_) (fun c4 => ?_) <;> simp at c4 <;> simp
  · obtain ⟨e1, e2⟩ := no (fun q => q.2.2.2 c4)
    simp [e1, e2, HD, HM, n1, n2, pgs, encP, pgRow]
  · have hmay : putMay e tx page slot val := ⟨c1, c2, c3, c4⟩
    have vg := valAt_get m2 c2
    have hok := putR_ok h.mem hmay
    have h177 := c177 D M hDM Bm hD hM e (putR e tx page slot val) hm (by omega) (addL_good0 h.log.good h.len hok rfl) hok.page (by have := hok.slot; simpa [putR] using this.2)
    have e1 : putE e tx page slot val = addE e (putR e tx page slot val) := if_pos hmay
    have e2 : putOk e tx page slot val ↔ addOk e (putR e tx page slot val) := ⟨fun q => q.2, fun q => ⟨hmay, q⟩⟩
    have e3 : decide (putOk e tx page slot val) = decide (addOk e (putR e tx page slot val)) := decide_eq_decide.2 e2
    rw [e1, e3]
    generalize addE e (putR e tx page slot val) = x at h177 ⊢
    generalize decide (addOk e (putR e tx page slot val)) = ok at h177 ⊢
    simp only [encN, encG, encR, putR] at h177
    simp [p0, p5, n1, n2, HM, m1, encP, pgRow, s0, s3, vg]
    refine calld_eng h177 (by omega) (by simp [HD, n1, n2, pgs, encP, pgRow]) (by simp [HM, n1, n2, pgs, encP, pgRow]) ?_
    simp [n1, n2, n3, n4, n5]
    exact ⟨chkW_shb (by simp; omega) (by kernel_rfl), by simp [hDM, pgs], rfl⟩

end Go.Proofs.YtnaafbdgkmlnaaaGreat

/- Functions: a page is given to a table; who took it; a page is written. -/
namespace Go.Proofs.YtnaafbdgkmlnaaaGreat
set_option linter.unusedVariables false
set_option linter.unusedSimpArgs false
set_option linter.unnecessarySimpa false
set_option maxRecDepth 20000
set_option maxHeartbeats 2000000

theorem c124 (D M : Nat) (hDM : D ≠ M) (Bm : Nat) (hD : D < Bm) (hM : M < Bm) (e : Eng) (tx page table : Int) (h : PlayInv e) :
    Told 124 [.agg (encN D M e), I64 tx, I64 page, I64 table] (ebl D M e) (ebl D M (ownE e tx page table)) Bm (.tup [.agg (encN D M (ownE e tx page table)), .bool (decide (ownOk e tx page table))]) := by
  refine told_N2 hDM (by simp only [AV.lt, AV.ltL, and_true]; exact lt_encN hD hM _) fun B hB H0 HD HM => ?_
  have hlen := h.len
  have hd := h.disk.sh
  have hm := h.mem.sh
  have h176 := c176 D M hDM e tx page hd hm h.log.good (by omega)
  refine acallsF (M3u [8]) Tryz.func124 (by kernel_rfl) fun hlt => ?_
  have n1 : ¬ D = B := by omega
  have n2 : ¬ M = B := by omega
  have n3 : ¬ M = D := Ne.symm hDM
  have n4 : ¬ B = M := by omega
  have n5 : ¬ B = D := by omega
  simp only [encN, encG] at h176
  simp [Tryz.f124, encN, encG]
  refine callw_told h176 (Nat.zero_le _) (by simp [ebl, HD, HM, n1, n2]) ?_
  simp
  have no : ¬ ownMay e tx page table → ownE e tx page table = e ∧ ¬ ownOk e tx page table := fun hn => ⟨if_neg hn, fun q => hn q.1⟩
  refine gO (fun c1 => ?_) (fun c1 => ?_) <;> simp at c1 <;> simp [c1]
  rotate_left
  · obtain ⟨e1, e2⟩ := no (fun q => c1 q.1)
    simp [e1, e2, HD, HM, n1, n2]
  have p0 := c1.2.2.1.1
  have p4 := c1.2.2.1.2
  have p5 : page < 5 := by omega
  obtain ⟨m1, m2⟩ := hm.at p0 p4
  have h178 := c178 (pgAt e.mem page) (by omega)
  simp only [encP, pgRow] at h178
  simp only [pgs] at HD HM
  refine gO (fun c2 => ?_) (fun c2 => ?_) <;> simp at c2 <;> simp [c2, p0, p5, n1, n2, HM, m1, encP, pgRow]
  rotate_left
  · obtain ⟨e1, e2⟩ := no (fun q => c2 q.2.1)
    simp [e1, e2, HD, HM, n1, n2, pgs, encP, pgRow]
  by_cases c3 : ((pgAt e.mem page).owner = 0 ↔ table = 0)
  · obtain ⟨e1, e2⟩ := no (fun q => q.2.2.1 c3)
    have c4 : decide ((pgAt e.mem page).owner = 0) = decide (table = 0) := decide_eq_decide.2 c3
    rw [c4]
    cases decide (table = 0) <;> simp [e1, e2, HD, HM, n1, n2, pgs, encP, pgRow]
  have c4 : (decide ((pgAt e.mem page).owner = 0) == decide (table = 0)) = false := by
    by_cases q : (pgAt e.mem page).owner = 0 <;> by_cases q2 : table = 0 <;> simp_all
  rw [c4]
  simp [HD, HM, n1, n2, m1, p0, p5, encP, pgRow]
  refine callw_told h178 (Nat.zero_le _) (by simp) ?_
  simp
  refine gC (fun c6 => ?_) (fun c6 => ?_) <;> simp at c6 <;> simp
  · obtain ⟨e1, e2⟩ := no (fun q => c6 q.2.2.2)
    simp [e1, e2, HD, HM, n1, n2, pgs, encP, pgRow]
  · have hmay : ownMay e tx page table := ⟨c1, c2, c3, c6⟩
    have hok := ownR_ok h.mem hmay
    have h177 := c177 D M hDM Bm hD hM e (ownR e tx page table) hm (by omega) (addL_good0 h.log.good h.len hok rfl) hok.page (by simp [ownR])
    have e1 : ownE e tx page table = addE e (ownR e tx page table) := if_pos hmay
    have e2 : ownOk e tx page table ↔ addOk e (ownR e tx page table) := ⟨fun q => q.2, fun q => ⟨hmay, q⟩⟩
    have e3 : decide (ownOk e tx page table) = decide (addOk e (ownR e tx page table)) := decide_eq_decide.2 e2
    rw [e1, e3]
    generalize addE e (ownR e tx page table) = x at h177 ⊢
    generalize decide (addOk e (ownR e tx page table)) = ok at h177 ⊢
    simp only [encN, encG, encR, ownR] at h177
    simp [p0, p5, n1, n2, HM, m1, encP, pgRow]
    refine calld_eng h177 (by omega) (by simp [HD, n1, n2, pgs, encP, pgRow]) (by simp [HM, n1, n2, pgs, encP, pgRow]) ?_
    simp [n1, n2, n3, n4, n5]
    exact ⟨chkW_shb (by simp; omega) (by kernel_rfl), by simp [hDM, pgs], rfl⟩

theorem TookAt_succ {L : List R} (hg : LogGood L) {m : Nat} {r : R} (hr : L[m]? = some r) (page : Int) : TookAt L (m + 1) page ↔ (r.kind = 2 ∧ r.page = page ∧ 0 < r.new) ∨ TookAt L r.prev.toNat page := by
  have hm := (List.getElem?_eq_some_iff.1 hr).1
  simp only [TookAt, chainAt_succ hg hm, prevAt_eq hr, List.mem_cons]
  constructor
  · rintro ⟨k, rfl | hk, h⟩
    · rw [recAt_eq hr] at h; exact .inl h
    · exact .inr ⟨k, hk, h⟩
  · rintro (h | ⟨k, hk, h⟩)
    · exact ⟨m + 1, .inl rfl, by rw [recAt_eq hr]; exact h⟩
    · exact ⟨k, .inr hk, h⟩

theorem c179 (L : List R) (tx page : Int) (hg : LogGood L) (hL : L.length ≤ 1000000) : Told 179 [.sl 8 (L.map encR), I64 tx, I64 page] [] [] 0 (.bool (decide (Took L tx page))) := by
  refine told_of (Keep.nil _) trivial fun B _ => ?_
  refine acallsF M0 Tryz.func179 (by kernel_rfl) fun hlt => ?_
  simp [Tryz.f179]
  refine callw_told (c122 L tx hL) (Nat.zero_le _) (by simp) ?_
  simp
  refine aloop_ind (ι := Nat × Nat) (fun i => i.1) (fun i => i.1 ≤ L.length ∧ (TookAt L i.1 page ↔ Took L tx page)) (fun i => [(0, .sl 8 (L.map encR)), (2, I64 page), (7, I64 i.1)]) (fun _ => Hp.of []) (fun i => i.2) (last L tx, B) ⟨last_le _ _, Iff.rfl⟩ (by simp) (by simp) (Nat.le_refl _) ?_
  rintro A ⟨n, B1⟩ ⟨hn, hi⟩ ih
  simp only at hn hi
  refine wpC_sound M0 _ _ _ _ _ (by kernel_rfl) ?_
  cases n with
  | zero =>
    simp
    rw [← hi]; simp [TookAt]
  | succ m =>
    obtain ⟨r, hr⟩ : ∃ r, L[m]? = some r := ⟨_, List.getElem?_eq_getElem (by omega)⟩
    obtain ⟨hok, hprev, hnext, _⟩ := hg m r hr
    have hpl := lastB_le L r.tx m
    have hs := TookAt_succ hg hr page
    have w1 := w64 (((m + 1 : Nat) : Int) - 1) (by omega) (by omega)
    have e : (((m + 1 : Nat) : Int) - 1) = m := by omega
    rw [e] at w1
    have hpos : (0 : Int) < ((m + 1 : Nat) : Int) := by omega
    have no : ¬ (r.kind = 2 ∧ r.page = page ∧ 0 < r.new) → ∀ F H B', (∀ p ∈ [(0, AV.sl 8 (L.map encR)), (2, I64 page), (7, I64 (r.prev.toNat : Int))], F p.1 = p.2) → A F H B' := fun hn F H B' hF =>
      ih (r.prev.toNat, B') F H B' (by simp; omega) ⟨by simp; omega, by simp only; rw [← hi, hs]; exact ⟨.inr, fun q => q.resolve_left hn⟩⟩ hF (by simp) (Nat.le_refl _)
    have ep : (r.prev.toNat : Int) = r.prev := by omega
    rw [ep] at no
    generalize hq : ((m + 1 : Nat) : Int) = q at *
    simp [hpos, e, w1, hr, encR]
    refine gO (fun c1 => ?_) (fun c1 => ?_) <;> simp at c1 <;> simp [c1, e, w1, hr, encR]
    · refine gO (fun c2 => ?_) (fun c2 => ?_) <;> simp at c2 <;> simp [c2, e, w1, hr, encR]
      · refine gC (fun c3 => ?_) (fun c3 => ?_) <;> simp [-Int.not_le, -Int.not_lt] at c3 <;> simp [e, w1, hr, encR]
        · exact hi.1 (hs.2 (.inl ⟨c1, c2, c3⟩))
        · exact no (fun q => c3 q.2.2) _ _ _ (by simp)
      · exact no (fun q => c2 q.2.1) _ _ _ (by simp)
    · exact no (fun q => c1 q.1) _ _ _ (by simp)

end Go.Proofs.YtnaafbdgkmlnaaaGreat

/- Functions: a page is written; a step back; all steps back. -/
namespace Go.Proofs.YtnaafbdgkmlnaaaGreat
set_option linter.unusedVariables false
set_option linter.unusedSimpArgs false
set_option linter.unnecessarySimpa false
set_option maxRecDepth 20000
set_option maxHeartbeats 2000000

theorem max_if (a b : Int) : (if a < b then b else a) = max a b := by split <;> omega

theorem c111 (D M : Nat) (hDM : D ≠ M) (Bm : Nat) (hD : D < Bm) (hM : M < Bm) (e : Eng) (page : Int) (hd : ShP e.disk) (hm : ShP e.mem) (hp : In page 0 4) :
    Told 111 [.agg (encN D M e), I64 page] (ebl D M e) (ebl D M (writeE e page)) Bm (.agg (encN D M (writeE e page))) := by
  refine told_N2 hDM (by simp only [AV.lt]; exact lt_encN hD hM _) fun B hB H0 HD HM => ?_
  refine acallsF (M3u [2, 4]) Tryz.func111 (by kernel_rfl) fun hlt => ?_
  have n1 : ¬ D = B := by omega
  have n2 : ¬ M = B := by omega
  have n3 : ¬ M = D := Ne.symm hDM
  have n4 : ¬ B = M := by omega
  have n5 : ¬ B = D := by omega
  have n6 : ¬ D = B + 1 := by omega
  have n7 : ¬ M = B + 1 := by omega
  have n8 : ¬ B + 1 = M := by omega
  have n9 : ¬ B + 1 = D := by omega
  have p0 := hp.1
  have p5 : page < 5 := by have := hp.2; omega
  obtain ⟨m1, m2⟩ := hm.at hp.1 hp.2
  obtain ⟨d1, d2⟩ := hd.at hp.1 hp.2
  have hdl := hd.1
  have h66 := c66 (pgAt e.mem page) (by omega)
  simp only [encP, pgRow] at h66
  simp only [pgs] at HD HM
  simp [Tryz.f111, encN, encG, HD, HM, n1, n2, n6, n7, p0, p5, m1, encP, pgRow]
  refine ⟨chkW_shb (by simp) (by kernel_rfl), ?_⟩
  refine calld_told h66 (Nat.zero_le _) (by simp) ?_
  have hset : (e.disk.map encP).set page.toNat [I64 (pgAt e.mem page).lsn, I64 (pgAt e.mem page).owner, .sl 1 (ints (pgAt e.mem page).vals)] = (pgSet e.disk page (pgAt e.mem page)).map encP := by
    rw [pgSet, ← map_set_enc]; rfl
  have hp5 : page.toNat < 5 := by omega
  simp [HD, HM, n1, n2, n3, n4, n5, n6, n7, n8, n9, p0, p5, hdl, hp5, hset]
  refine ⟨chkW_shb (by simp) (by kernel_rfl), ?_⟩
  simp [HD, HM, hDM, n1, n2, n3, n4, n5, n6, n7, n8, n9, writeE, max_if, pgs]

theorem c150 (D M : Nat) (hDM : D ≠ M) (Bm : Nat) (hD : D < Bm) (hM : M < Bm) (e : Eng) (tx : Int) (h : StepInv e) (ht : In tx 1 3) :
    Told 150 [.agg (encN D M e), I64 tx] (ebl D M e) (ebl D M (stepE e tx)) Bm (.agg (encN D M (stepE e tx))) := by
  refine told_N2 hDM (by simp only [AV.lt]; exact lt_encN hD hM _) fun B hB H0 HD HM => ?_
  have hlen := h.len
  have hg := h.good
  have hd := h.disk
  have hm := h.mem
  have hll := last_le e.log tx
  refine acallsF (M3u [4]) Tryz.func150 (by kernel_rfl) fun hlt => ?_
  have n1 : ¬ D = B := by omega
  have n2 : ¬ M = B := by omega
  have n3 : ¬ M = D := Ne.symm hDM
  have n4 : ¬ B = M := by omega
  have n5 : ¬ B = D := by omega
  have n6 : ¬ D = B + 1 := by omega
  have n7 : ¬ M = B + 1 := by omega
  have n8 : ¬ B + 1 = M := by omega
  have n9 : ¬ B + 1 = D := by omega
  have h177 := c177 D M hDM Bm hD hM e (stepR e.log tx) hm (by omega) (step_good hg h.len ht) (stepR_ok hg ht).page (by have := (stepR_ok hg ht).slot; exact this.2)
  have he : stepE e tx = addE e (stepR e.log tx) := rfl
  rw [he]
  have hsr := stepR_cases hg tx
  generalize stepR e.log tx = sr at h177 hsr ⊢
  generalize addE e sr = x at h177 ⊢
  generalize decide (addOk e sr) = ok at h177
  simp only [encN, encG, encR] at h177
  simp only [pgs] at HD HM
  simp [Tryz.f150, encN, encG, HD, HM, n1, n2, n6, n7]
  refine callw_told (c122 e.log tx (by omega)) (Nat.zero_le _) (by simp) ?_
  simp
  refine callw_told (c165 e.log (last e.log tx) hg hll (by omega)) (Nat.zero_le _) (by simp) ?_
  simp
  rcases hsr with ⟨hb, rfl⟩ | ⟨m, q, hb, hq, hk, htx, rfl⟩
  · simp [hb]
    simp only [endR] at h177
    refine callw_eng h177 (by omega) (by simp [HD, n1, n2, n6, n7, pgs]) (by simp [HM, n1, n2, n6, n7, pgs]) ?_
    simp [HD, HM, hDM, n1, n2, n3, n4, n5, n6, n7, n8, n9, pgs]
  · have hmlt := (List.getElem?_eq_some_iff.1 hq).1
    have w1 := w64 (((m + 1 : Nat) : Int) - 1) (by omega) (by omega)
    have e1 : (((m + 1 : Nat) : Int) - 1) = m := by omega
    rw [e1] at w1
    have hne : ¬ ((m + 1 : Nat) : Int) = 0 := by omega
    have h166 := c166 q (last e.log tx)
    rw [hb]
    generalize hz : ((m + 1 : Nat) : Int) = z at *
    simp only [encR] at h166
    simp [hne, e1, w1, hq, encR]
    refine calld_eng h177 (by omega) (by simp [HD, n1, n2, n6, n7, pgs]) (by simp [HM, n1, n2, n6, n7, pgs]) ?_
    simp [HD, HM, hDM, n1, n2, n3, n4, n5, n6, n7, n8, n9, pgs]
    exact chkW_tkb [D, M, B + 1] [(⟨[], [], false⟩, 0), (⟨[], [], false⟩, 0), (⟨[], [], false⟩, 0), (⟨[], [], false⟩, 0), (⟨[], [], false⟩, 0), (⟨[], [], false⟩, 0), (⟨[], [], false⟩, 0), (⟨[], [], false⟩, 0), (⟨[], [], false⟩, 0),
      (⟨[0, 1], [0, 1], false⟩, Bm), (⟨[], [], false⟩, 0), (⟨[], [], false⟩, 0), (⟨[], [], false⟩, 0), (⟨[], [2], true⟩, 0), (⟨[2], [2], false⟩, 0), (⟨[], [], false⟩, 0)] (by simp [hDM]; omega) (by simp; omega) rfl (by kernel_rfl)

/-- The heap while an engine goes on: its pages, the box that holds it, a place for the result. -/
def hpE (D M B1 B2 : Nat) (e : Eng) : Hp := (((Hp.nil.set D ⟨38, 3, e.disk.map encP⟩).set M ⟨38, 3, e.mem.map encP⟩).set B1 ⟨30, 5, [encN D M e]⟩).set B2 ⟨30, 5, [[.nils, .nils, .nils, I64 0, .bool false]]⟩

theorem hpE_sub {D M B1 B2 : Nat} {e : Eng} {H : Hp} (HD : H D = some ⟨38, 3, e.disk.map encP⟩) (HM : H M = some ⟨38, 3, e.mem.map encP⟩) (H1 : H B1 = some ⟨30, 5, [encN D M e]⟩) (H2 : H B2 = some ⟨30, 5, [[.nils, .nils, .nils, I64 0, .bool false]]⟩) :
    ∀ id k, hpE D M B1 B2 e id = some k → H id = some k := by
  intro id k hk
  simp only [hpE, Hp.set_app, Hp.nil_app] at hk
  split at hk
  · rename_i q; subst q; rw [H2]; exact hk
  split at hk
  · rename_i q; subst q; rw [H1]; exact hk
  split at hk
  · rename_i q; subst q; rw [HM]; exact hk
  split at hk
  · rename_i q; subst q; rw [HD]; exact hk
  · cases hk

theorem c127 (D M : Nat) (hDM : D ≠ M) (Bm : Nat) (hD : D < Bm) (hM : M < Bm) (e : Eng) (tx : Int) (h : StepInv e) :
    Told 127 [.agg (encN D M e), I64 tx] (ebl D M e) (ebl D M (undoE e tx)) Bm (.tup [.agg (encN D M (undoE e tx)), .bool (decide (goes e tx))]) := by
  refine told_N2 hDM (by simp only [AV.lt, AV.ltL, and_true]; exact lt_encN hD hM _) fun B hB H0 HD HM => ?_
  have hlen := h.len
  refine acallsF (M3u [2, 4]) Tryz.func127 (by kernel_rfl) fun hlt => ?_
  have n1 : ¬ D = B := by omega
  have n2 : ¬ M = B := by omega
  have n3 : ¬ M = D := Ne.symm hDM
  have n4 : ¬ B = M := by omega
  have n5 : ¬ B = D := by omega
  have n6 : ¬ D = B + 1 := by omega
  have n7 : ¬ M = B + 1 := by omega
  have n8 : ¬ B + 1 = M := by omega
  have n9 : ¬ B + 1 = D := by omega
  have no : ¬ goes e tx → undoE e tx = e := fun hn => if_neg hn
  simp only [pgs] at HD HM
  simp [Tryz.f127, encN, encG, HD, HM, n1, n2, n6, n7]
  refine gO (fun c1 => ?_) (fun c1 => ?_) <;> simp at c1 <;> simp [c1, HD, HM, n1, n2, n6, n7]
  rotate_left
  · have hn : ¬ goes e tx := fun q => by have := q.1; simp [c1] at this
    simp [no hn, hn, c1, HD, HM, n1, n2, n6, n7, pgs]
  refine gO (fun c2 => ?_) (fun c2 => ?_) <;> simp at c2 <;> simp [c2, c1, HD, HM, n1, n2, n6, n7]
  rotate_left
  · have hn : ¬ goes e tx := fun q => c2 q.2.1
    simp [no hn, hn, c1, HD, HM, n1, n2, n6, n7, pgs]
  refine callw_told (c122 e.log tx (by omega)) (Nat.zero_le _) (by simp) ?_
  simp
  refine gC (fun c3 => ?_) (fun c3 => ?_) <;> simp at c3 <;> simp [c1, HD, HM, n1, n2, n6, n7]
  · have hn : ¬ goes e tx := fun q => q.2.2 c3
    simp [no hn, hn, c1, HD, HM, n1, n2, n6, n7, pgs]
  have hgo : goes e tx := ⟨c1, c2, c3⟩
  have hun : undoE e tx = undoI e tx := if_pos hgo
  refine aloop_ind (ι := Eng × Nat) (fun i => needTx i.1.log tx) (fun i => B + 2 ≤ i.2 ∧ StepInv i.1 ∧ undoI i.1 tx = undoI e tx) (fun i => [(1, I64 tx), (2, .pe B 5 0), (4, .pe (B + 1) 5 0)]) (fun i => hpE D M B (B + 1) i.1) (fun i => i.2) (e, B + 2) ⟨Nat.le_refl _, h, rfl⟩ (by simp) ?_ (Nat.le_refl _) ?_
  · exact hpE_sub (by simp [n1, n6, HD]) (by simp [n2, n7, HM]) (by simp [encN, encG, c1]) (by simp)
  rintro A ⟨x, B1⟩ ⟨hB1, hx, hux⟩ ih
  simp only at hB1 hx hux
  refine wpC_sound (M3u [2, 4]) _ _ _ _ _ (by kernel_rfl) ?_
  have hxl := hx.len
  simp [hpE, encN, encG]
  refine callw_told (c122 x.log tx (by omega)) (Nat.zero_le _) (by simp) ?_
  simp
  refine gC (fun c4 => ?_) (fun c4 => ?_) <;> simp at c4 <;> simp [n1, n2, n6, n7]
  · have h150 := c150 D M hDM Bm hD hM x tx hx c2
    simp only [encN, encG] at h150
    refine callw_eng h150 (by omega) (by simp [n1, n2, n3, n6, n7, hDM, pgs]) (by simp [n1, n2, n6, n7, pgs]) ?_
    have hnd := hx.need c2 (by omega)
    simp [hDM, n1, n2, n3, n4, n5, n6, n7, n8, n9]
    refine ih (stepE x tx, B1) _ _ _ (by simp; omega) ⟨hB1, hx.step c2 (by omega), ?_⟩ (by simp) ?_ (Nat.le_refl _)
    · simp only [undoI] at hux ⊢
      rw [← hux, ← hnd]
      rfl
    · exact hpE_sub (by simp [hDM, n1, n6]) (by simp [n2, n7]) (by simp [encN, encG]) (by simp [n8, n9])
  · have h0 : needTx x.log tx = 0 := last_needTx.1 c4
    have hxe : x = undoI e tx := by rw [← hux, undoI, h0]; rfl
    simp [hun, ← hxe, hgo, hDM, n1, n2, n3, n4, n5, n6, n7, n8, n9, pgs]

end Go.Proofs.YtnaafbdgkmlnaaaGreat
