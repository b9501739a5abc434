/- Laws about the machine's run of the program's functions, part 31, in import order. No condition. -/
import Derived.Test.YtnaafbdgkmlnaaaGreatM28
import Derived.Test.YtnaafbdgkmlnaaaGreatM30

set_option linter.unusedVariables false
set_option linter.unusedSimpArgs false
set_option linter.unnecessarySimpa false
/- The statements on a rise, over their draws. -/
namespace Go.Proofs.YtnaafbdgkmlnaaaGreat
set_option linter.unusedVariables false
set_option linter.unusedSimpArgs false
set_option linter.unnecessarySimpa false
set_option maxRecDepth 20000
set_option maxHeartbeats 4000000

theorem rise0 {e : Eng} (h : EngOk e) (hd : e.down = true) : (riseOk e 0 ↔ first e.log = 0) ∧ (riseE e 0).log = e.log ∧ EngOk (riseE e 0) := by
  have e0 : upB e 0 = redoneE e := rfl
  have e1 : riseE e 0 = upI e 0 := by rw [riseE, if_pos ⟨h, Int.le_refl 0⟩, if_pos hd]
  refine ⟨⟨fun q => q.2.2.2, fun q => ⟨h, Int.le_refl 0, hd, q⟩⟩, ?_, ?_⟩
  · rw [e1]; unfold upI; split <;> rfl
  · by_cases ho : upOk e 0
    · rw [e1]; exact up_ok h ho
    · have e2 : upI e 0 = { redoneE e with mem := e.disk } := by
        unfold upI; rw [if_neg (show ¬ first (upB e 0).log = 0 from ho), e0]; rfl
      rw [e1, e2]
      obtain ⟨h1, h2, h3, h4, h5, h6, h7⟩ := h
      refine ⟨h1, h1, h3, h4, h5, h6, fun p hp => ?_⟩
      obtain ⟨a, b, c⟩ := h7 p hp
      refine ⟨a, b, ?_⟩
      show if e.down = true then pgAt e.disk p = pgAt e.disk p else _
      rw [if_pos hd]
theorem opn_len0 (L : List R) : (opn L).length = 0 ↔ first L = 0 := by
  obtain ⟨a, b⟩ := opn_first L
  constructor
  · intro h
    by_cases q : first L = 0
    · exact q
    · obtain ⟨l, hl⟩ := b q
      rw [hl] at h; simp at h
  · intro h; rw [a h]; rfl

theorem c12 (code : List Int) (hc : ∀ b ∈ code, 0 ≤ b ∧ b < 256) : Told 12 [bytesAV code] [] [] 0 (.bool true) := by
  refine told_of (Keep.nil _) trivial fun B _ => ?_
  refine acallsF M0 Tryz.func12 (by kernel_rfl) fun hlt => ?_
  simp [Tryz.f12, bytesAV]
  refine gC (fun c1 => ?_) (fun c1 => ?_) <;> simp at c1 <;> simp
  have h49 := a49 code (by omega) hc (B)
  simp only [bytesAV] at h49
  refine callw_rel h49 (by simp) ?_
  rintro v H' B1 H1 ⟨e, steps, hs, l0, l1, rfl, rfl⟩ hB1 s1 s2
  clear s1 s2 h49
  have h32 := c32 e steps hs
  have h34 := c34 e steps hs (by omega)
  have h34z := c34 e 0 hs (by omega)
  have h50 := c50 e hs
  have hx := riseE_short hs steps
  have hy := riseE_short hs 0
  have h24 := c24 e.log hs.2.2
  obtain ⟨x, hxe⟩ : ∃ x, x = riseE e steps := ⟨_, rfl⟩
  obtain ⟨y, hye⟩ : ∃ y, y = riseE e 0 := ⟨_, rfl⟩
  obtain ⟨ok, hoke⟩ : ∃ ok, ok = decide (riseOk e steps) := ⟨_, rfl⟩
  have h28 := c28 x x (by rw [hxe]; exact hx)
  rw [← hxe, ← hoke] at h32 h34
  rw [← hye] at h34z hy
  rw [← hxe] at hx
  have h29 := c29 y.log e.log hy.2.2
  have h30 := c30 y hy
  simp only [encE] at h32 h34 h34z h28 h50 h30
  simp [encE]
  refine callw_told h32 (Nat.zero_le _) (by simp) ?_
  simp
  refine callw_told h34 (Nat.zero_le _) (by simp) ?_
  simp
  refine callw_told h28 (Nat.zero_le _) (by simp) ?_
  have n1 : ¬ B1 = B1 + 1 + 2 := by omega
  have n2 : ¬ B1 + 1 = B1 + 1 + 2 := by omega
  have n3 : ¬ B1 + 2 = B1 + 1 + 2 := by omega
  simp
  refine callw_told h50 (Nat.zero_le _) (by simp) ?_
  simp
  by_cases c2 : EngOk e
  · by_cases c3 : steps < 0
    · simp [c2, c3]
      refine callw_told h28 (Nat.zero_le _) (by simp) ?_
      simp
    · have c3' : 0 ≤ steps := by omega
      cases hdn : e.down with
      | true =>
        rw [hdn] at h34z
        obtain ⟨z1, z2, z3⟩ := rise0 c2 hdn
        rw [← hye] at z2 z3
        have hol : opnLog e.log = opn e.log := by rw [opnLog, if_pos c2.2.2.1]
        rw [hol] at h24
        have hz : decide (riseOk e 0) = decide ((opn e.log).length = 0) := decide_eq_decide.2 (z1.trans (opn_len0 e.log).symm)
        rw [hz] at h34z
        simp [c2, c3, n1, n2, n3, hdn]
        refine callw_told h34z (Nat.zero_le _) (by simp) ?_
        simp [n1, n2, n3]
        refine callw_told h24 (Nat.zero_le _) (by simp) ?_
        simp [n1, n2, n3, z2]
        rw [z2] at h29
        refine callw_told h29 (Nat.zero_le _) (by simp) ?_
        simp [n1, n2, n3, z2]
        rw [z2] at h30
        refine callw_told h30 (Nat.zero_le _) (by simp) ?_
        simp [z3]
      | false =>
        simp [c2, c3, n1, n2, n3, hdn]
        refine callw_told h28 (Nat.zero_le _) (by simp) ?_
        simp
  · simp [c2]
    refine callw_told h28 (Nat.zero_le _) (by simp) ?_
    simp

end Go.Proofs.YtnaafbdgkmlnaaaGreat

/- The statements on a rise, over their draws. -/
namespace Go.Proofs.YtnaafbdgkmlnaaaGreat
set_option linter.unusedVariables false
set_option linter.unusedSimpArgs false
set_option linter.unnecessarySimpa false
set_option maxRecDepth 20000
set_option maxHeartbeats 4000000

theorem riseE_grew {e : Eng} {steps : Int} (h : EngOk e) (h0 : 0 ≤ steps) (hd : e.down = true) : Grew e.log (riseE e steps).log (min steps.toNat (need e.log)) ∧ (riseE e steps).disk = e.disk ∧ (riseE e steps).safe = e.safe ∧ needE e = need e.log ∧ e.log.length + need e.log ≤ 150 := by
  have e1 : riseE e steps = upI e steps := by rw [riseE, if_pos ⟨h, h0⟩, if_pos hd]
  have hg := h.rising.grew steps.toNat
  obtain ⟨k1, k2, k3⟩ := upF_keep steps.toNat (redoneE e)
  have hu : (upI e steps).log = (upB e steps).log ∧ (upI e steps).disk = (upB e steps).disk ∧ (upI e steps).safe = (upB e steps).safe := by
    unfold upI; split <;> exact ⟨rfl, rfl, rfl⟩
  rw [e1, hu.1, hu.2.1, hu.2.2]
  exact ⟨hg, k1, k2, by rw [needE, if_pos h], h.2.2.2.2.1⟩

theorem c11 (code : List Int) (hc : ∀ b ∈ code, 0 ≤ b ∧ b < 256) : Told 11 [bytesAV code] [] [] 0 (.bool true) := by
  refine told_of (Keep.nil _) trivial fun B _ => ?_
  refine acallsF M0 Tryz.func11 (by kernel_rfl) fun hlt => ?_
  simp [Tryz.f11, bytesAV]
  refine gC (fun c1 => ?_) (fun c1 => ?_) <;> simp at c1 <;> simp
  have h49 := a49 code (by omega) hc (B)
  simp only [bytesAV] at h49
  refine callw_rel h49 (by simp) ?_
  rintro v H' B1 H1 ⟨e, steps, hs, l0, l1, rfl, rfl⟩ hB1 s1 s2
  clear s1 s2 h49
  have h32 := c32 e steps hs
  have h34 := c34 e steps hs (by omega)
  have h51 := c51 e hs
  have h50 := c50 e hs
  have hx := riseE_short hs steps
  obtain ⟨x, hxe⟩ : ∃ x, x = riseE e steps := ⟨_, rfl⟩
  obtain ⟨ok, hoke⟩ : ∃ ok, ok = decide (riseOk e steps) := ⟨_, rfl⟩
  have h28 := c28 x x (by rw [hxe]; exact hx)
  rw [← hxe, ← hoke] at h32 h34
  rw [← hxe] at hx
  simp only [encE] at h32 h34 h28 h50 h51
  simp [encE]
  refine callw_told h32 (Nat.zero_le _) (by simp) ?_
  simp
  refine callw_told h34 (Nat.zero_le _) (by simp) ?_
  simp
  refine callw_told h28 (Nat.zero_le _) (by simp) ?_
  have n1 : ¬ B1 = B1 + 1 + 2 := by omega
  have n2 : ¬ B1 + 1 = B1 + 1 + 2 := by omega
  have n3 : ¬ B1 + 2 = B1 + 1 + 2 := by omega
  simp
  refine callw_told h50 (Nat.zero_le _) (by simp) ?_
  simp
  by_cases c2 : EngOk e
  · by_cases c3 : steps < 0
    · simp [c2, c3]
      refine callw_told h28 (Nat.zero_le _) (by simp) ?_
      simp
    · have c3' : 0 ≤ steps := by omega
      cases hdn : e.down with
      | true =>
        obtain ⟨g1, g2, g3, g4, g5⟩ := riseE_grew c2 c3' hdn
        rw [← hxe] at g1 g2 g3
        simp [c2, c3, n1, n2, n3, hdn]
        rw [hdn] at h51
        refine calld_told h51 (Nat.zero_le _) (by simp) ?_
        have hmn : (e.log.length : Int) + (if needE e < steps then needE e else steps) = (x.log.length : Int) := by
          rw [g1.len, g4]; split <;> omega
        have hle : e.log.length ≤ x.log.length := by rw [g1.len]; omega
        have hxl : x.log.length ≤ 150 := by rw [g1.len]; omega
        have wx := w64 (x.log.length : Int) (by omega) (by omega)
        have hb : e.log.length * 64 ≤ 140737488355328 := by omega
        have h29 := c29 (x.log.take e.log.length) e.log (by simp; omega)
        have h17 := c17 x.disk e.disk hx.1
        rw [show decide (x.log.take e.log.length = e.log) = true by simp [g1.take], List.map_take] at h29
        rw [show decide (x.disk = e.disk) = true by simp [g2]] at h17
        simp [n1, n2, n3, hmn, wx, hle, hb]
        refine calld_told h29 (Nat.zero_le _) (by simp) ?_
        simp [n1, n2, n3]
        refine calld_told h17 (Nat.zero_le _) (by simp) ?_
        simp [n1, n2, n3, g3]
        refine aloop_ind (ι := Nat) (fun i => x.log.length - i) (fun i => e.log.length ≤ i ∧ i ≤ x.log.length) (fun i => [(7, .pe (B1 + 2) 5 0), (10, I64 i)]) (fun i => Hp.nil.set (B1 + 2) ⟨30, 5, [encE x]⟩) (fun i => B1 + 1 + 2) e.log.length ⟨Nat.le_refl _, hle⟩ (by simp) ?_ (Nat.le_refl _) ?_
        · intro i k hk
          simp only [Hp.set_app, Hp.nil_app] at hk
          split at hk
          · rename_i q; subst q; rw [← hk]; simp [encE, g3]
          · cases hk
        rintro A i ⟨i0, i1⟩ ih
        refine wpC_sound M0 _ _ _ _ _ (by kernel_rfl) ?_
        have wi := w64 ((i : Int) + 1) (by omega) (by omega)
        simp [encE]
        refine gC (fun c4 => ?_) (fun c4 => ?_) <;> simp [-Int.not_le, -Int.not_lt, -Nat.not_lt, -Nat.not_le] at c4
        · obtain ⟨r, hr⟩ : ∃ r, x.log[i]? = some r := ⟨_, List.getElem?_eq_getElem c4⟩
          have hri : x.log[i] = r := (List.getElem?_eq_some_iff.1 hr).2
          have hk := g1.kind i r i0 hr
          simp [c4, hri, encR]
          rcases hk with hk | hk
          · simp [hk, c4, hri, encR, wi]
            refine ih (i + 1) _ _ _ (by omega) ⟨by omega, by omega⟩ (by simp) ?_ (Nat.le_refl _)
            intro i k hk
            simp only [encE] at hk
            exact hk
          · simp [hk, c4, hri, encR, wi]
            refine ih (i + 1) _ _ _ (by omega) ⟨by omega, by omega⟩ (by simp) ?_ (Nat.le_refl _)
            intro i k hk
            simp only [encE] at hk
            exact hk
        · simp
      | false =>
        simp [c2, c3, n1, n2, n3, hdn]
        refine callw_told h28 (Nat.zero_le _) (by simp) ?_
        simp
  · simp [c2]
    refine callw_told h28 (Nat.zero_le _) (by simp) ?_
    simp

end Go.Proofs.YtnaafbdgkmlnaaaGreat

/- A page is written: the engine stays valid. -/
namespace Go.Proofs.YtnaafbdgkmlnaaaGreat
set_option linter.unusedVariables false

/-- Valid pages that belong to the same ones. -/
structure OSim (ps qs : List Pg) : Prop where
  len : ps.length = qs.length
  own : ∀ n : Int, (pgAt ps n).owner = (pgAt qs n).owner
  ok : ∀ n : Int, PageOkP (pgAt qs n)

theorem pgNew_ok : PageOkP pgNew := by simp [PageOkP, pgNew, In, AllZ]
theorem PagesOkP.all {ps : List Pg} (h : PagesOkP ps) (n : Int) : PageOkP (pgAt ps n) := by
  by_cases hn : n.toNat < ps.length
  · have e : pgAt ps n = ps[n.toNat] := by simp [pgAt, hn]
    rw [e]; exact h.2 _ (List.getElem_mem _)
  · rw [pgAt_out hn]; exact pgNew_ok

theorem OSim.set {ps qs : List Pg} (h : OSim ps qs) (n : Int) {p q : Pg} (h1 : p.owner = q.owner) (h2 : PageOkP q) : OSim (pgSet ps n p) (pgSet qs n q) := by
  refine ⟨by rw [pgSet_len, pgSet_len, h.len], fun m => ?_, fun m => ?_⟩
  · by_cases hn : n.toNat < ps.length
    · rw [pgAt_set hn, pgAt_set (by rw [← h.len]; exact hn)]
      split
      · exact h1
      · exact h.own m
    · rw [pgSet_out hn, pgSet_out (by rw [← h.len]; exact hn)]; exact h.own m
  · by_cases hn : n.toNat < qs.length
    · rw [pgAt_set hn]
      split
      · exact h2
      · exact h.ok m
    · rw [pgSet_out hn]; exact h.ok m

theorem undo_own {p q : Pg} {r : R} (hr : RecOkP r) (hk : r.kind = 1 ∨ r.kind = 2) (ho : p.owner = q.owner) (hp : p.vals.length = 3) (hq : PageOkP q) (h : PageOkP (wr p (backR r 0) p.lsn)) : (wr p (backR r 0) p.lsn).owner = (wr q (backR r 0) q.lsn).owner ∧ PageOkP (wr q (backR r 0) q.lsn) := by
  obtain ⟨q1, q2, q3, q4, q5⟩ := hq
  have hs : (backR r 0).slot = r.slot := rfl
  have hn : (backR r 0).new = r.old := rfl
  have hrk := hr.1
  simp only [PutOk, OwnOk, LoadOk, EndOk, UndoOk, In] at hrk
  unfold wr at h ⊢
  rw [hs, hn] at h ⊢
  by_cases h0 : 0 ≤ r.slot
  · rw [if_pos h0] at h ⊢
    rw [if_pos h0]
    obtain ⟨p1, p2, p3, p4, p5⟩ := h
    refine ⟨ho, q1, q2, by simp [q3], fun v hv => ?_, fun hz v hv => ?_⟩
    · rcases List.mem_or_eq_of_mem_set hv with hv | rfl
      · exact q4 v hv
      · simp only [In]; omega
    · rcases List.mem_or_eq_of_mem_set hv with hv | rfl
      · exact q5 hz v hv
      · refine p5 (by simp only; rw [ho]; exact hz) _ ?_
        refine List.mem_of_getElem? (i := r.slot.toNat) ?_
        rw [List.getElem?_set_self (by omega)]
  · rw [if_neg h0] at h ⊢
    rw [if_neg h0]
    obtain ⟨p1, p2, p3, p4, p5⟩ := h
    simp only at p2
    refine ⟨rfl, q1, p2, ?_, ?_, ?_⟩
    · split
      · rfl
      · exact q3
    · split
      · intro v hv; simp at hv; subst hv; simp [In]
      · exact q4
    · intro hz
      simp only at hz
      rw [if_pos hz]
      intro v hv; simpa using hv

theorem UndoneL_own {L : List R} : ∀ (l : List Nat) {ps qs : List Pg}, (∀ n ∈ l, RecOkP (recAt L n) ∧ ((recAt L n).kind = 1 ∨ (recAt L n).kind = 2)) → (∀ n, (pgAt ps n).vals.length = 3) → OSim ps qs → UndoneL L l ps → UndoneL L l qs
  | [], _, _, _, _, _, _ => trivial
  | n :: l, ps, qs, hl, hv, hs, h => by
    obtain ⟨h1, h2⟩ := h
    obtain ⟨a, b⟩ := hl n (by simp)
    obtain ⟨w1, w2⟩ := undo_own a b (hs.own (recAt L n).page) (hv _) (hs.ok _) h1
    refine ⟨w2, UndoneL_own l (fun m hm => hl m (by simp [hm])) (fun k => ?_) (hs.set _ w1 w2) h2⟩
    by_cases hn : (recAt L n).page.toNat < ps.length
    · rw [pgAt_set hn]
      split
      · exact h1.2.2.1
      · exact hv k
    · rw [pgSet_out hn]; exact hv k

theorem undosAt_put {L : List R} (h : LogGood L) : ∀ (n : Nat), n ≤ L.length → ∀ k ∈ undosAt L n, RecOkP (recAt L k) ∧ ((recAt L k).kind = 1 ∨ (recAt L k).kind = 2) := by
  intro n
  induction n using Nat.strongRecOn with
  | _ n ih =>
    intro hn k hk
    cases hb : back L n with
    | zero => rw [undosAt_nil hb] at hk; cases hk
    | succ m =>
      have hm := back_le h hn
      have hp := h.prevAt_le (n := m) (by omega)
      obtain ⟨r, hr, hrk⟩ := (back_spec h n hn).2 m hb
      rw [undosAt_succ h hn hb] at hk
      rcases List.mem_cons.1 hk with rfl | hk
      · rw [recAt_some hr]; exact ⟨h.recOk hr, hrk⟩
      · exact ih _ (by omega) (by omega) k hk
theorem allUndos_put {L : List R} (h : LogGood L) : ∀ k ∈ allUndos L, RecOkP (recAt L k) ∧ ((recAt L k).kind = 1 ∨ (recAt L k).kind = 2) := by
  intro m hm
  simp only [allUndos, List.mem_append] at hm
  rcases hm with (hm | hm) | hm <;> exact undosAt_put h _ (last_le L _) m hm

/-! ### What is done again, page by page -/
theorem redoStep_other {ps : List Pg} (i : Nat) (r : R) {q : Int} (h : r.page.toNat ≠ q.toNat) : pgAt (redoStep ps i r) q = pgAt ps q := by
  unfold redoStep
  split
  · by_cases hn : r.page.toNat < ps.length
    · rw [pgAt_set hn, if_neg (fun e => h e.symm)]
    · rw [pgSet_out hn]
  · rfl
theorem pgAt_same {ps : List Pg} {p q : Int} (h : p.toNat = q.toNat) : pgAt ps p = pgAt ps q := by unfold pgAt; rw [h]
theorem redoStep_at {ps qs : List Pg} (i : Nat) (r : R) (q : Int) (hl : ps.length = qs.length) (h : pgAt ps q = pgAt qs q) : pgAt (redoStep ps i r) q = pgAt (redoStep qs i r) q := by
  by_cases e : r.page.toNat = q.toNat
  · have e1 : pgAt ps r.page = pgAt qs r.page := by rw [pgAt_same e, pgAt_same e, h]
    unfold redoStep
    rw [e1]
    split
    · by_cases hn : r.page.toNat < ps.length
      · rw [pgAt_set hn, pgAt_set (by rw [← hl]; exact hn)]
        split
        · rfl
        · exact h
      · rw [pgSet_out hn, pgSet_out (by rw [← hl]; exact hn)]; exact h
    · exact h
  · rw [redoStep_other i r e, redoStep_other i r e, h]
theorem redoB_at {ps qs : List Pg} {L : List R} (q : Int) (hl : ps.length = qs.length) (h : pgAt ps q = pgAt qs q) : ∀ n, pgAt (redoB ps L n) q = pgAt (redoB qs L n) q
  | 0 => h
  | n + 1 => by
    simp only [redoB]
    cases hr : L[n]? with
    | none => exact redoB_at q hl h n
    | some r => exact redoStep_at n r q (by rw [redoB_len, redoB_len, hl]) (redoB_at q hl h n)

/-- No record from some number on changes the page. -/
def NoCh (L : List R) (page : Int) (m : Int) : Prop := ∀ (i : Nat) (r : R), L[i]? = some r → Changes r.kind → r.page.toNat = page.toNat → (i : Int) + 1 ≤ m
theorem redoB_keep {ps : List Pg} {L : List R} {page : Int} {m : Int} (h : NoCh L page m) (hm : m ≤ (pgAt ps page).lsn) : ∀ n, pgAt (redoB ps L n) page = pgAt ps page
  | 0 => rfl
  | n + 1 => by
    have ih := redoB_keep (L := L) h hm n
    simp only [redoB]
    cases hr : L[n]? with
    | none => exact ih
    | some r =>
      by_cases e : r.page.toNat = page.toNat
      · by_cases hc : Changes r.kind
        · have := h n r hr hc e
          have e1 : pgAt (redoB ps L n) r.page = pgAt ps page := by rw [pgAt_same e, ih]
          simp only [redoStep]
          rw [if_neg (by rw [e1]; omega)]
          exact ih
        · simp only [redoStep]
          rw [if_neg (fun q => hc q.1)]
          exact ih
      · simp only
        rw [redoStep_other n r e]; exact ih
theorem redoB_stop {ps : List Pg} {L : List R} {page : Int} {m : Int} (h : NoCh L page m) : ∀ (k n : Nat), m ≤ n → pgAt (redoB ps L (n + k)) page = pgAt (redoB ps L n) page
  | 0, n, _ => rfl
  | k + 1, n, hm => by
    have ih := redoB_stop (ps := ps) (L := L) h k n hm
    rw [← Nat.add_assoc]
    simp only [redoB]
    cases hr : L[n + k]? with
    | none => exact ih
    | some r =>
      simp only
      by_cases e : r.page.toNat = page.toNat
      · by_cases hc : Changes r.kind
        · have := h (n + k) r hr hc e
          omega
        · simp only [redoStep]
          rw [if_neg (fun q => hc q.1)]
          exact ih
      · rw [redoStep_other (n + k) r e]; exact ih
theorem redoB_ge {ps : List Pg} {L : List R} (hps : ps.length = 5) (hL : ∀ r ∈ L, RecOkP r) {i : Nat} {r : R} (hr : L[i]? = some r) (hc : Changes r.kind) : ∀ k, (i : Int) + 1 ≤ (pgAt (redoB ps L (i + 1 + k)) r.page).lsn
  | 0 => by
    have hp := (hL r (List.mem_of_getElem? hr)).page
    have hl : r.page.toNat < (redoB ps L i).length := by rw [redoB_len, hps]; omega
    simp only [redoB, hr, redoStep]
    split
    · rw [pgAt_set hl, if_pos rfl, wr_lsn']; omega
    · rename_i h
      have := Int.not_lt.1 (fun q => h ⟨hc, q⟩)
      exact this
  | k + 1 => by
    have ih := redoB_ge hps hL hr hc k
    rw [← Nat.add_assoc]
    refine Int.le_trans ih ?_
    simp only [redoB]
    cases hq : L[i + 1 + k]? with
    | none => exact Int.le_refl _
    | some q =>
      have hp := (hL q (List.mem_of_getElem? hq)).page
      exact redoStep_lsn _ q _ hp.1 (by rw [redoB_len, hps]; omega)
theorem lastPB_ge {L : List R} {page : Int} {i : Nat} {r : R} (hr : L[i]? = some r) (hp : r.page = page) (hc : Changes r.kind ∨ r.kind = 3) : ∀ k, i + 1 + k ≤ L.length → i + 1 ≤ lastPB L page (i + 1 + k)
  | 0, _ => by simp [lastPB, hr, hp, hc]
  | k + 1, hk => by
    have ih := lastPB_ge hr hp hc k (by omega)
    rw [← Nat.add_assoc]
    simp only [lastPB]
    have hq : L[i + 1 + k]? = some L[i + 1 + k] := List.getElem?_eq_getElem (by omega)
    rw [hq]
    simp only
    split
    · omega
    · exact ih

end Go.Proofs.YtnaafbdgkmlnaaaGreat

/- A page is written: the engine stays valid. -/
namespace Go.Proofs.YtnaafbdgkmlnaaaGreat
set_option linter.unusedVariables false

theorem lastPB_leU (L : List R) (page : Int) : ∀ n, lastPB L page n ≤ n
  | 0 => Nat.le_refl _
  | n + 1 => by
    simp only [lastPB]
    split
    · split
      · exact Nat.le_refl _
      · exact Nat.le_succ_of_le (lastPB_leU L page n)
    · omega

theorem EngOk.page {e : Eng} (h : EngOk e) (hd : e.down = false) {n : Nat} (hn : n < 5) : MemOk e n (pgAt (redo e.disk e.log) n) := by
  have := (h.2.2.2.2.2.2 n hn).2.2
  rw [hd] at this
  simpa using this
theorem EngOk.own {e : Eng} (h : EngOk e) (hd : e.down = false) {n : Nat} (hn : n < 5) : (pgAt e.mem n).owner = (pgAt (redo e.disk e.log) n).owner := by
  have := h.page hd hn
  unfold MemOk at this
  split at this
  · exact this.1
  · rw [this]
theorem EngOk.lsn {e : Eng} (h : EngOk e) (hd : e.down = false) {n : Nat} (hn : n < 5) : (pgAt e.mem n).lsn ≤ e.log.length := by
  have := h.page hd hn
  unfold MemOk at this
  split at this
  · rw [this.2.1]
    have := lastPB_leU e.log n e.log.length
    unfold lastP; omega
  · rw [this]; exact h.rising.lsn n
theorem EngOk.noCh {e : Eng} (h : EngOk e) (hd : e.down = false) {n : Nat} (hn : n < 5) : NoCh e.log n (pgAt e.mem n).lsn := by
  intro i r hr hc hp
  have hlt := (List.getElem?_eq_some_iff.1 hr).1
  have hpg := (h.2.2.1.1.recOk hr).page
  have hpn : r.page = (n : Int) := by omega
  have := h.page hd hn
  unfold MemOk at this
  split at this
  · rw [this.2.1]
    have := lastPB_ge hr hpn (.inl hc) (e.log.length - (i + 1)) (by omega)
    rw [show i + 1 + (e.log.length - (i + 1)) = e.log.length by omega] at this
    unfold lastP; omega
  · rw [this, ← hpn]
    have := redoB_ge h.1.1 h.2.2.1.1.rec hr hc (e.log.length - (i + 1))
    rw [show i + 1 + (e.log.length - (i + 1)) = e.log.length by omega] at this
    exact this

theorem write_ok {e : Eng} (h : EngOk e) (hd : e.down = false) {page : Int} (hp : In page 0 4) : EngOk (writeE e page) := by
  obtain ⟨n, rfl⟩ : ∃ n : Nat, page = (n : Int) := ⟨page.toNat, by simp only [In] at hp; omega⟩
  have hn : n < 5 := by simp only [In] at hp; omega
  have hown := h.own hd hn
  have hlsn := h.lsn hd hn
  have hno := h.noCh hd hn
  have hfull := h
  obtain ⟨h1, h2, h3, h4, h5, h6, h7⟩ := h
  obtain ⟨p0, hp0⟩ : ∃ p0, p0 = pgAt e.mem (n : Int) := ⟨_, rfl⟩
  have hok0 : PageOkP p0 := by rw [hp0]; exact h2.all n
  have hl5 := h1.1
  have hD : (writeE e n).disk = pgSet e.disk n p0 := by rw [hp0]; rfl
  have hS : (writeE e n).safe = max e.safe p0.lsn := by rw [hp0]; rfl
  rw [← hp0] at hown hlsn hno
  have hDn : pgAt (pgSet e.disk n p0) (n : Int) = p0 := by rw [pgAt_set (by simp; omega)]; simp
  have hDo : ∀ q : Int, q.toNat ≠ n → pgAt (pgSet e.disk n p0) q = pgAt e.disk q := fun q hq => by rw [pgAt_set (by simp; omega), if_neg (by simpa using hq)]
  have hDl : (pgSet e.disk n p0).length = e.disk.length := pgSet_len _ _ _
  have hRn : ∀ m, pgAt (redoB (pgSet e.disk n p0) e.log m) (n : Int) = p0 := fun m => by
    rw [redoB_keep hno (by rw [hDn]; exact Int.le_refl _), hDn]
  have hRo : ∀ (q : Int) m, q.toNat ≠ n → pgAt (redoB (pgSet e.disk n p0) e.log m) q = pgAt (redoB e.disk e.log m) q := fun q m hq => redoB_at q hDl (hDo q hq) m
  refine ⟨by rw [hD]; exact h1.setU _ hok0, h2, h3, ?_, h5, ?_, fun p hpl => ?_⟩
  · rw [hS]
    have := h4.1; have := h4.2
    have e1 : (writeE e n).log = e.log := rfl
    rw [e1]
    simp only [In]; omega
  · intro m hm1 hm2
    have e1 : (writeE e n).log = e.log := rfl
    rw [e1] at hm2 ⊢
    rw [hS] at hm1
    rw [hD]
    obtain ⟨k1, k2⟩ := h6 m (by omega) hm2
    have hval : ∀ q : Int, PageOkP (pgAt (redoB (pgSet e.disk n p0) e.log m) q) := fun q => by
      by_cases hq : q.toNat = n
      · rw [pgAt_same (q := (n : Int)) (by simpa using hq), hRn]; exact hok0
      · rw [hRo q m hq]; exact k1.all q
    refine ⟨⟨by rw [redoB_len, hDl, hl5], fun p hp => ?_⟩, ?_⟩
    · obtain ⟨i, hi⟩ := List.mem_iff_getElem?.1 hp
      have : pgAt (redoB (pgSet e.disk n p0) e.log m) (i : Int) = p := by simp [pgAt, hi]
      rw [← this]; exact hval i
    · refine UndoneL_own _ (allUndos_put (h3.take m).1) (fun q => (k1.all q).2.2.1) ⟨by rw [redoB_len, redoB_len, hDl], fun q => ?_, hval⟩ k2
      by_cases hq : q.toNat = n
      · rw [pgAt_same (p := q) (q := (n : Int)) (by simpa using hq), pgAt_same (ps := redoB (pgSet e.disk n p0) e.log m) (p := q) (q := (n : Int)) (by simpa using hq), hRn, hown]
        have := redoB_stop (ps := e.disk) hno (e.log.length - m) m (by omega)
        rw [show m + (e.log.length - m) = e.log.length by omega] at this
        rw [← this]; rfl
      · rw [hRo q m hq]
  · obtain ⟨a, b, c⟩ := h7 p hpl
    have hmo := hfull.page hd hpl
    have e1 : (writeE e n).log = e.log := rfl
    have e2 : (writeE e n).mem = e.mem := rfl
    have e3 : (writeE e n).down = false := hd
    refine ⟨by rw [e1]; exact a, ?_, ?_⟩
    · rw [hD, hS]
      by_cases hq : p = n
      · subst hq; rw [hDn]; omega
      · rw [hDo p (by simpa using hq)]; omega
    · rw [e3]
      simp only [Bool.false_eq_true, if_false]
      unfold MemOk at hmo ⊢
      rw [e1, e2, hD]
      by_cases hq : p = n
      · subst hq
        have hr : pgAt (redo (pgSet e.disk p p0) e.log) (p : Int) = p0 := hRn _
        rw [hr, hDn, ← hp0]
        rw [← hp0] at hmo
        split
        · rename_i hl
          rw [if_pos hl] at hmo
          exact ⟨rfl, hmo.2.1, .inr rfl⟩
        · rfl
      · have hr : pgAt (redo (pgSet e.disk n p0) e.log) (p : Int) = pgAt (redo e.disk e.log) p := hRo p _ (by simpa using hq)
        rw [hr, hDo p (by simpa using hq)]
        exact hmo

/-- A rise with steps enough ends. -/
theorem Rising.done : ∀ (n : Nat) {e : Eng}, Rising e → Go.Proofs.YtnaafbdgkmlnaaaGreat.need e.log ≤ n → first (Go.Proofs.YtnaafbdgkmlnaaaGreat.upF n e).log = 0
  | 0, e, h, hn => by
    show first e.log = 0
    exact need_zero.1 (by omega)
  | n + 1, e, h, hn => by
    simp only [Go.Proofs.YtnaafbdgkmlnaaaGreat.upF]
    split
    · assumption
    · rename_i ho
      have := h.need ho
      exact Rising.done n (h.next ho) (by omega)
theorem up_all {e : Eng} (h : EngOk e) : upOk e 150 := by
  have hf := h.2.2.2.2.1
  simp only [Fits] at hf
  exact h.rising.done 150 (by show need e.log ≤ 150; omega)
theorem up_lsn {e : Eng} (h : EngOk e) {steps : Int} (ho : upOk e steps) (p : Int) : (pgAt e.disk p).lsn ≤ (pgAt (upI e steps).mem p).lsn := by
  have hr : Rising (upB e steps) := h.rising.upF
  have e1 : (upI e steps).mem = (upB e steps).mem := by unfold upI; rw [if_pos (show first (upB e steps).log = 0 from ho)]
  have e2 : (upB e steps).disk = e.disk := (upF_keep steps.toNat (redoneE e)).1
  rw [e1, hr.mem, e2]
  exact redoB_lsn h.1.1 hr.good.rec p _

end Go.Proofs.YtnaafbdgkmlnaaaGreat

/- Functions: a page is written; that is drawn. -/
namespace Go.Proofs.YtnaafbdgkmlnaaaGreat
set_option linter.unusedVariables false
set_option linter.unusedSimpArgs false
set_option linter.unnecessarySimpa false
set_option maxRecDepth 20000
set_option maxHeartbeats 4000000

/-- An engine in a box, its pages named. -/
def hpB (O D M : Nat) (a : AV) (e : Eng) : Hp := ((Hp.nil.set O ⟨30, 5, [[.ref D 3 0 5, .ref M 3 0 5, a, I64 e.safe, .bool e.down]]⟩).set D (pgs e.disk)).set M (pgs e.mem)
theorem hpB_sub {O D M : Nat} {a : AV} {e : Eng} {H : Hp} (h1 : H O = some ⟨30, 5, [[.ref D 3 0 5, .ref M 3 0 5, a, I64 e.safe, .bool e.down]]⟩) (h2 : H D = some (pgs e.disk)) (h3 : H M = some (pgs e.mem)) : ∀ i k, hpB O D M a e i = some k → H i = some k := by
  intro i k hk
  simp only [hpB, Hp.set_app, Hp.nil_app] at hk
  split at hk
  · rename_i q; subst q; rw [h3]; exact hk
  split at hk
  · rename_i q; subst q; rw [h2]; exact hk
  split at hk
  · rename_i q; subst q; rw [h1]; exact hk
  · cases hk

theorem a113 (O D M : Nat) (a : AV) (e : Eng) (page : Int) (hOD : O ≠ D) (hOM : O ≠ M) (hDM : D ≠ M) (hd : ShP e.disk) (hm : ShP e.mem) (hp : In page 0 4) (B : Nat) :
    ACalls PP 113 [.pe O 5 0, I64 page] (hpB O D M a e) B (fun v H' B' => H' = hpB O D M a (writeE e page)) := by
  have h : ACalls PP 113 [.pe O 5 0, I64 page] (hpB O D M a e) B (fun v H' B' => H' O = some ⟨30, 5, [[.ref D 3 0 5, .ref M 3 0 5, a, I64 (writeE e page).safe, .bool e.down]]⟩ ∧ H' D = some (pgs (writeE e page).disk) ∧ H' M = some (pgs e.mem)) := by
    have hO0 : hpB O D M a e O = some ⟨30, 5, [[.ref D 3 0 5, .ref M 3 0 5, a, I64 e.safe, .bool e.down]]⟩ := by simp [hpB, hOD, hOM]
    have hD0 : hpB O D M a e D = some (pgs e.disk) := by simp [hpB, hDM]
    have hM0 : hpB O D M a e M = some (pgs e.mem) := by simp [hpB]
    generalize hpB O D M a e = H0 at hO0 hD0 hM0 ⊢
    simp only [pgs] at hD0 hM0
    obtain ⟨e1, e2⟩ := hm.at hp.1 hp.2
    have hpl : page < 5 := by have := hp.2; omega
    have hp0 : 0 ≤ page := hp.1
    have c61p := c61 (pgAt e.mem page) (by omega)
    simp only [encP, pgRow] at c61p
    have n1 : ¬ D = O := Ne.symm hOD
    have n2 : ¬ M = O := Ne.symm hOM
    have n3 : ¬ M = D := Ne.symm hDM
    have hdl : e.disk.length = 5 := hd.1
    refine acallsF M3 Tryz.func113 (by kernel_rfl) fun hlt => ?_
    simp [Tryz.f113, hO0, hM0, hD0, hp0, hpl, e1, encP, pgRow, n1, n2, n3, hdl]
    refine ⟨chkW_tk [O, M] [⟨[], [], false⟩, ⟨[], [], false⟩, ⟨[], [], false⟩, ⟨[], [], false⟩, ⟨[0], [], false⟩, ⟨[], [], false⟩, ⟨[], [], false⟩, ⟨[], [], false⟩, ⟨[0], [], false⟩, ⟨[], [], false⟩, ⟨[], [], false⟩, ⟨[], [], false⟩, ⟨[1], [], false⟩, ⟨[], [], false⟩, ⟨[], [], false⟩, ⟨[], [], false⟩, ⟨[0], [0], false⟩] (by simp [hOM]) rfl (by kernel_rfl), ?_⟩
    refine calld_told c61p (Nat.zero_le _) (by simp) ?_
    simp [hO0, hM0, hD0, n1, n2, n3, hdl, hp0, hpl]
    refine ⟨chkW_tk [O, M, D] [⟨[], [], false⟩, ⟨[], [], false⟩, ⟨[], [], false⟩, ⟨[0], [], false⟩, ⟨[], [], false⟩, ⟨[], [], false⟩, ⟨[], [], false⟩, ⟨[], [], false⟩, ⟨[0], [], false⟩, ⟨[], [], false⟩, ⟨[], [], false⟩, ⟨[1], [], false⟩, ⟨[], [], false⟩, ⟨[], [], false⟩, ⟨[2], [2], false⟩] (by simp [hOM, hOD, n3]) rfl (by kernel_rfl), ?_, ?_, ?_⟩
    · simp [hOD, writeE, max_if]
    · simp [pgs, writeE, pgSet, List.map_set, encP, pgRow]
    · simp [pgs]
  refine h.only fun v H' B' hlt ⟨h1, h2, h3⟩ => ⟨_, hpB_sub h1 h2 h3, rfl⟩

def wroteOk (e : Eng) (page : Int) : Prop := EngOk e ∧ e.down = false ∧ In page 0 4
noncomputable instance (e : Eng) (page : Int) : Decidable (wroteOk e page) := Classical.propDecidable _
noncomputable def wroteE (e : Eng) (page : Int) : Eng := if wroteOk e page then writeE e page else eng0

theorem fz_named {H : Hp} {D M Lg : Nat} {e : Eng} (h1 : H D = some (pgs e.disk)) (h2 : H M = some (pgs e.mem)) (h3 : ¬ e.log = [] → H Lg = some (rcs e.log)) (hd : ShP e.disk) (hm : ShP e.mem) : FzL allS H (encW D M Lg e) (encE e) :=
  .cons (Fz.slice h1 rfl rfl (by simp [hd.1])) (.cons (Fz.slice h2 rfl rfl (by simp [hm.1])) (.cons (fz_outV (e := 71) trivial fun q => h3 (by simpa using q)) (.cons (.same _) (.cons (.same _) .nil))))

theorem c54 (e : Eng) (page : Int) (h : ShortE e) : Told 54 [.agg (encE e), I64 page] [] [] 0 (.tup [.agg (encE (wroteE e page)), .bool (decide (wroteOk e page))]) := by
  refine told_fz (lt_engT 0 _ _) fun B => ?_
  have h30 := c30 e h
  obtain ⟨hd, hm, hl⟩ := h
  simp only [encE] at h30
  have no : ¬ wroteOk e page → ∀ H, Fz allS H (.tup [.agg [.nils, .nils, .nils, I64 0, .bool false], .bool false]) (.tup [.agg (encE (wroteE e page)), .bool (decide (wroteOk e page))]) := fun q H =>
    fz_tupE _ (by rw [wroteE, if_neg q]; exact fz_eng0 _) (by simp [q])
  refine acallsF (M3u [4, 6]) Tryz.func54 (by kernel_rfl) fun hlt => ?_
  simp [Tryz.f54, encE]
  refine callw_told h30 (Nat.zero_le _) (by simp) ?_
  simp
  refine gO (fun c1 => ?_) (fun c1 => ?_) <;> simp at c1 <;> simp [c1]
  · cases hdn : e.down with
    | true =>
      simp
      exact no (fun q => by have := q.2.1; rw [hdn] at this; cases this) _
    | false =>
      simp
      refine gC (fun c2 => ?_) (fun c2 => ?_) <;> simp [-Int.not_le, -Int.not_lt] at c2 <;> simp
      · exact no (fun q => c2 q.2.2) _
      · have hp : In page 0 4 := c2
        have hok : wroteOk e page := ⟨c1, hdn, hp⟩
        have hsd : ShP e.disk := c1.1.sh
        have hsm : ShP e.mem := c1.2.1.sh
        have h70 := a70 e hsd hsm hl (B + 1)
        simp only [encE, hdn] at h70
        refine callw_rel h70 (by simp) ?_
        rintro v H' B1 H2 ⟨D, M, Lg, k1, k2, k3, k4, k5, kL, k6, k7, k8, rfl, rfl⟩ hB1 s1 s2
        obtain ⟨w1, w2, w3⟩ := @hpW_all Hp.nil D M Lg e k6 k7 k8
        have g1 := s1 _ _ w1
        have g2 := s1 _ _ w2
        have g3 : ¬ e.log = [] → H2 Lg = some (rcs e.log) := fun q => s1 _ _ (w3 (by simpa using q))
        have g4 : H2 B = some zE := s2 _ _ (by simp [zE]) rfl (by rw [hpW_ne (by omega) (by omega) (by omega)]; rfl)
        clear s1 s2
        have n1 : ¬ D = B1 := by omega
        have n2 : ¬ M = B1 := by omega
        have n3 : ¬ B = B1 := by omega
        have n4 : ¬ B1 = D := by omega
        have n5 : ¬ B1 = M := by omega
        have n6 : ¬ B = D := by omega
        have n7 : ¬ B = M := by omega
        simp [encW]
        have h113 := a113 B1 D M (outV Lg 8 (e.log.map encR)) e page n4 n5 k6 hsd hsm hp (B1 + 1)
        refine callw_rel h113 (hpB_sub (by simp [hdn]) (by simp [n1, g1]) (by simp [n2, g2])) ?_
        rintro v H' B2 H3 rfl hB2 s1 s2
        have f1 := s1 B1 _ (by simp [hpB, n4, n5]; rfl)
        have f2 := s1 D _ (by simp [hpB, k6]; rfl)
        have f3 := s1 M _ (by simp [hpB]; rfl)
        have f4 : H3 B = some zE := s2 _ _ (by simp [n3, g4]) (by simp [hpB, n3, n6, n7]) (by simp [hpB, n3, n6, n7])
        have f5 : ¬ e.log = [] → H3 Lg = some (rcs e.log) := fun q => by
          have := kL q
          have m1 : ¬ Lg = B1 := by omega
          exact s2 _ _ (by simp [m1, g3 q]) (by simp [hpB, m1, Ne.symm k7, Ne.symm k8]) (by simp [hpB, m1, Ne.symm k7, Ne.symm k8])
        clear s1 s2
        simp [f1, f4, zE]
        refine fz_tupE _ ?_ (by simp [hok])
        have hw : wroteE e page = writeE e page := if_pos hok
        rw [hw]
        have hpg := (hsm.at hp.1 hp.2).2
        have n8 : ¬ Lg = B := by omega
        exact fz_named (D := D) (M := M) (Lg := Lg) (e := writeE e page) (by simp [Ne.symm n6, f2]) (by simp [Ne.symm n7, f3]) (fun q => by simp [n8]; exact f5 q) (hsd.set page hpg) hsm
  · exact no (fun q => c1 q.1) _

theorem c53 (e : Eng) (page : Int) (h : ShortE e) : Told 53 [.agg (encE e), I64 page] [] [] 0 (.tup [.agg (encE (wroteE e page)), .bool (decide (wroteOk e page))]) := by
  refine told_fz (lt_engT 0 _ _) fun B => ?_
  have h50 := c50 e h
  obtain ⟨hd, hm, hl⟩ := h
  simp only [encE] at h50
  have no : ¬ wroteOk e page → ∀ H, Fz allS H (.tup [.agg [.nils, .nils, .nils, I64 0, .bool false], .bool false]) (.tup [.agg (encE (wroteE e page)), .bool (decide (wroteOk e page))]) := fun q H =>
    fz_tupE _ (by rw [wroteE, if_neg q]; exact fz_eng0 _) (by simp [q])
  refine acallsF (M3u [4]) Tryz.func53 (by kernel_rfl) fun hlt => ?_
  simp [Tryz.f53, encE]
  refine callw_told h50 (Nat.zero_le _) (by simp) ?_
  simp
  refine gO (fun c1 => ?_) (fun c1 => ?_) <;> simp at c1 <;> simp [c1]
  · cases hdn : e.down with
    | true =>
      simp
      exact no (fun q => by have := q.2.1; rw [hdn] at this; cases this) _
    | false =>
      simp
      refine gC (fun c2 => ?_) (fun c2 => ?_) <;> simp [-Int.not_le, -Int.not_lt] at c2 <;> simp
      · exact no (fun q => c2 q.2.2) _
      · have hp : In page 0 4 := c2
        have hok : wroteOk e page := ⟨c1, hdn, hp⟩
        have hsd : ShP e.disk := c1.1.sh
        have hsm : ShP e.mem := c1.2.1.sh
        have h78 := a78F e hsd hsm hl (B + 1)
        simp only [encE, hdn] at h78
        refine callw_rel h78 (by simp) ?_
        rintro v H' B1 H2 ⟨D, M, k1, k2, k3, k4, k5, rfl, rfl⟩ hB1 s1 s2
        have g1 : H2 D = some (pgs e.disk) := s1 _ _ (ebl_D k5)
        have g3 : H2 M = some (pgs e.mem) := s1 _ _ (ebl_M k5)
        have u1 : ¬ B = D := by omega
        have u2 : ¬ B = M := by omega
        have u3 : ¬ D = M := k5
        have g2 : H2 B = some zE := s2 _ _ (by simp [zE]) rfl (by simp [ebl, Hp.of, u1, u2])
        clear s1 s2
        have h111 := c111 D M k5 B1 k3 k4 e page hsd hsm hp
        simp
        refine callw_eng h111 (Nat.le_refl _) g1 g3 ?_
        simp [encN, encG, u1, u2, g2, zE]
        refine fz_tupE _ ?_ (by simp [hok])
        have hw : wroteE e page = writeE e page := if_pos hok
        rw [hw]
        have hpg := (hsm.at hp.1 hp.2).2
        have hsw : ShP (writeE e page).disk := hsd.set page hpg
        exact .cons (Fz.slice (k := pgs (writeE e page).disk) (by simp [Ne.symm u1, u3, pgs]) rfl rfl (by simp [hsw.1])) (.cons (Fz.slice (k := pgs (writeE e page).mem) (by simp [Ne.symm u2, pgs]) rfl rfl (by show 5 = _; simp [writeE, hsm.1])) (.cons (.same _) (.cons (.same _) (.cons (.same _) .nil))))
  · exact no (fun q => c1 q.1) _

theorem a52 (code : List Int) (hl : code.length ≤ 1000000000) (hc : ∀ b ∈ code, 0 ≤ b ∧ b < 256) (B : Nat) : ACalls PP 52 [bytesAV code] Hp.nil B (fun v H' B' => ∃ (e : Eng) (page : Int), Drawn e ∧ v = .tup [.agg (encE e), I64 page] ∧ H' = Hp.nil) := by
  have hb : BsOk (code.take 2000) := ⟨by simp; omega, fun b hb => hc b (List.mem_of_mem_take hb)⟩
  have h : ACalls PP 52 [bytesAV code] Hp.nil B (fun v H' B' => ∃ (e : Eng) (page : Int), Drawn e ∧ v = .tup [.agg (encE e), I64 page]) := by
    refine acallsF M3 Tryz.func52 (by kernel_rfl) fun hlt => ?_
    simp [Tryz.f52]
    refine callw_rel (a74 code hl (B + 1)) (by simp) ?_
    rintro v H' B1 H2 ⟨id, k1, k2, rfl, rfl⟩ hB1 s1 s2
    have g1 : H2 id = some (rdB (code.take 2000) 0) := s1 _ _ rdH_id
    have g2 : H2 B = some ⟨30, 5, [[.nils, .nils, .nils, I64 0, .bool false]]⟩ := s2 _ _ (by simp) rfl (rdH_none (by omega))
    clear s1 s2
    simp
    refine callw_rel (a75 id _ 0 hb (by omega) B1 k2) (rdH_sub g1) ?_
    rintro v H' B2 H3 ⟨p3, e, k4, k5, k6, rfl, rfl⟩ hB2 s1 s2
    have f1 : H3 id = some (rdB (code.take 2000) p3) := s1 _ _ rdH_id
    have f2 : H3 B = some ⟨30, 5, [[.nils, .nils, .nils, I64 0, .bool false]]⟩ := s2 _ _ g2 (rdH_none (by omega)) (rdH_none (by omega))
    clear s1 s2
    have n1 : ¬ id = B := by omega
    have n2 : ¬ B = id := by omega
    simp [encE]
    refine callw_pick (p := p3) hb (by omega) (by decide) f1 fun x x0 x1 => ?_
    simp
    refine callw_pick (p := p3 + 1) hb (by omega) (by decide) (by simp) fun y y0 y1 => ?_
    simp [n1, n2, f2]
    exact ⟨e, k6, rfl, rfl, rfl, rfl, rfl⟩
  exact h.only fun v H' B' hlt ⟨e, left, h1, h2⟩ => ⟨Hp.nil, by simp, e, left, h1, h2, rfl⟩

end Go.Proofs.YtnaafbdgkmlnaaaGreat

/- The statement on what was written, over its draws. -/
namespace Go.Proofs.YtnaafbdgkmlnaaaGreat
set_option linter.unusedVariables false
set_option linter.unusedSimpArgs false
set_option linter.unnecessarySimpa false
set_option maxRecDepth 20000
set_option maxHeartbeats 4000000

theorem wrote_short {e : Eng} (h : ShortE e) (page : Int) : ShortE (wroteE e page) := by
  unfold wroteE; split
  · rename_i c
    have hsm : ShP e.mem := c.1.2.1.sh
    exact ⟨(c.1.1.sh.set page ((hsm.at c.2.2.1 c.2.2.2).2)).short, h.2.1, h.2.2⟩
  · exact short0

theorem c13 (code more : List Int) (hc : ∀ b ∈ code, 0 ≤ b ∧ b < 256) : Told 13 [bytesAV code, bytesAV more] [] [] 0 (.bool true) := by
  refine told_of (Keep.nil _) trivial fun B _ => ?_
  refine acallsF M0 Tryz.func13 (by kernel_rfl) fun hlt => ?_
  simp [Tryz.f13, bytesAV]
  refine gO (fun c1 => ?_) (fun c1 => ?_) <;> simp [-Int.not_le, -Int.not_lt, -Nat.not_lt, -Nat.not_le] at c1 <;> simp [c1]
  refine gC (fun c0 => ?_) (fun c0 => ?_) <;> simp at c0 <;> simp
  have h52 := a52 code (by omega) hc (B)
  simp only [bytesAV] at h52
  refine callw_rel h52 (by simp) ?_
  rintro v H' B1 H1 ⟨e, page, hdr, rfl, rfl⟩ hB1 s1 s2
  clear s1 s2 h52
  have hs := hdr.1
  have h53 := c53 e page hs
  have h54 := c54 e page hs
  have hx := wrote_short hs page
  obtain ⟨x, hxe⟩ : ∃ x, x = wroteE e page := ⟨_, rfl⟩
  rw [← hxe] at h53 h54 hx
  have h28 := c28 x x hx
  simp only [encE] at h53 h54 h28
  simp [encE]
  refine callw_told h53 (Nat.zero_le _) (by simp) ?_
  simp
  refine callw_told h54 (Nat.zero_le _) (by simp) ?_
  simp
  refine callw_told h28 (Nat.zero_le _) (by simp) ?_
  simp
  by_cases c2 : wroteOk e page
  · have hxw : x = writeE e page := by rw [hxe, wroteE, if_pos c2]
    obtain ⟨ok, hdn, hp⟩ := c2
    have c2 : wroteOk e page := ⟨ok, hdn, hp⟩
    have hxok : EngOk x := by rw [hxw]; exact write_ok ok hdn hp
    have hxlog : x.log = e.log := by rw [hxw]; rfl
    obtain ⟨left, hleft⟩ : ∃ left, left = (more.length : Int).tmod 40 := ⟨_, rfl⟩
    have l0 : 0 ≤ left := by rw [hleft]; exact Int.tmod_nonneg _ (by omega)
    have l1 : left < 40 := by rw [hleft]; exact Int.tmod_lt_of_pos _ (by omega)
    have wl := w64 left (by omega) (by omega)
    have hyok := fall_ok hxok (by rw [hxlog]; exact hdr.2) l0
    have k27 := c27 x left hx
    have hfo : fallOk x left := ⟨hxok, l0⟩
    have hfe : fallE x left = fallI x left := by rw [fallE, if_pos hfo]
    rw [hfe] at k27
    have hys : ShortE (fallI x left) := hx.fall left
    have hym : (fallI x left).mem = x.disk := rfl
    have hyd : (fallI x left).disk = x.disk := rfl
    have hydn : (fallI x left).down = true := rfl
    obtain ⟨y, hye⟩ : ∃ y, y = fallI x left := ⟨_, rfl⟩
    rw [← hye] at k27 hyok hys hym hyd hydn
    have k34 := c34 y 150 hys (by omega)
    have hup := up_all hyok
    have hro : riseOk y 150 := ⟨hyok, by omega, hydn, hup⟩
    have hze : riseE y 150 = upI y 150 := by rw [riseE, if_pos ⟨hyok, by omega⟩, if_pos hydn]
    have hlsn := up_lsn hyok hup page
    have hzr : Rising (upB y 150) := hyok.rising.upF
    have hzm : ShP (upI y 150).mem := by
      have : (upI y 150).mem = (upB y 150).mem := by unfold upI; rw [if_pos (show first (upB y 150).log = 0 from hup)]
      rw [this]; exact hzr.memOk.1.sh
    rw [hze] at k34
    obtain ⟨z, hzz⟩ : ∃ z, z = upI y 150 := ⟨_, rfl⟩
    rw [← hzz] at k34 hlsn hzm
    have hme : ShP e.mem := ok.2.1.sh
    have hxd : x.disk = pgSet e.disk page (pgAt e.mem page) := by rw [hxw]; rfl
    have hdl := ok.1.1
    have hpp := hp
    simp only [In] at hpp
    have hyp : pgAt y.mem page = pgAt e.mem page := by rw [hym, hxd, pgAt_set (by omega), if_pos rfl]
    have hydp : pgAt y.disk page = pgAt e.mem page := by rw [hyd, hxd, pgAt_set (by omega), if_pos rfl]
    rw [hydp] at hlsn
    have hymp : ShP y.mem := by rw [hym]; exact hxok.1.sh
    obtain ⟨e1, e2⟩ := hymp.at hp.1 hp.2
    obtain ⟨e3, e4⟩ := hme.at hp.1 hp.2
    obtain ⟨e5, e6⟩ := hzm.at hp.1 hp.2
    rw [hyp] at e1
    have h55 := c55 (pgAt e.mem page) (pgAt e.mem page) (by omega)
    have p0 : 0 ≤ page := hp.1
    have p1 : page < 5 := by omega
    have q1 := hymp.1
    have q2 := hme.1
    have q3 := hzm.1
    have e1' : ∀ hh, y.mem[page.toNat]'hh = pgAt e.mem page := fun hh => (List.getElem?_eq_some_iff.1 e1).2
    have e3' : ∀ hh, e.mem[page.toNat]'hh = pgAt e.mem page := fun hh => (List.getElem?_eq_some_iff.1 e3).2
    have e5' : ∀ hh, z.mem[page.toNat]'hh = pgAt z.mem page := fun hh => (List.getElem?_eq_some_iff.1 e5).2
    simp only [encE] at k27 k34
    simp only [encP, pgRow] at h55
    simp [hfo] at k27
    simp [hro] at k34
    simp [c2]
    have n1 : ¬ B1 = B1 + 1 + 2 := by omega
    have n2 : ¬ B1 + 1 = B1 + 1 + 2 := by omega
    have n3 : ¬ B1 + 2 = B1 + 1 + 2 := by omega
    simp [n1, n2, n3, ← hleft, wl]
    refine callw_told k27 (Nat.zero_le _) (by simp) ?_
    simp [n1, n2, n3]
    refine callw_told k34 (Nat.zero_le _) (by simp) ?_
    have n4 : ¬ B1 = B1 + 2 + 2 := by omega
    have n5 : ¬ B1 + 1 = B1 + 2 + 2 := by omega
    have n6 : ¬ B1 + 2 = B1 + 2 + 2 := by omega
    have n7 : ¬ B1 + 1 + 2 = B1 + 2 + 2 := by omega
    simp [n1, n2, n3, n4, n5, n6, n7, p0, p1, q1, q2, q3, e1', e3', e5', encP, pgRow]
    refine calld_told h55 (Nat.zero_le _) (by simp) ?_
    simp [n1, n2, n3, n4, n5, n6, n7, p0, p1, q1, q2, q3, e1', e3', e5', encP, pgRow]
    exact hlsn
  · simp [c2]
    refine callw_told h28 (Nat.zero_le _) (by simp) ?_
    simp

end Go.Proofs.YtnaafbdgkmlnaaaGreat
