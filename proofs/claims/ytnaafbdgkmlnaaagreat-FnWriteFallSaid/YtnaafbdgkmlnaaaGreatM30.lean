/- Laws about the machine's run of the program's functions, part 30, in import order. No condition. -/
import Derived.Test.YtnaafbdgkmlnaaaGreatM29

set_option linter.unusedVariables false
set_option linter.unusedSimpArgs false
set_option linter.unnecessarySimpa false
/- A rise: what it leaves is valid, and how long its log is. -/
namespace Go.Proofs.YtnaafbdgkmlnaaaGreat
set_option linter.unusedVariables false

theorem EngOk.rising {e : Eng} (h : EngOk e) : Rising (redoneE e) := by
  obtain ⟨h1, h2, h3, h4, h5, h6, h7⟩ := h
  refine ⟨h3.1, h5, h1, h4.1, h4.2, fun p (hp : p ∈ e.disk) => ?_, h6, rfl⟩
  obtain ⟨i, hi⟩ := List.mem_iff_getElem?.1 hp
  have hlt := (List.getElem?_eq_some_iff.1 hi).1
  have h5' := h1.1
  obtain ⟨_, b, _⟩ := h7 i (by omega)
  have e1 : pgAt e.disk (i : Int) = p := by simp [pgAt, hi]
  rw [e1] at b
  exact b

theorem Rising.eq {e : Eng} (h : Rising e) (ho : ¬ first e.log = 0) : stepE e (first e.log) = addI e (stepR e.log (first e.log)) := by
  obtain ⟨ht, hl⟩ := first_open ho
  refine if_pos ?_
  have := step_fits h.good h.len ht hl
  have hf := h.fits
  simp only [Fits, addOk] at *
  omega
theorem Rising.next {e : Eng} (h : Rising e) (ho : ¬ first e.log = 0) : Rising (stepE e (first e.log)) := by rw [h.eq ho]; exact (h.step ho).1
theorem Rising.upF : ∀ {n : Nat} {e : Eng}, Rising e → Rising (upF n e)
  | 0, e, h => h
  | n + 1, e, h => by
    simp only [Go.Proofs.YtnaafbdgkmlnaaaGreat.upF]
    split
    · exact h
    · rename_i ho; exact Rising.upF (h.next ho)

theorem first_zero {L : List R} : first L = 0 ↔ ∀ tx, In tx 1 3 → last L tx = 0 := by
  constructor
  · intro h tx ht
    have : tx = 1 ∨ tx = 2 ∨ tx = 3 := by simp only [In] at ht; omega
    simp only [first] at h
    rcases this with q | q | q <;> rw [q] <;> split at h <;> first | omega | (split at h <;> first | omega | (split at h <;> omega))
  · intro h
    have h1 := h 1 (by decide)
    have h2 := h 2 (by decide)
    have h3 := h 3 (by decide)
    simp [first, h1, h2, h3]
theorem need_zero {L : List R} : need L = 0 ↔ first L = 0 := by
  rw [first_zero]
  constructor
  · intro h tx ht
    have : tx = 1 ∨ tx = 2 ∨ tx = 3 := by simp only [In] at ht; omega
    simp only [need, needTx] at h
    rcases this with q | q | q <;> rw [q] <;> (by_cases hh : last L tx = 0 <;> (rw [q] at hh; first | exact hh | (simp [hh] at h)))
  · intro h
    have h1 := h 1 (by decide)
    have h2 := h 2 (by decide)
    have h3 := h 3 (by decide)
    simp [need, needTx, h1, h2, h3]

theorem Rising.need {e : Eng} (h : Rising e) (ho : ¬ first e.log = 0) : Go.Proofs.YtnaafbdgkmlnaaaGreat.need (stepE e (first e.log)).log + 1 = Go.Proofs.YtnaafbdgkmlnaaaGreat.need e.log := by
  obtain ⟨ht, hl⟩ := first_open ho
  rw [h.eq ho]
  have := step_fits h.good h.len ht hl
  have h2 := addL_len e.log (stepR e.log (first e.log))
  show Go.Proofs.YtnaafbdgkmlnaaaGreat.need (addL e.log _) + 1 = _
  omega

/-- The log of one that rose. -/
structure Grew (L L' : List R) (n : Nat) : Prop where
  len : L'.length = L.length + n
  take : L'.take L.length = L
  kind : ∀ (i : Nat) (r : R), L.length ≤ i → L'[i]? = some r → r.kind = 5 ∨ r.kind = 6
theorem Grew.refl (L : List R) : Grew L L 0 := ⟨rfl, List.take_length, fun i r hi hr => by
  have := (List.getElem?_eq_some_iff.1 hr).1; omega⟩
theorem stepR_kind {L : List R} (hg : LogGood L) (tx : Int) : (stepR L tx).kind = 5 ∨ (stepR L tx).kind = 6 := by
  rcases stepR_cases hg tx with ⟨_, e⟩ | ⟨m, q, _, _, _, _, e⟩ <;> rw [e]
  · left; rfl
  · right; rfl
theorem Rising.grew : ∀ (n : Nat) {e : Eng}, Rising e → Grew e.log (Go.Proofs.YtnaafbdgkmlnaaaGreat.upF n e).log (min n (Go.Proofs.YtnaafbdgkmlnaaaGreat.need e.log))
  | 0, e, h => by rw [Nat.zero_min]; exact Grew.refl e.log
  | n + 1, e, h => by
    simp only [Go.Proofs.YtnaafbdgkmlnaaaGreat.upF]
    split
    · rename_i ho
      rw [need_zero.2 ho]; simpa using Grew.refl e.log
    · rename_i ho
      have g := Rising.grew n (h.next ho)
      have hn := h.need ho
      have hk := stepR_kind h.good (first e.log)
      rw [h.eq ho] at g hn ⊢
      obtain ⟨r, hr⟩ : ∃ r, r = addR e.log (stepR e.log (first e.log)) := ⟨_, rfl⟩
      have hL : (addI e (stepR e.log (first e.log))).log = e.log ++ [r] := by rw [hr]; rfl
      rw [hL] at g hn
      obtain ⟨g1, g2, g3⟩ := g
      simp only [List.length_append, List.length_singleton] at g1 g2 g3
      generalize Go.Proofs.YtnaafbdgkmlnaaaGreat.upF n (addI e (stepR e.log (first e.log))) = x at g1 g2 g3 ⊢
      refine ⟨by omega, ?_, fun i q hi hq => ?_⟩
      · have : x.log.take e.log.length = (x.log.take (e.log.length + 1)).take e.log.length := by rw [List.take_take, Nat.min_eq_left (by omega)]
        rw [this, g2]; simp
      · by_cases hl : e.log.length + 1 ≤ i
        · exact g3 i q hl hq
        · obtain rfl : i = e.log.length := by omega
          have : (x.log.take (e.log.length + 1))[e.log.length]? = some q := by rw [List.getElem?_take, if_pos (by omega)]; exact hq
          rw [g2] at this
          simp at this
          rw [← this, hr]
          exact hk

/-- One that rose is valid. -/
theorem upF_keep : ∀ (n : Nat) (e : Eng), (Go.Proofs.YtnaafbdgkmlnaaaGreat.upF n e).disk = e.disk ∧ (Go.Proofs.YtnaafbdgkmlnaaaGreat.upF n e).safe = e.safe ∧ (Go.Proofs.YtnaafbdgkmlnaaaGreat.upF n e).down = e.down
  | 0, e => ⟨rfl, rfl, rfl⟩
  | n + 1, e => by
    simp only [Go.Proofs.YtnaafbdgkmlnaaaGreat.upF]
    split
    · exact ⟨rfl, rfl, rfl⟩
    · obtain ⟨a, b, c⟩ := upF_keep n (stepE e (first e.log))
      have hs : (stepE e (first e.log)).disk = e.disk ∧ (stepE e (first e.log)).safe = e.safe ∧ (stepE e (first e.log)).down = e.down := by
        unfold stepE addE; split <;> exact ⟨rfl, rfl, rfl⟩
      exact ⟨a.trans hs.1, b.trans hs.2.1, c.trans hs.2.2⟩

theorem none_has {L : List R} (h : first L = 0) {tx : Int} (ht : In tx 1 3) (p : Int) : ¬ Has L tx p := by
  have := first_zero.1 h tx ht
  unfold Has chain
  rw [this]
  simp
theorem none_loaded {L : List R} (h : first L = 0) (p : Int) : ¬ Loaded L p := by
  have key : ∀ tx, In tx 1 3 → ¬ LoadedTx L tx p := fun tx ht => by
    have := first_zero.1 h tx ht
    unfold LoadedTx chain
    rw [this]
    simp
  unfold Loaded
  rintro (q | q | q)
  · exact key 1 (by decide) q
  · exact key 2 (by decide) q
  · exact key 3 (by decide) q
theorem Rising.ok {x : Eng} (h : Rising x) (ho : first x.log = 0) : EngOk { x with down := false } := by
  have hm := h.memOk.1
  refine ⟨h.disk, hm, ⟨h.good, h.len⟩, ⟨h.s0, h.s1⟩, h.fits, h.pre, fun p hp => ⟨?_, ?_, ?_⟩⟩
  · exact (One_G _ _).2 fun s t hs ht a b => absurd a (none_has ho hs _)
  · have hl := h.disk.1
    have e1 : pgAt x.disk (p : Int) = x.disk[p]'(by omega) := by simp [pgAt, show p < x.disk.length by omega]
    show (pgAt x.disk (p : Int)).lsn ≤ x.safe
    rw [e1]; exact h.dl _ (List.getElem_mem _)
  · simp only [Bool.false_eq_true, if_false]
    unfold MemOk
    rw [if_neg (none_loaded ho _)]
    show pgAt x.mem _ = pgAt (redo x.disk x.log) _
    rw [h.mem]
theorem up_ok {e : Eng} (h : EngOk e) {steps : Int} (ho : upOk e steps) : EngOk (upI e steps) := by
  have hr : Rising (upB e steps) := h.rising.upF
  unfold upI
  rw [if_pos (show first (upB e steps).log = 0 from ho)]
  exact hr.ok ho

end Go.Proofs.YtnaafbdgkmlnaaaGreat

/- Functions: the program's RiseUp. -/
namespace Go.Proofs.YtnaafbdgkmlnaaaGreat
set_option linter.unusedVariables false
set_option linter.unusedSimpArgs false
set_option linter.unnecessarySimpa false
set_option maxRecDepth 20000
set_option maxHeartbeats 4000000

noncomputable def riseE (e : Eng) (steps : Int) : Eng := if EngOk e ∧ 0 ≤ steps then (if e.down = true then upI e steps else e) else eng0
def riseOk (e : Eng) (steps : Int) : Prop := EngOk e ∧ 0 ≤ steps ∧ e.down = true ∧ upOk e steps
noncomputable instance (e : Eng) (steps : Int) : Decidable (riseOk e steps) := Classical.propDecidable _

theorem Rising.undM {x : Eng} (h : Rising x) (ho : ¬ first x.log = 0) : undM x.mem x.log (first x.log) = (stepE x (first x.log)).mem := by
  obtain ⟨ht, hl⟩ := first_open ho
  obtain ⟨h1, h2⟩ := h.step ho
  have hlen := h.len
  have hfit := step_fits h.good hlen ht hl
  have hf := h.fits
  simp only [Fits] at hf
  have hlL := addL_len x.log (stepR x.log (first x.log))
  rw [h.eq ho]
  have e2 : (addI x (stepR x.log (first x.log))).mem = if Changes (stepR x.log (first x.log)).kind then pgSet x.mem (stepR x.log (first x.log)).page (wr (pgAt x.mem (stepR x.log (first x.log)).page) (addR x.log (stepR x.log (first x.log))) ((addL x.log (stepR x.log (first x.log))).length : Int)) else x.mem := rfl
  unfold Go.Proofs.YtnaafbdgkmlnaaaGreat.undM
  rw [e2, hlL]
  rcases stepR_cases h.good (first x.log) with ⟨hb, er⟩ | ⟨m, q, hb, hq, hk, hqt, er⟩
  · rw [if_pos hb, if_neg (by rw [er]; simp [Changes, endR])]
  · have hb' : ¬ back x.log (last x.log (first x.log)) = 0 := by omega
    have hP := h2 hb'
    have hok := stepR_ok h.good ht
    have hc : Changes (stepR x.log (first x.log)).kind := by rw [er]; right; right; rfl
    rw [if_neg hb', if_pos hc]
    unfold appM
    have hall : PageOkP (pgAt x.mem (stepR x.log (first x.log)).page) ∧ RecOkP (addR x.log (stepR x.log (first x.log))) ∧ Changes (addR x.log (stepR x.log (first x.log))).kind ∧ (pgAt x.mem (stepR x.log (first x.log)).page).lsn < (x.log.length : Int) + 1 ∧ (x.log.length : Int) + 1 ≤ 150 ∧ PageOkP (wr (pgAt x.mem (stepR x.log (first x.log)).page) (addR x.log (stepR x.log (first x.log))) ((x.log.length : Int) + 1)) :=
      ⟨h.memOk.1.atU hok.page.1 hok.page.2, addR_ok hlen hok, hc, by have := h.lsn (stepR x.log (first x.log)).page; omega, by omega, hP⟩
    have hr : recDo (pgAt x.mem (stepR x.log (first x.log)).page) (addR x.log (stepR x.log (first x.log))) ((x.log.length : Int) + 1) = (wr (pgAt x.mem (stepR x.log (first x.log)).page) (addR x.log (stepR x.log (first x.log))) ((x.log.length : Int) + 1), true) := by
      unfold recDo; rw [if_pos hall]
    rw [hr]
    simp

theorem opn_first (L : List R) : (first L = 0 → opn L = []) ∧ (¬ first L = 0 → ∃ l, opn L = first L :: l) := by
  constructor
  · intro h
    have h1 := first_zero.1 h 1 (by decide)
    have h2 := first_zero.1 h 2 (by decide)
    have h3 := first_zero.1 h 3 (by decide)
    simp [opn, h1, h2, h3]
  · intro h
    unfold first at h ⊢
    unfold opn
    by_cases h1 : last L 1 = 0
    · by_cases h2 : last L 2 = 0
      · by_cases h3 : last L 3 = 0
        · simp [h1, h2, h3] at h
        · have := Nat.pos_of_ne_zero h3
          simp [h1, h2, h3, this]
      · have := Nat.pos_of_ne_zero h2
        simp [h1, h2, this]
    · have := Nat.pos_of_ne_zero h1
      simp [h1, this]

/-- An engine of the program's own, whose log alone is named. -/
theorem a70d (e : Eng) (hd : ShP e.disk) (hm : ShP e.mem) (hl : e.log.length ≤ 1000000) (B : Nat) : ACalls PP 70 [.agg (encE e)] Hp.nil B (fun v H' B' => ∃ Lg, B ≤ Lg ∧ Lg < B' ∧ v = .agg [.sl 3 (e.disk.map encP), .sl 3 (e.mem.map encP), outV Lg 8 (e.log.map encR), I64 e.safe, .bool e.down] ∧ H' = Hp.of (lbl Lg e.log)) := by
  refine (a70 e hd hm hl B).fin ?_
  rintro v H' B' hlt ⟨D, M, Lg, h1, h2, h3, h4, h5, -, h6, h7, h8, rfl, rfl⟩
  have hDe : ¬ e.disk.map encP = [] := by intro q; have := hd.1; simp at q; simp [q] at this
  have hMe : ¬ e.mem.map encP = [] := by intro q; have := hm.1; simp at q; simp [q] at this
  obtain ⟨w1, w2, w3⟩ := @hpW_all Hp.nil D M Lg e h6 h7 h8
  have f1 := fz_outV (S := fun i => i = D ∨ i = M) (H := hpW Hp.nil D M Lg e) (id := D) (e := 38) (sz := 3) (rows := e.disk.map encP) (.inl rfl) (fun _ => w1)
  have f2 := fz_outV (S := fun i => i = D ∨ i = M) (H := hpW Hp.nil D M Lg e) (id := M) (e := 38) (sz := 3) (rows := e.mem.map encP) (.inr rfl) (fun _ => w2)
  simp only [outV, if_neg hDe, if_neg hMe, List.length_map, hd.1, hm.1] at f1 f2
  by_cases h0 : e.log = []
  · refine ⟨fun i => i = D ∨ i = M, .agg [.sl 3 (e.disk.map encP), .sl 3 (e.mem.map encP), .nils, I64 e.safe, .bool e.down], Hp.nil, ?_, by simp, D, h1, h4, by simp [outV, h0], by simp [lbl, h0, Hp.of]⟩
    refine Fz.agg' (.cons f1 (.cons f2 (.cons ?_ (.cons (.same _) (.cons (.same _) .nil)))))
    simp only [outV, h0, List.map_nil, if_true]
    exact .same _
  · have h0' : ¬ e.log.map encR = [] := by simpa using h0
    have hB : Lg < B' := hlt Lg _ (w3 h0')
    refine ⟨fun i => i = D ∨ i = M, .agg [.sl 3 (e.disk.map encP), .sl 3 (e.mem.map encP), outV Lg 8 (e.log.map encR), I64 e.safe, .bool e.down], Hp.of (lbl Lg e.log), ?_, fun i k hk => ?_, Lg, h3, hB, rfl, rfl⟩
    · exact Fz.agg' (.cons f1 (.cons f2 (.cons (.same _) (.cons (.same _) (.cons (.same _) .nil)))))
    · simp only [lbl, if_neg h0, Hp.of, Hp.set_app, Hp.nil_app] at hk
      split at hk
      · rename_i q; subst q
        refine ⟨by rintro (q | q); exact h7 q.symm; exact h8 q.symm, ?_⟩
        rw [w3 h0']; exact hk
      · cases hk

end Go.Proofs.YtnaafbdgkmlnaaaGreat

/- Functions: the program's RiseUp. -/
namespace Go.Proofs.YtnaafbdgkmlnaaaGreat
set_option linter.unusedVariables false
set_option linter.unusedSimpArgs false
set_option linter.unnecessarySimpa false
set_option maxRecDepth 20000
set_option maxHeartbeats 4000000

theorem lt_engTR (B : Nat) (e : Eng) (b : Bool) : AV.lt B (.tup [.agg (encE e), .bool b]) := lt_engT B e b

/-- The heap while the program's RiseUp steps. -/
def hpV (B O M Lg : Nat) (e x : Eng) : Hp := ((hpA O Lg (.sl 3 (e.disk.map encP)) (.ref M 3 0 5) (I64 e.safe) (.bool e.down) x.log).set M (pgs x.mem)).set B zE
theorem hpV_sub {B O M Lg : Nat} {e x : Eng} {H : Hp} (h1 : H O = some ⟨30, 5, [[.sl 3 (e.disk.map encP), .ref M 3 0 5, outV Lg 8 (x.log.map encR), I64 e.safe, .bool e.down]]⟩) (h2 : ¬ x.log = [] → H Lg = some (rcs x.log)) (h3 : H M = some (pgs x.mem)) (h4 : H B = some zE) : ∀ i k, hpV B O M Lg e x i = some k → H i = some k := by
  intro i k hk
  simp only [hpV, Hp.set_app] at hk
  split at hk
  · rename_i q; subst q; rw [h4]; exact hk
  split at hk
  · rename_i q; subst q; rw [h3]; exact hk
  · exact hpA_sub h1 h2 i k hk
theorem hpV_all {B O M Lg : Nat} {e x : Eng} (a1 : B ≠ O) (a2 : B ≠ M) (a3 : B ≠ Lg) (b1 : O ≠ M) (b2 : O ≠ Lg) (c1 : M ≠ Lg) : hpV B O M Lg e x O = some ⟨30, 5, [[.sl 3 (e.disk.map encP), .ref M 3 0 5, outV Lg 8 (x.log.map encR), I64 e.safe, .bool e.down]]⟩ ∧ (¬ x.log = [] → hpV B O M Lg e x Lg = some (rcs x.log)) ∧ hpV B O M Lg e x M = some (pgs x.mem) ∧ hpV B O M Lg e x B = some zE := by
  refine ⟨?_, fun h => ?_, ?_, ?_⟩
  · simp [hpV, Ne.symm a1, b1, hpA_O b2]
  · simp [hpV, Ne.symm a3, Ne.symm c1, hpA_Lg h]
  · simp [hpV, Ne.symm a2]
  · simp [hpV]

theorem c34 (e : Eng) (steps : Int) (h : ShortE e) (hst : steps ≤ 1000) : Told 34 [.agg (encE e), I64 steps] [] [] 0 (.tup [.agg (encE (riseE e steps)), .bool (decide (riseOk e steps))]) := by
  refine told_fz (lt_engT 0 _ _) fun B => ?_
  have h30 := c30 e h
  obtain ⟨hd, hm, hl⟩ := h
  simp only [encE] at h30
  refine acallsF (M3u [4, 6]) Tryz.func34 (by kernel_rfl) fun hlt => ?_
  simp [Tryz.f34, encE]
  refine callw_told h30 (Nat.zero_le _) (by simp) ?_
  simp
  refine gO (fun c1 => ?_) (fun c1 => ?_) <;> simp at c1 <;> simp [c1]
  · refine gC (fun c2 => ?_) (fun c2 => ?_) <;> simp at c2 <;> simp [c2]
    · exact fz_tupE _ (by rw [riseE, if_neg (by simp [c1]; omega)]; exact fz_eng0 _) (by simp [riseOk, c1]; omega)
    · have hR := c1.rising
      have hsd : ShP e.disk := c1.1.sh
      have hsm : ShP e.mem := c1.2.1.sh
      have hlen := hR.len
      have h70 := a70d e hsd hsm hl (B + 1)
      simp only [encE] at h70
      refine callw_rel h70 (by simp) ?_
      rintro v H' B1 H2 ⟨Lg, k1, k2, rfl, rfl⟩ hB1 s1 s2
      have g1 : ¬ e.log = [] → H2 Lg = some (rcs e.log) := fun q => s1 _ _ (by simp [lbl, q, Hp.of])
      have g2 : H2 B = some zE := s2 _ _ (by simp [zE]) rfl (by unfold lbl; split <;> simp [Hp.of]; omega)
      clear s1 s2
      simp only [zE] at g2
      have n1 : ¬ B = B1 := by omega
      have n2 : ¬ Lg = B1 := by omega
      simp
      refine gC (fun c3 => ?_) (fun c3 => ?_) <;> (try simp at c3) <;> simp [n1, g2]
      · have hre : riseE e steps = e := by rw [riseE, if_pos ⟨c1, c2⟩, if_neg (by simp [c3])]
        refine fz_tupE _ ?_ (by simp [riseOk, c3])
        rw [hre]
        refine .cons (.same _) (.cons (.same _) (.cons (fz_outV (e := 71) trivial fun q => ?_) (.cons (.same _) (.cons (.same _) .nil))))
        have q' : ¬ e.log = [] := by simpa using q
        have n3 : ¬ Lg = B := by omega
        simp [n2, n3, g1 q', rcs]
      · have hg1' : ∀ p ∈ lbl Lg e.log, H2 p.1 = some p.2 := by
          unfold lbl; split
          · simp
          · rename_i q; simp [g1 q]
        have hkeep : ∀ p ∈ lbl Lg e.log, p.1 = Lg := by unfold lbl; split <;> simp
        have h84 := c84o Lg e.disk e.log hsd hR.good.rec hl (B1 + 1) (by omega)
        have h73 := c73o Lg e.log hl
        refine callw_mkh h84 (fun p hp => ?_) ?_
        · have := hkeep p hp
          simp [this, n2]
          rw [← this]; exact hg1' p hp
        have n4 : ¬ B1 = B1 + 1 := by omega
        have n5 : ¬ B = B1 + 1 := by omega
        have n6 : ¬ Lg = B1 + 1 := by omega
        simp [n1, n2, n4, n5, n6]
        refine callw_told h73 (Nat.zero_le _) (fun p hp => ?_) ?_
        · have := hkeep p hp
          simp [this, n2, n6]
          rw [← this]; exact hg1' p hp
        have hlog : (redoneE e).log = e.log := rfl
        have hN : (redoneE e).mem = redo e.disk e.log := rfl
        have hdl := (e.disk.map encP)
        simp
        refine aloop_ind (ι := Nat × Eng × Nat × Nat) (fun i => steps.toNat - i.1) (fun i => B1 + 2 ≤ i.2.2.2 ∧ Rising i.2.1 ∧ i.2.1.disk = e.disk ∧ i.2.1.safe = e.safe ∧ i.2.1.down = e.down ∧ i.1 ≤ steps.toNat ∧ upF (steps.toNat - i.1) i.2.1 = upB e steps ∧ i.2.2.1 ≠ B ∧ i.2.2.1 ≠ B1 ∧ i.2.2.1 ≠ B1 + 1 ∧ i.2.2.1 < i.2.2.2)
          (fun i => [(1, I64 steps), (4, .pe B 5 0), (6, .pe B1 5 0), (7, .sl 1 (ints (opn i.2.1.log))), (8, I64 i.1)]) (fun i => hpV B B1 (B1 + 1) i.2.2.1 e i.2.1) (fun i => i.2.2.2) (0, redoneE e, Lg, B1 + 2)
          ⟨Nat.le_refl _, hR, rfl, rfl, rfl, Nat.zero_le _, rfl, by simp only; omega, by simp only; omega, by simp only; omega, by simp only; omega⟩ (by simp [redoneE]) ?_ (Nat.le_refl _) ?_
        · exact hpV_sub (by simp [redoneE, n4]) (fun q => by simp [redoneE, n2, n6]; exact g1 q) (by simp [redoneE, pgs]) (by simp [n1, n5, g2, zE])
        rintro A ⟨n, x, Lx, Bn⟩ ⟨b1, hx, xd, xs, xw, hn, hux, l1, l2, l3, l4⟩ ih
        simp only at b1 hx xd xs xw hn hux l1 l2 l3 l4
        refine wpC_sound (M3u [4, 6]) _ _ _ _ _ (by kernel_rfl) ?_
        obtain ⟨HO, HL, HM, HB⟩ := @hpV_all B B1 (B1 + 1) Lx e x n1 n5 (Ne.symm l1) n4 (Ne.symm l2) (Ne.symm l3)
        simp only
        generalize hpV B B1 (B1 + 1) Lx e x = H3 at HO HL HM HB ⊢
        have hxl := hx.len
        have w1 := w64 ((n : Int) + 1) (by omega) (by omega)
        obtain ⟨of1, of2⟩ := opn_first x.log
        have r1 : ¬ B = Bn := by omega
        have r2 : ¬ B1 = Bn := by omega
        have r3 : ¬ B1 + 1 = Bn := by omega
        have r4 : ¬ Lx = Bn := by omega
        have n7 : ¬ B1 = B := by omega
        have n8 : ¬ B1 + 1 = B := by omega
        have hm5 : x.mem.length = 5 := hx.memOk.1.1
        by_cases ho : first x.log = 0
        · rw [of1 ho]
          have hxe : x = upB e steps := by rw [← hux]; exact (upF_first ho _).symm
          have hup : upI e steps = { x with down := false } := by unfold upI; rw [← hxe, if_pos ho]
          have hre : riseE e steps = { x with down := false } := by rw [riseE, if_pos ⟨c1, c2⟩, if_pos c3, hup]
          have hok : riseOk e steps := ⟨c1, c2, c3, by unfold upOk; rw [← hxe]; exact ho⟩
          simp [ints]
          refine gO (fun c4 => ?_) (fun c4 => ?_) <;> simp [-Int.not_le, -Int.not_lt] at c4 <;> simp [c4, HO, HB, zE, n7, n1]
          all_goals
            refine fz_tupE _ ?_ (by simp [hok])
            rw [hre]
            refine .cons (by simp only [xd]; exact .same _) (.cons (Fz.slice (k := pgs x.mem) (by simp [n4, n5, n7, n8, HM]) rfl rfl (by simp [pgs, hm5])) (.cons (fz_outV (e := 71) trivial fun q => ?_) (.cons (by simp only [xs]; exact .same _) (.cons (.same _) .nil))))
            simp [l1, l2, HL (by simpa using q), rcs]
        · obtain ⟨l, hl⟩ := of2 ho
          rw [hl]
          obtain ⟨ht, hlast⟩ := first_open ho
          have h0 : ¬ x.log = [] := by intro q; rw [q] at ho; simp [first, last, lastB] at ho
          have HL' := HL h0
          have hne : ¬ x.log.map encR = [] := by simpa using h0
          simp only [outV, if_neg hne, List.length_map] at HO
          simp [ints]
          refine gO (fun c4 => ?_) (fun c4 => ?_) <;> simp [-Int.not_le, -Int.not_lt] at c4 <;> simp [c4]
          · have h92 := a92 B1 (B1 + 1) Lx (.sl 3 (e.disk.map encP)) (I64 e.safe) (.bool e.down) x.mem x.log (first x.log) (Ne.symm l2) n4 (Ne.symm l3) hx.memOk.1.sh hx.good h0 (by omega) Bn (by omega) (by omega) l4
            refine callw_rel h92 (fun i k hk => ?_) ?_
            · simp only [Hp.set_app] at hk
              split at hk
              · rename_i q; subst q; rw [HM]; exact hk
              · exact hpA_sub (by rw [HO]; simp [outV, h0]) (fun _ => HL') i k hk
            rintro v H' B2 H4 ⟨Lg', q1, q2, rfl⟩ hB2 s1 s2
            have u1 : B1 ≠ Lg' := by omega
            have u2 : ¬ Lg' = B1 + 1 := by omega
            have u3 : B ≠ Lg' := by omega
            have hst2 : (stepE x (first x.log)).log = addL x.log (stepR x.log (first x.log)) := by rw [hx.eq ho]; rfl
            have hum := hx.undM ho
            have hnx := hx.next ho
            have f1 := s1 B1 _ (by simp [n4]; exact hpA_O u1)
            have f2 := s1 Lg' _ (by simp [u2]; exact hpA_Lg (by simp [addL]))
            have f3 := s1 (B1 + 1) _ (by simp; rfl)
            have f4 : H4 B = some zE := s2 B _ HB (by simp [n5, hpA_none n1 (Ne.symm l1)]) (by simp [n5, hpA_none n1 u3])
            clear s1 s2
            rw [hum] at f3
            rw [← hst2] at f1 f2
            have h73' := c73o Lg' (stepE x (first x.log)).log (by have := hnx.len; omega)
            simp [f1]
            refine callw_told h73' (Nat.zero_le _) (fun p hp => ?_) ?_
            · unfold lbl at hp
              split at hp
              · cases hp
              · simp at hp; subst hp; exact f2
            simp [w1]
            have sd := stepE_disk x (first x.log)
            have ss := stepE_safe x (first x.log)
            have sw := stepE_down x (first x.log)
            refine ih (n + 1, stepE x (first x.log), Lg', B2) _ _ _ (by simp; omega) ⟨by simp only; omega, hnx, by simp only; rw [sd, xd], by simp only; rw [ss, xs], by simp only; rw [sw, xw], by simp; omega, ?_, by simp only; omega, by simp only; omega, by simp only; omega, by simp only; omega⟩ (by simp [ints]) ?_ (Nat.le_refl _)
            · have e1 : steps.toNat - n = (steps.toNat - (n + 1)) + 1 := by omega
              rw [← hux, e1]
              simp only [upF]
              rw [if_neg ho]
            · exact hpV_sub f1 (fun _ => f2) f3 f4
          · have hxe : x = upB e steps := by rw [← hux, show steps.toNat - n = 0 by omega]; rfl
            have hno : ¬ upOk e steps := by unfold upOk; rw [← hxe]; exact ho
            have hup : upI e steps = { x with mem := x.disk } := by unfold upI; rw [← hxe, if_neg ho]
            have hre : riseE e steps = { x with mem := x.disk } := by rw [riseE, if_pos ⟨c1, c2⟩, if_pos c3, hup]
            have hnk : ¬ riseOk e steps := fun q => hno q.2.2.2
            have h79 := (c79 e.disk hd).told (pages_rows _)
            simp [HO]
            refine callw_told h79 (Nat.zero_le _) (by simp) ?_
            simp [HO, HB, zE, n7, n1]
            refine fz_tupE _ ?_ (by simp [hnk])
            rw [hre]
            refine .cons (by simp only [xd]; exact .same _) (.cons (by simp only [xd]; exact .same _) (.cons (Fz.slice (k := rcs x.log) (by simp [l1, l2, HL', rcs]) rfl rfl (by simp [rcs])) (.cons (by simp only [xs]; exact .same _) (.cons (by simp only [xw]; exact .same _) .nil))))
  · exact fz_tupE _ (by rw [riseE, if_neg (by simp [c1])]; exact fz_eng0 _) (by simp [riseOk, c1])

end Go.Proofs.YtnaafbdgkmlnaaaGreat

/- Functions: the reference's RiseUp. -/
namespace Go.Proofs.YtnaafbdgkmlnaaaGreat
set_option linter.unusedVariables false
set_option linter.unusedSimpArgs false
set_option linter.unnecessarySimpa false
set_option maxRecDepth 20000
set_option maxHeartbeats 4000000

/-- A copy whose pages are named. -/
theorem a78F (e : Eng) (hd : ShP e.disk) (hm : ShP e.mem) (hl : e.log.length ≤ 1000000) (B : Nat) : ACalls PP 78 [.agg (encE e)] Hp.nil B (fun v H' B' => ∃ D M, B ≤ D ∧ B ≤ M ∧ D < B' ∧ M < B' ∧ D ≠ M ∧ v = .agg (encN D M e) ∧ H' = Hp.of (ebl D M e)) := by
  have hd0 : e.disk.map encP ≠ [] := by intro q; have := hd.1; simp at q; simp [q] at this
  have hm0 : e.mem.map encP ≠ [] := by intro q; have := hm.1; simp at q; simp [q] at this
  have hd5 := hd.1
  have hm5 := hm.1
  have hb : e.log.length * 64 ≤ 140737488355328 := by omega
  have h : ACalls PP 78 [.agg (encE e)] Hp.nil B (fun v H' B' => v = .agg (encN (B + 1) (B + 2) e) ∧ H' (B + 1) = some (pgs e.disk) ∧ H' (B + 2) = some (pgs e.mem)) := by
    refine acallsF M0 Tryz.func78 (by kernel_rfl) fun hlt => ?_
    simp [Tryz.f78, encE]
    refine calld_mk ((c138 e.disk hd.short).mk1 hd0 (pages_rows _)) ?_
    simp
    refine calld_mk ((c138 e.mem hm.short).mk1 hm0 (pages_rows _)) ?_
    have n1 : ¬ B = B + 1 := by omega
    have n2 : ¬ B = B + 1 + 1 := by omega
    simp [hb, hd5, hm5, encN, encG, pgs]
    exact chkW_sh (by kernel_rfl)
  refine h.only fun v H' B' hlt ⟨h1, h2, h3⟩ => ⟨Hp.of (ebl (B + 1) (B + 2) e), fun i k hk => ?_, B + 1, B + 2, by omega, by omega, hlt _ _ h2, hlt _ _ h3, by omega, h1, rfl⟩
  simp only [ebl, Hp.of, Hp.set_app, Hp.nil_app] at hk
  split at hk
  · rename_i q; subst q; rw [h2]; exact hk
  split at hk
  · rename_i q; subst q; rw [h3]; exact hk
  · cases hk

theorem c32 (e : Eng) (steps : Int) (h : ShortE e) : Told 32 [.agg (encE e), I64 steps] [] [] 0 (.tup [.agg (encE (riseE e steps)), .bool (decide (riseOk e steps))]) := by
  refine told_fz (lt_engT 0 _ _) fun B => ?_
  have h50 := c50 e h
  obtain ⟨hd, hm, hl⟩ := h
  simp only [encE] at h50
  refine acallsF (M3u [4]) Tryz.func32 (by kernel_rfl) fun hlt => ?_
  simp [Tryz.f32, encE]
  refine callw_told h50 (Nat.zero_le _) (by simp) ?_
  simp
  refine gO (fun c1 => ?_) (fun c1 => ?_) <;> simp at c1 <;> simp [c1]
  · refine gC (fun c2 => ?_) (fun c2 => ?_) <;> simp at c2 <;> simp [c2]
    · exact fz_tupE _ (by rw [riseE, if_neg (by simp [c1]; omega)]; exact fz_eng0 _) (by simp [riseOk, c1]; omega)
    · have hR := c1.rising
      have hsd : ShP e.disk := c1.1.sh
      have hsm : ShP e.mem := c1.2.1.sh
      have hS : StepInv e := ⟨c1.2.2.1.1, c1.2.2.2.2.1, hsd, hsm⟩
      have h78 := a78F e hsd hsm hl (B + 1)
      simp only [encE] at h78
      refine callw_rel h78 (by simp) ?_
      rintro v H' B1 H2 ⟨D, M, k1, k2, k3, k4, k5, rfl, rfl⟩ hB1 s1 s2
      have g1 : H2 D = some (pgs e.disk) := s1 _ _ (ebl_D k5)
      have g3 : H2 M = some (pgs e.mem) := s1 _ _ (ebl_M k5)
      have u1 : ¬ B = D := by omega
      have u2 : ¬ B = M := by omega
      have g2 : H2 B = some zE := s2 _ _ (by simp [zE]) rfl (by simp [ebl, Hp.of, u1, u2])
      clear s1 s2
      have n1 : ¬ B = B1 := by omega
      have n2 : ¬ D = B1 := by omega
      have n3 : ¬ M = B1 := by omega
      simp [encN, encG]
      refine gC (fun c3 => ?_) (fun c3 => ?_) <;> (try simp at c3) <;> simp [n1, n2, n3, g2, zE]
      · have hre : riseE e steps = e := by rw [riseE, if_pos ⟨c1, c2⟩, if_neg (by simp [c3])]
        refine fz_tupE _ ?_ (by simp [riseOk, c3])
        rw [hre]
        exact .cons (Fz.slice (k := pgs e.disk) (by simp [Ne.symm u1, n2, g1]) rfl rfl (by simp [pgs, hsd.1])) (.cons (Fz.slice (k := pgs e.mem) (by simp [Ne.symm u2, n3, g3]) rfl rfl (by simp [pgs, hsm.1])) (.cons (.same _) (.cons (.same _) (.cons (.same _) .nil))))
      · have h89 := c89r D M k5 (B1 + 1) (by omega) (by omega) e steps hS c3 (B1 + 1) (Nat.le_refl _)
        simp only [encN, encG] at h89
        refine callw_mkh h89 (fun p hp => ?_) ?_
        · simp only [ebl, List.mem_cons, List.not_mem_nil, or_false] at hp
          rcases hp with rfl | rfl
          · simp [n2, g1]
          · simp [n3, g3]
        have n4 : ¬ B = B1 + 1 := by omega
        have n5 : ¬ D = B1 + 1 := by omega
        simp [n1, n4, g2, zE]
        have hU := hS.up steps
        have hre : riseE e steps = upI e steps := by rw [riseE, if_pos ⟨c1, c2⟩, if_pos c3]
        refine fz_tupE _ ?_ (by simp [riseOk, c1, c2, c3])
        rw [hre]
        refine .cons (Fz.slice (k := pgs e.disk) (by simp [Ne.symm u1, n2, n5, g1]) rfl (by rw [upI_disk]; rfl) (by rw [upI_disk]; simp [hsd.1])) (.cons (Fz.slice (k := pgs (upI e steps).mem) (by simp [Ne.symm n4]) rfl rfl (by simp [hU.mem.1])) (.cons (.same _) (.cons (.same _) (.cons (.same _) .nil))))
  · exact fz_tupE _ (by rw [riseE, if_neg (by simp [c1])]; exact fz_eng0 _) (by simp [riseOk, c1])

end Go.Proofs.YtnaafbdgkmlnaaaGreat

/- Functions: how much a rise needs; a rise is drawn. -/
namespace Go.Proofs.YtnaafbdgkmlnaaaGreat
set_option linter.unusedVariables false
set_option linter.unusedSimpArgs false
set_option linter.unnecessarySimpa false
set_option maxRecDepth 20000
set_option maxHeartbeats 4000000

noncomputable def needE (e : Eng) : Int := if EngOk e then (need e.log : Int) else -1
theorem c51 (e : Eng) (h : ShortE e) : Told 51 [.agg (encE e)] [] [] 0 (I64 (needE e)) := by
  refine told_of (Keep.nil _) trivial fun B _ => ?_
  have h30 := c30 e h
  obtain ⟨hd, hm, hl⟩ := h
  simp only [encE] at h30
  refine acallsF M0 Tryz.func51 (by kernel_rfl) fun hlt => ?_
  simp [Tryz.f51, encE]
  refine callw_told h30 (Nat.zero_le _) (by simp) ?_
  simp
  refine gC (fun c1 => ?_) (fun c1 => ?_) <;> simp at c1 <;> simp [c1]
  · simp [needE, c1]
  · refine callw_told (c110 e.log c1.2.2.1.1 hl) (Nat.zero_le _) (by simp) ?_
    simp [needE, c1]

theorem a49 (code : List Int) (hl : code.length ≤ 1000000000) (hc : ∀ b ∈ code, 0 ≤ b ∧ b < 256) (B : Nat) : ACalls PP 49 [bytesAV code] Hp.nil B (fun v H' B' => ∃ (e : Eng) (steps : Int), ShortE e ∧ -1 ≤ steps ∧ steps ≤ 99 ∧ v = .tup [.agg (encE e), I64 steps] ∧ H' = Hp.nil) := by
  have hb : BsOk (code.take 2000) := ⟨by simp; omega, fun b hb => hc b (List.mem_of_mem_take hb)⟩
  have h : ACalls PP 49 [bytesAV code] Hp.nil B (fun v H' B' => ∃ (e : Eng) (steps : Int), ShortE e ∧ -1 ≤ steps ∧ steps ≤ 99 ∧ v = .tup [.agg (encE e), I64 steps]) := by
    refine acallsF M3 Tryz.func49 (by kernel_rfl) fun hlt => ?_
    simp [Tryz.f49]
    refine callw_rel (a74 code hl (B + 1)) (by simp) ?_
    rintro v H' B1 H2 ⟨id, k1, k2, rfl, rfl⟩ hB1 s1 s2
    have g1 : H2 id = some (rdB (code.take 2000) 0) := s1 _ _ rdH_id
    have g2 : H2 B = some ⟨30, 5, [[.nils, .nils, .nils, I64 0, .bool false]]⟩ := s2 _ _ (by simp) rfl (rdH_none (by omega))
    clear s1 s2
    simp
    refine callw_rel (a75 id _ 0 hb (by omega) B1 k2) (rdH_sub g1) ?_
    rintro v H' B2 H3 ⟨p3, e, k4, k5, k6, rfl, rfl⟩ hB2 s1 s2
    have f1 : H3 id = some (rdB (code.take 2000) p3) := s1 _ _ rdH_id
    have f2 : H3 B = some ⟨30, 5, [[.nils, .nils, .nils, I64 0, .bool false]]⟩ := s2 _ _ g2 (rdH_none (by omega)) (rdH_none (by omega))
    clear s1 s2
    have n1 : ¬ id = B := by omega
    have n2 : ¬ B = id := by omega
    have n3 : ¬ id = B2 := by omega
    have n4 : ¬ B2 = id := by omega
    have n5 : ¬ B2 = B := by omega
    have n6 : ¬ B = B2 := by omega
    have hs := k6.1
    have h50 := c50 e hs
    have hlen := k6.2.len
    simp only [encE] at h50
    simp [encE]
    refine callw_pick (p := p3) hb (by omega) (by decide) (by simp [n3, f1]) fun x x0 x1 => ?_
    simp
    refine gO (fun c1 => ?_) (fun c1 => ?_) <;> simp [-Int.not_le, -Int.not_lt] at c1 <;> simp [c1, n1, n2, n3, n4, n5, n6]
    · cases hdn : e.down with
      | true =>
        simp [n1, n2, n3, n4, n5, n6]
        refine calld_pick (p := p3 + 1) hb (by omega) (by decide) (by simp [n1, n2, n3, n4, n5, n6, f1]) fun y y0 y1 => ?_
        have hy : y = 0 ∨ y = 1 ∨ y = 2 ∨ y = 3 ∨ y = 4 ∨ y = 5 := by omega
        rcases hy with rfl | rfl | rfl | rfl | rfl | rfl
        all_goals
          simp [n1, n2, n3, n4, n5, n6, f1, f2]
          refine ⟨chkW_tk [B2, id, B] [⟨[0], [], false⟩, ⟨[], [], false⟩, ⟨[], [], false⟩, ⟨[1], [1], false⟩, ⟨[], [], false⟩, ⟨[], [], false⟩, ⟨[2], [2], false⟩, ⟨[], [], false⟩] (by simp [n1, n2, n3, n4, n5, n6]) rfl (by kernel_rfl), e, hs, _, ?_, ?_, ⟨rfl, rfl, rfl, rfl, by first | rfl | simp [hdn]⟩, rfl⟩ <;> decide
      | false =>
        rw [hdn] at h50
        simp [n1, n2, n3, n4, n5, n6]
        refine callw_told h50 (Nat.zero_le _) (by simp) ?_
        simp
        refine gC (fun c3 => ?_) (fun c3 => ?_) <;> simp at c3 <;> simp [n1, n2, n3, n4, n5, n6]
        · refine calld_pick (p := p3 + 1) hb (by omega) (by decide) (by simp [n1, n2, n3, n4, n5, n6, f1]) fun z z0 z1 => ?_
          have wz := w64 ((e.log.length : Int) - z) (by omega) (by omega)
          have h77 := c77 e (if (e.log.length : Int) - z < 0 then 0 else (e.log.length : Int) - z) hs c3.2.2.2.1 (by split <;> omega)
          have hs' : ShortE (fallI e (if (e.log.length : Int) - z < 0 then 0 else (e.log.length : Int) - z)) := hs.fall _
          simp only [encE] at h77
          rw [hdn] at h77
          simp [n1, n2, n3, n4, n5, n6, wz]
          refine calld_told h77 (Nat.zero_le _) (by simp) ?_
          generalize fallI e (if (e.log.length : Int) - z < 0 then 0 else (e.log.length : Int) - z) = e2 at hs' ⊢
          simp [n1, n2, n3, n4, n5, n6]
          refine ⟨chkW_tk [B2, id] [⟨[0], [], false⟩, ⟨[], [], false⟩, ⟨[0], [], false⟩, ⟨[], [], false⟩, ⟨[], [], false⟩, ⟨[1], [1], false⟩, ⟨[], [], false⟩, ⟨[], [], false⟩, ⟨[], [], false⟩, ⟨[0], [0], false⟩] (by simp [n1, n2, n3, n4, n5, n6]) rfl (by kernel_rfl), ?_⟩
          refine calld_pick (p := p3 + 1 + 1) hb (by omega) (by decide) (by simp [n1, n2, n3, n4, n5, n6, f1]) fun y y0 y1 => ?_
          have hy : y = 0 ∨ y = 1 ∨ y = 2 ∨ y = 3 ∨ y = 4 ∨ y = 5 := by omega
          rcases hy with rfl | rfl | rfl | rfl | rfl | rfl
          all_goals
            simp [n1, n2, n3, n4, n5, n6, f1, f2]
            refine ⟨chkW_tk [B2, id, B] [⟨[0], [], false⟩, ⟨[], [], false⟩, ⟨[], [], false⟩, ⟨[1], [1], false⟩, ⟨[], [], false⟩, ⟨[], [], false⟩, ⟨[2], [2], false⟩, ⟨[], [], false⟩] (by simp [n1, n2, n3, n4, n5, n6]) rfl (by kernel_rfl), e2, hs', _, ?_, ?_, ⟨rfl, rfl, rfl, rfl, by first | rfl | simp [hdn]⟩, rfl⟩ <;> decide
        · skip
          refine calld_pick (p := p3 + 1) hb (by omega) (by decide) (by simp [n1, n2, n3, n4, n5, n6, f1]) fun y y0 y1 => ?_
          have hy : y = 0 ∨ y = 1 ∨ y = 2 ∨ y = 3 ∨ y = 4 ∨ y = 5 := by omega
          rcases hy with rfl | rfl | rfl | rfl | rfl | rfl
          all_goals
            simp [n1, n2, n3, n4, n5, n6, f1, f2]
            refine ⟨chkW_tk [B2, id, B] [⟨[0], [], false⟩, ⟨[], [], false⟩, ⟨[], [], false⟩, ⟨[1], [1], false⟩, ⟨[], [], false⟩, ⟨[], [], false⟩, ⟨[2], [2], false⟩, ⟨[], [], false⟩] (by simp [n1, n2, n3, n4, n5, n6]) rfl (by kernel_rfl), e, hs, _, ?_, ?_, ⟨rfl, rfl, rfl, rfl, by first | rfl | simp [hdn]⟩, rfl⟩ <;> decide
    · skip
      refine calld_pick (p := p3 + 1) hb (by omega) (by decide) (by simp [n1, n2, n3, n4, n5, n6, f1]) fun y y0 y1 => ?_
      have hy : y = 0 ∨ y = 1 ∨ y = 2 ∨ y = 3 ∨ y = 4 ∨ y = 5 := by omega
      rcases hy with rfl | rfl | rfl | rfl | rfl | rfl
      all_goals
        simp [n1, n2, n3, n4, n5, n6, f1, f2]
        refine ⟨chkW_tk [B2, id, B] [⟨[0], [], false⟩, ⟨[], [], false⟩, ⟨[], [], false⟩, ⟨[1], [1], false⟩, ⟨[], [], false⟩, ⟨[], [], false⟩, ⟨[2], [2], false⟩, ⟨[], [], false⟩] (by simp [n1, n2, n3, n4, n5, n6]) rfl (by kernel_rfl), e, hs, _, ?_, ?_, ⟨rfl, rfl, rfl, rfl, by first | rfl | simp [hdn]⟩, rfl⟩ <;> decide
  exact h.only fun v H' B' hlt ⟨e, left, h1, h2, h3, h4⟩ => ⟨Hp.nil, by simp, e, left, h1, h2, h3, h4, rfl⟩

end Go.Proofs.YtnaafbdgkmlnaaaGreat

/- The statements on a rise, over their draws. -/
namespace Go.Proofs.YtnaafbdgkmlnaaaGreat
set_option linter.unusedVariables false
set_option linter.unusedSimpArgs false
set_option linter.unnecessarySimpa false
set_option maxRecDepth 20000
set_option maxHeartbeats 4000000

theorem short0 : ShortE eng0 := ⟨⟨by simp [eng0], by simp [eng0]⟩, ⟨by simp [eng0], by simp [eng0]⟩, by simp [eng0]⟩
theorem riseE_short {e : Eng} (h : ShortE e) (steps : Int) : ShortE (riseE e steps) := by
  unfold riseE
  split
  · rename_i c
    split
    · have hr : Rising (upB e steps) := c.1.rising.upF
      have hm := hr.memOk.1.sh.short
      have hd := hr.disk.sh.short
      have hl := hr.len
      unfold upI
      split
      · exact ⟨hd, hm, by simp only; omega⟩
      · exact ⟨hd, hd, by simp only; omega⟩
    · exact h
  · exact short0

theorem rise_up {e : Eng} {steps : Int} (h : riseOk e steps) : EngOk (riseE e steps) ∧ (riseE e steps).down = false := by
  obtain ⟨h1, h2, h3, h4⟩ := h
  have e1 : riseE e steps = upI e steps := by rw [riseE, if_pos ⟨h1, h2⟩, if_pos h3]
  rw [e1]
  refine ⟨up_ok h1 h4, ?_⟩
  unfold upI
  rw [if_pos (show first (upB e steps).log = 0 from h4)]
theorem rise_again {x : Eng} (h : EngOk x) (hd : x.down = false) (n : Int) (hn : 0 ≤ n) : riseE x n = x ∧ ¬ riseOk x n :=
  ⟨by rw [riseE, if_pos ⟨h, hn⟩, if_neg (by simp [hd])], fun q => by have := q.2.2.1; rw [hd] at this; cases this⟩

theorem c10 (code : List Int) (hc : ∀ b ∈ code, 0 ≤ b ∧ b < 256) : Told 10 [bytesAV code] [] [] 0 (.bool true) := by
  refine told_of (Keep.nil _) trivial fun B _ => ?_
  refine acallsF M0 Tryz.func10 (by kernel_rfl) fun hlt => ?_
  simp [Tryz.f10, bytesAV]
  refine gC (fun c1 => ?_) (fun c1 => ?_) <;> simp at c1 <;> simp
  have h49 := a49 code (by omega) hc (B)
  simp only [bytesAV] at h49
  refine callw_rel h49 (by simp) ?_
  rintro v H' B1 H1 ⟨e, steps, hs, l0, l1, rfl, rfl⟩ hB1 s1 s2
  clear s1 s2 h49
  have h32 := c32 e steps hs
  have h34 := c34 e steps hs (by omega)
  have h50 := c50 e hs
  have hx := riseE_short hs steps
  obtain ⟨x, hxe⟩ : ∃ x, x = riseE e steps := ⟨_, rfl⟩
  obtain ⟨ok, hoke⟩ : ∃ ok, ok = decide (riseOk e steps) := ⟨_, rfl⟩
  have h28 := c28 x x (by rw [hxe]; exact hx)
  rw [← hxe, ← hoke] at h32 h34
  rw [← hxe] at hx
  simp only [encE] at h32 h34 h28 h50
  simp [encE]
  refine callw_told h32 (Nat.zero_le _) (by simp) ?_
  simp
  refine callw_told h34 (Nat.zero_le _) (by simp) ?_
  simp
  refine callw_told h28 (Nat.zero_le _) (by simp) ?_
  have n1 : ¬ B1 = B1 + 1 + 2 := by omega
  have n2 : ¬ B1 + 1 = B1 + 1 + 2 := by omega
  have n3 : ¬ B1 + 2 = B1 + 1 + 2 := by omega
  simp
  refine callw_told h50 (Nat.zero_le _) (by simp) ?_
  simp
  by_cases c2 : EngOk e
  · by_cases c3 : steps < 0
    · simp [c2, c3]
      refine callw_told h28 (Nat.zero_le _) (by simp) ?_
      simp
    · have c3' : 0 ≤ steps := by omega
      cases hdn : e.down with
      | true =>
        simp [c2, c3, n1, n2, n3, hdn]
        have k34 := c34 x 150 hx (by omega)
        by_cases hk : riseOk e steps
        · obtain ⟨a1, a2⟩ := rise_up hk
          rw [← hxe] at a1 a2
          obtain ⟨b1, b2⟩ := rise_again a1 a2 150 (by omega)
          rw [b1] at k34
          have hokt : ok = true := by rw [hoke]; simp [hk]
          simp only [encE] at k34
          simp [b2] at k34
          refine callw_told k34 (Nat.zero_le _) (by simp) ?_
          simp [hokt, n1, n2, n3]
          refine callw_told h28 (Nat.zero_le _) (by simp) ?_
          simp
        · have hokt : ok = false := by rw [hoke]; simp [hk]
          simp only [encE] at k34
          refine callw_told k34 (Nat.zero_le _) (by simp) ?_
          simp [hokt, n1, n2, n3]
      | false =>
        have hxe2 : x = e := by rw [hxe, riseE, if_pos ⟨c2, c3'⟩, if_neg (by simp [hdn])]
        have hokt : ok = false := by rw [hoke]; simp [riseOk, hdn]
        rw [hxe2] at h28 ⊢
        rw [hdn] at h28
        simp [c2, c3, n1, n2, n3, hdn, hokt]
        refine callw_told h28 (Nat.zero_le _) (by simp) ?_
        simp
  · simp [c2]
    refine callw_told h28 (Nat.zero_le _) (by simp) ?_
    simp

end Go.Proofs.YtnaafbdgkmlnaaaGreat
