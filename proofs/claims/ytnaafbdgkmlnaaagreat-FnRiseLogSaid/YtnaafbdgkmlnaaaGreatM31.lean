/- Laws about the machine's run of the program's functions, part 31, in import order. No condition. -/
import Derived.Test.YtnaafbdgkmlnaaaGreatM30

set_option linter.unusedVariables false
set_option linter.unusedSimpArgs false
set_option linter.unnecessarySimpa false
/- The statements on a rise, over their draws. -/
namespace Go.Proofs.YtnaafbdgkmlnaaaGreat
set_option linter.unusedVariables false
set_option linter.unusedSimpArgs false
set_option linter.unnecessarySimpa false
set_option maxRecDepth 20000
set_option maxHeartbeats 4000000

theorem rise0 {e : Eng} (h : EngOk e) (hd : e.down = true) : (riseOk e 0 ↔ first e.log = 0) ∧ (riseE e 0).log = e.log ∧ EngOk (riseE e 0) := by
  have e0 : upB e 0 = redoneE e := rfl
  have e1 : riseE e 0 = upI e 0 := by rw [riseE, if_pos ⟨h, Int.le_refl 0⟩, if_pos hd]
  refine ⟨⟨fun q => q.2.2.2, fun q => ⟨h, Int.le_refl 0, hd, q⟩⟩, ?_, ?_⟩
  · rw [e1]; unfold upI; split <;> rfl
  · by_cases ho : upOk e 0
    · rw [e1]; exact up_ok h ho
    · have e2 : upI e 0 = { redoneE e with mem := e.disk } := by
        unfold upI; rw [if_neg (show ¬ first (upB e 0).log = 0 from ho), e0]; rfl
      rw [e1, e2]
      obtain ⟨h1, h2, h3, h4, h5, h6, h7⟩ := h
      refine ⟨h1, h1, h3, h4, h5, h6, fun p hp => ?_⟩
      obtain ⟨a, b, c⟩ := h7 p hp
      refine ⟨a, b, ?_⟩
      show if e.down = true then pgAt e.disk p = pgAt e.disk p else _
      rw [if_pos hd]
theorem opn_len0 (L : List R) : (opn L).length = 0 ↔ first L = 0 := by
  obtain ⟨a, b⟩ := opn_first L
  constructor
  · intro h
    by_cases q : first L = 0
    · exact q
    · obtain ⟨l, hl⟩ := b q
      rw [hl] at h; simp at h
  · intro h; rw [a h]; rfl

theorem c12 (code : List Int) (hc : ∀ b ∈ code, 0 ≤ b ∧ b < 256) : Told 12 [bytesAV code] [] [] 0 (.bool true) := by
  refine told_of (Keep.nil _) trivial fun B _ => ?_
  refine acallsF M0 Tryz.func12 (by kernel_rfl) fun hlt => ?_
  simp [Tryz.f12, bytesAV]
  refine gC (fun c1 => ?_) (fun c1 => ?_) <;> simp at c1 <;> simp
  have h49 := a49 code (by omega) hc (B)
  simp only [bytesAV] at h49
  refine callw_rel h49 (by simp) ?_
  rintro v H' B1 H1 ⟨e, steps, hs, l0, l1, rfl, rfl⟩ hB1 s1 s2
  clear s1 s2 h49
  have h32 := c32 e steps hs
  have h34 := c34 e steps hs (by omega)
  have h34z := c34 e 0 hs (by omega)
  have h50 := c50 e hs
  have hx := riseE_short hs steps
  have hy := riseE_short hs 0
  have h24 := c24 e.log hs.2.2
  obtain ⟨x, hxe⟩ : ∃ x, x = riseE e steps := ⟨_, rfl⟩
  obtain ⟨y, hye⟩ : ∃ y, y = riseE e 0 := ⟨_, rfl⟩
  obtain ⟨ok, hoke⟩ : ∃ ok, ok = decide (riseOk e steps) := ⟨_, rfl⟩
  have h28 := c28 x x (by rw [hxe]; exact hx)
  rw [← hxe, ← hoke] at h32 h34
  rw [← hye] at h34z hy
  rw [← hxe] at hx
  have h29 := c29 y.log e.log hy.2.2
  have h30 := c30 y hy
  simp only [encE] at h32 h34 h34z h28 h50 h30
  simp [encE]
  refine callw_told h32 (Nat.zero_le _) (by simp) ?_
  simp
  refine callw_told h34 (Nat.zero_le _) (by simp) ?_
  simp
  refine callw_told h28 (Nat.zero_le _) (by simp) ?_
  have n1 : ¬ B1 = B1 + 1 + 2 := by omega
  have n2 : ¬ B1 + 1 = B1 + 1 + 2 := by omega
  have n3 : ¬ B1 + 2 = B1 + 1 + 2 := by omega
  simp
  refine callw_told h50 (Nat.zero_le _) (by simp) ?_
  simp
  by_cases c2 : EngOk e
  · by_cases c3 : steps < 0
    · simp [c2, c3]
      refine callw_told h28 (Nat.zero_le _) (by simp) ?_
      simp
    · have c3' : 0 ≤ steps := by omega
      cases hdn : e.down with
      | true =>
        rw [hdn] at h34z
        obtain ⟨z1, z2, z3⟩ := rise0 c2 hdn
        rw [← hye] at z2 z3
        have hol : opnLog e.log = opn e.log := by rw [opnLog, if_pos c2.2.2.1]
        rw [hol] at h24
        have hz : decide (riseOk e 0) = decide ((opn e.log).length = 0) := decide_eq_decide.2 (z1.trans (opn_len0 e.log).symm)
        rw [hz] at h34z
        simp [c2, c3, n1, n2, n3, hdn]
        refine callw_told h34z (Nat.zero_le _) (by simp) ?_
        simp [n1, n2, n3]
        refine callw_told h24 (Nat.zero_le _) (by simp) ?_
        simp [n1, n2, n3, z2]
        rw [z2] at h29
        refine callw_told h29 (Nat.zero_le _) (by simp) ?_
        simp [n1, n2, n3, z2]
        rw [z2] at h30
        refine callw_told h30 (Nat.zero_le _) (by simp) ?_
        simp [z3]
      | false =>
        simp [c2, c3, n1, n2, n3, hdn]
        refine callw_told h28 (Nat.zero_le _) (by simp) ?_
        simp
  · simp [c2]
    refine callw_told h28 (Nat.zero_le _) (by simp) ?_
    simp

end Go.Proofs.YtnaafbdgkmlnaaaGreat

/- The statements on a rise, over their draws. -/
namespace Go.Proofs.YtnaafbdgkmlnaaaGreat
set_option linter.unusedVariables false
set_option linter.unusedSimpArgs false
set_option linter.unnecessarySimpa false
set_option maxRecDepth 20000
set_option maxHeartbeats 4000000

theorem riseE_grew {e : Eng} {steps : Int} (h : EngOk e) (h0 : 0 ≤ steps) (hd : e.down = true) : Grew e.log (riseE e steps).log (min steps.toNat (need e.log)) ∧ (riseE e steps).disk = e.disk ∧ (riseE e steps).safe = e.safe ∧ needE e = need e.log ∧ e.log.length + need e.log ≤ 150 := by
  have e1 : riseE e steps = upI e steps := by rw [riseE, if_pos ⟨h, h0⟩, if_pos hd]
  have hg := h.rising.grew steps.toNat
  obtain ⟨k1, k2, k3⟩ := upF_keep steps.toNat (redoneE e)
  have hu : (upI e steps).log = (upB e steps).log ∧ (upI e steps).disk = (upB e steps).disk ∧ (upI e steps).safe = (upB e steps).safe := by
    unfold upI; split <;> exact ⟨rfl, rfl, rfl⟩
  rw [e1, hu.1, hu.2.1, hu.2.2]
  exact ⟨hg, k1, k2, by rw [needE, if_pos h], h.2.2.2.2.1⟩

theorem c11 (code : List Int) (hc : ∀ b ∈ code, 0 ≤ b ∧ b < 256) : Told 11 [bytesAV code] [] [] 0 (.bool true) := by
  refine told_of (Keep.nil _) trivial fun B _ => ?_
  refine acallsF M0 Tryz.func11 (by kernel_rfl) fun hlt => ?_
  simp [Tryz.f11, bytesAV]
  refine gC (fun c1 => ?_) (fun c1 => ?_) <;> simp at c1 <;> simp
  have h49 := a49 code (by omega) hc (B)
  simp only [bytesAV] at h49
  refine callw_rel h49 (by simp) ?_
  rintro v H' B1 H1 ⟨e, steps, hs, l0, l1, rfl, rfl⟩ hB1 s1 s2
  clear s1 s2 h49
  have h32 := c32 e steps hs
  have h34 := c34 e steps hs (by omega)
  have h51 := c51 e hs
  have h50 := c50 e hs
  have hx := riseE_short hs steps
  obtain ⟨x, hxe⟩ : ∃ x, x = riseE e steps := ⟨_, rfl⟩
  obtain ⟨ok, hoke⟩ : ∃ ok, ok = decide (riseOk e steps) := ⟨_, rfl⟩
  have h28 := c28 x x (by rw [hxe]; exact hx)
  rw [← hxe, ← hoke] at h32 h34
  rw [← hxe] at hx
  simp only [encE] at h32 h34 h28 h50 h51
  simp [encE]
  refine callw_told h32 (Nat.zero_le _) (by simp) ?_
  simp
  refine callw_told h34 (Nat.zero_le _) (by simp) ?_
  simp
  refine callw_told h28 (Nat.zero_le _) (by simp) ?_
  have n1 : ¬ B1 = B1 + 1 + 2 := by omega
  have n2 : ¬ B1 + 1 = B1 + 1 + 2 := by omega
  have n3 : ¬ B1 + 2 = B1 + 1 + 2 := by omega
  simp
  refine callw_told h50 (Nat.zero_le _) (by simp) ?_
  simp
  by_cases c2 : EngOk e
  · by_cases c3 : steps < 0
    · simp [c2, c3]
      refine callw_told h28 (Nat.zero_le _) (by simp) ?_
      simp
    · have c3' : 0 ≤ steps := by omega
      cases hdn : e.down with
      | true =>
        obtain ⟨g1, g2, g3, g4, g5⟩ := riseE_grew c2 c3' hdn
        rw [← hxe] at g1 g2 g3
        simp [c2, c3, n1, n2, n3, hdn]
        rw [hdn] at h51
        refine calld_told h51 (Nat.zero_le _) (by simp) ?_
        have hmn : (e.log.length : Int) + (if needE e < steps then needE e else steps) = (x.log.length : Int) := by
          rw [g1.len, g4]; split <;> omega
        have hle : e.log.length ≤ x.log.length := by rw [g1.len]; omega
        have hxl : x.log.length ≤ 150 := by rw [g1.len]; omega
        have wx := w64 (x.log.length : Int) (by omega) (by omega)
        have hb : e.log.length * 64 ≤ 140737488355328 := by omega
        have h29 := c29 (x.log.take e.log.length) e.log (by simp; omega)
        have h17 := c17 x.disk e.disk hx.1
        rw [show decide (x.log.take e.log.length = e.log) = true by simp [g1.take], List.map_take] at h29
        rw [show decide (x.disk = e.disk) = true by simp [g2]] at h17
        simp [n1, n2, n3, hmn, wx, hle, hb]
        refine calld_told h29 (Nat.zero_le _) (by simp) ?_
        simp [n1, n2, n3]
        refine calld_told h17 (Nat.zero_le _) (by simp) ?_
        simp [n1, n2, n3, g3]
        refine aloop_ind (ι := Nat) (fun i => x.log.length - i) (fun i => e.log.length ≤ i ∧ i ≤ x.log.length) (fun i => [(7, .pe (B1 + 2) 5 0), (10, I64 i)]) (fun i => Hp.nil.set (B1 + 2) ⟨30, 5, [encE x]⟩) (fun i => B1 + 1 + 2) e.log.length ⟨Nat.le_refl _, hle⟩ (by simp) ?_ (Nat.le_refl _) ?_
        · intro i k hk
          simp only [Hp.set_app, Hp.nil_app] at hk
          split at hk
          · rename_i q; subst q; rw [← hk]; simp [encE, g3]
          · cases hk
        rintro A i ⟨i0, i1⟩ ih
        refine wpC_sound M0 _ _ _ _ _ (by kernel_rfl) ?_
        have wi := w64 ((i : Int) + 1) (by omega) (by omega)
        simp [encE]
        refine gC (fun c4 => ?_) (fun c4 => ?_) <;> simp [-Int.not_le, -Int.not_lt, -Nat.not_lt, -Nat.not_le] at c4
        · obtain ⟨r, hr⟩ : ∃ r, x.log[i]? = some r := ⟨_, List.getElem?_eq_getElem c4⟩
          have hri : x.log[i] = r := (List.getElem?_eq_some_iff.1 hr).2
          have hk := g1.kind i r i0 hr
          simp [c4, hri, encR]
          rcases hk with hk | hk
          · simp [hk, c4, hri, encR, wi]
            refine ih (i + 1) _ _ _ (by omega) ⟨by omega, by omega⟩ (by simp) ?_ (Nat.le_refl _)
            intro i k hk
            simp only [encE] at hk
            exact hk
          · simp [hk, c4, hri, encR, wi]
            refine ih (i + 1) _ _ _ (by omega) ⟨by omega, by omega⟩ (by simp) ?_ (Nat.le_refl _)
            intro i k hk
            simp only [encE] at hk
            exact hk
        · simp
      | false =>
        simp [c2, c3, n1, n2, n3, hdn]
        refine callw_told h28 (Nat.zero_le _) (by simp) ?_
        simp
  · simp [c2]
    refine callw_told h28 (Nat.zero_le _) (by simp) ?_
    simp

end Go.Proofs.YtnaafbdgkmlnaaaGreat
