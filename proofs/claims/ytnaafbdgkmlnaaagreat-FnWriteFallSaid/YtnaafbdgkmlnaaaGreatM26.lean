/- Laws about the machine's run of the program's functions, part 26, in import order. No condition. -/
import Derived.Test.YtnaafbdgkmlnaaaGreatM25

set_option linter.unusedVariables false
set_option linter.unusedSimpArgs false
set_option linter.unnecessarySimpa false
/- Functions: a play is drawn. -/
namespace Go.Proofs.YtnaafbdgkmlnaaaGreat
set_option linter.unusedVariables false
set_option linter.unusedSimpArgs false
set_option linter.unnecessarySimpa false
set_option maxRecDepth 20000
set_option maxHeartbeats 4000000

theorem fz_ev {S : Nat → Prop} {H : Hp} {v : AV} {ev : Ev} (h : EvRaw v ev) : Fz S H v (.agg (encEv ev)) := by
  obtain ⟨vv, rfl, rfl | ⟨rfl, hv⟩⟩ := h
  · exact .same _
  · refine Fz.agg' (.cons (.same _) (.cons (.same _) (.cons (.same _) (.cons (.same _) (.cons (.same _) (.cons ?_ .nil))))))
    rw [hv]; exact .nils 1
theorem a170 (id : Nat) (bs : List Int) (p D M : Nat) (hb : BsOk bs) (hp : p ≤ 100000) (e : Eng) (h : PlayInv e) (hDM : D ≠ M) (h1 : id ≠ D) (h2 : id ≠ M) (B : Nat) (hid : id < B) (hD : D < B) (hM : M < B) :
    ACalls PP 170 [.pe id 2 0, .agg (encN D M e)] (hpR id bs p D M e) B (fun v H' B' => ∃ p' ev, p ≤ p' ∧ p' ≤ p + 20 ∧ ev.vals.length ≤ 3 ∧ v = .agg (encEv ev) ∧ H' = hpR id bs p' D M e) :=
  (q170 id bs p D M hb hp e h hDM h1 h2 B hid hD hM).fin fun v H' B' hlt ⟨p', ev, q1, q2, q3, q4, q5, q6, q7⟩ =>
    ⟨noS, .agg (encEv ev), hpR id bs p' D M e, fz_ev q4, fun i k hk => ⟨fun h => h, hpR_sub q5 q6 q7 i k hk⟩, p', ev, q1, q2, q3, rfl, rfl⟩

def zE : Blk := ⟨30, 5, [[.nils, .nils, .nils, I64 0, .bool false]]⟩
/-- The heap while a play is drawn. -/
def hpP (id : Nat) (bs : List Int) (p D M B T : Nat) (e : Eng) (Ev : Nat) (rows : List (List AV)) : Hp := outH (((hpR id bs p D M e).set B zE).set T ⟨30, 5, [encN D M e]⟩) Ev 42 6 rows
theorem hpP_sub {id : Nat} {bs : List Int} {p D M B T Ev : Nat} {e : Eng} {rows : List (List AV)} {H : Hp} (h1 : H id = some (rdB bs p)) (h2 : H D = some ⟨38, 3, e.disk.map encP⟩) (h3 : H M = some ⟨38, 3, e.mem.map encP⟩) (h4 : H B = some zE) (h5 : H T = some ⟨30, 5, [encN D M e]⟩)
    (h6 : ¬ rows = [] → H Ev = some ⟨42, 6, rows⟩) : ∀ i k, hpP id bs p D M B T e Ev rows i = some k → H i = some k := by
  intro i k hk
  have key : ∀ j, (((hpR id bs p D M e).set B zE).set T ⟨30, 5, [encN D M e]⟩) j = some k → H j = some k := fun j hj => by
    simp only [Hp.set_app] at hj
    split at hj
    · rename_i q; subst q; rw [h5]; exact hj
    split at hj
    · rename_i q; subst q; rw [h4]; exact hj
    · exact hpR_sub h1 h2 h3 j k hj
  unfold hpP outH at hk
  by_cases hr : rows = []
  · rw [if_pos hr] at hk; exact key i hk
  · rw [if_neg hr] at hk
    rw [Hp.set_app] at hk
    split at hk
    · rename_i q; subst q; rw [h6 hr]; exact hk
    · exact key i hk

theorem outH_ne {H : Hp} {id e sz i : Nat} {rows : List (List AV)} (h : i ≠ id) : outH H id e sz rows i = H i := by unfold outH; split <;> simp [h]
theorem outH_eq {H : Hp} {id e sz : Nat} {rows : List (List AV)} (h : ¬ rows = []) : outH H id e sz rows id = some ⟨e, sz, rows⟩ := by unfold outH; rw [if_neg h]; simp
theorem hpP_all {id : Nat} {bs : List Int} {p D M B T Ev : Nat} {e : Eng} {rows : List (List AV)} (a1 : id ≠ D) (a2 : id ≠ M) (a3 : id ≠ B) (a4 : id ≠ T) (a5 : id ≠ Ev) (b1 : D ≠ M) (b2 : D ≠ B) (b3 : D ≠ T) (b4 : D ≠ Ev) (c1 : M ≠ B) (c2 : M ≠ T) (c3 : M ≠ Ev) (d1 : B ≠ T) (d2 : B ≠ Ev) (e1 : T ≠ Ev) :
    hpP id bs p D M B T e Ev rows id = some (rdB bs p) ∧ hpP id bs p D M B T e Ev rows D = some ⟨38, 3, e.disk.map encP⟩ ∧ hpP id bs p D M B T e Ev rows M = some ⟨38, 3, e.mem.map encP⟩ ∧ hpP id bs p D M B T e Ev rows B = some zE ∧
    hpP id bs p D M B T e Ev rows T = some ⟨30, 5, [encN D M e]⟩ ∧ (¬ rows = [] → hpP id bs p D M B T e Ev rows Ev = some ⟨42, 6, rows⟩) := by
  unfold hpP
  refine ⟨?_, ?_, ?_, ?_, ?_, fun h => outH_eq h⟩
  · rw [outH_ne a5]; simp [hpR, a1, a2, a3, a4]
  · rw [outH_ne b4]; simp [hpR, b1, b2, b3]
  · rw [outH_ne c3]; simp [hpR, c1, c2]
  · rw [outH_ne d2]; simp [d1]
  · rw [outH_ne e1]; simp

@[simp] theorem one_outV {id sz : Nat} {rows : List (List AV)} : AV.one (outV id sz rows) = true := by unfold outV; split <;> rfl

structure PlSt where
  n : Nat
  evs : List Ev
  e : Eng
  D : Nat
  M : Nat
  Ev : Nat
  p : Nat
  Bn : Nat

structure PlOk (id B T p0 : Nat) (s : PlSt) : Prop where
  n : s.n ≤ 36
  len : s.evs.length + s.n ≤ 36
  vals : ∀ ev ∈ s.evs, ev.vals.length ≤ 3
  fold : s.e = s.evs.foldl evE engNew
  inv : PlayInv s.e
  pl : p0 ≤ s.p
  pu : s.p + 20 * s.n ≤ p0 + 721
  dm : s.D ≠ s.M
  d : s.D ≠ id ∧ s.D ≠ B ∧ s.D ≠ T ∧ s.D ≠ s.Ev ∧ s.D < s.Bn
  m : s.M ≠ id ∧ s.M ≠ B ∧ s.M ≠ T ∧ s.M ≠ s.Ev ∧ s.M < s.Bn
  v : s.Ev ≠ id ∧ s.Ev ≠ B ∧ s.Ev ≠ T ∧ s.Ev < s.Bn
  t : T < s.Bn

theorem evE_disk_rd (e : Eng) (v : Ev) (h : newMem e v) : (evE e v).disk = e.disk := by
  rcases h with ⟨k8, h0⟩ | ⟨k9, h0, hdn⟩
  · simp [evE, k8, h0, fallI]
  · simp only [evE, k9, h0, hdn]; simp [upI_disk]

/-- What a play hands back. -/
def QPlay (id : Nat) (bs : List Int) (p B : Nat) (v : AV) (H' : Hp) (B' : Nat) : Prop := ∃ (p' : Nat) (evs : List Ev) (e : Eng) (D M Lg : Nat), p ≤ p' ∧ p' ≤ p + 800 ∧ evs.length ≤ 36 ∧ (∀ ev ∈ evs, ev.vals.length ≤ 3) ∧ e = evs.foldl evE engNew ∧ PlayInv e ∧ B ≤ D ∧ B ≤ M ∧ B ≤ Lg ∧ D < B' ∧ M < B' ∧ (¬ e.log = [] → Lg < B') ∧ D ≠ M ∧ D ≠ Lg ∧ M ≠ Lg ∧
  v = .tup [.sl 6 (evs.map encEv), .agg (encW D M Lg e)] ∧ H' = hpW (rdH id bs p') D M Lg e
def QPlayR (id : Nat) (bs : List Int) (p B : Nat) (v : AV) (H' : Hp) : Prop := ∃ (p' : Nat) (evs : List Go.Proofs.YtnaafbdgkmlnaaaGreat.Ev) (e : Eng) (D M Lg Ev : Nat), p ≤ p' ∧ p' ≤ p + 800 ∧ evs.length ≤ 36 ∧ (∀ ev ∈ evs, ev.vals.length ≤ 3) ∧ e = evs.foldl evE engNew ∧ PlayInv e ∧ B ≤ D ∧ B ≤ M ∧ B ≤ Lg ∧ D ≠ M ∧ D ≠ Lg ∧ M ≠ Lg ∧ Ev ≠ id ∧ Ev ≠ D ∧ Ev ≠ M ∧ Ev ≠ Lg ∧
  v = .tup [outV Ev 6 (evs.map encEv), .agg (encW D M Lg e)] ∧ H' id = some (rdB bs p') ∧ H' D = some (pgs e.disk) ∧ H' M = some (pgs e.mem) ∧ (¬ e.log.map encR = [] → H' Lg = some ⟨71, 8, e.log.map encR⟩) ∧ (¬ evs.map encEv = [] → H' Ev = some ⟨42, 6, evs.map encEv⟩)

theorem ebl_none {D M i : Nat} {e : Eng} (h1 : i ≠ D) (h2 : i ≠ M) : Hp.of (ebl D M e) i = none := by simp [ebl, Hp.of, h1, h2]
theorem hpR_none {id D M p i : Nat} {bs : List Int} {e : Eng} (h0 : i ≠ id) (h1 : i ≠ D) (h2 : i ≠ M) : hpR id bs p D M e i = none := by simp [hpR, h0, h1, h2]

theorem ebl_sub {D M : Nat} {e : Eng} {H : Hp} (hD : H D = some ⟨38, 3, e.disk.map encP⟩) (hM : H M = some ⟨38, 3, e.mem.map encP⟩) : ∀ i k, Hp.of (ebl D M e) i = some k → H i = some k := by
  intro i k hk
  simp only [ebl, Hp.of, Hp.set_app, Hp.nil_app] at hk
  split at hk
  · rename_i q; subst q; rw [← hk]; exact hD
  split at hk
  · rename_i q; subst q; rw [← hk]; exact hM
  · cases hk
theorem hpW_all {H : Hp} {D M Lg : Nat} {e : Eng} (b1 : D ≠ M) (b2 : D ≠ Lg) (b3 : M ≠ Lg) : hpW H D M Lg e D = some (pgs e.disk) ∧ hpW H D M Lg e M = some (pgs e.mem) ∧ (¬ e.log.map encR = [] → hpW H D M Lg e Lg = some ⟨71, 8, e.log.map encR⟩) := by
  unfold hpW
  exact ⟨by rw [outH_ne b2]; simp [b1], by rw [outH_ne b3]; simp, fun h => outH_eq h⟩
theorem hpW_ne {H : Hp} {D M Lg i : Nat} {e : Eng} (h1 : i ≠ D) (h2 : i ≠ M) (h3 : i ≠ Lg) : hpW H D M Lg e i = H i := by
  unfold hpW; rw [outH_ne h3]; simp [h1, h2]

theorem q115 (id : Nat) (bs : List Int) (p : Nat) (hb : BsOk bs) (hp : p ≤ 90000) (B : Nat) (hid : id < B) : ACalls PP 115 [.pe id 2 0] (rdH id bs p) B (fun v H' B' => QPlayR id bs p B v H') := by
  have HI : rdH id bs p id = some (rdB bs p) := by simp [rdH]
  generalize rdH id bs p = H0 at HI ⊢
  refine acallsF (M3u [22]) Tryz.func115 (by kernel_rfl) fun hlt => ?_
  have n1 : ¬ id = B := by omega
  have n2 : ¬ B = id := by omega
  simp [Tryz.f115]
  refine callw_rel (a63 (B + 1)) (by simp) fun v H' B1 H2 ⟨D, M, q1, q2, q3, q4, q5, q6, q7⟩ hB1 s1 s2 => ?_
  subst q6 q7
  have K1 : H2 id = some (rdB bs p) := s2 id _ (by simp [n1, HI]) rfl (ebl_none (by omega) (by omega))
  have K2 : H2 D = some ⟨38, 3, engNew.disk.map encP⟩ := s1 D _ (ebl_D q5)
  have K3 : H2 M = some ⟨38, 3, engNew.mem.map encP⟩ := s1 M _ (ebl_M q5)
  have K4 : H2 B = some zE := s2 B _ (by simp [zE]) rfl (ebl_none (by omega) (by omega))
  clear s1 s2
  have m1 : ¬ id = B1 := by omega
  have m2 : ¬ D = B1 := by omega
  have m3 : ¬ M = B1 := by omega
  have m4 : ¬ B = B1 := by omega
  simp
  refine callw_pick (p := p) hb (by omega) (by decide) (by simp [K1, m1]) fun x x0 x1 => ?_
  simp
  obtain ⟨n, rfl⟩ : ∃ n : Nat, x = n := ⟨x.toNat, by omega⟩
  refine aloop_ind (ι := PlSt) (fun s => s.n) (fun s => PlOk id B B1 p s) (fun s => [(0, .pe id 2 0), (3, .pe B 5 0), (4, .pe B1 5 0), (5, outV s.Ev 6 (s.evs.map encEv)), (6, I64 s.n)]) (fun s => hpP id bs s.p s.D s.M B B1 s.e s.Ev (s.evs.map encEv)) (fun s => s.Bn) ⟨n, [], engNew, D, M, B1 + 1, p + 1, B1 + 2⟩ ?_ (by simp [outV]) ?_ (by simp) ?_
  · refine ⟨by simp only; omega, by simp; omega, by simp, rfl, .new, by simp, by simp only; omega, q5, ?_, ?_, ?_, by simp⟩ <;> simp only <;> omega
  · refine hpP_sub (by simp) (by simp [m2, K2]; omega) (by simp [m3, K3]; omega) (by simp [m4, n2, K4]) (by simp [m1]; omega) (by simp)
  rintro A s hs ih
  obtain ⟨n, evs, e, D, M, Ev, p1, Bn⟩ := s
  obtain ⟨o1, o2, o3, o4, o5, o6, o7, o8, o9, o10, o11, o12⟩ := hs
  simp only at o1 o2 o3 o4 o5 o6 o7 o8 o9 o10 o11 o12 ih
  refine wpC_sound (M3u [22]) _ _ _ _ _ (by kernel_rfl) ?_
  obtain ⟨HI2, HD2, HM2, HB2, HT2, HE2⟩ := @hpP_all id bs p1 D M B B1 Ev e (evs.map encEv) (by omega) (by omega) (by omega) (by omega) (by omega) (by omega) (by omega) (by omega) (by omega) (by omega) (by omega) (by omega) (by omega) (by omega) (by omega)
  simp only
  generalize hpP id bs p1 D M B B1 e Ev (evs.map encEv) = H3 at HI2 HD2 HM2 HB2 HT2 HE2 ⊢
  clear K1 K2 K3 K4 q1 q2 q3 q4 q5 m2 m3 H2
  cases n with
  | zero =>
    simp [HT2]
    refine callw_rel (a78 D M o8 e o5.disk.sh o5.mem.sh (by have := o5.len; omega) Bn (by omega) (by omega)) ?_ ?_
    · exact ebl_sub HD2 HM2
    rintro v H' B2 H4 ⟨D', M', Lg, r1, r2, r3, r4, r5, r6, r7, r8, r9, r10⟩ hB2 s1 s2
    subst r9 r10
    obtain ⟨w1, w2, w3⟩ := @hpW_all Hp.nil D' M' Lg e r6 r7 r8
    have g1 := s1 _ _ w1
    have g2 := s1 _ _ w2
    have g3 : ¬ e.log.map encR = [] → H4 Lg = some ⟨71, 8, e.log.map encR⟩ := fun h => s1 _ _ (w3 h)
    have g4 : H4 id = some (rdB bs p1) := s2 _ _ HI2 (ebl_none (by omega) (by omega)) (hpW_ne (by omega) (by omega) (by omega))
    have g5 : H4 B = some zE := s2 _ _ HB2 (ebl_none (by omega) (by omega)) (hpW_ne (by omega) (by omega) (by omega))
    have g6 : ¬ evs.map encEv = [] → H4 Ev = some ⟨42, 6, evs.map encEv⟩ := fun h => s2 _ _ (HE2 h) (ebl_none (by omega) (by omega)) (hpW_ne (by omega) (by omega) (by omega))
    clear s1 s2 w1 w2 w3 ih
    have t1 : ¬ D' = B := by omega
    have t2 : ¬ M' = B := by omega
    have t3 : ¬ Lg = B := by omega
    have t4 : ¬ Ev = B := by omega
    simp only [zE] at g5
    simp [g5, encW]
    exact ⟨p1, evs, e, D', M', Lg, Ev, o6, by omega, by omega, o3, o4, o5, by omega, by omega, by omega, r6, r7, r8, by omega, by omega, by omega, by omega, by simp [encW], by simp [n1, g4], by simp [t1, g1], by simp [t2, g2], by simpa [t3] using g3, by simpa [t4] using g6⟩
  | succ n =>
    have hpos : (0 : Int) < ((n + 1 : Nat) : Int) := by omega
    simp [HT2]
    refine callw_rel (a170 id bs p1 D M hb (by omega) e o5 o8 (by omega) (by omega) Bn (by omega) (by omega) (by omega)) (hpR_sub HI2 HD2 HM2) ?_
    rintro v H' B2 H4 ⟨p2, ev, r1, r2, r3, r4, r5⟩ hB2 s1 s2
    subst r4 r5
    obtain ⟨o9a, o9b, o9c, o9d, o9e⟩ := o9
    obtain ⟨o10a, o10b, o10c, o10d, o10e⟩ := o10
    obtain ⟨o11a, o11b, o11c, o11d⟩ := o11
    have g1 : H4 id = some (rdB bs p2) := s1 _ _ (by simp [hpR, Ne.symm o9a, Ne.symm o10a])
    have g2 : H4 D = some ⟨38, 3, e.disk.map encP⟩ := s1 _ _ (by simp [hpR, o8])
    have g3 : H4 M = some ⟨38, 3, e.mem.map encP⟩ := s1 _ _ (by simp [hpR])
    have g4 : H4 B = some zE := s2 _ _ HB2 (hpR_none (by omega) (by omega) (by omega)) (hpR_none (by omega) (by omega) (by omega))
    have g5 : H4 B1 = some ⟨30, 5, [encN D M e]⟩ := s2 _ _ HT2 (hpR_none (by omega) (by omega) (by omega)) (hpR_none (by omega) (by omega) (by omega))
    have g6 : ¬ evs.map encEv = [] → H4 Ev = some ⟨42, 6, evs.map encEv⟩ := fun h => s2 _ _ (HE2 h) (hpR_none (by omega) (by omega) (by omega)) (hpR_none (by omega) (by omega) (by omega))
    clear s1 s2 HI2 HD2 HM2 HB2 HT2 HE2
    have hinv := o5.ev ev
    have wn := w64 (n : Int) (by omega) (by omega)
    have t1 : ¬ B1 = B2 := by omega
    have t2 : ¬ id = B2 := by omega
    have t3 : ¬ D = B2 := by omega
    have t4 : ¬ M = B2 := by omega
    have t5 : ¬ B = B2 := by omega
    have t6 : ¬ Ev = B2 := by omega
    have t7 : ¬ B2 = B2 + 1 := by omega
    have t8 : ¬ id = B2 + 1 := by omega
    have t9 : ¬ D = B2 + 1 := by omega
    have t10 : ¬ M = B2 + 1 := by omega
    have t11 : ¬ B = B2 + 1 := by omega
    have t12 : ¬ B1 = B2 + 1 := by omega
    have hst : evs.foldl evE engNew = e := o4.symm
    have hfold : evE e ev = (evs ++ [ev]).foldl evE engNew := by rw [List.foldl_append, hst]; rfl
    have hmap : (evs ++ [ev]).map encEv = evs.map encEv ++ [encEv ev] := by simp
    have next : ∀ (D' M' Bx : Nat) F H, B2 + 2 ≤ Bx → D' ≠ M' → (D' = D ∨ (B2 + 2 ≤ D' ∧ D' < Bx)) → (M' = M ∨ (B2 + 2 ≤ M' ∧ M' < Bx)) → (∀ q ∈ [(0, AV.pe id 2 0), (3, AV.pe B 5 0), (4, AV.pe B1 5 0), (5, outV (B2 + 1) 6 (evs.map encEv ++ [encEv ev])), (6, I64 (n : Int))], F q.1 = q.2) →
        (∀ i k, hpP id bs p2 D' M' B B1 (evE e ev) (B2 + 1) (evs.map encEv ++ [encEv ev]) i = some k → H i = some k) → A F H Bx := fun D' M' Bx F H k1 k2 k3 k4 k5 k6 => by
      refine ih ⟨n, evs ++ [ev], evE e ev, D', M', B2 + 1, p2, Bx⟩ F H Bx (by simp) ⟨by simp only; omega, by simp; omega, ?_, hfold, hinv, by simp only; omega, by simp only; omega, k2, ?_, ?_, ?_, by simp only; omega⟩ (by simpa [hmap] using k5) (by simpa only [hmap] using k6) (Nat.le_refl _)
      · intro x hx
        rcases List.mem_append.1 hx with hx | hx
        · exact o3 x hx
        · simp at hx; rw [hx]; exact r3
      · simp only; omega
      · simp only; omega
      · simp only; omega
    clear ih
    have v1 : ¬ B2 + 1 = M := by omega
    have v2 : ¬ B2 + 1 = D := by omega
    have v3 : ¬ B1 = M := by omega
    have v4 : ¬ B1 = D := by omega
    have v5 : ¬ B = M := by omega
    have v6 : ¬ B = D := by omega
    have v7 : ¬ id = M := by omega
    have v8 : ¬ id = D := by omega
    have v9 : ¬ B2 + 1 = B1 := by omega
    have v10 : ¬ B = B1 := by omega
    have v11 : ¬ id = B2 + 2 := by omega
    have v12 : ¬ D = B2 + 2 := by omega
    have v13 : ¬ M = B2 + 2 := by omega
    have v14 : ¬ B = B2 + 2 := by omega
    have v15 : ¬ B1 = B2 + 2 := by omega
    have v16 : ¬ B2 + 2 = B1 := by omega
    have v17 : ¬ D = B1 := by omega
    have v18 : ¬ M = B1 := by omega
    have v19 : ¬ id = B1 := by omega
    have hb64 : (evs.length + 1) * 64 ≤ 140737488355328 := by omega
    have hEv : ¬ evs.map encEv = [] → ¬ Ev = B2 + 1 := fun _ => by omega
    have w0 : ¬ id = Ev := by omega
    have w1 : ¬ D = Ev := by omega
    have w2 : ¬ M = Ev := by omega
    have w3 : ¬ B = Ev := by omega
    have w4 : ¬ B1 = Ev := by omega
    have w5 : ¬ B2 = Ev := by omega
    by_cases hnm : newMem e ev
    · have h67 := n67 D M o8 (B2 + 2) (by omega) (by omega) e ev o5 hnm (B2 + 2) (Nat.le_refl _)
      have hdk := evE_disk_rd e ev hnm
      generalize evE e ev = e2 at h67 hdk next hinv hfold
      simp only [encEv] at h67
      by_cases h0 : evs.map encEv = []
      · simp [h0, outV, encEv, g5, t1, t12]
        refine callw_mkh h67 (by simp [ebl, g2, g3, t3, t4, t9, t10, pgs]) ?_
        simp [t1, t12, g5, v15, wn]
        refine next D (B2 + 2) (B2 + 3) _ _ (by omega) (by omega) (.inl rfl) (.inr ⟨by omega, by omega⟩) (by simp [outV, h0]) ?_
        refine hpP_sub (by simp [v11, v19, t2, t8, g1]) (by simp [v12, v17, t3, t9, g2, hdk]) (by simp [v16, pgs]) (by simp [v14, v10, t5, t11, g4]) (by simp) (by simp [v9, h0, encEv])
      · have g6' := g6 h0
        have h0' : ¬ evs = [] := by simpa using h0
        simp [h0, h0', outV, encEv, g5, t1, t12, t6, g6', hb64, w4, w5, Ne.symm (hEv h0)]
        refine callw_mkh h67 (by simp [ebl, g2, g3, t3, t4, t9, t10, w1, w2, pgs]) ?_
        simp [t1, t12, g5, v15, wn, w4]
        refine next D (B2 + 2) (B2 + 3) _ _ (by omega) (by omega) (.inl rfl) (.inr ⟨by omega, by omega⟩) (by simp [outV]) ?_
        refine hpP_sub (by simp [v11, v19, t2, t8, g1, w0]) (by simp [v12, v17, t3, t9, g2, hdk, w1]) (by simp [v16, pgs]) (by simp [v14, v10, t5, t11, g4, w3]) (by simp) (by simp [v9, encEv])
    · have h67 := t67 D M o8 (B2 + 2) (by omega) (by omega) e ev o5 (by omega) hnm
      generalize evE e ev = e2 at h67 next hinv hfold
      simp only [encEv] at h67
      by_cases h0 : evs.map encEv = []
      · simp [h0, outV, encEv, g5, t1, t12]
        refine callw_eng h67 (by omega) (by simp [g2, t3, t9, pgs]) (by simp [g3, t4, t10, pgs]) ?_
        simp [t1, t12, g5, v3, v4, wn]
        refine next D M (B2 + 2) _ _ (by omega) o8 (.inl rfl) (.inl rfl) (by simp [outV, h0]) ?_
        refine hpP_sub (by simp [v7, v8, v19, t2, t8, g1]) (by simp [o8, v17]) (by simp [v18]) (by simp [v5, v6, v10, t5, t11, g4]) (by simp) (by simp [v9, v1, v2, h0, encEv])
      · have g6' := g6 h0
        have h0' : ¬ evs = [] := by simpa using h0
        simp [h0, h0', outV, encEv, g5, t1, t12, t6, g6', hb64, w4, w5, Ne.symm (hEv h0)]
        refine callw_eng h67 (by omega) (by simp [g2, t3, t9, w1, pgs]) (by simp [g3, t4, t10, w2, pgs]) ?_
        simp [t1, t12, g5, v3, v4, wn, w4]
        refine next D M (B2 + 2) _ _ (by omega) o8 (.inl rfl) (.inl rfl) (by simp [outV]) ?_
        refine hpP_sub (by simp [v7, v8, v19, t2, t8, g1, w0]) (by simp [o8, v17]) (by simp [v18]) (by simp [v5, v6, v10, t5, t11, g4, w3]) (by simp) (by simp [v9, v1, v2, encEv])

end Go.Proofs.YtnaafbdgkmlnaaaGreat

/- Functions: a page is drawn. -/
namespace Go.Proofs.YtnaafbdgkmlnaaaGreat
set_option linter.unusedVariables false
set_option linter.unusedSimpArgs false
set_option linter.unnecessarySimpa false
set_option maxRecDepth 20000
set_option maxHeartbeats 4000000

theorem rdH_id {id : Nat} {bs : List Int} {p : Nat} : rdH id bs p id = some (rdB bs p) := by simp [rdH]
theorem rdH_none {id i : Nat} {bs : List Int} {p : Nat} (h : i ≠ id) : rdH id bs p i = none := by simp [rdH, h]

theorem fz_outV {S : Nat → Prop} {H : Hp} {id e sz : Nat} {rows : List (List AV)} (hS : S id) (hH : ¬ rows = [] → H id = some ⟨e, sz, rows⟩) : Fz S H (outV id sz rows) (.sl sz rows) := by
  unfold outV
  split
  · rename_i h; rw [h]; exact .nils sz
  · rename_i h
    refine .ref id sz 0 _ _ _ hS (hH h) rfl (by simp) rfl (fun j r r' a b => ?_) (fun j c x y hx hy => ?_)
    · rw [Nat.zero_add] at a; simp only at a; rw [a] at b; cases b; rfl
    · rw [Nat.zero_add] at hx; simp only at hx; rw [hx] at hy; cases hy; exact .same _

theorem a115 (id : Nat) (bs : List Int) (p : Nat) (hb : BsOk bs) (hp : p ≤ 90000) (B : Nat) (hid : id < B) : ACalls PP 115 [.pe id 2 0] (rdH id bs p) B (fun v H' B' => QPlay id bs p B v H' B') := by
  refine (q115 id bs p hb hp B hid).fin fun v H' B' hlt ⟨p', evs, e, D, M, Lg, Ev, r1, r2, r3, r4, r5, r6, r7, r8, r9, r10, r11, r12, r13, r14, r15, r16, r17, r18, r19, r20, r21, r22⟩ => ?_
  refine ⟨fun i => i = Ev, .tup [.sl 6 (evs.map encEv), .agg (encW D M Lg e)], hpW (rdH id bs p') D M Lg e, ?_, ?_, p', evs, e, D, M, Lg, r1, r2, r3, r4, r5, r6, r7, r8, r9, hlt _ _ r19, hlt _ _ r20, fun h => hlt _ _ (r21 (by simpa using h)), r10, r11, r12, rfl, rfl⟩
  · rw [r17]
    exact Fz.tup' (.cons (fz_outV rfl r22) (.cons (.same _) .nil))
  · intro i k hk
    have hs := hpW_sub (H := H') (rdH_sub r18) r19 r20 r21 i k hk
    refine ⟨fun q => ?_, hs⟩
    have hq : i = Ev := q
    rw [hq, hpW_ne r14 r15 r16, rdH_none r13] at hk
    cases hk

theorem c121N : Mk1 121 [] (pgV pgNew) 3 1 (ints [0, 0, 0]) := by
  refine mk1_of (fun B id h => pgV_ren pgNew _ B id h) (ints_rows _) fun B => ?_
  refine acallsF (Mu [1]) Tryz.func121 (by kernel_rfl) fun hlt => ?_
  simp [Tryz.f121, pgV, pgNew]
  exact ⟨B + 1, by omega, rfl, by simp [ints]⟩

/-- A page that is drawn. -/
def drVal (bs : List Int) (i : Nat) (s : Nat × List Int) : Nat × List Int := if 0 < pickV bs s.1 3 then (s.1 + 2, s.2.set i (pickV bs (s.1 + 1) 10)) else (s.1 + 1, s.2)
def drVals (bs : List Int) (p : Nat) : Nat → Nat × List Int
  | 0 => (p, [0, 0, 0])
  | n + 1 => drVal bs n (drVals bs p n)
def drOwn (bs : List Int) (p : Nat) : Nat × Int × List Int := if 0 < pickV bs (p + 1) 4 then ((drVals bs (p + 3) 3).1, 1 + pickV bs (p + 2) 3, (drVals bs (p + 3) 3).2) else (p + 2, 0, [0, 0, 0])
def drEnd (bs : List Int) (l o : Int) (v : List Int) (p : Nat) : Nat × Pg :=
  if pickV bs p 24 = 0 then (p + 2, ⟨l, pickV bs (p + 1) 6 - 1, v⟩)
  else if pickV bs p 24 = 1 then (p + 3, ⟨l, o, v.set (pickV bs (p + 1) 3).toNat (pickV bs (p + 2) 13 - 1)⟩)
  else if pickV bs p 24 = 2 then (p + 1, ⟨l, o, v.drop 1⟩)
  else (p + 1, ⟨l, o, v⟩)
def drPage (bs : List Int) (p : Nat) : Nat × Pg := drEnd bs (pickV bs p 12) (drOwn bs p).2.1 (drOwn bs p).2.2 (drOwn bs p).1

theorem drVals_ok (bs : List Int) (p : Nat) : ∀ n, p ≤ (drVals bs p n).1 ∧ (drVals bs p n).1 ≤ p + 2 * n ∧ (drVals bs p n).2.length = 3
  | 0 => ⟨Nat.le_refl _, by simp [drVals], rfl⟩
  | n + 1 => by
    obtain ⟨h1, h2, h3⟩ := drVals_ok bs p n
    simp only [drVals, drVal]
    split
    · exact ⟨by simp only; omega, by simp only; omega, by simp [h3]⟩
    · exact ⟨by simp only; omega, by simp only; omega, h3⟩
theorem drOwn_ok (bs : List Int) (p : Nat) : p + 2 ≤ (drOwn bs p).1 ∧ (drOwn bs p).1 ≤ p + 9 ∧ (drOwn bs p).2.2.length = 3 := by
  obtain ⟨h1, h2, h3⟩ := drVals_ok bs (p + 3) 3
  unfold drOwn
  split
  · exact ⟨by simp only; omega, by simp only; omega, h3⟩
  · exact ⟨by simp only; omega, by simp only; omega, rfl⟩
theorem drEnd_ok (bs : List Int) (l o : Int) (v : List Int) (p : Nat) (hv : v.length = 3) : p ≤ (drEnd bs l o v p).1 ∧ (drEnd bs l o v p).1 ≤ p + 3 ∧ (drEnd bs l o v p).2.vals.length ≤ 3 := by
  unfold drEnd
  split
  · exact ⟨by simp only; omega, by simp only; omega, by simp [hv]⟩
  split
  · exact ⟨by simp only; omega, by simp only; omega, by simp [hv]⟩
  split
  · exact ⟨by simp only; omega, by simp only; omega, by simp [hv]⟩
  · exact ⟨by simp only; omega, by simp only; omega, by simp [hv]⟩
theorem drPage_ok (bs : List Int) (p : Nat) : p ≤ (drPage bs p).1 ∧ (drPage bs p).1 ≤ p + 12 ∧ (drPage bs p).2.vals.length ≤ 3 := by
  obtain ⟨h1, h2, h3⟩ := drOwn_ok bs p
  obtain ⟨k1, k2, k3⟩ := drEnd_ok bs (pickV bs p 12) (drOwn bs p).2.1 (drOwn bs p).2.2 (drOwn bs p).1 h3
  unfold drPage
  exact ⟨by omega, by omega, k3⟩

theorem callw_pickF {id p B : Nat} {bs : List Int} {n : Int} {H : Hp} {K : AV → Hp → Nat → Prop} (hb : BsOk bs) (hp : p ≤ 1000000) (hH : H id = some (rdB bs p))
    (k : K (I64 (pickV bs p n)) (H.set id (rdB bs (p + 1))) B) : CallW 76 [.pe id 2 0, I64 n] H B K :=
  .inl ⟨_, _, _, 0, c76 id bs p n hb hp, Nat.zero_le _, by simp [hH], k⟩
theorem calld_pickF {id p B : Nat} {bs : List Int} {n : Int} {H : Hp} {K : AV → Hp → Nat → Info → Prop} (hb : BsOk bs) (hp : p ≤ 1000000) (hH : H id = some (rdB bs p))
    (k : K (I64 (pickV bs p n)) (H.set id (rdB bs (p + 1))) B ⟨[id], [id], false, false, 0⟩) : CallD 76 [.pe id 2 0, I64 n] H B K :=
  .inl ⟨_, _, _, 0, c76 id bs p n hb hp, Nat.zero_le _, by simp [hH], k⟩

def QPg (id : Nat) (bs : List Int) (p' : Nat) (pg : Pg) (v : AV) (H' : Hp) : Prop := ∃ V rows off, V ≠ id ∧ v = .agg [I64 pg.lsn, I64 pg.owner, .ref V 1 off pg.vals.length] ∧ H' V = some ⟨3, 1, ints rows⟩ ∧ rows.drop off = pg.vals ∧ off + pg.vals.length ≤ rows.length ∧ H' id = some (rdB bs p')

noncomputable def rest197 : Code := sq2 (sq2 (sq2 (sq2 (bodyOf Tryz.f197))))
def Q197 (id : Nat) (bs : List Int) (p' : Nat) (pg : Pg) : QT := fun x F H B => (x = .normal ∨ x = .ret) ∧ ∃ v, resAV Tryz.f197.results F H = some v ∧ QPg id bs p' pg v H

theorem k197 (id : Nat) (bs : List Int) (p B : Nat) (hb : BsOk bs) (hp : p ≤ 200000) (hid : id < B) (l o : Int) (v : List Int) (hv : v.length = 3) (F : Fr) (H : Hp) (Bx : Nat) (F0 : F 0 = .pe id 2 0) (F2 : F 2 = .pe B 3 0) (F3 : F 3 = .pe (B + 2) 3 0)
    (HI : H id = some (rdB bs p)) (HB : ∃ r, H B = some ⟨38, 3, [r]⟩) (HP : H (B + 2) = some ⟨38, 3, [[I64 l, I64 o, .ref (B + 1) 1 0 3]]⟩) (HV : H (B + 1) = some ⟨3, 1, ints v⟩) :
    AWP PP 60 rest197 F H Bx (Q197 id bs (drEnd bs l o v p).1 (drEnd bs l o v p).2) := by
  obtain ⟨r, HB⟩ := HB
  have n1 : ¬ id = B := by omega
  have n2 : ¬ B = id := by omega
  have n3 : ¬ id = B + 1 := by omega
  have n4 : ¬ B + 1 = id := by omega
  have n5 : ¬ id = B + 2 := by omega
  have n6 : ¬ B + 2 = id := by omega
  have n7 : ¬ B = B + 2 := by omega
  have n8 : ¬ B + 1 = B + 2 := by omega
  have n9 : ¬ B + 2 = B + 1 := by omega
  have n10 : ¬ B + 1 = B := by omega
  refine wpC_sound M3 _ _ _ _ _ (by kernel_rfl) ?_
  simp [rest197, sq2, Tryz.f197, F0, F2, F3]
  refine callw_pickF (p := p) hb (by omega) HI ?_
  simp [F0, F2, F3]
  refine gC (fun c1 => ?_) (fun c1 => ?_) <;> simp at c1 <;> simp [c1, F0, F2, F3]
  · have hpk := pickV_in hb (p + 1) (n := 6) (by decide)
    have w1 := w64 (pickV bs (p + 1) 6 - 1) (by omega) (by omega)
    refine callw_pickF (p := p + 1) hb (by omega) (by simp) ?_
    simp [w1, HP, n6, F0, F2, F3, HB, n2, n7]
    have he : drEnd bs l o v p = (p + 2, ⟨l, pickV bs (p + 1) 6 - 1, v⟩) := by rw [drEnd, if_pos c1]
    rw [he]
    simp [Q197, Tryz.f197, F2]
    exact ⟨B + 1, v, 0, n4, by simp [hv], by simp [n4, n8, n10, HV], by simp, by simp, by simp [n1, n5]⟩
  have hw0 := w64 (0 : Int) (by omega) (by omega)
  refine gC (fun c2 => ?_) (fun c2 => ?_) <;> simp at c2 <;> simp [c2, F0, F2, F3]
  · have hpk := pickV_in hb (p + 1) (n := 3) (by decide)
    have hpk2 := pickV_in hb (p + 2) (n := 13) (by decide)
    have w1 := w64 (pickV bs (p + 2) 13 - 1) (by omega) (by omega)
    simp [HP, n6]
    refine calld_pickF (p := p + 1) hb (by omega) (by simp) ?_
    simp [F0, F2, F3]
    refine calld_pickF (p := p + 2) hb (by omega) (by simp) ?_
    have hlt : (pickV bs (p + 1) 3).toNat < v.length := by omega
    simp [w1, HP, HV, n4, n6, F0, F2, F3, HB, n2, n7, hpk.1, hpk.2, hlt]
    refine ⟨chkW_tk [B + 2, id, B + 1] [⟨[], [], false⟩, ⟨[0], [], false⟩, ⟨[], [], false⟩, ⟨[], [], false⟩, ⟨[0], [], false⟩, ⟨[], [], false⟩, ⟨[1], [1], false⟩, ⟨[], [], false⟩, ⟨[1], [1], false⟩, ⟨[], [], false⟩, ⟨[], [], false⟩, ⟨[2], [2], false⟩] (by simp [n3, n4, n5, n6]) rfl (by kernel_rfl), ?_⟩
    have he : drEnd bs l o v p = (p + 3, ⟨l, o, v.set (pickV bs (p + 1) 3).toNat (pickV bs (p + 2) 13 - 1)⟩) := by rw [drEnd, if_neg c1, if_pos c2]
    rw [he]
    simp [Q197, Tryz.f197, F2]
    exact ⟨B + 1, v.set (pickV bs (p + 1) 3).toNat (pickV bs (p + 2) 13 - 1), 0, n4, by simp [hv], by simp [n4, n8, n10, ← set3], by simp, by simp, by simp [n1, n3, n5]⟩
  · refine gC (fun c3 => ?_) (fun c3 => ?_) <;> simp at c3 <;> simp [c3, F0, F2, F3]
    · simp [HP, n6, F0, F2, F3, HB, n2, n7]
      have he : drEnd bs l o v p = (p + 1, ⟨l, o, v.drop 1⟩) := by rw [drEnd, if_neg c1, if_neg c2, if_pos c3]
      rw [he]
      simp [Q197, Tryz.f197, F2]
      exact ⟨B + 1, v, 1, n4, by simp [hv], by simp [n4, n8, n10, HV], by simp, by simp; omega, by simp [n1, n5]⟩
    · simp [HP, n6, F0, F2, F3, HB, n2, n7]
      have he : drEnd bs l o v p = (p + 1, ⟨l, o, v⟩) := by rw [drEnd, if_neg c1, if_neg c2, if_neg c3]
      rw [he]
      simp [Q197, Tryz.f197, F2]
      exact ⟨B + 1, v, 0, n4, by simp [hv], by simp [n4, n8, n10, HV], by simp, by simp, by simp [n1, n5]⟩

theorem q197 (id : Nat) (bs : List Int) (p : Nat) (hb : BsOk bs) (hp : p ≤ 100000) (B : Nat) (hid : id < B) : ACalls PP 197 [.pe id 2 0] (rdH id bs p) B (fun v H' B' => QPg id bs (drPage bs p).1 (drPage bs p).2 v H') := by
  have HI : rdH id bs p id = some (rdB bs p) := rdH_id
  generalize rdH id bs p = H0 at HI ⊢
  have n1 : ¬ id = B := by omega
  have n2 : ¬ B = id := by omega
  have n3 : ¬ id = B + 1 := by omega
  have n4 : ¬ B + 1 = id := by omega
  have n5 : ¬ id = B + 2 := by omega
  have n6 : ¬ B + 2 = id := by omega
  have n7 : ¬ B = B + 2 := by omega
  have n8 : ¬ B + 1 = B + 2 := by omega
  have n9 : ¬ B + 2 = B + 1 := by omega
  refine acalls_of (fn := Tryz.f197) (cd := .seq (sq1 (bodyOf Tryz.f197)) (.seq (sq1 (sq2 (bodyOf Tryz.f197))) (.seq (sq1 (sq2 (sq2 (bodyOf Tryz.f197)))) (.seq (sq1 (sq2 (sq2 (sq2 (bodyOf Tryz.f197))))) rest197)))) (by kernel_rfl) (by kernel_rfl) (by simp [Tryz.f197]) ?_
  change AWP PP _ _ _ _ _ (Q197 id bs (drPage bs p).1 (drPage bs p).2)
  have key := fun p' hp' o v hv F H Bx => k197 id bs p' B hb hp' hid (pickV bs p 12) o v hv F H Bx
  obtain ⟨o1, o2, o3⟩ := drOwn_ok bs p
  generalize rest197 = rst at key ⊢
  refine awp_seq (wpC_sound M3 _ _ _ _ _ (by kernel_rfl) ?_)
  simp [sq1, Tryz.f197]
  refine awp_seq (wpC_sound M3 _ _ _ _ _ (by kernel_rfl) ?_)
  simp [sq1, sq2, Tryz.f197]
  refine callw_mk c121N ?_
  simp [pgV, pgNew]
  refine awp_seq (wpC_sound M3 _ _ _ _ _ (by kernel_rfl) ?_)
  simp [sq1, sq2, Tryz.f197]
  refine callw_pickF (p := p) hb (by omega) (by simp [HI, n1, n3, n5]) ?_
  simp [n3, n4, n5, n6]
  refine awp_seq (wpC_sound M3 _ _ _ _ _ (by kernel_rfl) ?_)
  simp [sq1, sq2, Tryz.f197]
  refine callw_pickF (p := p + 1) hb (by omega) (by simp [n1, n3, n5]) ?_
  simp
  refine gC (fun c1 => ?_) (fun c1 => ?_) <;> simp [-Int.not_le, -Int.not_lt] at c1 <;> simp
  · have ho : drOwn bs p = ((drVals bs (p + 3) 3).1, 1 + pickV bs (p + 2) 3, (drVals bs (p + 3) 3).2) := by rw [drOwn, if_pos c1]
    have hpk := pickV_in hb (p + 2) (n := 3) (by decide)
    have w1 := w64 (1 + pickV bs (p + 2) 3) (by omega) (by omega)
    refine callw_pickF (p := p + 2) hb (by omega) (by simp [n1, n3, n5]) ?_
    simp [w1, n6]
    refine aloop_ind (ι := Nat) (fun i => 3 - i) (fun i => i ≤ 3) (fun i => [(0, .pe id 2 0), (2, .pe B 3 0), (3, .pe (B + 2) 3 0), (4, I64 i)]) (fun i => (((rdH id bs (drVals bs (p + 3) i).1).set B ⟨38, 3, [[I64 0, I64 0, .nils]]⟩).set (B + 1) ⟨3, 1, ints (drVals bs (p + 3) i).2⟩).set (B + 2) ⟨38, 3, [[I64 (pickV bs p 12), I64 (1 + pickV bs (p + 2) 3), .ref (B + 1) 1 0 3]]⟩) (fun i => B + 3) 0 (by simp) (by simp) ?_ (by simp) ?_
    · intro i k hk
      simp only [rdH, drVals, Hp.set_app, Hp.nil_app] at hk
      split at hk
      · rename_i q; rw [← hk]; simp [q, n6, n9]
      split at hk
      · rename_i q; rw [← hk, q]; simp [n4, n8, ints]
      split at hk
      · rename_i q; rw [← hk, q]; simp [n2, n7]
      split at hk
      · rename_i q; rw [← hk, q]; simp [n1, n3, n5]
      · cases hk
    rintro A n hn ih
    obtain ⟨v1, v2, v3⟩ := drVals_ok bs (p + 3) n
    refine wpC_sound M3 _ _ _ _ _ (by kernel_rfl) ?_
    have hst : drVals bs (p + 3) (n + 1) = drVal bs n (drVals bs (p + 3) n) := rfl
    obtain ⟨⟨pn, vn⟩, hs⟩ : ∃ s, s = drVals bs (p + 3) n := ⟨_, rfl⟩
    rw [← hs] at v1 v2 v3 hst ⊢
    simp only at v1 v2 v3
    simp [cond_dec]
    constructor
    · intro hlt'
      have wn := w64 ((n : Int) + 1) (by omega) (by omega)
      refine callw_pickF (p := pn) hb (by omega) (by simp [rdH, n1, n3, n5]) ?_
      simp
      refine gC (fun c2 => ?_) (fun c2 => ?_) <;> simp [-Int.not_le, -Int.not_lt] at c2 <;> simp [wn]
      · have hd2 : drVals bs (p + 3) (n + 1) = (pn + 2, vn.set n (pickV bs (pn + 1) 10)) := by rw [hst, drVal, if_pos c2]
        have hlt2 : n < 3 := by omega
        simp [n6, n8, n9]
        refine calld_pickF (p := pn + 1) hb (by omega) (by simp) ?_
        simp [hlt', wn, n4, n8, n9, v3, hlt2]
        refine ⟨chkW_tk [B + 2, id, B + 1] [⟨[], [], false⟩, ⟨[0], [], false⟩, ⟨[], [], false⟩, ⟨[], [], false⟩, ⟨[1], [1], false⟩, ⟨[], [], false⟩, ⟨[2], [2], false⟩] (by simp [n3, n4, n5, n6]) rfl (by kernel_rfl), ?_⟩
        refine ih (n + 1) _ _ _ (by omega) (by omega) (by simp) ?_ (Nat.le_refl _)
        rw [hd2]
        intro i k hk
        simp only [rdH, Hp.set_app, Hp.nil_app] at hk
        split at hk
        · rename_i q; rw [← hk]; simp [q, n6, n9]
        split at hk
        · rename_i q; rw [← hk, q]; simp [n4, n8, ← set3]
        split at hk
        · rename_i q; rw [← hk, q]; simp [n2, n7]
        split at hk
        · rename_i q; rw [← hk, q]; simp [n1, n3, n5]
        · cases hk
      · have hd2 : drVals bs (p + 3) (n + 1) = (pn + 1, vn) := by rw [hst, drVal, if_neg c2]
        refine ih (n + 1) _ _ _ (by omega) (by omega) (by simp) ?_ (Nat.le_refl _)
        rw [hd2]
        intro i k hk
        simp only [rdH, Hp.set_app, Hp.nil_app] at hk
        split at hk
        · rename_i q; rw [← hk]; simp [q, n6, n9]
        split at hk
        · rename_i q; rw [← hk, q]; simp [n4, n8]
        split at hk
        · rename_i q; rw [← hk, q]; simp [n2, n7]
        split at hk
        · rename_i q; rw [← hk, q]; simp [n1, n3, n5]
        · cases hk
    · intro hge
      obtain rfl : n = 3 := by omega
      rw [drPage, ho, ← hs]
      refine key pn (by omega) _ vn v3 _ _ _ (by simp) (by simp) (by simp) ?_ ⟨[I64 0, I64 0, .nils], ?_⟩ ?_ ?_
      all_goals simp [rdH, n1, n2, n3, n4, n5, n6, n7, n8, n9]
  · have ho : drOwn bs p = (p + 2, 0, [0, 0, 0]) := by rw [drOwn, if_neg c1]
    rw [drPage, ho]
    refine key (p + 2) (by omega) 0 [0, 0, 0] rfl _ _ _ (by simp) (by simp) (by simp) ?_ ⟨[I64 0, I64 0, .nils], ?_⟩ ?_ ?_
    all_goals simp [n1, n2, n3, n4, n5, n6, n7, n8, n9, ints]

/-- A page is drawn; its values are written no more. -/
theorem c197 (id Bm : Nat) (hid : id < Bm) (bs : List Int) (p : Nat) (hb : BsOk bs) (hp : p ≤ 100000) : Told 197 [.pe id 2 0] [(id, rdB bs p)] [(id, rdB bs (drPage bs p).1)] Bm (.agg (encP (drPage bs p).2)) where
  call := fun B hB => by
    have e : Hp.of [(id, rdB bs p)] = rdH id bs p := rfl
    rw [e]
    refine (q197 id bs p hb hp B (by omega)).fin fun v H' B' hlt ⟨V, rows, off, h1, h2, h3, h4, h5, h6⟩ => ⟨fun i => i = V, .agg (encP (drPage bs p).2), rdH id bs (drPage bs p).1, ?_, ?_, rfl, by simp [rdH]⟩
    · rw [h2]
      refine Fz.agg' (.cons (.same _) (.cons (.same _) (.cons ?_ .nil)))
      have hg : ∀ j, (ints (drPage bs p).2.vals)[j]? = (ints rows)[off + j]? := fun j => by simp [ints, ← h4, List.getElem?_drop]
      refine .ref V 1 off _ _ _ rfl h3 rfl (by simpa using h5) (by simp) (fun j r r' a b => ?_) (fun j c x y hx hy => ?_)
      · rw [hg] at b; simp only at a; rw [a] at b; cases b; rfl
      · have e2 : at2 (ints (drPage bs p).2.vals) j c = at2 (ints rows) (off + j) c := by simp only [at2]; rw [hg]
        rw [e2] at hy; simp only at hx; rw [hx] at hy; cases hy; exact .same _
    · intro i k hk
      refine ⟨fun q => ?_, rdH_sub h6 i k hk⟩
      have hq : i = V := q
      rw [hq, rdH_none h1] at hk
      cases hk
  keys := by simp
  lt := by simp only [AV.lt]; exact lt_page _ _
  rows := by simp [rdB_lt]
  nd := by simp [Hp.of]
  all := by simp

end Go.Proofs.YtnaafbdgkmlnaaaGreat

/- Functions: a record is drawn. -/
namespace Go.Proofs.YtnaafbdgkmlnaaaGreat
set_option linter.unusedVariables false
set_option linter.unusedSimpArgs false
set_option linter.unnecessarySimpa false
set_option maxRecDepth 20000
set_option maxHeartbeats 4000000

def QRec (id : Nat) (bs : List Int) (p : Nat) (v : AV) (H' : Hp) : Prop := ∃ p' r, p ≤ p' ∧ p' ≤ p + 20 ∧ v = .agg (encR r) ∧ H' id = some (rdB bs p')
theorem QRec.of {id : Nat} {bs : List Int} {p p' : Nat} {H : Hp} {a b c d e f g h : Int} (h0 : p ≤ p') (h1 : p' ≤ p + 20) (h2 : H id = some (rdB bs p')) : QRec id bs p (.agg [I64 a, I64 b, I64 c, I64 d, I64 e, I64 f, I64 g, I64 h]) H :=
  ⟨p', ⟨a, b, c, d, e, f, g, h⟩, h0, h1, rfl, h2⟩
noncomputable def rest212 : Code := sq2 (sq2 (sq2 (bodyOf Tryz.f212)))
def Q212 (id : Nat) (bs : List Int) (p : Nat) : QT := fun x F H B => (x = .normal ∨ x = .ret) ∧ ∃ v, resAV Tryz.f212.results F H = some v ∧ QRec id bs p v H

theorem k212 (id : Nat) (bs : List Int) (p0 p B : Nat) (hb : BsOk bs) (hp : p ≤ 200000) (h0 : p0 ≤ p) (h1 : p ≤ p0 + 10) (hid : id < B) (a b c d e f g h : Int) (F : Fr) (H : Hp) (Bx : Nat) (F0 : F 0 = .pe id 2 0) (F2 : F 2 = .pe B 8 0) (F3 : F 3 = .pe (B + 1) 8 0)
    (HI : H id = some (rdB bs p)) (HB : ∃ r, H B = some ⟨71, 8, [r]⟩) (HP : H (B + 1) = some ⟨71, 8, [[I64 a, I64 b, I64 c, I64 d, I64 e, I64 f, I64 g, I64 h]]⟩) :
    AWP PP 87 rest212 F H Bx (Q212 id bs p0) := by
  obtain ⟨r, HB⟩ := HB
  have n1 : ¬ id = B := by omega
  have n2 : ¬ B = id := by omega
  have n3 : ¬ id = B + 1 := by omega
  have n4 : ¬ B + 1 = id := by omega
  have n5 : ¬ B + 1 = B := by omega
  refine wpC_sound M3 _ _ _ _ _ (by kernel_rfl) ?_
  simp [rest212, sq2, Tryz.f212, F0, F2, F3]
  refine callw_pick (p := p) hb (by omega) (by decide) HI fun x x0 x1 => ?_
  simp [F0, F2, F3]
  refine gC (fun c0 => ?_) (fun c0 => ?_) <;> simp at c0 <;> simp [c0, F0, F2, F3]
  · refine callw_pick (p := p + 1) hb (by omega) (by decide) (by simp) fun y y0 y1 => ?_
    have w1 := w64 (y - 1) (by omega) (by omega)
    simp [w1, HP, HB, n2, n4, n5, F0, F2, F3]
    simp [Q212, Tryz.f212, F2]
    exact QRec.of (p' := p + 2) (by omega) (by omega) (by simp [n1, n3])
  refine gC (fun c1 => ?_) (fun c1 => ?_) <;> simp at c1 <;> simp [c1, F0, F2, F3]
  · refine callw_pick (p := p + 1) hb (by omega) (by decide) (by simp) fun y y0 y1 => ?_
    have w1 := w64 (y - 2) (by omega) (by omega)
    simp [w1, HP, HB, n2, n4, n5, F0, F2, F3]
    simp [Q212, Tryz.f212, F2]
    exact QRec.of (p' := p + 2) (by omega) (by omega) (by simp [n1, n3])
  refine gC (fun c2 => ?_) (fun c2 => ?_) <;> simp at c2 <;> simp [c2, F0, F2, F3]
  · refine callw_pick (p := p + 1) hb (by omega) (by decide) (by simp) fun y y0 y1 => ?_
    have w1 := w64 (y - 1) (by omega) (by omega)
    simp [w1, HP, HB, n2, n4, n5, F0, F2, F3]
    simp [Q212, Tryz.f212, F2]
    exact QRec.of (p' := p + 2) (by omega) (by omega) (by simp [n1, n3])
  refine gC (fun c3 => ?_) (fun c3 => ?_) <;> simp at c3 <;> simp [c3, F0, F2, F3]
  · refine callw_pick (p := p + 1) hb (by omega) (by decide) (by simp) fun y y0 y1 => ?_
    simp [HP, HB, n2, n4, n5, F0, F2, F3]
    simp [Q212, Tryz.f212, F2]
    exact QRec.of (p' := p + 2) (by omega) (by omega) (by simp [n1, n3])
  · simp [HP, HB, n2, n4, n5, F0, F2, F3]
    simp [Q212, Tryz.f212, F2]
    exact QRec.of (p' := p + 1) (by omega) (by omega) (by simp [n1, n3])

theorem q212 (id : Nat) (bs : List Int) (p : Nat) (hb : BsOk bs) (hp : p ≤ 100000) (B : Nat) (hid : id < B) : ACalls PP 212 [.pe id 2 0] (rdH id bs p) B (fun v H' B' => QRec id bs p v H') := by
  have HI : rdH id bs p id = some (rdB bs p) := rdH_id
  generalize rdH id bs p = H0 at HI ⊢
  have n1 : ¬ id = B := by omega
  have n2 : ¬ B = id := by omega
  have n3 : ¬ id = B + 1 := by omega
  have n4 : ¬ B + 1 = id := by omega
  have n5 : ¬ B + 1 = B := by omega
  refine acalls_of (fn := Tryz.f212) (cd := .seq (sq1 (bodyOf Tryz.f212)) (.seq (sq1 (sq2 (bodyOf Tryz.f212))) (.seq (sq1 (sq2 (sq2 (bodyOf Tryz.f212)))) rest212))) (by kernel_rfl) (by kernel_rfl) (by simp [Tryz.f212]) ?_
  change AWP PP _ _ _ _ _ (Q212 id bs p)
  have key := fun p' hp' h0 h1 a b c d e f g h F H Bx => k212 id bs p p' B hb hp' h0 h1 hid a b c d e f g h F H Bx
  generalize rest212 = rst at key ⊢
  refine awp_seq (wpC_sound M3 _ _ _ _ _ (by kernel_rfl) ?_)
  simp [sq1, Tryz.f212]
  refine awp_seq (wpC_sound M3 _ _ _ _ _ (by kernel_rfl) ?_)
  simp [sq1, sq2, Tryz.f212]
  refine callw_pick (p := p) hb (by omega) (by decide) (by simp [HI, n1]) fun x x0 x1 => ?_
  have w1 := w64 (1 + x) (by omega) (by omega)
  simp [w1]
  refine callw_pick (p := p + 1) hb (by omega) (by decide) (by simp) fun y y0 y1 => ?_
  have w2 := w64 (1 + y) (by omega) (by omega)
  simp [w2]
  refine callw_pick (p := p + 2) hb (by omega) (by decide) (by simp) fun z z0 z1 => ?_
  simp
  refine awp_seq (wpC_sound M3 _ _ _ _ _ (by kernel_rfl) ?_)
  simp [sq1, sq2, Tryz.f212]
  have hk : x = 0 ∨ x = 1 ∨ x = 2 ∨ x = 3 ∨ x = 4 ∨ x = 5 := by omega
  rcases hk with rfl | rfl | rfl | rfl | rfl | rfl <;> simp [n4]
  · refine callw_pick (p := p + 3) hb (by omega) (by decide) (by simp [n3, n4]) fun u0 a0 b0 => ?_
    simp [n3, n4]
    refine callw_pick (p := p + 4) hb (by omega) (by decide) (by simp [n3, n4]) fun u1 a1 b1 => ?_
    simp [n3, n4]
    refine callw_pick (p := p + 5) hb (by omega) (by decide) (by simp [n3, n4]) fun u2 a2 b2 => ?_
    simp [n3, n4]
    refine callw_pick (p := p + 6) hb (by omega) (by decide) (by simp [n3, n4]) fun u3 a3 b3 => ?_
    simp [n3, n4]
    refine key (p + 7) (by omega) (by omega) (by omega) 1 (1 + y) u0 u1 u2 u3 z 0 _ _ _ (by simp) (by simp) (by simp) (by simp [n1, n3, n4]) ⟨[I64 0, I64 0, I64 0, I64 0, I64 0, I64 0, I64 0, I64 0], by simp [n2, n4, n5]⟩ (by simp [n4, n5])
  · refine callw_pick (p := p + 3) hb (by omega) (by decide) (by simp [n3, n4]) fun u0 a0 b0 => ?_
    simp [n3, n4]
    refine callw_pick (p := p + 4) hb (by omega) (by decide) (by simp [n3, n4]) fun u1 a1 b1 => ?_
    simp [n3, n4]
    refine callw_pick (p := p + 5) hb (by omega) (by decide) (by simp [n3, n4]) fun u2 a2 b2 => ?_
    simp [n3, n4]
    refine key (p + 6) (by omega) (by omega) (by omega) 2 (1 + y) u0 (-1) u1 u2 z 0 _ _ _ (by simp) (by simp) (by simp) (by simp [n1, n3, n4]) ⟨[I64 0, I64 0, I64 0, I64 0, I64 0, I64 0, I64 0, I64 0], by simp [n2, n4, n5]⟩ (by simp [n4, n5])
  · refine callw_pick (p := p + 3) hb (by omega) (by decide) (by simp [n3, n4]) fun u0 a0 b0 => ?_
    simp [n3, n4]
    refine key (p + 4) (by omega) (by omega) (by omega) 3 (1 + y) u0 0 0 0 z 0 _ _ _ (by simp) (by simp) (by simp) (by simp [n1, n3, n4]) ⟨[I64 0, I64 0, I64 0, I64 0, I64 0, I64 0, I64 0, I64 0], by simp [n2, n4, n5]⟩ (by simp [n4, n5])
  · refine key (p + 3) (by omega) (by omega) (by omega) 4 (1 + y) 0 0 0 0 z 0 _ _ _ (by simp) (by simp) (by simp) (by simp [n1, n3, n4]) ⟨[I64 0, I64 0, I64 0, I64 0, I64 0, I64 0, I64 0, I64 0], by simp [n2, n4, n5]⟩ (by simp [n4, n5])
  · refine key (p + 3) (by omega) (by omega) (by omega) 5 (1 + y) 0 0 0 0 z 0 _ _ _ (by simp) (by simp) (by simp) (by simp [n1, n3, n4]) ⟨[I64 0, I64 0, I64 0, I64 0, I64 0, I64 0, I64 0, I64 0], by simp [n2, n4, n5]⟩ (by simp [n4, n5])
  · refine callw_pick (p := p + 3) hb (by omega) (by decide) (by simp [n3, n4]) fun u0 a0 b0 => ?_
    simp [n3, n4]
    refine callw_pick (p := p + 4) hb (by omega) (by decide) (by simp [n3, n4]) fun u1 a1 b1 => ?_
    have v1 := w64 (u1 - 1) (by omega) (by omega)
    simp [n3, n4, v1]
    refine callw_pick (p := p + 5) hb (by omega) (by decide) (by simp [n3, n4]) fun u2 a2 b2 => ?_
    simp [n3, n4]
    refine callw_pick (p := p + 6) hb (by omega) (by decide) (by simp [n3, n4]) fun u3 a3 b3 => ?_
    simp [n3, n4]
    refine key (p + 7) (by omega) (by omega) (by omega) 6 (1 + y) u0 (u1 - 1) 0 u2 z u3 _ _ _ (by simp) (by simp) (by simp) (by simp [n1, n3, n4]) ⟨[I64 0, I64 0, I64 0, I64 0, I64 0, I64 0, I64 0, I64 0], by simp [n2, n4, n5]⟩ (by simp [n4, n5])

end Go.Proofs.YtnaafbdgkmlnaaaGreat
