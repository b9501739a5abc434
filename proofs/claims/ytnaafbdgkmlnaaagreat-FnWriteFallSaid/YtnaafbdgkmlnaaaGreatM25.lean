/- Laws about the machine's run of the program's functions, part 25, in import order. No condition. -/
import Derived.Test.YtnaafbdgkmlnaaaGreatM20
import Derived.Test.YtnaafbdgkmlnaaaGreatM24

set_option linter.unusedVariables false
set_option linter.unusedSimpArgs false
set_option linter.unnecessarySimpa false
/- Calls told by a relation. Functions: a reader is opened; an engine anew, all of it named. -/
namespace Go.Proofs.YtnaafbdgkmlnaaaGreat
set_option linter.unusedVariables false
set_option linter.unusedSimpArgs false
set_option linter.unnecessarySimpa false
set_option maxRecDepth 20000
set_option maxHeartbeats 4000000

theorem callw_rel {f : FuncId} {args : List AV} {Hs H : Hp} {B : Nat} {Qc : AV → Hp → Nat → Prop} {K : AV → Hp → Nat → Prop} (h : ACalls PP f args Hs B Qc) (hs : ∀ i k, Hs i = some k → H i = some k)
    (k : ∀ v H' B' H2, Qc v H' B' → B ≤ B' → (∀ i k, H' i = some k → H2 i = some k) → (∀ i k, H i = some k → Hs i = none → H' i = none → H2 i = some k) → K v H2 B') : CallW f args H B K :=
  .inr (.inl ⟨Hs, Qc, h, hs, fun v H' B' hq hb => k v H' B' _ hq hb (fun i k hk => by
    unfold Hp.after
    cases Hs i with
    | some _ => exact hk
    | none => simp [hk]) (fun i k hk h1 h2 => by unfold Hp.after; simp [h1, h2, hk])⟩)

/-- The names of a call's heap are below its bound; names may be forgotten, values frozen. -/
theorem ACalls.fin {f : FuncId} {args : List AV} {H : Hp} {B : Nat} {Q Q' : AV → Hp → Nat → Prop} (h : ACalls PP f args H B Q)
    (hq : ∀ v H' B', (∀ i k, H' i = some k → i < B') → Q v H' B' → ∃ S v' H2, Fz S H' v v' ∧ (∀ i k, H2 i = some k → ¬ S i ∧ H' i = some k) ∧ Q' v' H2 B') : ACalls PP f args H B Q' := by
  intro g w vs hs hv
  refine Calls.mono (h g w vs hs hv) fun e w' ⟨cv, v, g', H', B', e1, q, r, s⟩ => ?_
  have hlt : ∀ i k, H' i = some k → i < B' := fun i k h => by
    rcases Nat.lt_or_ge i B' with q | q
    · exact q
    · obtain ⟨b, cs, e1, e2⟩ := s.blk i k h
      rw [s.free i q] at e1
      cases e1
  obtain ⟨S, v', H2, h1, h2, h3⟩ := hq v H' B' hlt q
  exact ⟨cv, v', g'.fz S H', H2, B', e1, h3, h1.rep s.toStC cv r, s.freeze (FzH.sub h2)⟩

def noS : Nat → Prop := fun _ => False

/-- Nothing is frozen. -/
theorem ACalls.only {f : FuncId} {args : List AV} {H : Hp} {B : Nat} {Q Q' : AV → Hp → Nat → Prop} (h : ACalls PP f args H B Q)
    (hq : ∀ v H' B', (∀ i k, H' i = some k → i < B') → Q v H' B' → ∃ H2, (∀ i k, H2 i = some k → H' i = some k) ∧ Q' v H2 B') : ACalls PP f args H B Q' :=
  h.fin fun v H' B' hlt hQ => by
    obtain ⟨H2, h1, h2⟩ := hq v H' B' hlt hQ
    exact ⟨noS, v, H2, .same _, fun i k hk => ⟨fun h => h, h1 i k hk⟩, h2⟩

def rdH (id : Nat) (bs : List Int) (p : Nat) : Hp := Hp.nil.set id (rdB bs p)
theorem rdH_sub {id : Nat} {bs : List Int} {p : Nat} {H : Hp} (h : H id = some (rdB bs p)) : ∀ i k, rdH id bs p i = some k → H i = some k := by
  intro i k hk
  simp only [rdH, Hp.set_app, Hp.nil_app] at hk
  split at hk
  · rename_i q; subst q; rw [h]; exact hk
  · cases hk

theorem a74 (code : List Int) (hl : code.length ≤ 1000000000) (B : Nat) : ACalls PP 74 [bytesAV code] Hp.nil B (fun v H' B' => ∃ id, B ≤ id ∧ id < B' ∧ v = .pe id 2 0 ∧ H' = rdH id (code.take 2000) 0) := by
  have h : ACalls PP 74 [bytesAV code] Hp.nil B (fun v H' B' => v = .pe B 2 0 ∧ H' B = some (rdB (code.take 2000) 0)) := by
    refine acallsF (Mu [10]) Tryz.func74 (by kernel_rfl) fun hlt => ?_
    simp [Tryz.f74, bytesAV]
    refine gC (fun c1 => ?_) (fun c1 => ?_) <;> simp at c1 <;> simp
    · have h1 : (2000 : Int) ≤ code.length := by omega
      simp [h1, rdB, bytesAV]
    · have h1 : code.take 2000 = code := List.take_of_length_le (by omega)
      simp [rdB, bytesAV, h1]
  exact h.only fun v H' B' hlt ⟨h1, h2⟩ => ⟨_, rdH_sub h2, B, Nat.le_refl _, hlt _ _ h2, h1, rfl⟩

/-- An engine, all of it named. -/
def encW (D M Lg : Nat) (e : Eng) : List AV := [.ref D 3 0 5, .ref M 3 0 5, outV Lg 8 (e.log.map encR), I64 e.safe, .bool e.down]
def hpW (H : Hp) (D M Lg : Nat) (e : Eng) : Hp := outH ((H.set D (pgs e.disk)).set M (pgs e.mem)) Lg 71 8 (e.log.map encR)

theorem hpW_sub {H0 H : Hp} {D M Lg : Nat} {e : Eng} (h0 : ∀ i k, H0 i = some k → H i = some k) (hD : H D = some (pgs e.disk)) (hM : H M = some (pgs e.mem)) (hL : ¬ e.log.map encR = [] → H Lg = some ⟨71, 8, e.log.map encR⟩) : ∀ i k, hpW H0 D M Lg e i = some k → H i = some k := by
  intro i k hk
  unfold hpW outH at hk
  by_cases hl : e.log.map encR = []
  · rw [if_pos hl] at hk
    simp only [Hp.set_app] at hk
    split at hk
    · rename_i q; subst q; rw [hM]; exact hk
    split at hk
    · rename_i q; subst q; rw [hD]; exact hk
    · exact h0 i k hk
  · rw [if_neg hl] at hk
    simp only [Hp.set_app] at hk
    split at hk
    · rename_i q; subst q; rw [hL hl]; exact hk
    split at hk
    · rename_i q; subst q; rw [hM]; exact hk
    split at hk
    · rename_i q; subst q; rw [hD]; exact hk
    · exact h0 i k hk

theorem a63 (B : Nat) : ACalls PP 63 [] Hp.nil B (fun v H' B' => ∃ D M, B ≤ D ∧ B ≤ M ∧ D < B' ∧ M < B' ∧ D ≠ M ∧ v = .agg (encN D M engNew) ∧ H' = Hp.of (ebl D M engNew)) := by
  have hne : (List.replicate 5 pgNew).map encP ≠ [] := by simp
  have h : ACalls PP 63 [] Hp.nil B (fun v H' B' => v = .agg [.ref (B + 1) 3 0 5, .ref (B + 2) 3 0 5, .nils, I64 0, .bool false] ∧ H' (B + 1) = some (pgs engNew.disk) ∧ H' (B + 2) = some (pgs engNew.mem)) := by
    refine acallsF M0 Tryz.func63 (by kernel_rfl) fun hlt => ?_
    simp [Tryz.f63]
    refine callw_mk (c62.mk1 hne (pages_rows _)) ?_
    simp
    refine callw_mk (c62.mk1 hne (pages_rows _)) ?_
    simp [encN, encG, engNew, pgs]
  refine h.fin fun v H' B' hlt ⟨h1, h2, h3⟩ => ⟨noS, .agg (encN (B + 1) (B + 2) engNew), Hp.of (ebl (B + 1) (B + 2) engNew), ?_, ?_, B + 1, B + 2, by omega, by omega, hlt _ _ h2, hlt _ _ h3, by omega, rfl, rfl⟩
  · rw [h1]
    exact Fz.agg' (.cons (.same _) (.cons (.same _) (.cons (.nils 8) (.cons (.same _) (.cons (.same _) .nil)))))
  · intro i k hk
    refine ⟨fun h => h, ?_⟩
    simp only [ebl, Hp.of, Hp.set_app, Hp.nil_app] at hk
    split at hk
    · rename_i q; subst q; rw [h2]; exact hk
    split at hk
    · rename_i q; subst q; rw [h3]; exact hk
    · cases hk

theorem a78 (D M : Nat) (hDM : D ≠ M) (e : Eng) (hd : ShP e.disk) (hm : ShP e.mem) (hl : e.log.length ≤ 1000000) (B : Nat) (hD : D < B) (hM : M < B) :
    ACalls PP 78 [.agg (encN D M e)] (Hp.of (ebl D M e)) B (fun v H' B' => ∃ D' M' Lg, B ≤ D' ∧ B ≤ M' ∧ B ≤ Lg ∧ D' < B' ∧ M' < B' ∧ D' ≠ M' ∧ D' ≠ Lg ∧ M' ≠ Lg ∧ v = .agg (encW D' M' Lg e) ∧ H' = hpW Hp.nil D' M' Lg e) := by
  have HD := ebl_D (e := e) hDM
  have HM := ebl_M (e := e) hDM
  generalize Hp.of (ebl D M e) = H0 at HD HM ⊢
  have n1 : ¬ D = B := by omega
  have n2 : ¬ M = B := by omega
  have n3 : ¬ D = B + 1 := by omega
  have n4 : ¬ M = B + 1 := by omega
  have hb : e.log.length * 64 ≤ 140737488355328 := by omega
  have h : ACalls PP 78 [.agg (encN D M e)] H0 B (fun v H' B' => v = .agg (encW (B + 1) (B + 2) (B + 3) e) ∧ H' (B + 1) = some (pgs e.disk) ∧ H' (B + 2) = some (pgs e.mem) ∧ (¬ e.log.map encR = [] → H' (B + 3) = some ⟨71, 8, e.log.map encR⟩)) := by
    refine acallsF (Mu [12]) Tryz.func78 (by kernel_rfl) fun hlt => ?_
    simp [Tryz.f78, encN, encG]
    refine calld_mkh (c138r D e.disk hd (B + 1) (by omega)) (by simp [HD, n1]) ?_
    simp
    refine calld_mkh (c138r M e.mem hm (B + 2) (by omega)) (by simp [HM, n2, n4]) ?_
    by_cases h0 : e.log.map encR = []
    · simp [h0]
      have h0' : e.log = [] := by simpa using h0
      exact ⟨chkW_tk [D, M, B + 1, B + 2, B + 3, B] [⟨[], [], false⟩, ⟨[], [], false⟩, ⟨[0], [0, 2], true⟩, ⟨[], [], false⟩, ⟨[], [], false⟩, ⟨[1], [1, 3], true⟩, ⟨[], [], false⟩, ⟨[], [], false⟩, ⟨[], [], false⟩, ⟨[], [], false⟩, ⟨[], [], false⟩, ⟨[], [], false⟩, ⟨[], [], false⟩, ⟨[], [], false⟩, ⟨[], [], false⟩, ⟨[5], [5], false⟩] (by simp [hDM]; omega) rfl (by kernel_rfl), by simp [encW, outV, h0], fun q => absurd h0' q⟩
    · have n5 : ¬ B = B + 1 + 2 := by omega
      simp [h0, hb, n5]
      exact ⟨chkW_tk [D, M, B + 1, B + 2, B + 1 + 2, B] [⟨[], [], false⟩, ⟨[], [], false⟩, ⟨[0], [0, 2], true⟩, ⟨[], [], false⟩, ⟨[], [], false⟩, ⟨[1], [1, 3], true⟩, ⟨[], [], false⟩, ⟨[], [], false⟩, ⟨[], [], false⟩, ⟨[], [4], true⟩, ⟨[], [], false⟩, ⟨[], [], false⟩, ⟨[], [], false⟩, ⟨[], [], false⟩, ⟨[], [], false⟩, ⟨[5], [5], false⟩] (by simp [hDM]; omega) rfl (by kernel_rfl), by simp [encW, outV, h0]⟩
  refine h.only fun v H' B' hlt ⟨h1, h2, h3, h4⟩ => ⟨_, hpW_sub (H0 := Hp.nil) (by simp) h2 h3 h4, B + 1, B + 2, B + 3, by omega, by omega, by omega, hlt _ _ h2, hlt _ _ h3, by omega, by omega, by omega, h1, rfl⟩

end Go.Proofs.YtnaafbdgkmlnaaaGreat

/- Functions: what may happen is drawn. -/
namespace Go.Proofs.YtnaafbdgkmlnaaaGreat
set_option linter.unusedVariables false
set_option linter.unusedSimpArgs false
set_option linter.unnecessarySimpa false
set_option maxRecDepth 20000
set_option maxHeartbeats 4000000

theorem callw_pick {id p B : Nat} {bs : List Int} {n : Int} {H : Hp} {K : AV → Hp → Nat → Prop} (hb : BsOk bs) (hp : p ≤ 1000000) (hn : 1 ≤ n) (hH : H id = some (rdB bs p))
    (k : ∀ x : Int, 0 ≤ x → x < n → K (I64 x) (H.set id (rdB bs (p + 1))) B) : CallW 76 [.pe id 2 0, I64 n] H B K :=
  .inl ⟨_, _, _, 0, c76 id bs p n hb hp, Nat.zero_le _, by simp [hH], k _ (pickV_in hb p hn).1 (pickV_in hb p hn).2⟩
theorem calld_pick {id p B : Nat} {bs : List Int} {n : Int} {H : Hp} {K : AV → Hp → Nat → Info → Prop} (hb : BsOk bs) (hp : p ≤ 1000000) (hn : 1 ≤ n) (hH : H id = some (rdB bs p))
    (k : ∀ x : Int, 0 ≤ x → x < n → K (I64 x) (H.set id (rdB bs (p + 1))) B ⟨[id], [id], false, false, 0⟩) : CallD 76 [.pe id 2 0, I64 n] H B K :=
  .inl ⟨_, _, _, 0, c76 id bs p n hb hp, Nat.zero_le _, by simp [hH], k _ (pickV_in hb p hn).1 (pickV_in hb p hn).2⟩

/-- A reader and an engine. -/
def hpR (id : Nat) (bs : List Int) (p D M : Nat) (e : Eng) : Hp := ((Hp.nil.set id (rdB bs p)).set D ⟨38, 3, e.disk.map encP⟩).set M ⟨38, 3, e.mem.map encP⟩
theorem hpR_sub {id : Nat} {bs : List Int} {p D M : Nat} {e : Eng} {H : Hp} (h1 : H id = some (rdB bs p)) (h2 : H D = some ⟨38, 3, e.disk.map encP⟩) (h3 : H M = some ⟨38, 3, e.mem.map encP⟩) : ∀ i k, hpR id bs p D M e i = some k → H i = some k := by
  intro i k hk
  simp only [hpR, Hp.set_app, Hp.nil_app] at hk
  split at hk
  · rename_i q; subst q; rw [h3]; exact hk
  split at hk
  · rename_i q; subst q; rw [h2]; exact hk
  split at hk
  · rename_i q; subst q; rw [h1]; exact hk
  · cases hk

/-- What is drawn, as it lies there. -/
def EvRaw (v : AV) (ev : Ev) : Prop := ∃ vv, v = .agg [I64 ev.kind, I64 ev.tx, I64 ev.page, I64 ev.slot, I64 ev.n, vv] ∧ (vv = .sl 1 (ints ev.vals) ∨ (vv = .nils ∧ ev.vals = []))
def QEv (id : Nat) (bs : List Int) (p D M : Nat) (e : Eng) (v : AV) (H' : Hp) : Prop := ∃ p' ev, p ≤ p' ∧ p' ≤ p + 20 ∧ ev.vals.length ≤ 3 ∧ EvRaw v ev ∧ H' id = some (rdB bs p') ∧ H' D = some ⟨38, 3, e.disk.map encP⟩ ∧ H' M = some ⟨38, 3, e.mem.map encP⟩
theorem QEv.of {id : Nat} {bs : List Int} {p D M : Nat} {e : Eng} {H : Hp} (j : Nat) (hj : j ≤ 20) {k t g s n : Int} {vv : AV} {vals : List Int} (hv : vv = .sl 1 (ints vals) ∨ (vv = .nils ∧ vals = [])) (hl : vals.length ≤ 3)
    (h1 : H id = some (rdB bs (p + j))) (h2 : H D = some ⟨38, 3, e.disk.map encP⟩) (h3 : H M = some ⟨38, 3, e.mem.map encP⟩) : QEv id bs p D M e (.agg [I64 k, I64 t, I64 g, I64 s, I64 n, vv]) H :=
  ⟨p + j, ⟨k, t, g, s, n, vals⟩, by omega, by omega, hl, ⟨vv, rfl, hv⟩, h1, h2, h3⟩

theorem q170 (id : Nat) (bs : List Int) (p D M : Nat) (hb : BsOk bs) (hp : p ≤ 100000) (e : Eng) (h : PlayInv e) (hDM : D ≠ M) (h1 : id ≠ D) (h2 : id ≠ M) (B : Nat) (hid : id < B) (hD : D < B) (hM : M < B) :
    ACalls PP 170 [.pe id 2 0, .agg (encN D M e)] (hpR id bs p D M e) B (fun v H' B' => QEv id bs p D M e v H') := by
  have HI : hpR id bs p D M e id = some (rdB bs p) := by simp [hpR, h1, h2]
  have HD : hpR id bs p D M e D = some ⟨38, 3, e.disk.map encP⟩ := by simp [hpR, hDM]
  have HM : hpR id bs p D M e M = some ⟨38, 3, e.mem.map encP⟩ := by simp [hpR]
  generalize hpR id bs p D M e = H0 at HI HD HM ⊢
  have hlen := h.len
  have hd := h.disk.sh
  have hm := h.mem.sh
  have n1 : ¬ D = B := by omega
  have n2 : ¬ M = B := by omega
  have n3 : ¬ id = B := by omega
  have n4 : ¬ B = id := by omega
  have n5 : ¬ D = id := fun q => h1 q.symm
  have n6 : ¬ M = id := fun q => h2 q.symm
  refine acallsF M3 Tryz.func170 (by kernel_rfl) fun hlt => ?_
  simp [Tryz.f170, encN, encG]
  refine callw_pick (p := p) hb (by omega) (by decide) (by simp [HI, n3]) fun x1 x10 x11 => ?_
  simp
  refine callw_pick (p := p + 1) hb (by omega) (by decide) (by simp) fun x2 x20 x21 => ?_
  have u1 := w64 (1 + x1) (by omega) (by omega)
  simp [u1]
  have h205 := lend_eng (Bm := 0) hDM hd hm (c205 e x2 h.log.good (by omega)) (.int _ _) trivial
  obtain ⟨m1, m2⟩ := hm.at x20 (by omega : x2 ≤ 4)
  simp only [encN, encG] at h205
  have x25 : x2 < 5 := x21
  refine gC (fun c1 => ?_) (fun c1 => ?_) <;> (try simp at c1) <;> simp
  · refine callw_pick (p := p + 2) hb (by omega) (by decide) (by simp) fun x3 x30 x31 => ?_
    simp
    refine callw_pick (p := p + 3) hb (by omega) (by decide) (by simp) fun x4 x40 x41 => ?_
    have hx : x4 = 0 ∨ x4 = 1 ∨ x4 = 2 := by omega
    rcases hx with rfl | rfl | rfl <;> simp [n3, n4] <;> exact QEv.of 4 (by decide) (vals := []) (.inr ⟨rfl, rfl⟩) (by simp) (by simp [n3, n4]) (by simp [n1, n5, HD]) (by simp [n2, n6, HM])
  refine callw_pick (p := p + 2) hb (by omega) (by decide) (by simp) fun x3 x30 x31 => ?_
  simp
  by_cases hA : x3 = 0 ∨ x3 = 1 ∨ x3 = 2
  · have m3 : e.mem[x2.toNat]? = some (pgAt e.mem x2) := m1
    rcases hA with rfl | rfl | rfl <;> simp
    all_goals
      refine callw_pick (p := p + 3) hb (by omega) (by decide) (by simp) fun x4 x40 x41 => ?_
      have u2 := w64 (1 + x4) (by omega) (by omega)
      simp [u2, x20, x25, n2, n6, HM, m3, encP, pgRow]
      refine gO (fun d1 => ?_) (fun d1 => ?_) <;> simp [-Int.not_le, -Int.not_lt] at d1 <;> simp [d1, n3, n4]
      · refine callw_pick (p := p + 4) hb (by omega) (by decide) (by simp) fun x5 x50 x51 => ?_
        simp
        refine gC (fun d2 => ?_) (fun d2 => ?_) <;> simp at d2 <;> simp [n3, n4] <;> exact QEv.of 5 (by decide) (vals := []) (.inr ⟨rfl, rfl⟩) (by simp) (by simp [n3, n4]) (by simp [n1, n5, HD]) (by simp [n2, n6, HM])
      · exact QEv.of 4 (by decide) (vals := []) (.inr ⟨rfl, rfl⟩) (by simp) (by simp [n3, n4]) (by simp [n1, n5, HD]) (by simp [n2, n6, HM])
  have f0 : ¬ x3 = 0 := fun q => hA (.inl q)
  have f1 : ¬ x3 = 1 := fun q => hA (.inr (.inl q))
  have f2 : ¬ x3 = 2 := fun q => hA (.inr (.inr q))
  simp [f0, f1, f2]
  by_cases f3 : x3 = 3
  · simp [f3]
    refine callw_told h205 (Nat.zero_le _) (by simp [ebl, HD, HM, n1, n2, n5, n6, pgs]) ?_
    simp
    refine callw_pick (p := p + 3) hb (by omega) (by decide) (by simp) fun x4 x40 x41 => ?_
    have u2 := w64 (1 + x4) (by omega) (by omega)
    simp [u2]
    refine callw_pick (p := p + 4) hb (by omega) (by decide) (by simp) fun x5 x50 x51 => ?_
    simp
    refine callw_pick (p := p + 5) hb (by omega) (by decide) (by simp) fun x6 x60 x61 => ?_
    simp [n3, n4]
    exact QEv.of 6 (by decide) (vals := [1 + x4, x5, x6]) (.inl rfl) (by simp) (by simp [n3, n4]) (by simp [n1, n5, HD]) (by simp [n2, n6, HM])
  simp [f3]
  by_cases hC : x3 = 4 ∨ x3 = 5
  · rcases hC with rfl | rfl <;> simp [n3, n4] <;> exact QEv.of 3 (by decide) (vals := []) (.inr ⟨rfl, rfl⟩) (by simp) (by simp [n3, n4]) (by simp [n1, n5, HD]) (by simp [n2, n6, HM])
  have f4 : ¬ x3 = 4 := fun q => hC (.inl q)
  have f5 : ¬ x3 = 5 := fun q => hC (.inr q)
  simp [f4, f5]
  by_cases f6 : x3 = 6
  · simp [f6, n3, n4]
    exact QEv.of 3 (by decide) (vals := []) (.inr ⟨rfl, rfl⟩) (by simp) (by simp [n3, n4]) (by simp [n1, n5, HD]) (by simp [n2, n6, HM])
  simp [f6]
  by_cases hE : x3 = 7 ∨ x3 = 8
  · rcases hE with rfl | rfl <;> simp [n3, n4] <;> exact QEv.of 3 (by decide) (vals := []) (.inr ⟨rfl, rfl⟩) (by simp) (by simp [n3, n4]) (by simp [n1, n5, HD]) (by simp [n2, n6, HM])
  have f7 : ¬ x3 = 7 := fun q => hE (.inl q)
  have f8 : ¬ x3 = 8 := fun q => hE (.inr q)
  simp [f7, f8]
  by_cases f9 : x3 = 9
  · simp [f9]
    refine callw_pick (p := p + 3) hb (by omega) (by decide) (by simp) fun x4 x40 x41 => ?_
    simp
    refine gC (fun d2 => ?_) (fun d2 => ?_) <;> simp at d2 <;> simp [n3, n4]
    · exact QEv.of 4 (by decide) (vals := []) (.inr ⟨rfl, rfl⟩) (by simp) (by simp [n3, n4]) (by simp [n1, n5, HD]) (by simp [n2, n6, HM])
    · refine calld_pick (p := p + 4) hb (by omega) (by decide) (by simp) fun x5 x50 x51 => ?_
      have u2 := w64 ((e.log.length : Int) - x5) (by omega) (by omega)
      simp [u2]
      refine calld_pick (p := p + 5) hb (by omega) (by decide) (by simp) fun x6 x60 x61 => ?_
      have hx : x6 = 0 ∨ x6 = 1 ∨ x6 = 2 := by omega
      rcases hx with rfl | rfl | rfl <;> simp [n3, n4]
      all_goals
        refine ⟨chkW_shb (by simp) (by kernel_rfl), ?_⟩
        exact QEv.of 6 (by decide) (vals := []) (.inr ⟨rfl, rfl⟩) (by simp) (by simp [n3, n4]) (by simp [n1, n5, HD]) (by simp [n2, n6, HM])
  simp [f9]
  refine aloop_ind (ι := Nat × Int × Nat) (fun i => 4 - i.1) (fun i => B + 1 ≤ i.2.2 ∧ i.1 ≤ 4 ∧ 0 ≤ i.2.1 ∧ i.2.1 < 5) (fun i => [(0, .pe id 2 0), (3, .qe (encN D M e)), (4, .pe B 6 0), (5, I64 (1 + x1)), (6, I64 i.2.1), (8, I64 i.1)]) (fun i => (hpR id bs (p + (3 + i.1)) D M e).set B ⟨42, 6, [[I64 0, I64 0, I64 0, I64 0, I64 0, .nils]]⟩) (fun i => i.2.2) (0, x2, B + 1) ⟨Nat.le_refl _, by simp, x20, x21⟩ (by simp [encN, encG]) ?_ (Nat.le_refl _) ?_
  · intro i k hk
    simp only [hpR, Hp.set_app, Hp.nil_app] at hk
    split at hk
    · rename_i q; rw [← hk]; simp [q, n4, Ne.symm n1, Ne.symm n2]
    split at hk
    · rename_i q; rw [← hk, q]; simp [n2, n6, HM]
    split at hk
    · rename_i q; rw [← hk, q]; simp [n1, n5, HD]
    split at hk
    · rename_i q; rw [← hk, q]; simp [n3]
    · cases hk
  rintro A ⟨n, y, B1⟩ ⟨hB1, hn, y0, y5⟩ ih
  simp only at hB1 hn y0 y5
  refine wpC_sound M3 _ _ _ _ _ (by kernel_rfl) ?_
  obtain ⟨m3, m4⟩ := hm.at y0 (by omega : y ≤ 4)
  have h205 := lend_eng (Bm := 0) hDM hd hm (c205 e y h.log.good (by omega)) (.int _ _) trivial
  simp only [encN, encG] at h205
  have wn := w64 ((n : Int) + 1) (by omega) (by omega)
  obtain ⟨j, hj⟩ : ∃ j, j = 3 + n := ⟨_, rfl⟩
  have HI2 : hpR id bs (p + j) D M e id = some (rdB bs (p + j)) := by simp [hpR, h1, h2]
  have HD2 : hpR id bs (p + j) D M e D = some ⟨38, 3, e.disk.map encP⟩ := by simp [hpR, hDM]
  have HM2 : hpR id bs (p + j) D M e M = some ⟨38, 3, e.mem.map encP⟩ := by simp [hpR]
  simp [encN, encG, ← hj]
  generalize hpR id bs (p + j) D M e = H1 at HI2 HD2 HM2 ⊢
  refine gO (fun g1 => ?_) (fun g1 => ?_) <;> simp [-Int.not_le, -Int.not_lt, -Nat.not_lt, -Nat.not_le] at g1 <;> simp [g1, y0, y5, n2, HM2, m3, encP, pgRow]
  · refine gC (fun g2 => ?_) (fun g2 => ?_) <;> simp at g2 <;> simp
    · refine callw_pick (p := p + j) hb (by omega) (by decide) (by simp [HI2, n3]) fun y1 y10 y11 => ?_
      simp [wn]
      refine ih (n + 1, y1, B1) _ _ _ (by simp; omega) ⟨hB1, by simp; omega, y10, y11⟩ (by simp [encN, encG]) ?_ (Nat.le_refl _)
      intro i k hk
      simp only [hpR, Hp.set_app, Hp.nil_app] at hk
      split at hk
      · rename_i q; rw [← hk]; simp [q, n4]
      split at hk
      · rename_i q; rw [← hk, q]; simp [n2, n6, HM2]
      split at hk
      · rename_i q; rw [← hk, q]; simp [n1, n5, HD2]
      split at hk
      · rename_i q; rw [← hk, q]; simp [n3, hj, Nat.add_assoc]
      · cases hk
    · refine callw_told h205 (Nat.zero_le _) (by simp [ebl, HD2, HM2, hDM, h1, h2, n1, n2, n3, n4, n5, n6, pgs]) ?_
      simp
      refine gO (fun g3 => ?_) (fun g3 => ?_) <;> simp [-Int.not_le, -Int.not_lt] at g3 <;> simp [g3]
      · refine callw_pick (p := p + (j + 0)) hb (by omega) (by decide) (by simp [HI2, n3]) fun y1 y10 y11 => ?_
        simp
        refine gC (fun g4 => ?_) (fun g4 => ?_) <;> simp [-Int.not_le, -Int.not_lt] at g4 <;> simp [g3, g4]
        · refine callw_told h205 (Nat.zero_le _) (by simp [ebl, HD2, HM2, hDM, h1, h2, n1, n2, n3, n4, n5, n6, pgs]) ?_
          simp
          refine callw_pick (p := p + (j + 1)) hb (by omega) (by decide) (by simp [Nat.add_assoc, HI2, n3]) fun y1 y10 y11 => ?_
          simp
          refine callw_pick (p := p + (j + 1 + 1)) hb (by omega) (by decide) (by simp [Nat.add_assoc]) fun y2 y20 y21 => ?_
          simp
          refine callw_pick (p := p + (j + 1 + 2)) hb (by omega) (by decide) (by simp [Nat.add_assoc]) fun y3 y30 y31 => ?_
          have t1 := w64 (y3 + 2) (by omega) (by omega)
          have t2 : 0 ≤ y2 * (y3 + 2) := Int.mul_nonneg y20 (by omega)
          have t3 : y2 * (y3 + 2) ≤ 10 * (y3 + 2) := Int.mul_le_mul_of_nonneg_right (by omega) (by omega)
          have t4 := w64 (y2 * (y3 + 2)) (by omega) (by omega)
          have t5 : 0 ≤ y2 * (y3 + 2) / 4 ∧ y2 * (y3 + 2) / 4 ≤ 50 := by omega
          have t6 := w64 (y2 * (y3 + 2) / 4) (by omega) (by omega)
          have t7 : (y2 * (y3 + 2)).tdiv 4 = y2 * (y3 + 2) / 4 := Int.tdiv_eq_ediv_of_nonneg t2
          simp [t1, t4, t6, t7, n3, n4]
          exact QEv.of (j + 1 + 3) (by omega) (vals := []) (.inr ⟨rfl, rfl⟩) (by simp) (by simp [n3, n4, Nat.add_assoc]) (by simp [n1, n5, HD2]) (by simp [n2, n6, HM2])
        · refine callw_pick (p := p + (j + 1)) hb (by omega) (by decide) (by simp [Nat.add_assoc, HI2, n3]) fun y1 y10 y11 => ?_
          simp
          refine callw_pick (p := p + (j + 1 + 1)) hb (by omega) (by decide) (by simp [Nat.add_assoc]) fun y2 y20 y21 => ?_
          simp
          refine callw_pick (p := p + (j + 1 + 2)) hb (by omega) (by decide) (by simp [Nat.add_assoc]) fun y3 y30 y31 => ?_
          have t1 := w64 (y3 + 2) (by omega) (by omega)
          have t2 : 0 ≤ y2 * (y3 + 2) := Int.mul_nonneg y20 (by omega)
          have t3 : y2 * (y3 + 2) ≤ 10 * (y3 + 2) := Int.mul_le_mul_of_nonneg_right (by omega) (by omega)
          have t4 := w64 (y2 * (y3 + 2)) (by omega) (by omega)
          have t5 : 0 ≤ y2 * (y3 + 2) / 4 ∧ y2 * (y3 + 2) / 4 ≤ 50 := by omega
          have t6 := w64 (y2 * (y3 + 2) / 4) (by omega) (by omega)
          have t7 : (y2 * (y3 + 2)).tdiv 4 = y2 * (y3 + 2) / 4 := Int.tdiv_eq_ediv_of_nonneg t2
          simp [t1, t4, t6, t7, n3, n4]
          exact QEv.of (j + 1 + 3) (by omega) (vals := []) (.inr ⟨rfl, rfl⟩) (by simp) (by simp [n3, n4, Nat.add_assoc]) (by simp [n1, n5, HD2]) (by simp [n2, n6, HM2])
      · refine callw_pick (p := p + (j + 0)) hb (by omega) (by decide) (by simp [Nat.add_assoc, HI2, n3]) fun y1 y10 y11 => ?_
        simp
        refine callw_pick (p := p + (j + 0 + 1)) hb (by omega) (by decide) (by simp [Nat.add_assoc]) fun y2 y20 y21 => ?_
        simp
        refine callw_pick (p := p + (j + 0 + 2)) hb (by omega) (by decide) (by simp [Nat.add_assoc]) fun y3 y30 y31 => ?_
        have t1 := w64 (y3 + 2) (by omega) (by omega)
        have t2 : 0 ≤ y2 * (y3 + 2) := Int.mul_nonneg y20 (by omega)
        have t3 : y2 * (y3 + 2) ≤ 10 * (y3 + 2) := Int.mul_le_mul_of_nonneg_right (by omega) (by omega)
        have t4 := w64 (y2 * (y3 + 2)) (by omega) (by omega)
        have t5 : 0 ≤ y2 * (y3 + 2) / 4 ∧ y2 * (y3 + 2) / 4 ≤ 50 := by omega
        have t6 := w64 (y2 * (y3 + 2) / 4) (by omega) (by omega)
        have t7 : (y2 * (y3 + 2)).tdiv 4 = y2 * (y3 + 2) / 4 := Int.tdiv_eq_ediv_of_nonneg t2
        simp [t1, t4, t6, t7, n3, n4]
        exact QEv.of (j + 0 + 3) (by omega) (vals := []) (.inr ⟨rfl, rfl⟩) (by simp) (by simp [n3, n4, Nat.add_assoc]) (by simp [n1, n5, HD2]) (by simp [n2, n6, HM2])
  · refine callw_told h205 (Nat.zero_le _) (by simp [ebl, HD2, HM2, hDM, h1, h2, n1, n2, n3, n4, n5, n6, pgs]) ?_
    simp
    refine gO (fun g3 => ?_) (fun g3 => ?_) <;> simp [-Int.not_le, -Int.not_lt] at g3 <;> simp [g3]
    · refine callw_pick (p := p + (j + 0)) hb (by omega) (by decide) (by simp [HI2, n3]) fun y1 y10 y11 => ?_
      simp
      refine gC (fun g4 => ?_) (fun g4 => ?_) <;> simp [-Int.not_le, -Int.not_lt] at g4 <;> simp [g3, g4]
      · refine callw_told h205 (Nat.zero_le _) (by simp [ebl, HD2, HM2, hDM, h1, h2, n1, n2, n3, n4, n5, n6, pgs]) ?_
        simp
        refine callw_pick (p := p + (j + 1)) hb (by omega) (by decide) (by simp [Nat.add_assoc, HI2, n3]) fun y1 y10 y11 => ?_
        simp
        refine callw_pick (p := p + (j + 1 + 1)) hb (by omega) (by decide) (by simp [Nat.add_assoc]) fun y2 y20 y21 => ?_
        simp
        refine callw_pick (p := p + (j + 1 + 2)) hb (by omega) (by decide) (by simp [Nat.add_assoc]) fun y3 y30 y31 => ?_
        have t1 := w64 (y3 + 2) (by omega) (by omega)
        have t2 : 0 ≤ y2 * (y3 + 2) := Int.mul_nonneg y20 (by omega)
        have t3 : y2 * (y3 + 2) ≤ 10 * (y3 + 2) := Int.mul_le_mul_of_nonneg_right (by omega) (by omega)
        have t4 := w64 (y2 * (y3 + 2)) (by omega) (by omega)
        have t5 : 0 ≤ y2 * (y3 + 2) / 4 ∧ y2 * (y3 + 2) / 4 ≤ 50 := by omega
        have t6 := w64 (y2 * (y3 + 2) / 4) (by omega) (by omega)
        have t7 : (y2 * (y3 + 2)).tdiv 4 = y2 * (y3 + 2) / 4 := Int.tdiv_eq_ediv_of_nonneg t2
        simp [t1, t4, t6, t7, n3, n4]
        exact QEv.of (j + 1 + 3) (by omega) (vals := []) (.inr ⟨rfl, rfl⟩) (by simp) (by simp [n3, n4, Nat.add_assoc]) (by simp [n1, n5, HD2]) (by simp [n2, n6, HM2])
      · refine callw_pick (p := p + (j + 1)) hb (by omega) (by decide) (by simp [Nat.add_assoc, HI2, n3]) fun y1 y10 y11 => ?_
        simp
        refine callw_pick (p := p + (j + 1 + 1)) hb (by omega) (by decide) (by simp [Nat.add_assoc]) fun y2 y20 y21 => ?_
        simp
        refine callw_pick (p := p + (j + 1 + 2)) hb (by omega) (by decide) (by simp [Nat.add_assoc]) fun y3 y30 y31 => ?_
        have t1 := w64 (y3 + 2) (by omega) (by omega)
        have t2 : 0 ≤ y2 * (y3 + 2) := Int.mul_nonneg y20 (by omega)
        have t3 : y2 * (y3 + 2) ≤ 10 * (y3 + 2) := Int.mul_le_mul_of_nonneg_right (by omega) (by omega)
        have t4 := w64 (y2 * (y3 + 2)) (by omega) (by omega)
        have t5 : 0 ≤ y2 * (y3 + 2) / 4 ∧ y2 * (y3 + 2) / 4 ≤ 50 := by omega
        have t6 := w64 (y2 * (y3 + 2) / 4) (by omega) (by omega)
        have t7 : (y2 * (y3 + 2)).tdiv 4 = y2 * (y3 + 2) / 4 := Int.tdiv_eq_ediv_of_nonneg t2
        simp [t1, t4, t6, t7, n3, n4]
        exact QEv.of (j + 1 + 3) (by omega) (vals := []) (.inr ⟨rfl, rfl⟩) (by simp) (by simp [n3, n4, Nat.add_assoc]) (by simp [n1, n5, HD2]) (by simp [n2, n6, HM2])
    · refine callw_pick (p := p + (j + 0)) hb (by omega) (by decide) (by simp [Nat.add_assoc, HI2, n3]) fun y1 y10 y11 => ?_
      simp
      refine callw_pick (p := p + (j + 0 + 1)) hb (by omega) (by decide) (by simp [Nat.add_assoc]) fun y2 y20 y21 => ?_
      simp
      refine callw_pick (p := p + (j + 0 + 2)) hb (by omega) (by decide) (by simp [Nat.add_assoc]) fun y3 y30 y31 => ?_
      have t1 := w64 (y3 + 2) (by omega) (by omega)
      have t2 : 0 ≤ y2 * (y3 + 2) := Int.mul_nonneg y20 (by omega)
      have t3 : y2 * (y3 + 2) ≤ 10 * (y3 + 2) := Int.mul_le_mul_of_nonneg_right (by omega) (by omega)
      have t4 := w64 (y2 * (y3 + 2)) (by omega) (by omega)
      have t5 : 0 ≤ y2 * (y3 + 2) / 4 ∧ y2 * (y3 + 2) / 4 ≤ 50 := by omega
      have t6 := w64 (y2 * (y3 + 2) / 4) (by omega) (by omega)
      have t7 : (y2 * (y3 + 2)).tdiv 4 = y2 * (y3 + 2) / 4 := Int.tdiv_eq_ediv_of_nonneg t2
      simp [t1, t4, t6, t7, n3, n4]
      exact QEv.of (j + 0 + 3) (by omega) (vals := []) (.inr ⟨rfl, rfl⟩) (by simp) (by simp [n3, n4, Nat.add_assoc]) (by simp [n1, n5, HD2]) (by simp [n2, n6, HM2])

end Go.Proofs.YtnaafbdgkmlnaaaGreat
