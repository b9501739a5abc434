/- Laws about the machine's run of the program's functions, part 27, in import order. No condition. -/
import Derived.Test.YtnaafbdgkmlnaaaGreatM24
import Derived.Test.YtnaafbdgkmlnaaaGreatM26

set_option linter.unusedVariables false
set_option linter.unusedSimpArgs false
set_option linter.unnecessarySimpa false
/- Functions: a log is drawn. -/
namespace Go.Proofs.YtnaafbdgkmlnaaaGreat
set_option linter.unusedVariables false
set_option linter.unusedSimpArgs false
set_option linter.unnecessarySimpa false
set_option maxRecDepth 20000
set_option maxHeartbeats 4000000

/-- A log of a play, some spoilt. -/
def LogDrawn (L : List R) : Prop := ∃ L0, PlayLog L0 ∧ (L = L0 ∨ (∃ r, L = L0 ++ [r]) ∨ (∃ (i : Nat) (v : Int) (q : R), L0[i]? = some q ∧ L = L0.set i { q with prev := v }) ∨ L = L0.drop 1)
theorem LogDrawn.len {L : List R} (h : LogDrawn L) : L.length ≤ 151 := by
  obtain ⟨L0, h0, rfl | ⟨r, rfl⟩ | ⟨i, v, q, _, rfl⟩ | rfl⟩ := h <;> have := h0.len <;> simp <;> omega

def QLogR (id : Nat) (bs : List Int) (p : Nat) (v : AV) (H' : Hp) : Prop := ∃ (p' : Nat) (L : List R) (Lg : Nat), p ≤ p' ∧ p' ≤ p + 830 ∧ LogDrawn L ∧ Lg ≠ id ∧ H' id = some (rdB bs p') ∧ Fz (fun i => i = Lg) H' v (.sl 8 (L.map encR))

theorem encW_nil {D M Lg : Nat} {e : Eng} (h : e.log = []) : encW D M Lg e = [.ref D 3 0 5, .ref M 3 0 5, .nils, I64 e.safe, .bool e.down] := by simp [encW, outV, h]
theorem encW_cons {D M Lg : Nat} {e : Eng} (h : ¬ e.log = []) : encW D M Lg e = [.ref D 3 0 5, .ref M 3 0 5, .ref Lg 8 0 e.log.length, I64 e.safe, .bool e.down] := by simp [encW, outV, h]

theorem fz_refs {S : Nat → Prop} {H : Hp} {id off n : Nat} {L L' : List R} (hS : S id) (hH : H id = some ⟨71, 8, L.map encR⟩) (hL : L.drop off = L') (hn : n = L'.length) (ho : off ≤ L.length) : Fz S H (.ref id 8 off n) (.sl 8 (L'.map encR)) := by
  subst hL hn
  have hg : ∀ j, ((L.drop off).map encR)[j]? = (L.map encR)[off + j]? := fun j => by simp [List.getElem?_drop]
  refine .ref id 8 off _ _ _ hS hH rfl (by simp; omega) (by simp) (fun j r r' a b => ?_) (fun j c x y hx hy => ?_)
  · rw [hg] at b; simp only at a; rw [a] at b; cases b; rfl
  · have e2 : at2 ((L.drop off).map encR) j c = at2 (L.map encR) (off + j) c := by simp only [at2]; rw [hg]
    rw [e2] at hy; simp only at hx; rw [hx] at hy; cases hy; exact .same _

theorem q198a (id : Nat) (bs : List Int) (p : Nat) (hb : BsOk bs) (hp : p ≤ 100000) (B : Nat) (hid : id < B) : ACalls PP 212 [.pe id 2 0] (rdH id bs p) B (fun v H' B' => ∃ p' r, p ≤ p' ∧ p' ≤ p + 20 ∧ v = .agg (encR r) ∧ H' = rdH id bs p') :=
  (q212 id bs p hb hp B hid).only fun v H' B' hlt ⟨p', r, h1, h2, h3, h4⟩ => ⟨_, rdH_sub h4, p', r, h1, h2, h3, rfl⟩

theorem q198 (id : Nat) (bs : List Int) (p : Nat) (hb : BsOk bs) (hp : p ≤ 80000) (B : Nat) (hid : id < B) : ACalls PP 198 [.pe id 2 0] (rdH id bs p) B (fun v H' B' => QLogR id bs p v H') := by
  refine acallsF M3 Tryz.func198 (by kernel_rfl) fun hlt => ?_
  simp [Tryz.f198]
  refine callw_rel (a115 id bs p hb (by omega) B hid) (fun i k h => h) ?_
  rintro v H' B1 H2 ⟨p1, evs, e, D, M, Lg, r1, r2, r3, r4, r5, r6, r7, r8, r9, r10, r11, r11b, r12, r13, r14, r15, r16⟩ hB1 s1 s2
  subst r15 r16
  have n1 : id ≠ D := by omega
  have n2 : id ≠ M := by omega
  have n3 : id ≠ Lg := by omega
  obtain ⟨w1, w2, w3⟩ := @hpW_all (rdH id bs p1) D M Lg e r12 r13 r14
  have g1 : H2 id = some (rdB bs p1) := s1 _ _ (by rw [hpW_ne n1 n2 n3]; exact rdH_id)
  have g2 : ¬ e.log.map encR = [] → H2 Lg = some ⟨71, 8, e.log.map encR⟩ := fun h => s1 _ _ (w3 h)
  clear s1 s2 w1 w2 w3
  have hlen := r6.len
  have m1 : ¬ id = B1 := by omega
  have m2 : ¬ id = B1 + 1 := by omega
  have m3 : ¬ B1 = B1 + 1 := by omega
  have m4 : ¬ B1 = id := by omega
  by_cases hl : e.log = []
  · rw [encW_nil hl]
    have out : ∀ p' H, p ≤ p' → p' ≤ p + 830 → H id = some (rdB bs p') → QLogR id bs p .nils H := fun p' H k1 k2 k3 => ⟨p', [], id + 1, k1, k2, ⟨[], .nil, .inl rfl⟩, by omega, k3, .nils 8⟩
    simp
    refine callw_pick (p := p1) hb (by omega) (by decide) (by simp [m1, g1]) fun x x0 x1 => ?_
    simp
    refine gC (fun c1 => ?_) (fun c1 => ?_) <;> simp at c1 <;> simp [c1]
    · refine callw_rel (q198a id bs (p1 + 1) hb (by omega) (B1 + 1) (by omega)) (rdH_sub (by simp)) ?_
      rintro v H' B2 H3 ⟨p2, r, k1, k2, rfl, rfl⟩ hB2 s1 s2
      have g3 : H3 id = some (rdB bs p2) := s1 _ _ rdH_id
      clear s1 s2
      simp [encR]
      exact ⟨p2, [r], id + 1, by omega, by omega, ⟨[], .nil, .inr (.inl ⟨r, rfl⟩)⟩, by omega, g3, .same _⟩
    · refine gC (fun c2 => ?_) (fun c2 => ?_) <;> simp at c2 <;> simp [c2]
      · exact out (p1 + 1) _ (by omega) (by omega) (by simp)
      · refine gC (fun c3 => ?_) (fun c3 => ?_) <;> simp at c3 <;> simp [c3] <;> exact out (p1 + 1) _ (by omega) (by omega) (by simp)
  · rw [encW_cons hl]
    have g3 := g2 (by simpa using hl)
    have hLB := r11b hl
    have m5 : ¬ Lg = B1 := by omega
    have m6 : ¬ B1 = Lg := by omega
    have m7 : ¬ id = Lg := n3
    have m8 : ¬ Lg = id := fun q => n3 q.symm
    have hpos : 0 < e.log.length := by cases h : e.log with | nil => exact absurd h hl | cons _ _ => simp
    simp
    refine callw_pick (p := p1) hb (by omega) (by decide) (by simp [m1, g1]) fun x x0 x1 => ?_
    simp
    refine gC (fun c1 => ?_) (fun c1 => ?_) <;> simp at c1 <;> simp [c1]
    · refine callw_rel (q198a id bs (p1 + 1) hb (by omega) (B1 + 1) (by omega)) (rdH_sub (by simp)) ?_
      rintro v H' B2 H3 ⟨p2, r, k1, k2, rfl, rfl⟩ hB2 s1 s2
      have g4 : H3 id = some (rdB bs p2) := s1 _ _ rdH_id
      have g5 : H3 Lg = some ⟨71, 8, e.log.map encR⟩ := s2 _ _ (by simp [m5, m8, g3]) (rdH_none m8) (rdH_none m8)
      clear s1 s2
      have hb64 : (e.log.length + 1) * 64 ≤ 140737488355328 := by omega
      simp [encR, g5, hb64]
      refine ⟨p2, e.log ++ [r], id + 1, by omega, by omega, ⟨e.log, r6.log, .inr (.inl ⟨r, rfl⟩)⟩, by omega, by simp [m7, g4], ?_⟩
      simp [encR]
      exact .same _
    · refine gC (fun c2 => ?_) (fun c2 => ?_) <;> simp at c2 <;> simp [c2, hpos]
      · refine callw_pick (p := p1 + 1) hb (by omega) (by omega) (by simp) fun y y0 y1 => ?_
        simp
        refine callw_pick (p := p1 + 2) hb (by omega) (by decide) (by simp) fun z z0 z1 => ?_
        obtain ⟨i, rfl⟩ : ∃ i : Nat, y = i := ⟨y.toNat, by omega⟩
        obtain ⟨q, hq⟩ : ∃ q, e.log[i]? = some q := ⟨_, List.getElem?_eq_getElem (by omega)⟩
        have hset : (e.log.map encR).set i [I64 q.kind, I64 q.tx, I64 q.page, I64 q.slot, I64 q.old, I64 q.new, I64 z, I64 q.next] = (e.log.set i { q with prev := z }).map encR := by rw [List.map_set]; rfl
        simp [y1, m5, m8, g3, hq, encR]
        exact ⟨p1 + 3, e.log.set i { q with prev := z }, Lg, by omega, by omega, ⟨e.log, r6.log, .inr (.inr (.inl ⟨i, z, q, hq, rfl⟩))⟩, m8, by simp [m7], fz_refs (L := e.log.set i { q with prev := z }) rfl (by rw [← hset]; simp) rfl (by simp) (Nat.zero_le _)⟩
      · refine gC (fun c3 => ?_) (fun c3 => ?_) <;> simp at c3 <;> simp [c3]
        · refine gC (fun c4 => ?_) (fun c4 => ?_) <;> simp at c4 <;> simp
          · have hl1 : (1 : Int) < e.log.length := by omega
            simp [hl1]
            exact ⟨p1 + 1, e.log.drop 1, Lg, by omega, by omega, ⟨e.log, r6.log, .inr (.inr (.inr rfl))⟩, m8, by simp, fz_refs (L := e.log) rfl (by simp [m5, m8, g3]) rfl (by simp) (by omega)⟩
          · exact ⟨p1 + 1, e.log, Lg, by omega, by omega, ⟨e.log, r6.log, .inl rfl⟩, m8, by simp, fz_refs (L := e.log) rfl (by simp [m5, m8, g3]) rfl rfl (Nat.zero_le _)⟩
        · exact ⟨p1 + 1, e.log, Lg, by omega, by omega, ⟨e.log, r6.log, .inl rfl⟩, m8, by simp, fz_refs (L := e.log) rfl (by simp [m5, m8, g3]) rfl rfl (Nat.zero_le _)⟩

theorem a198 (id : Nat) (bs : List Int) (p : Nat) (hb : BsOk bs) (hp : p ≤ 80000) (B : Nat) (hid : id < B) : ACalls PP 198 [.pe id 2 0] (rdH id bs p) B (fun v H' B' => ∃ (p' : Nat) (L : List R), p ≤ p' ∧ p' ≤ p + 830 ∧ LogDrawn L ∧ v = .sl 8 (L.map encR) ∧ H' = rdH id bs p') :=
  (q198 id bs p hb hp B hid).fin fun v H' B' hlt ⟨p', L, Lg, h1, h2, h3, h4, h5, h6⟩ => ⟨_, .sl 8 (L.map encR), rdH id bs p', h6, fun i k hk => ⟨fun q => (by
    have hq : i = Lg := q
    rw [hq, rdH_none h4] at hk
    cases hk), rdH_sub h5 i k hk⟩, p', L, h1, h2, h3, rfl, rfl⟩

end Go.Proofs.YtnaafbdgkmlnaaaGreat

/- Functions: who is open. -/
namespace Go.Proofs.YtnaafbdgkmlnaaaGreat
set_option linter.unusedVariables false
set_option linter.unusedSimpArgs false
set_option linter.unnecessarySimpa false
set_option maxRecDepth 20000
set_option maxHeartbeats 4000000

noncomputable def opnLog (L : List R) : List Int := if LogOkP L then opn L else []
theorem opnLog_len (L : List R) : (opnLog L).length ≤ 3 := by
  unfold opnLog
  split
  · exact opn_len L
  · simp

theorem c137 (L : List R) (hL : L.length ≤ 1000000) : Told 137 [.sl 8 (L.map encR)] [] [] 0 (.sl 1 (ints (opnLog L))) := by
  refine told_fz (lt_ints 0 _) fun B => ?_
  refine acallsF (Mu [21]) Tryz.func137 (by kernel_rfl) fun hlt => ?_
  simp [Tryz.f137]
  refine callw_told (c103 L hL) (Nat.zero_le _) (by simp) ?_
  simp
  refine gC (fun hok => ?_) (fun hok => ?_) <;> simp at hok <;> simp
  · rw [opnLog, if_neg hok]; exact .nils 1
  have hon : opnLog L = opn L := if_pos hok
  rw [hon]
  refine aloop_ind (ι := Nat × Nat × Nat) (fun i => 3 - i.1) (fun i => i.1 ≤ 3 ∧ B ≤ i.2.1 ∧ i.2.1 < i.2.2) (fun i => [(0, .sl 8 (L.map encR)), (3, outV i.2.1 1 (ints (opnB L i.1))), (4, I64 ((i.1 + 1 : Nat) : Int))]) (fun i => outH Hp.nil i.2.1 3 1 (ints (opnB L i.1))) (fun i => i.2.2) (0, B, B + 1) ⟨Nat.zero_le _, Nat.le_refl _, by simp⟩ (by simp [outV, opnB, ints]) (by simp [outH, opnB, ints]) (by simp) ?_
  rintro A ⟨n, id, B1⟩ ⟨hn, hB, hid⟩ ih
  simp only at hn hB hid
  refine wpC_sound (Mu [21]) _ _ _ _ _ (by kernel_rfl) ?_
  obtain ⟨out, hout⟩ : ∃ out, out = opnB L n := ⟨_, rfl⟩
  simp only [← hout]
  by_cases hn3 : n < 3
  · have hle3 : ((n + 1 : Nat) : Int) ≤ 3 := by omega
    have wq := w64 (((n + 1 : Nat) : Int) + 1) (by omega) (by omega)
    have eq1 : ((n + 1 + 1 : Nat) : Int) = ((n + 1 : Nat) : Int) + 1 := by omega
    have hlen : out.length ≤ 3 := by rw [hout]; have := opnB_len L n; omega
    have hst : opnB L (n + 1) = if last L ((n + 1 : Nat) : Int) = 0 then out else out ++ [((n + 1 : Nat) : Int)] := by rw [hout]; rfl
    generalize hq : ((n + 1 : Nat) : Int) = q at *
    simp [hle3]
    refine callw_told (c122 L q hL) (Nat.zero_le _) (by simp) ?_
    simp
    refine gC (fun h => ?_) (fun h => ?_) <;> simp at h <;> simp
    · have htk : ints (opnB L (n + 1)) = ints out ++ [[I64 q]] := by rw [hst, if_neg (by omega)]; simp [ints]
      by_cases h0 : ints out = []
      · rw [h0] at htk ⊢
        simp [outV, outH, wq]
        refine ih (n + 1, B1, B1 + 1) _ _ _ (by simp; omega) ⟨by simp; omega, by simp; omega, by simp⟩ ?_ ?_ (by simp)
        · simp only [htk]; simp [outV, eq1]
        · simp only [htk]; simp [outH]
      · have hb : ((ints out).length + 1) * 8 ≤ 140737488355328 := by simp; omega
        simp [outV, outH, h0, hb, wq]
        have hb2 : (out.length + 1) * 8 ≤ 140737488355328 := by omega
        simp [hb2]
        refine ih (n + 1, B1, B1 + 1) _ _ _ (by simp; omega) ⟨by simp; omega, by simp; omega, by simp⟩ ?_ ?_ (by simp)
        · simp only [htk]; simp [outV, eq1]
        · simp only [htk]; simp [outH]
    · simp [wq]
      refine ih (n + 1, id, B1) _ _ _ (by simp; omega) ⟨by simp; omega, by simp; omega, by simp; omega⟩ ?_ ?_ (by simp)
      · simp [hst, h, eq1]
      · simp [hst, h]
  · obtain rfl : n = 3 := by omega
    rw [opnB_3] at hout
    subst hout
    simp
    exact fz_outV (e := 3) trivial (fun h0 => by simp [outH, h0])

theorem c24 (L : List R) (hL : L.length ≤ 1000000) : Told 24 [.sl 8 (L.map encR)] [] [] 0 (.sl 1 (ints (opnLog L))) := by
  refine told_fz (lt_ints 0 _) fun B => ?_
  refine acallsF M0 Tryz.func24 (by kernel_rfl) fun hlt => ?_
  simp [Tryz.f24]
  refine callw_told (c72 L hL) (Nat.zero_le _) (by simp) ?_
  simp
  refine gC (fun hok => ?_) (fun hok => ?_) <;> simp at hok <;> simp
  · rw [opnLog, if_neg hok]; exact .nils 1
  · refine callw_told (c73 L hL) (Nat.zero_le _) (by simp) ?_
    simp
    rw [opnLog, if_pos hok]; exact .same _

end Go.Proofs.YtnaafbdgkmlnaaaGreat

/- Functions: an engine is drawn. -/
namespace Go.Proofs.YtnaafbdgkmlnaaaGreat
set_option linter.unusedVariables false
set_option linter.unusedSimpArgs false
set_option linter.unnecessarySimpa false
set_option maxRecDepth 20000
set_option maxHeartbeats 4000000

/-- An engine that is drawn. -/
def Drawn (e : Eng) : Prop := ShortE e ∧ LogDrawn e.log
def QEngR (id : Nat) (bs : List Int) (p : Nat) (v : AV) (H' : Hp) : Prop := ∃ (p' : Nat) (e : Eng) (D M Lg : Nat), p ≤ p' ∧ p' ≤ p + 1700 ∧ Drawn e ∧ id ≠ D ∧ id ≠ M ∧ id ≠ Lg ∧ H' id = some (rdB bs p') ∧ Fz (fun i => i = D ∨ i = M ∨ i = Lg) H' v (.agg (encE e))

/-- An engine that is named, as it is handed back. -/
theorem QEngR.of {id : Nat} {bs : List Int} {p : Nat} {H : Hp} {D M Lg : Nat} (p' : Nat) {dk mm : List Pg} {l : AV} {L : List R} {s : Int} {d : Bool} (h1 : p ≤ p') (h2 : p' ≤ p + 1700) (h3 : Drawn ⟨dk, mm, L, s, d⟩) (a1 : id ≠ D) (a2 : id ≠ M) (a3 : id ≠ Lg) (k1 : H id = some (rdB bs p')) (k2 : dk.length = 5) (k3 : mm.length = 5)
    (k4 : H D = some ⟨38, 3, dk.map encP⟩) (k5 : H M = some ⟨38, 3, mm.map encP⟩) (k6 : Fz (fun i => i = D ∨ i = M ∨ i = Lg) H l (.sl 8 (L.map encR))) : QEngR id bs p (.agg [.ref D 3 0 5, .ref M 3 0 5, l, I64 s, .bool d]) H := by
  refine ⟨p', ⟨dk, mm, L, s, d⟩, D, M, Lg, h1, h2, h3, a1, a2, a3, k1, ?_⟩
  have pz : ∀ (i : Nat) (ps : List Pg), (i = D ∨ i = M ∨ i = Lg) → H i = some ⟨38, 3, ps.map encP⟩ → ps.length = 5 → Fz (fun i => i = D ∨ i = M ∨ i = Lg) H (.ref i 3 0 5) (.sl 3 (ps.map encP)) := fun i ps hi hH hl => by
    refine .ref i 3 0 5 _ _ hi hH rfl (by simp [hl]) (by simp [hl]) (fun j r r' a b => ?_) (fun j c x y hx hy => ?_)
    · rw [Nat.zero_add] at a; simp only at a; rw [a] at b; cases b; rfl
    · rw [Nat.zero_add] at hx; simp only at hx; rw [hx] at hy; cases hy; exact .same _
  exact Fz.agg' (.cons (pz D dk (.inl rfl) k4 k2) (.cons (pz M mm (.inr (.inl rfl)) k5 k3) (.cons k6 (.cons (.same _) (.cons (.same _) .nil)))))

theorem short5 {ps : List Pg} (h : ShP ps) {i : Nat} {pg : Pg} (hp : pg.vals.length ≤ 3) : ShortPs (ps.set i pg) := by
  refine ⟨by simp [h.1], fun q hq => ?_⟩
  rcases List.mem_or_eq_of_mem_set hq with hq | rfl
  · have := h.2 q hq; omega
  · omega

theorem q136 (id : Nat) (bs : List Int) (p : Nat) (hb : BsOk bs) (hp : p ≤ 70000) (B : Nat) (hid : id < B) : ACalls PP 136 [.pe id 2 0] (rdH id bs p) B (fun v H' B' => QEngR id bs p v H') := by
  refine acallsF M3 Tryz.func136 (by kernel_rfl) fun hlt => ?_
  have n0 : ¬ id = B := by omega
  simp [Tryz.f136]
  refine callw_rel (a115 id bs p hb (by omega) (B + 1) (by omega)) (rdH_sub (by simp [n0, rdH])) ?_
  rintro v H' B1 H2 ⟨p1, evs, e, D, M, Lg, r1, r2, r3, r4, r5, r6, r7, r8, r9, r10, r11, r11b, r12, r13, r14, r15, r16⟩ hB1 s1 s2
  subst r15 r16
  have n1 : id ≠ D := by omega
  have n2 : id ≠ M := by omega
  have n3 : id ≠ Lg := by omega
  obtain ⟨w1, w2, w3⟩ := @hpW_all (rdH id bs p1) D M Lg e r12 r13 r14
  have g1 : H2 id = some (rdB bs p1) := s1 _ _ (by rw [hpW_ne n1 n2 n3]; exact rdH_id)
  have g2 : H2 D = some ⟨38, 3, e.disk.map encP⟩ := s1 _ _ w1
  have g3 : H2 M = some ⟨38, 3, e.mem.map encP⟩ := s1 _ _ w2
  have g4 : ¬ e.log.map encR = [] → H2 Lg = some ⟨71, 8, e.log.map encR⟩ := fun h => s1 _ _ (w3 h)
  have g5 : H2 B = some zE := s2 _ _ (by simp [zE]) (rdH_none (by omega)) (by rw [hpW_ne (by omega) (by omega) (by omega)]; exact rdH_none (by omega))
  clear s1 s2 w1 w2 w3
  have hlen := r6.len
  have hd := r6.disk.sh
  have hm := r6.mem.sh
  have m1 : ¬ id = B1 := by omega
  have m2 : ¬ D = B1 := by omega
  have m3 : ¬ M = B1 := by omega
  have m4 : ¬ B1 = id := by omega
  have m5 : ¬ B1 = D := by omega
  have m6 : ¬ B1 = M := by omega
  have m7 : ¬ B = B1 := by omega
  have m8 : ¬ B = id := by omega
  have m9 : ¬ B = D := by omega
  have m10 : ¬ B = M := by omega
  have m11 : ¬ D = B := by omega
  have m12 : ¬ M = B := by omega
  have m13 : ¬ D = id := by omega
  have m14 : ¬ M = id := by omega
  have m15 : ¬ M = D := by omega
  have m16 : ¬ id = D := n1
  have m17 : ¬ id = M := n2
  have hfl : ∀ H : Hp, (¬ e.log.map encR = [] → H Lg = some ⟨71, 8, e.log.map encR⟩) → Fz (fun i => i = D ∨ i = M ∨ i = Lg) H (outV Lg 8 (e.log.map encR)) (.sl 8 (e.log.map encR)) := fun H h => fz_outV (.inr (.inr rfl)) h
  have m18 : ¬ e.log.map encR = [] → ¬ Lg = B1 := fun h => by have := r11b (by simpa using h); omega
  have m19 : ¬ Lg = B := by omega
  have m20 : ¬ Lg = id := fun q => n3 q.symm
  have m21 : ¬ Lg = D := fun q => r13 q.symm
  have m22 : ¬ Lg = M := fun q => r14 q.symm
  have hdr : ∀ (s : Int) (d : Bool), Drawn ⟨e.disk, e.mem, e.log, s, d⟩ := fun s d => ⟨⟨hd.short, hm.short, by simp only; omega⟩, e.log, r6.log, .inl rfl⟩
  simp only [zE] at g5
  simp [encW]
  refine callw_pick (p := p1) hb (by omega) (by decide) (by simp [m1, g1]) fun x x0 x1 => ?_
  simp
  have hlo : ∀ rows : List (List AV), evLen (outV Lg 8 rows) = some (I64 rows.length) := fun rows => by unfold outV; split <;> simp_all
  refine gC (fun c1 => ?_) (fun c1 => ?_) <;> simp at c1 <;> simp [c1]
  · have w1 := w64 ((e.log.length : Int) + 2) (by omega) (by omega)
    simp [hlo, w1, m4]
    refine callw_pick (p := p1 + 1) hb (by omega) (by omega) (by simp) fun y y0 y1 => ?_
    simp [g5, m4, m7, m8]
    exact QEngR.of (p1 + 2) (by omega) (by omega) (hdr y e.down) n1 n2 n3 (by simp [m1, n0]) hd.1 hm.1 (by simp [m2, m11, m13, g2]) (by simp [m3, m12, m14, g3]) (hfl _ (fun h => by have := m18 h; simp [this, m19, m20, m21, m22, g4 h]))
  refine gC (fun c2 => ?_) (fun c2 => ?_) <;> simp at c2 <;> simp [c2]
  · have hpk := pickV_in hb (p1 + 1) (n := 5) (by decide)
    have h197 := c197 id (B1 + 1) (by omega) bs (p1 + 2) hb (by omega)
    obtain ⟨q1, q2, q3⟩ := drPage_ok bs (p1 + 2)
    have hlt5 : (pickV bs (p1 + 1) 5).toNat < 5 := by omega
    have h5 := hm.1
    generalize drPage bs (p1 + 2) = dp at h197 q1 q2 q3
    obtain ⟨p3, pg⟩ := dp
    simp only [encP, pgRow] at h197 q1 q2 q3
    have hpl : pg.vals.length ≤ 3 := q3
    have hset : (e.mem.map encP).set (pickV bs (p1 + 1) 5).toNat [I64 pg.lsn, I64 pg.owner, .sl 1 (ints pg.vals)] = (e.mem.set (pickV bs (p1 + 1) 5).toNat pg).map encP := by rw [← map_set_enc]; rfl
    simp [m4]
    refine calld_pickF (p := p1 + 1) hb (by omega) (by simp) ?_
    simp
    refine calld_upd h197 (by omega) (by simp) ?_
    simp [m4, m5, m6, m7, m8, m9, m10, m11, m12, m13, m14, m15, m16, m17, r12, m1, m2, m3, hpk.1, hpk.2, g3, h5, hlt5, g5]
    refine ⟨chkW_tkb [B1, id, M] [(⟨[], [], false⟩, 0), (⟨[0], [], false⟩, 0), (⟨[], [], false⟩, 0), (⟨[1], [1], false⟩, 0), (⟨[], [], false⟩, 0), (⟨[1], [1], false⟩, B1 + 1), (⟨[], [], false⟩, 0), (⟨[2], [2], false⟩, 0)] (by simp [m4, m5, m6, n1, n2]) (by simp) rfl (by kernel_rfl), ?_⟩
    exact QEngR.of (dk := e.disk) (mm := e.mem.set (pickV bs (p1 + 1) 5).toNat pg) (L := e.log) p3 (by omega) (by omega) ⟨⟨hd.short, short5 hm hpl, by simp only; omega⟩, e.log, r6.log, .inl rfl⟩ n1 n2 n3 (by simp [m1, n0, m16, m17]) hd.1 (by simp [hm.1]) (by simp [m2, m11, m13, r12, g2, encP, pgRow]) (by simp [m3, m12, m14, m15, g3, encP, pgRow]) (hfl _ (fun h => by have := m18 h; simp [this, m19, m20, m21, m22, g4 h]))
  refine gC (fun c3 => ?_) (fun c3 => ?_) <;> simp at c3 <;> simp [c3]
  · have hpk := pickV_in hb (p1 + 1) (n := 5) (by decide)
    have h197 := c197 id (B1 + 1) (by omega) bs (p1 + 2) hb (by omega)
    obtain ⟨q1, q2, q3⟩ := drPage_ok bs (p1 + 2)
    have hlt5 : (pickV bs (p1 + 1) 5).toNat < 5 := by omega
    have h5 := hd.1
    generalize drPage bs (p1 + 2) = dp at h197 q1 q2 q3
    obtain ⟨p3, pg⟩ := dp
    simp only [encP, pgRow] at h197 q1 q2 q3
    have hpl : pg.vals.length ≤ 3 := q3
    have hset : (e.disk.map encP).set (pickV bs (p1 + 1) 5).toNat [I64 pg.lsn, I64 pg.owner, .sl 1 (ints pg.vals)] = (e.disk.set (pickV bs (p1 + 1) 5).toNat pg).map encP := by rw [← map_set_enc]; rfl
    simp [m4]
    refine calld_pickF (p := p1 + 1) hb (by omega) (by simp) ?_
    simp
    refine calld_upd h197 (by omega) (by simp) ?_
    simp [m4, m5, m6, m7, m8, m9, m10, m11, m12, m13, m14, m15, m16, m17, r12, m1, m2, m3, hpk.1, hpk.2, g2, h5, hlt5, g5]
    refine ⟨chkW_tkb [B1, id, D] [(⟨[], [], false⟩, 0), (⟨[0], [], false⟩, 0), (⟨[], [], false⟩, 0), (⟨[1], [1], false⟩, 0), (⟨[], [], false⟩, 0), (⟨[1], [1], false⟩, B1 + 1), (⟨[], [], false⟩, 0), (⟨[2], [2], false⟩, 0)] (by simp [m4, m5, m6, n1, n2]) (by simp) rfl (by kernel_rfl), ?_⟩
    exact QEngR.of (dk := e.disk.set (pickV bs (p1 + 1) 5).toNat pg) (mm := e.mem) (L := e.log) p3 (by omega) (by omega) ⟨⟨short5 hd hpl, hm.short, by simp only; omega⟩, e.log, r6.log, .inl rfl⟩ n1 n2 n3 (by simp [m1, n0, m16, m17]) (by simp [hd.1]) hm.1 (by simp [m2, m11, m13, r12, g2, encP, pgRow]) (by simp [m3, m12, m14, m15, g3, encP, pgRow]) (hfl _ (fun h => by have := m18 h; simp [this, m19, m20, m21, m22, g4 h]))
  refine gC (fun c4 => ?_) (fun c4 => ?_) <;> simp at c4 <;> simp [c4]
  · refine callw_rel (a198 id bs (p1 + 1) hb (by omega) (B1 + 1) (by omega)) (rdH_sub (by simp)) ?_
    rintro v H' B2 H3 ⟨p2, L, k1, k2, k3, rfl, rfl⟩ hB2 s1 s2
    have f1 : H3 id = some (rdB bs p2) := s1 _ _ rdH_id
    have f2 : H3 D = some ⟨38, 3, e.disk.map encP⟩ := s2 _ _ (by simp [m2, m13, g2]) (rdH_none m13) (rdH_none m13)
    have f3 : H3 M = some ⟨38, 3, e.mem.map encP⟩ := s2 _ _ (by simp [m3, m14, g3]) (rdH_none m14) (rdH_none m14)
    have f4 : H3 B1 = some ⟨30, 5, [[.ref D 3 0 5, .ref M 3 0 5, outV Lg 8 (e.log.map encR), I64 e.safe, .bool e.down]]⟩ := s2 _ _ (by simp [m4]) (rdH_none m4) (rdH_none m4)
    have f5 : H3 B = some ⟨30, 5, [[.nils, .nils, .nils, I64 0, .bool false]]⟩ := s2 _ _ (by simp [m7, m8, g5]) (rdH_none m8) (rdH_none m8)
    clear s1 s2
    have hLl := k3.len
    simp [f4, f5, m7]
    exact QEngR.of (dk := e.disk) (mm := e.mem) (L := L) p2 (by omega) (by omega) ⟨⟨hd.short, hm.short, by simp only; omega⟩, k3⟩ n1 n2 n3 (by simp [m1, n0, f1]) hd.1 hm.1 (by simp [m2, m11, f2]) (by simp [m3, m12, f3]) (.same _)
  refine gC (fun c5 => ?_) (fun c5 => ?_) <;> simp at c5 <;> simp [c5]
  · simp [g5, m4, m7, m8]
    exact QEngR.of (p1 + 1) (by omega) (by omega) (hdr e.safe (!e.down)) n1 n2 n3 (by simp [m1, n0]) hd.1 hm.1 (by simp [m2, m11, m13, g2]) (by simp [m3, m12, m14, g3]) (hfl _ (fun h => by have := m18 h; simp [this, m19, m20, m21, m22, g4 h]))
  · simp [g5, m4, m7, m8]
    exact QEngR.of (p1 + 1) (by omega) (by omega) (hdr e.safe e.down) n1 n2 n3 (by simp [m1, n0]) hd.1 hm.1 (by simp [m2, m11, m13, g2]) (by simp [m3, m12, m14, g3]) (hfl _ (fun h => by have := m18 h; simp [this, m19, m20, m21, m22, g4 h]))

end Go.Proofs.YtnaafbdgkmlnaaaGreat

/- Functions: an engine is drawn that did not fall, most often. -/
namespace Go.Proofs.YtnaafbdgkmlnaaaGreat
set_option linter.unusedVariables false
set_option linter.unusedSimpArgs false
set_option linter.unnecessarySimpa false
set_option maxRecDepth 20000
set_option maxHeartbeats 4000000

def QEng (id : Nat) (bs : List Int) (p K : Nat) (v : AV) (H' : Hp) : Prop := ∃ (p' : Nat) (e : Eng), p ≤ p' ∧ p' ≤ p + K ∧ Drawn e ∧ v = .agg (encE e) ∧ H' = rdH id bs p'
theorem a136 (id : Nat) (bs : List Int) (p : Nat) (hb : BsOk bs) (hp : p ≤ 70000) (B : Nat) (hid : id < B) : ACalls PP 136 [.pe id 2 0] (rdH id bs p) B (fun v H' B' => QEng id bs p 1700 v H') :=
  (q136 id bs p hb hp B hid).fin fun v H' B' hlt ⟨p', e, D, M, Lg, h1, h2, h3, h4, h5, h6, h7, h8⟩ => ⟨_, .agg (encE e), rdH id bs p', h8, fun i k hk => ⟨fun q => (by
    have hn : rdH id bs p' i = none := by
      rcases q with rfl | rfl | rfl
      · exact rdH_none (Ne.symm h4)
      · exact rdH_none (Ne.symm h5)
      · exact rdH_none (Ne.symm h6)
    rw [hn] at hk; cases hk), rdH_sub h7 i k hk⟩, p', e, h1, h2, h3, rfl, rfl⟩

theorem a75 (id : Nat) (bs : List Int) (p : Nat) (hb : BsOk bs) (hp : p ≤ 50000) (B : Nat) (hid : id < B) : ACalls PP 75 [.pe id 2 0] (rdH id bs p) B (fun v H' B' => QEng id bs p 10300 v H') := by
  have h : ACalls PP 75 [.pe id 2 0] (rdH id bs p) B (fun v H' B' => ∃ (p' : Nat) (e : Eng), p ≤ p' ∧ p' ≤ p + 10300 ∧ Drawn e ∧ v = .agg (encE e) ∧ H' id = some (rdB bs p')) := by
    refine acallsF M3 Tryz.func75 (by kernel_rfl) fun hlt => ?_
    have n0 : ¬ id = B := by omega
    have n1 : ¬ B = id := by omega
    simp [Tryz.f75]
    refine callw_rel (a136 id bs p hb (by omega) (B + 1) (by omega)) (rdH_sub (by simp [n0, rdH])) ?_
    rintro v H' B1 H2 ⟨p1, e, k1, k2, k3, rfl, rfl⟩ hB1 s1 s2
    have g1 : H2 id = some (rdB bs p1) := s1 _ _ rdH_id
    have g2 : H2 B = some ⟨30, 5, [[.nils, .nils, .nils, I64 0, .bool false]]⟩ := s2 _ _ (by simp) (rdH_none n1) (rdH_none n1)
    clear s1 s2
    have n2 : ¬ id = B1 := by omega
    have n3 : ¬ B1 = id := by omega
    have n4 : ¬ B = B1 := by omega
    have n5 : ¬ B1 = B := by omega
    simp [encE]
    refine aloop_ind (ι := Nat × Eng × Nat × Nat) (fun i => 5 - i.1) (fun i => B1 + 1 ≤ i.2.2.2 ∧ i.1 ≤ 5 ∧ Drawn i.2.1 ∧ p ≤ i.2.2.1 ∧ i.2.2.1 ≤ p + 1700 + 1701 * i.1) (fun i => [(0, .pe id 2 0), (2, .pe B 5 0), (3, .pe B1 5 0), (4, I64 i.1)]) (fun i => ((rdH id bs i.2.2.1).set B ⟨30, 5, [[.nils, .nils, .nils, I64 0, .bool false]]⟩).set B1 ⟨30, 5, [encE i.2.1]⟩) (fun i => i.2.2.2) (0, e, p1, B1 + 1) ⟨Nat.le_refl _, by simp, k3, k1, by simpa using k2⟩ (by simp) ?_ (Nat.le_refl _) ?_
    · intro i k hk
      simp only [rdH, Hp.set_app, Hp.nil_app] at hk
      split at hk
      · rename_i q; rw [← hk]; simp [q, encE]
      split at hk
      · rename_i q; rw [← hk, q]; simp [n4, g2]
      split at hk
      · rename_i q; rw [← hk, q]; simp [n2, g1]
      · cases hk
    rintro A ⟨n, x, p2, Bn⟩ ⟨hBn, hn, hx, hp1, hp2⟩ ih
    simp only at hBn hn hx hp1 hp2
    refine wpC_sound M3 _ _ _ _ _ (by kernel_rfl) ?_
    have wn := w64 ((n : Int) + 1) (by omega) (by omega)
    have h137 := c137 x.log hx.1.2.2
    have hol := opnLog_len x.log
    simp [encE]
    refine gO (fun c1 => ?_) (fun c1 => ?_) <;> simp [-Nat.not_lt, -Nat.not_le, -Int.not_lt, -Int.not_le] at c1 <;> simp [c1]
    · refine callw_pick (p := p2) hb (by omega) (by decide) (by simp [rdH, n0, n2]) fun y y0 y1 => ?_
      simp
      refine gO (fun c2 => ?_) (fun c2 => ?_) <;> simp [-Int.not_lt, -Int.not_le] at c2 <;> simp [c2, n3]
      · cases hdn : x.down with
        | true =>
          simp
          refine callw_rel (a136 id bs (p2 + 1) hb (by omega) Bn (by omega)) (rdH_sub (by simp [n0, n2, n3])) ?_
          rintro v H' B2 H3 ⟨p3, y2, k4, k5, k6, rfl, rfl⟩ hB2 s1 s2
          have f1 : H3 id = some (rdB bs p3) := s1 _ _ rdH_id
          have f2 : H3 B = some ⟨30, 5, [[.nils, .nils, .nils, I64 0, .bool false]]⟩ := s2 _ _ (by simp [n1, n4]) (rdH_none n1) (rdH_none n1)
          have f3 : ∃ r, H3 B1 = some ⟨30, 5, [r]⟩ := ⟨_, s2 _ _ (by simp [n3]; rfl) (rdH_none n3) (rdH_none n3)⟩
          obtain ⟨r3, f3⟩ := f3
          clear s1 s2
          simp [f3, wn, encE]
          refine ih (n + 1, y2, p3, B2) _ _ _ (by simp; omega) ⟨by simp; omega, by simp; omega, k6, by simp; omega, by simp; omega⟩ (by simp) ?_ (Nat.le_refl _)
          intro i k hk
          simp only [rdH, Hp.set_app, Hp.nil_app] at hk
          split at hk
          · rename_i q; rw [← hk]; simp [q, encE]
          split at hk
          · rename_i q; rw [← hk, q]; simp [n4, f2]
          split at hk
          · rename_i q; rw [← hk, q]; simp [n2, f1]
          · cases hk
        | false =>
          simp [n3]
          refine callw_told h137 (Nat.zero_le _) (by simp) ?_
          simp
          refine gC (fun c3 => ?_) (fun c3 => ?_) <;> simp at c3 <;> simp [n3, n4, n5]
          · refine callw_rel (a136 id bs (p2 + 1) hb (by omega) Bn (by omega)) (rdH_sub (by simp [n0, n2, n3])) ?_
            rintro v H' B2 H3 ⟨p3, y2, k4, k5, k6, rfl, rfl⟩ hB2 s1 s2
            have f1 : H3 id = some (rdB bs p3) := s1 _ _ rdH_id
            have f2 : H3 B = some ⟨30, 5, [[.nils, .nils, .nils, I64 0, .bool false]]⟩ := s2 _ _ (by simp [n1, n4]) (rdH_none n1) (rdH_none n1)
            have f3 : ∃ r, H3 B1 = some ⟨30, 5, [r]⟩ := ⟨_, s2 _ _ (by simp [n3]; rfl) (rdH_none n3) (rdH_none n3)⟩
            obtain ⟨r3, f3⟩ := f3
            clear s1 s2
            simp [f3, wn, encE]
            refine ih (n + 1, y2, p3, B2) _ _ _ (by simp; omega) ⟨by simp; omega, by simp; omega, k6, by simp; omega, by simp; omega⟩ (by simp) ?_ (Nat.le_refl _)
            intro i k hk
            simp only [rdH, Hp.set_app, Hp.nil_app] at hk
            split at hk
            · rename_i q; rw [← hk]; simp [q, encE]
            split at hk
            · rename_i q; rw [← hk, q]; simp [n4, f2]
            split at hk
            · rename_i q; rw [← hk, q]; simp [n2, f1]
            · cases hk
          · simp [n1, n4, n5]
            exact ⟨p2 + 1, by omega, by omega, x, hx, by simp_all, by simp [rdH, n0, n2]⟩
      · simp [n1, n4, n5]
        exact ⟨p2 + 1, by omega, by omega, x, hx, by simp_all, by simp [rdH, n0, n2]⟩
    · simp [n1, n4, n5]
      exact ⟨p2, by omega, by omega, x, hx, by simp_all, by simp [rdH, n0, n2]⟩
  exact h.only fun v H' B' hlt ⟨p', e, h1, h2, h3, h4, h5⟩ => ⟨_, rdH_sub h5, p', e, h1, h2, h3, h4, rfl⟩

theorem a38 (code : List Int) (hl : code.length ≤ 1000000000) (hc : ∀ b ∈ code, 0 ≤ b ∧ b < 256) (B : Nat) : ACalls PP 38 [bytesAV code] Hp.nil B (fun v H' B' => ∃ e, Drawn e ∧ v = .agg (encE e) ∧ H' = Hp.nil) := by
  have hb : BsOk (code.take 2000) := ⟨by simp; omega, fun b hb => hc b (List.mem_of_mem_take hb)⟩
  have h : ACalls PP 38 [bytesAV code] Hp.nil B (fun v H' B' => ∃ e, Drawn e ∧ v = .agg (encE e)) := by
    refine acallsF M3 Tryz.func38 (by kernel_rfl) fun hlt => ?_
    simp [Tryz.f38]
    refine callw_rel (a74 code hl (B + 1)) (by simp) ?_
    rintro v H' B1 H2 ⟨id, k1, k2, rfl, rfl⟩ hB1 s1 s2
    have g1 : H2 id = some (rdB (code.take 2000) 0) := s1 _ _ rdH_id
    have g2 : H2 B = some ⟨30, 5, [[.nils, .nils, .nils, I64 0, .bool false]]⟩ := s2 _ _ (by simp) rfl (rdH_none (by omega))
    clear s1 s2
    simp
    refine callw_rel (a75 id _ 0 hb (by omega) B1 k2) (rdH_sub g1) ?_
    rintro v H' B2 H3 ⟨p3, e, k4, k5, k6, rfl, rfl⟩ hB2 s1 s2
    have f2 : H3 B = some ⟨30, 5, [[.nils, .nils, .nils, I64 0, .bool false]]⟩ := s2 _ _ g2 (rdH_none (by omega)) (rdH_none (by omega))
    clear s1 s2
    simp [encE, f2]
    exact ⟨e, k6, rfl, rfl, rfl, rfl, rfl⟩
  exact h.only fun v H' B' hlt ⟨e, h1, h2⟩ => ⟨Hp.nil, by simp, e, h1, h2, rfl⟩

end Go.Proofs.YtnaafbdgkmlnaaaGreat

/- Functions: the statements' own comparisons. -/
namespace Go.Proofs.YtnaafbdgkmlnaaaGreat
set_option linter.unusedVariables false
set_option linter.unusedSimpArgs false
set_option linter.unnecessarySimpa false
set_option maxRecDepth 20000
set_option maxHeartbeats 2000000

theorem take_ext {α : Type} {a b : List α} (hl : a.length = b.length) (h : a.take a.length = b.take a.length) : a = b := by
  rw [List.take_length, hl, List.take_length] at h; exact h
theorem take_step {α : Type} {a b : List α} {n : Nat} {x : α} (h : a.take n = b.take n) (ha : a[n]? = some x) (hb : b[n]? = some x) : a.take (n + 1) = b.take (n + 1) := by
  rw [List.take_add_one, List.take_add_one, h, ha, hb]
theorem ne_at {α : Type} {a b : List α} {n : Nat} {x y : α} (ha : a[n]? = some x) (hb : b[n]? = some y) (h : x ≠ y) : a ≠ b := fun e => by
  subst e; rw [ha] at hb; exact h (Option.some.inj hb)

theorem c114 (a b : List Int) (ha : a.length ≤ 1000000) : Told 114 [.sl 1 (ints a), .sl 1 (ints b)] [] [] 0 (.bool (decide (a = b))) := by
  refine told_of (Keep.nil _) trivial fun B _ => ?_
  refine acallsF M0 Tryz.func114 (by kernel_rfl) fun hlt => ?_
  simp [Tryz.f114]
  refine gC (fun h => ?_) (fun h => ?_) <;> simp at h <;> simp
  · exact fun e => h (by rw [e])
  · refine aloop_ind (ι := Nat) (fun n => a.length - n) (fun n => n ≤ a.length ∧ a.take n = b.take n) (fun n => [(0, .sl 1 (ints a)), (1, .sl 1 (ints b)), (5, I64 n)]) (fun _ => Hp.of []) (fun _ => B) 0 ⟨Nat.zero_le _, rfl⟩ (by simp) (by simp) (Nat.le_refl _) ?_
    rintro A n ⟨hn, hi⟩ ih
    refine wpC_sound M0 _ _ _ _ _ (by kernel_rfl) ?_
    simp [cond_dec]
    constructor
    · intro hlt'
      obtain ⟨v, hv⟩ : ∃ v, a[n]? = some v := ⟨_, List.getElem?_eq_getElem hlt'⟩
      obtain ⟨u, hu⟩ : ∃ u, b[n]? = some u := ⟨_, List.getElem?_eq_getElem (by omega)⟩
      have w1 := w64 ((n : Int) + 1) (by omega) (by omega)
      simp [ints_get, hv, hu]
      refine gC (fun h => ?_) (fun h => ?_) <;> simp at h <;> simp [w1]
      · exact ne_at hv hu h
      · subst h
        exact ih (n + 1) _ _ _ (by omega) ⟨hlt', take_step hi hv hu⟩ (by simp) (by simp) (Nat.le_refl _)
    · intro hge
      obtain rfl : n = a.length := by omega
      exact take_ext (by omega) hi

theorem c29 (a b : List R) (ha : a.length ≤ 1000000) : Told 29 [.sl 8 (a.map encR), .sl 8 (b.map encR)] [] [] 0 (.bool (decide (a = b))) := by
  refine told_of (Keep.nil _) trivial fun B _ => ?_
  refine acallsF M0 Tryz.func29 (by kernel_rfl) fun hlt => ?_
  simp [Tryz.f29]
  refine gC (fun h => ?_) (fun h => ?_) <;> simp at h <;> simp
  · exact fun e => h (by rw [e])
  · refine aloop_ind (ι := Nat) (fun n => a.length - n) (fun n => n ≤ a.length ∧ a.take n = b.take n) (fun n => [(0, .sl 8 (a.map encR)), (1, .sl 8 (b.map encR)), (5, I64 n)]) (fun _ => Hp.of []) (fun _ => B) 0 ⟨Nat.zero_le _, rfl⟩ (by simp) (by simp) (Nat.le_refl _) ?_
    rintro A n ⟨hn, hi⟩ ih
    refine wpC_sound M0 _ _ _ _ _ (by kernel_rfl) ?_
    simp [cond_dec]
    constructor
    · intro hlt'
      obtain ⟨v, hv⟩ : ∃ v, a[n]? = some v := ⟨_, List.getElem?_eq_getElem hlt'⟩
      obtain ⟨u, hu⟩ : ∃ u, b[n]? = some u := ⟨_, List.getElem?_eq_getElem (by omega)⟩
      have w1 := w64 ((n : Int) + 1) (by omega) (by omega)
      simp [hv, hu, encR]
      refine gC (fun h => ?_) (fun h => ?_) <;> simp at h <;> simp [w1]
      · exact ne_at hv hu h
      · subst h
        exact ih (n + 1) _ _ _ (by omega) ⟨hlt', take_step hi hv hu⟩ (by simp) (by simp) (Nat.le_refl _)
    · intro hge
      obtain rfl : n = a.length := by omega
      exact take_ext (by omega) hi

theorem pg_eq (p q : Pg) : p = q ↔ p.lsn = q.lsn ∧ p.owner = q.owner ∧ p.vals = q.vals := by
  obtain ⟨a, b, c⟩ := p; obtain ⟨d, e, f⟩ := q; simp

theorem c55 (p q : Pg) (h : p.vals.length ≤ 1000000) : Told 55 [.agg (encP p), .agg (encP q)] [] [] 0 (.bool (decide (p = q))) := by
  refine told_of (Keep.nil _) trivial fun B _ => ?_
  refine acallsF M0 Tryz.func55 (by kernel_rfl) fun hlt => ?_
  simp [Tryz.f55, encP, pgRow]
  refine gO (fun c1 => ?_) (fun c1 => ?_) <;> simp at c1 <;> simp [c1]
  · refine gO (fun c2 => ?_) (fun c2 => ?_) <;> simp at c2 <;> simp [c2]
    · refine callw_told (c114 p.vals q.vals h) (Nat.zero_le _) (by simp) ?_
      simp [pg_eq, c1, c2]
    · simp [pg_eq, c2]
  · simp [pg_eq, c1]

theorem c17 (a b : List Pg) (hs : ShortPs a) : Told 17 [.sl 3 (a.map encP), .sl 3 (b.map encP)] [] [] 0 (.bool (decide (a = b))) := by
  refine told_of (Keep.nil _) trivial fun B _ => ?_
  have ha := hs.1
  refine acallsF M0 Tryz.func17 (by kernel_rfl) fun hlt => ?_
  simp [Tryz.f17]
  refine gC (fun h => ?_) (fun h => ?_) <;> simp at h <;> simp
  · exact fun e => h (by rw [e])
  · refine aloop_ind (ι := Nat) (fun n => a.length - n) (fun n => n ≤ a.length ∧ a.take n = b.take n) (fun n => [(0, .sl 3 (a.map encP)), (1, .sl 3 (b.map encP)), (5, I64 n)]) (fun _ => Hp.of []) (fun _ => B) 0 ⟨Nat.zero_le _, rfl⟩ (by simp) (by simp) (Nat.le_refl _) ?_
    rintro A n ⟨hn, hi⟩ ih
    refine wpC_sound M0 _ _ _ _ _ (by kernel_rfl) ?_
    simp [cond_dec]
    constructor
    · intro hlt'
      obtain ⟨v, hv⟩ : ∃ v, a[n]? = some v := ⟨_, List.getElem?_eq_getElem hlt'⟩
      obtain ⟨u, hu⟩ : ∃ u, b[n]? = some u := ⟨_, List.getElem?_eq_getElem (by omega)⟩
      have w1 := w64 ((n : Int) + 1) (by omega) (by omega)
      have hvl := hs.2 v (List.mem_of_getElem? hv)
      have h55 := c55 v u hvl
      simp only [encP, pgRow] at h55
      simp [hv, hu, encP, pgRow]
      refine calld_told h55 (Nat.zero_le _) (by simp) ?_
      simp
      refine gC (fun h => ?_) (fun h => ?_) <;> simp at h <;> simp [w1]
      · exact ne_at hv hu h
      · subst h
        exact ih (n + 1) _ _ _ (by omega) ⟨hlt', take_step hi hv hu⟩ (by simp) (by simp) (Nat.le_refl _)
    · intro hge
      obtain rfl : n = a.length := by omega
      exact take_ext (by omega) hi

theorem eng_eq (a b : Eng) : a = b ↔ a.disk = b.disk ∧ a.mem = b.mem ∧ a.log = b.log ∧ a.safe = b.safe ∧ a.down = b.down := by
  obtain ⟨a1, a2, a3, a4, a5⟩ := a; obtain ⟨b1, b2, b3, b4, b5⟩ := b; simp

theorem c28 (a b : Eng) (hs : ShortE a) : Told 28 [.agg (encE a), .agg (encE b)] [] [] 0 (.bool (decide (a = b))) := by
  refine told_of (Keep.nil _) trivial fun B _ => ?_
  obtain ⟨hd, hm, hl⟩ := hs
  refine acallsF M0 Tryz.func28 (by kernel_rfl) fun hlt => ?_
  simp [Tryz.f28, encE]
  refine callw_told (c17 a.disk b.disk hd) (Nat.zero_le _) (by simp) ?_
  simp
  refine gO (fun c1 => ?_) (fun c1 => ?_) <;> simp at c1 <;> simp [c1]
  · refine callw_told (c17 a.mem b.mem hm) (Nat.zero_le _) (by simp) ?_
    simp
    refine gO (fun c2 => ?_) (fun c2 => ?_) <;> simp at c2 <;> simp [c2]
    · refine callw_told (c29 a.log b.log hl) (Nat.zero_le _) (by simp) ?_
      simp
      refine gO (fun c3 => ?_) (fun c3 => ?_) <;> simp at c3 <;> simp [c3]
      · refine gO (fun c4 => ?_) (fun c4 => ?_) <;> simp at c4 <;> simp [c4]
        · simp [eng_eq, c1, c2, c3, c4]
          cases a.down <;> cases b.down <;> rfl
        · simp [eng_eq, c4]
      · simp [eng_eq, c3]
    · simp [eng_eq, c2]
  · simp [eng_eq, c1]

end Go.Proofs.YtnaafbdgkmlnaaaGreat
