/- Laws about the machine's run of the program's functions, part 24, in import order. No condition. -/
import Derived.Test.YtnaafbdgkmlnaaaGreatM01
import Derived.Test.YtnaafbdgkmlnaaaGreatM23

set_option linter.unusedVariables false
set_option linter.unusedSimpArgs false
set_option linter.unnecessarySimpa false
/- Functions: is an engine valid? (The reference's.) -/
namespace Go.Proofs.YtnaafbdgkmlnaaaGreat
set_option linter.unusedVariables false
set_option linter.unusedSimpArgs false
set_option linter.unnecessarySimpa false
set_option maxRecDepth 20000
set_option maxHeartbeats 4000000

def SpecFine (e : Eng) (p : Int) : Prop := (pgAt e.disk p).lsn ≤ e.safe ∧ (e.down = true → pgAt e.mem p = pgAt e.disk p) ∧
  (e.down = false → (Loaded e.log p → Fresh e p ∧ (pgAt e.mem p).owner = (pgAt (redo e.disk e.log) p).owner) ∧
    (¬ Loaded e.log p → pgAt e.mem p = pgAt (redo e.disk e.log) p ∧ (pgAt e.disk p).lsn ≤ (pgAt e.mem p).lsn ∧ (pgAt e.mem p).owner = (pgAt (redo e.disk e.log) p).owner)) ∧ heldN e.log p 3 ≤ 1
theorem SpecFine_iff {e : Eng} (hd : e.disk.length = 5) (hL : ∀ r ∈ e.log, RecOkP r) (p : Int) : SpecFine e p ↔ PageFine e p := by
  have hl := redoB_lsn hd hL p e.log.length
  unfold SpecFine PageFine MemOk
  rw [One_iff]
  cases hdn : e.down
  · by_cases hlo : Loaded e.log p
    · simp [hlo, Fresh]
      constructor
      · rintro ⟨a, ⟨⟨b, c⟩, d⟩, e'⟩; exact ⟨e', a, d, b, c⟩
      · rintro ⟨a, b, c, d, e'⟩; exact ⟨b, ⟨⟨d, e'⟩, c⟩, a⟩
    · simp [hlo]
      constructor
      · rintro ⟨a, ⟨b, c, d⟩, e'⟩; exact ⟨e', a, b⟩
      · rintro ⟨a, b, c⟩; exact ⟨b, ⟨c, by rw [c]; exact hl, by rw [c]⟩, a⟩
  · simp
    constructor
    · rintro ⟨a, b, c⟩; exact ⟨c, a, b⟩
    · rintro ⟨a, b, c⟩; exact ⟨b, c, a⟩

def ShortE (e : Eng) : Prop := ShortPs e.disk ∧ ShortPs e.mem ∧ e.log.length ≤ 1000000
theorem c104t (ps : List Pg) (L : List R) (hps : ShP ps) (hL : ∀ r ∈ L, RecOkP r) (hl : L.length ≤ 1000000) : Told 104 [.sl 3 (ps.map encP), .sl 8 (L.map encR)] [] [] 0 (.sl 3 ((redo ps L).map encP)) :=
  told_mk (c104 ps L hps hL hl) (fun H i hi => Fz.slice hi rfl rfl rfl) (lt_pages 0 _)

def PrefOk (e : Eng) (j : Nat) : Prop := PagesOkP (redoB e.disk e.log j) ∧ Undone (redoB e.disk e.log j) (e.log.take j)

theorem fresh_dn (e : Eng) (b : Bool) (n : Int) : Fresh ⟨e.disk, e.mem, e.log, e.safe, b⟩ n = Fresh e n := rfl

theorem c50 (e : Eng) (hs : ShortE e) : Told 50 [.agg (encE e)] [] [] 0 (.bool (decide (EngOk e))) := by
  refine told_of (Keep.nil _) trivial fun B _ => ?_
  refine acallsF M5 Tryz.func50 (by kernel_rfl) fun hlt => ?_
  obtain ⟨hs1, hs2, hs3⟩ := hs
  simp [Tryz.f50, encE, hs1, hs2, hs3]
  refine gO (fun h1 => ?_) (fun h1 => ?_) <;> simp at h1 <;> simp [h1, hs1, hs2, hs3]
  rotate_left
  · intro h; exact h1 h.1
  refine gO (fun h2 => ?_) (fun h2 => ?_) <;> simp at h2 <;> simp [h1, h2, hs1, hs2, hs3]
  rotate_left
  · intro h; exact h2 h.2.1
  refine gO (fun h3 => ?_) (fun h3 => ?_) <;> simp at h3 <;> simp [h1, h2, h3, hs1, hs2, hs3]
  rotate_left
  · intro h; exact h3 h.2.2.1
  refine gC (fun h4 => ?_) (fun h4 => ?_) <;> simp at h4 <;> simp [h1, h2, h3, h4]
  · intro h; exact h4 h.2.2.2.1
  have hg := h3.1
  have hrec := hg.rec
  have h150 := h3.2
  refine callw_told (c104t e.disk e.log h1.sh hrec hs3) (Nat.zero_le _) (by simp) ?_
  have hnl := needB_le hg 3
  rw [needB_3] at hnl
  have wn := w64 ((e.log.length : Int) + need e.log) (by omega) (by omega)
  simp [hg, hs3, wn]
  refine gC (fun h5 => ?_) (fun h5 => ?_) <;> simp [-Int.not_le, -Int.not_lt] at h5 <;> simp [hs3]
  · intro h; have := h.2.2.2.2.1; unfold Fits at this; omega
  have hfit : Fits e.log := by unfold Fits; omega
  obtain ⟨n0, hn0⟩ : ∃ n0 : Nat, e.safe = n0 := ⟨e.safe.toNat, by have := h4.1; omega⟩
  have h44 := h4.2
  refine aloop_ind (ι := Nat × Nat) (fun i => e.log.length + 1 - i.1) (fun i => n0 ≤ i.1 ∧ i.1 ≤ e.log.length + 1 ∧ ∀ j, n0 ≤ j → j < i.1 → PrefOk e j) (fun i => [(1, .qe (encE e)), (3, .sl 3 ((redo e.disk e.log).map encP)), (4, I64 i.1)]) (fun _ => Hp.of []) (fun i => i.2) (n0, B) ⟨Nat.le_refl _, by simp; omega, fun j a b => by simp at b; omega⟩ (by simp [encE, hn0]) (by simp) (Nat.le_refl _) ?_
  rintro A ⟨n, B1⟩ ⟨hn, hnl, hi⟩ ih
  simp only at hn hnl hi
  refine wpC_sound M5 _ _ _ _ _ (by kernel_rfl) ?_
  simp [cond_dec, encE]
  constructor
  · intro hle
    have w1 := w64 ((n : Int) + 1) (by omega) (by omega)
    have nn : (n : Int) ≤ (e.log.length : Int) := by omega
    have hrt : ∀ r ∈ e.log.take n, RecOkP r := fun r hr => hrec r (List.mem_of_mem_take hr)
    have hsh := h1.sh.redoB hrec n
    have h104 := c104 e.disk (e.log.take n) h1.sh hrt (by rw [List.length_take]; omega)
    rw [List.map_take, redo_take hle] at h104
    have bad : ¬ PrefOk e n → ¬ EngOk e := fun h hok => h (hok.2.2.2.2.2.1 n (by omega) hle)
    obtain ⟨qs, hqs⟩ : ∃ qs, qs = redoB e.disk e.log n := ⟨_, rfl⟩
    rw [← hqs] at h104 hsh
    have hql : qs.length = 5 := hsh.1
    have h106 := a106 B1 qs (e.log.take n) hsh (hg.take n) (by rw [List.length_take]; omega) (B1 + 1)
    rw [List.map_take] at h106
    simp [hle]
    refine calld_mk h104 ?_
    simp [anS, hql]
    refine ⟨chkW_sh (by kernel_rfl), ?_⟩
    refine callw_told (lend_pages (e := 38) (c102 qs hsh.short) (.bool _) (fun _ => trivial) hql.symm) (Nat.zero_le _) (by simp) ?_
    simp
    refine gO (fun h6 => ?_) (fun h6 => ?_) <;> simp at h6 <;> simp [h6, hle]
    · refine callw_eat (id := B1) (k := ⟨38, 3, qs.map encP⟩) h106 (fun _ => trivial) (by simp) ?_
      simp
      refine gC (fun h7 => ?_) (fun h7 => ?_) <;> simp at h7 <;> simp [w1]
      · exact bad fun h => h7 (by rw [hqs]; exact h.2)
      · refine ih (n + 1, B1 + 1) _ _ _ (by simp; omega) ⟨by simp; omega, by simp; omega, fun j a b => ?_⟩ (by simp [encE]) (by simp) (by simp)
        by_cases ej : j = n
        · subst ej; exact ⟨by rw [← hqs]; exact h6, by rw [← hqs]; exact h7⟩
        · exact hi j a (by simp at b; omega)
    · exact bad fun h => h6 (by rw [hqs]; exact h.1)
  · intro hgt
    have hpref : PrefixesOk e := fun j a b => hi j (by omega) (by omega)
    have hdl := h1.1
    have hrok : PagesOkP (redo e.disk e.log) := (hpref e.log.length (by omega) (Nat.le_refl _)).1
    refine aloop_ind (ι := Nat) (fun i => 5 - i) (fun i => i ≤ 5 ∧ ∀ q : Nat, q < i → SpecFine e q) (fun i => [(1, .qe (encE e)), (3, .sl 3 ((redo e.disk e.log).map encP)), (6, I64 i)]) (fun _ => Hp.of []) (fun i => B1) 0 ⟨by omega, fun q h => by omega⟩ (by simp [encE]) (by simp) (Nat.le_refl _) ?_
    rintro A2 p ⟨hp5, hi2⟩ ih2
    refine wpC_sound M5 _ _ _ _ _ (by kernel_rfl) ?_
    by_cases hp : p < 5
    · have wp := w64 ((p : Int) + 1) (by omega) (by omega)
      have hp4 : (p : Int) ≤ 4 := by omega
      have hp4' : p ≤ 4 := by omega
      have hpi : (p : Int) < 5 := by omega
      have m1 : e.mem[p]? = some (pgAt e.mem p) := by simpa using (h2.sh.at (n := (p : Int)) (by omega) hp4).1
      have d1 : e.disk[p]? = some (pgAt e.disk p) := by simpa using (h1.sh.at (n := (p : Int)) (by omega) hp4).1
      have r1 : (redo e.disk e.log)[p]? = some (pgAt (redo e.disk e.log) p) := by simpa using (hrok.sh.at (n := (p : Int)) (by omega) hp4).1
      have pm : PageOkP (pgAt e.mem p) := h2.at (n := (p : Int)) (by omega) hp4
      have pd : PageOkP (pgAt e.disk p) := h1.at (n := (p : Int)) (by omega) hp4
      have pr : PageOkP (pgAt (redo e.disk e.log) p) := hrok.at (n := (p : Int)) (by omega) hp4
      have bad : ¬ SpecFine e p → ¬ EngOk e := fun h hok => h ((SpecFine_iff h1.1 hrec p).2 (hok.2.2.2.2.2.2 p hp))
      cases hdn : e.down with
      | true =>
        simp [hdn, encP, pgRow, m1, d1, r1, hg, hs3, pm, pd, pr, encE, h1, h2, hp4', hp4, hpi]
        refine gD (fun c1 => ?_) (fun c1 => ?_) <;> simp [-Int.not_le, -Int.not_lt] at c1
        · simp [hdn, encP, pgRow, m1, d1, r1, hg, hs3, pm, pd, pr, encE, h1, h2, hp4', hp4, hpi, c1]
          refine gD (fun c2 => ?_) (fun c2 => ?_) <;> simp [-Int.not_le, -Int.not_lt] at c2
          · simp [hdn, encP, pgRow, m1, d1, r1, hg, hs3, pm, pd, pr, encE, h1, h2, hp4', hp4, hpi, c1, c2]
            have hf : (pgAt e.disk p).lsn ≤ e.safe ∧ (e.down = true → pgAt e.mem p = pgAt e.disk p) ∧ (e.down = false → (Loaded e.log p → Fresh e p ∧ (pgAt e.mem p).owner = (pgAt (redo e.disk e.log) p).owner) ∧ (¬ Loaded e.log p → pgAt e.mem p = pgAt (redo e.disk e.log) p ∧ (pgAt e.disk p).lsn ≤ (pgAt e.mem p).lsn ∧ (pgAt e.mem p).owner = (pgAt (redo e.disk e.log) p).owner)) := ⟨by omega, fun _ => c2, fun h => by rw [hdn] at h; cases h⟩
            refine aloop_ind (ι := Nat) (fun i => 3 - i) (fun i => i ≤ 3) (fun i => [(1, .qe (encE e)), (3, .sl 3 ((redo e.disk e.log).map encP)), (6, I64 p), (7, I64 (heldN e.log p i)), (8, I64 ((i + 1 : Nat) : Int))]) (fun _ => Hp.of []) (fun i => B1) 0 (by omega) (by simp [encE, heldN, hdn]) (by simp) (Nat.le_refl _) ?_
            rintro A3 k hk3 ih3
            refine wpC_sound M5 _ _ _ _ _ (by kernel_rfl) ?_
            have hle := heldN_le e.log p k
            by_cases hk : k < 3
            · have hle3 : ((k + 1 : Nat) : Int) ≤ 3 := by omega
              have wq := w64 (((k + 1 : Nat) : Int) + 1) (by omega) (by omega)
              have wh := w64 ((heldN e.log p k : Int) + 1) (by omega) (by omega)
              have eq1 : ((k + 1 + 1 : Nat) : Int) = ((k + 1 : Nat) : Int) + 1 := by omega
              have hst : heldN e.log p (k + 1) = heldN e.log p k + hasN e.log ((k + 1 : Nat) : Int) p := rfl
              generalize hq : ((k + 1 : Nat) : Int) = q at *
              simp [hle3, encE, hg, hs3]
              refine gC (fun hh => ?_) (fun hh => ?_) <;> simp at hh <;> simp [wq, wh]
              · exact ih3 (k + 1) _ _ _ (by omega) (by omega) (by simp [eq1, hst, hasN, hh, encE]) (by simp) (Nat.le_refl _)
              · exact ih3 (k + 1) _ _ _ (by omega) (by omega) (by simp [eq1, hst, hasN, hh, encE]) (by simp) (Nat.le_refl _)
            · obtain rfl : k = 3 := by omega
              simp [encE]
              refine gC (fun hh => ?_) (fun hh => ?_) <;> simp [-Int.not_le, -Int.not_lt] at hh <;> simp [wp]
              · refine bad fun h => ?_
                have := h.2.2.2; omega
              · refine ih2 (p + 1) _ _ _ (by omega) ⟨by omega, fun q hq => ?_⟩ (by simp [encE]) (by simp) (Nat.le_refl _)
                by_cases eq : q = p
                · subst eq; exact ⟨hf.1, hf.2.1, hf.2.2, by omega⟩
                · exact hi2 q (by omega)
          · simp [hdn, encP, pgRow, m1, d1, r1, hg, hs3, pm, pd, pr, encE, h1, h2, hp4', hp4, hpi, c1, c2]
            exact bad fun h => c2 (h.2.1 hdn)
        · simp [hdn, encP, pgRow, m1, d1, r1, hg, hs3, pm, pd, pr, encE, h1, h2, hp4', hp4, hpi, c1]
          exact bad fun h => by have := h.1; omega
      | false =>
        by_cases hlo : Loaded e.log p
        · simp [hdn, encP, pgRow, m1, d1, r1, hg, hs3, pm, pd, pr, encE, h1, h2, hp4', hp4, hpi, hlo]
          refine gD (fun c1 => ?_) (fun c1 => ?_) <;> simp [-Int.not_le, -Int.not_lt] at c1
          · simp [hdn, encP, pgRow, m1, d1, r1, hg, hs3, pm, pd, pr, encE, h1, h2, hp4', hp4, hpi, c1, hlo]
            refine gD (fun c2 => ?_) (fun c2 => ?_) <;> simp [-Int.not_le, -Int.not_lt] at c2
            · simp [hdn, encP, pgRow, m1, d1, r1, hg, hs3, pm, pd, pr, encE, h1, h2, hp4', hp4, hpi, c1, c2, hlo]
              refine gC (fun c3 => ?_) (fun c3 => ?_) <;> simp [-Int.not_le, -Int.not_lt] at c3
              · simp
                exact bad fun h => c3 ((h.2.2.1 hdn).1 hlo).2
              · simp
                have hf : (pgAt e.disk p).lsn ≤ e.safe ∧ (e.down = true → pgAt e.mem p = pgAt e.disk p) ∧ (e.down = false → (Loaded e.log p → Fresh e p ∧ (pgAt e.mem p).owner = (pgAt (redo e.disk e.log) p).owner) ∧ (¬ Loaded e.log p → pgAt e.mem p = pgAt (redo e.disk e.log) p ∧ (pgAt e.disk p).lsn ≤ (pgAt e.mem p).lsn ∧ (pgAt e.mem p).owner = (pgAt (redo e.disk e.log) p).owner)) := ⟨by omega, (fun h => by rw [hdn] at h; cases h), fun _ => ⟨fun _ => ⟨c2, c3⟩, fun h => absurd hlo h⟩⟩
                refine aloop_ind (ι := Nat) (fun i => 3 - i) (fun i => i ≤ 3) (fun i => [(1, .qe (encE e)), (3, .sl 3 ((redo e.disk e.log).map encP)), (6, I64 p), (7, I64 (heldN e.log p i)), (8, I64 ((i + 1 : Nat) : Int))]) (fun _ => Hp.of []) (fun i => B1) 0 (by omega) (by simp [encE, heldN, hdn]) (by simp) (Nat.le_refl _) ?_
                rintro A3 k hk3 ih3
                refine wpC_sound M5 _ _ _ _ _ (by kernel_rfl) ?_
                have hle := heldN_le e.log p k
                by_cases hk : k < 3
                · have hle3 : ((k + 1 : Nat) : Int) ≤ 3 := by omega
                  have wq := w64 (((k + 1 : Nat) : Int) + 1) (by omega) (by omega)
                  have wh := w64 ((heldN e.log p k : Int) + 1) (by omega) (by omega)
                  have eq1 : ((k + 1 + 1 : Nat) : Int) = ((k + 1 : Nat) : Int) + 1 := by omega
                  have hst : heldN e.log p (k + 1) = heldN e.log p k + hasN e.log ((k + 1 : Nat) : Int) p := rfl
                  generalize hq : ((k + 1 : Nat) : Int) = q at *
                  simp [hle3, encE, hg, hs3]
                  refine gC (fun hh => ?_) (fun hh => ?_) <;> simp at hh <;> simp [wq, wh]
                  · exact ih3 (k + 1) _ _ _ (by omega) (by omega) (by simp [eq1, hst, hasN, hh, encE]) (by simp) (Nat.le_refl _)
                  · exact ih3 (k + 1) _ _ _ (by omega) (by omega) (by simp [eq1, hst, hasN, hh, encE]) (by simp) (Nat.le_refl _)
                · obtain rfl : k = 3 := by omega
                  simp [encE]
                  refine gC (fun hh => ?_) (fun hh => ?_) <;> simp [-Int.not_le, -Int.not_lt] at hh <;> simp [wp]
                  · refine bad fun h => ?_
                    have := h.2.2.2; omega
                  · refine ih2 (p + 1) _ _ _ (by omega) ⟨by omega, fun q hq => ?_⟩ (by simp [encE]) (by simp) (Nat.le_refl _)
                    by_cases eq : q = p
                    · subst eq; exact ⟨hf.1, hf.2.1, hf.2.2, by omega⟩
                    · exact hi2 q (by omega)
            · simp [hdn, encP, pgRow, m1, d1, r1, hg, hs3, pm, pd, pr, encE, h1, h2, hp4', hp4, hpi, c1, c2, hlo]
              exact bad fun h => c2 ((h.2.2.1 hdn).1 hlo).1
          · simp [hdn, encP, pgRow, m1, d1, r1, hg, hs3, pm, pd, pr, encE, h1, h2, hp4', hp4, hpi, c1, hlo]
            exact bad fun h => by have := h.1; omega
        · simp [hdn, encP, pgRow, m1, d1, r1, hg, hs3, pm, pd, pr, encE, h1, h2, hp4', hp4, hpi, hlo]
          refine gD (fun c1 => ?_) (fun c1 => ?_) <;> simp [-Int.not_le, -Int.not_lt] at c1
          · simp [hdn, encP, pgRow, m1, d1, r1, hg, hs3, pm, pd, pr, encE, h1, h2, hp4', hp4, hpi, c1, hlo]
            refine gC (fun c2 => ?_) (fun c2 => ?_) <;> simp [-Int.not_le, -Int.not_lt] at c2
            · simp
              exact bad fun h => c2 ((h.2.2.1 hdn).2 hlo).1
            · simp [hdn, encP, pgRow, m1, d1, r1, hg, hs3, pm, pd, pr, encE, h1, h2, hp4', hp4, hpi, hlo]
              refine gD (fun c3 => ?_) (fun c3 => ?_) <;> simp [-Int.not_le, -Int.not_lt] at c3
              · simp [hdn, encP, pgRow, m1, d1, r1, hg, hs3, pm, pd, pr, encE, h1, h2, hp4', hp4, hpi, c3, hlo]
                refine gC (fun c4 => ?_) (fun c4 => ?_) <;> simp [-Int.not_le, -Int.not_lt] at c4
                · simp
                  exact bad fun h => c4 ((h.2.2.1 hdn).2 hlo).2.2
                · simp
                  have hf : (pgAt e.disk p).lsn ≤ e.safe ∧ (e.down = true → pgAt e.mem p = pgAt e.disk p) ∧ (e.down = false → (Loaded e.log p → Fresh e p ∧ (pgAt e.mem p).owner = (pgAt (redo e.disk e.log) p).owner) ∧ (¬ Loaded e.log p → pgAt e.mem p = pgAt (redo e.disk e.log) p ∧ (pgAt e.disk p).lsn ≤ (pgAt e.mem p).lsn ∧ (pgAt e.mem p).owner = (pgAt (redo e.disk e.log) p).owner)) := ⟨by omega, (fun h => by rw [hdn] at h; cases h), fun _ => ⟨fun h => absurd h hlo, fun _ => ⟨c2, by omega, c4⟩⟩⟩
                  refine aloop_ind (ι := Nat) (fun i => 3 - i) (fun i => i ≤ 3) (fun i => [(1, .qe (encE e)), (3, .sl 3 ((redo e.disk e.log).map encP)), (6, I64 p), (7, I64 (heldN e.log p i)), (8, I64 ((i + 1 : Nat) : Int))]) (fun _ => Hp.of []) (fun i => B1) 0 (by omega) (by simp [encE, heldN, hdn]) (by simp) (Nat.le_refl _) ?_
                  rintro A3 k hk3 ih3
                  refine wpC_sound M5 _ _ _ _ _ (by kernel_rfl) ?_
                  have hle := heldN_le e.log p k
                  by_cases hk : k < 3
                  · have hle3 : ((k + 1 : Nat) : Int) ≤ 3 := by omega
                    have wq := w64 (((k + 1 : Nat) : Int) + 1) (by omega) (by omega)
                    have wh := w64 ((heldN e.log p k : Int) + 1) (by omega) (by omega)
                    have eq1 : ((k + 1 + 1 : Nat) : Int) = ((k + 1 : Nat) : Int) + 1 := by omega
                    have hst : heldN e.log p (k + 1) = heldN e.log p k + hasN e.log ((k + 1 : Nat) : Int) p := rfl
                    generalize hq : ((k + 1 : Nat) : Int) = q at *
                    simp [hle3, encE, hg, hs3]
                    refine gC (fun hh => ?_) (fun hh => ?_) <;> simp at hh <;> simp [wq, wh]
                    · exact ih3 (k + 1) _ _ _ (by omega) (by omega) (by simp [eq1, hst, hasN, hh, encE]) (by simp) (Nat.le_refl _)
                    · exact ih3 (k + 1) _ _ _ (by omega) (by omega) (by simp [eq1, hst, hasN, hh, encE]) (by simp) (Nat.le_refl _)
                  · obtain rfl : k = 3 := by omega
                    simp [encE]
                    refine gC (fun hh => ?_) (fun hh => ?_) <;> simp [-Int.not_le, -Int.not_lt] at hh <;> simp [wp]
                    · refine bad fun h => ?_
                      have := h.2.2.2; omega
                    · refine ih2 (p + 1) _ _ _ (by omega) ⟨by omega, fun q hq => ?_⟩ (by simp [encE]) (by simp) (Nat.le_refl _)
                      by_cases eq : q = p
                      · subst eq; exact ⟨hf.1, hf.2.1, hf.2.2, by omega⟩
                      · exact hi2 q (by omega)
              · simp [hdn, encP, pgRow, m1, d1, r1, hg, hs3, pm, pd, pr, encE, h1, h2, hp4', hp4, hpi, c3, hlo]
                exact bad fun h => by have := ((h.2.2.1 hdn).2 hlo).2.1; omega
          · simp [hdn, encP, pgRow, m1, d1, r1, hg, hs3, pm, pd, pr, encE, h1, h2, hp4', hp4, hpi, c1, hlo]
            exact bad fun h => by have := h.1; omega
    · obtain rfl : p = 5 := by omega
      simp
      exact ⟨h1, h2, h3, h4, hfit, hpref, fun q hq => (SpecFine_iff h1.1 hrec q).1 (hi2 q hq)⟩

end Go.Proofs.YtnaafbdgkmlnaaaGreat

/- Functions: is an engine valid? (The program's.) -/
namespace Go.Proofs.YtnaafbdgkmlnaaaGreat
set_option linter.unusedVariables false
set_option linter.unusedSimpArgs false
set_option linter.unnecessarySimpa false
set_option maxRecDepth 20000
set_option maxHeartbeats 4000000

theorem c83 (e : Eng) (h1 : PagesOkP e.disk) (hg : LogGood e.log) (h150 : e.log.length ≤ 150) (h4 : In e.safe 0 e.log.length) : Told 83 [.agg (encE e)] [] [] 0 (.bool (decide (PrefixesOk e))) := by
  refine told_of (Keep.nil _) trivial fun B _ => ?_
  refine acallsF M0 Tryz.func83 (by kernel_rfl) fun hlt => ?_
  simp [Tryz.f83, encE]
  have hrec := hg.rec
  obtain ⟨n0, hn0⟩ : ∃ n0 : Nat, e.safe = n0 := ⟨e.safe.toNat, by have := h4.1; omega⟩
  have h44 := h4.2
  refine aloop_ind (ι := Nat × Nat) (fun i => e.log.length + 1 - i.1) (fun i => n0 ≤ i.1 ∧ i.1 ≤ e.log.length + 1 ∧ ∀ j, n0 ≤ j → j < i.1 → PrefOk e j) (fun i => [(1, .qe (encE e)), (3, I64 i.1)]) (fun _ => Hp.of []) (fun i => i.2) (n0, B) ⟨Nat.le_refl _, by simp; omega, fun j a b => by simp at b; omega⟩ (by simp [encE, hn0]) (by simp) (Nat.le_refl _) ?_
  rintro A ⟨n, B1⟩ ⟨hn, hnl, hi⟩ ih
  simp only at hn hnl hi
  refine wpC_sound M0 _ _ _ _ _ (by kernel_rfl) ?_
  simp [cond_dec, encE]
  constructor
  · intro hle
    have w1 := w64 ((n : Int) + 1) (by omega) (by omega)
    have hrt : ∀ r ∈ e.log.take n, RecOkP r := fun r hr => hrec r (List.mem_of_mem_take hr)
    have hsh := h1.sh.redoB hrec n
    have h84 := c84 e.disk (e.log.take n) h1.sh hrt (by rw [List.length_take]; omega)
    rw [List.map_take, redo_take hle] at h84
    have bad : ¬ PrefOk e n → ¬ PrefixesOk e := fun h hok => h (hok n (by omega) hle)
    obtain ⟨qs, hqs⟩ : ∃ qs, qs = redoB e.disk e.log n := ⟨_, rfl⟩
    rw [← hqs] at h84 hsh
    have hql : qs.length = 5 := hsh.1
    have h142 := a142 B1 qs (e.log.take n) hsh (hg.take n) (by rw [List.length_take]; omega) (B1 + 1) (by omega)
    rw [List.map_take] at h142
    simp [hle]
    refine calld_mk h84 ?_
    simp [hql]
    refine ⟨chkW_sh (by kernel_rfl), ?_⟩
    refine gO (fun h6 => ?_) (fun h6 => ?_) <;> simp at h6 <;> simp [h6, hle]
    · refine callw_eat (id := B1) (k := ⟨38, 3, qs.map encP⟩) h142 (fun _ => trivial) (by simp) ?_
      simp
      refine gC (fun h7 => ?_) (fun h7 => ?_) <;> simp at h7 <;> simp [w1]
      · exact bad fun h => h7 (by rw [hqs]; exact h.2)
      · refine ih (n + 1, B1 + 1) _ _ _ (by simp; omega) ⟨by simp; omega, by simp; omega, fun j a b => ?_⟩ (by simp [encE]) (by simp) (by simp)
        by_cases ej : j = n
        · subst ej; exact ⟨by rw [← hqs]; exact h6, by rw [← hqs]; exact h7⟩
        · exact hi j a (by simp at b; omega)
    · exact bad fun h => h6 (by rw [hqs]; exact h.1)
  · intro hgt
    exact fun j a b => hi j (by omega) (by omega)

end Go.Proofs.YtnaafbdgkmlnaaaGreat

/- Functions: is it a log? (The program's.) -/
namespace Go.Proofs.YtnaafbdgkmlnaaaGreat
set_option linter.unusedVariables false
set_option linter.unusedSimpArgs false
set_option linter.unnecessarySimpa false
set_option maxRecDepth 20000
set_option maxHeartbeats 4000000

def arrL (L : List R) (n : Nat) : List AV := [I64 0, I64 (lastB L 1 n), I64 (lastB L 2 n), I64 (lastB L 3 n)]
theorem arrL_get (L : List R) (n : Nat) {t : Int} (h : 1 ≤ t ∧ t ≤ 3) : (arrL L n)[t.toNat]? = some (I64 (lastB L t n)) := by
  have : t = 1 ∨ t = 2 ∨ t = 3 := by omega
  rcases this with rfl | rfl | rfl <;> rfl
theorem arrL_end {L : List R} {n : Nat} {r : R} (hr : L[n]? = some r) (h : 1 ≤ r.tx ∧ r.tx ≤ 3) (he : Ends r) : (arrL L n).set r.tx.toNat (I64 0) = arrL L (n + 1) := by
  have : r.tx = 1 ∨ r.tx = 2 ∨ r.tx = 3 := by omega
  rcases this with e | e | e <;> simp [arrL, lastB, hr, e, he]
theorem arrL_go {L : List R} {n : Nat} {r : R} (hr : L[n]? = some r) (h : 1 ≤ r.tx ∧ r.tx ≤ 3) (he : ¬ Ends r) : (arrL L n).set r.tx.toNat (I64 ((n : Int) + 1)) = arrL L (n + 1) := by
  have : r.tx = 1 ∨ r.tx = 2 ∨ r.tx = 3 := by omega
  rcases this with e | e | e <;> simp [arrL, lastB, hr, e, he]

theorem c72 (L : List R) (hL : L.length ≤ 1000000) : Told 72 [.sl 8 (L.map encR)] [] [] 0 (.bool (decide (LogOkP L))) := by
  refine told_of (Keep.nil _) trivial fun B _ => ?_
  refine acallsF M3 Tryz.func72 (by kernel_rfl) fun hlt => ?_
  simp [Tryz.f72]
  refine gC (fun h0 => ?_) (fun h0 => ?_) <;> simp [-Int.not_le, -Int.not_lt] at h0 <;> simp
  · intro h; have := h.2; omega
  refine aloop_ind (ι := Nat × Nat) (fun i => L.length - i.1) (fun i => i.1 ≤ L.length ∧ (∀ j r, j < i.1 → L[j]? = some r → Good1 L j r) ∧ B < i.2) (fun i => [(0, .sl 8 (L.map encR)), (3, .pe B 4 0), (9, .sl 8 (L.map encR)), (10, I64 L.length), (11, I64 i.1)]) (fun i => Hp.nil.set B ⟨123, 4, [arrL L i.1]⟩) (fun i => i.2) (0, B + 1) ⟨Nat.zero_le _, fun j r h => by simp at h, by simp⟩ (by simp) (by simp [arrL, lastB, Hp.of]) (Nat.le_refl _) ?_
  rintro A ⟨n, B1⟩ ⟨hn, hi, hB1⟩ ih
  simp only at hn hi hB1
  refine wpC_sound M3 _ _ _ _ _ (by kernel_rfl) ?_
  simp [cond_dec]
  constructor
  · intro hlt'
    obtain ⟨r, hr⟩ : ∃ r, L[n]? = some r := ⟨_, List.getElem?_eq_getElem hlt'⟩
    have w1 := w64 ((n : Int) + 1) (by omega) (by omega)
    have bad : ¬ Good1 L n r → ¬ LogOkP L := fun h hok => h (hok.1 n r hr)
    have hn1 : ¬ B = B1 := by omega
    have hn2 : ¬ B1 = B := by omega
    simp [hr, encR, hn1, hn2]
    refine gD (fun c1 => ?_) (fun c1 => ?_) <;> simp at c1 <;> simp [c1]
    · have htx := c1.tx
      have ht4 : r.tx < 4 := by omega
      have ht0 : 0 ≤ r.tx := by omega
      have ht4' : r.tx.toNat < 4 := by omega
      have hget := arrL_get L n htx
      have hnx := c1.next
      simp [hr, encR, hn1, hn2, ht4, ht0, hget]
      refine gD (fun c2 => ?_) (fun c2 => ?_) <;> simp at c2 <;> simp [c2, hn1, hn2]
      · refine gD (fun c3 => ?_) (fun c3 => ?_) <;> simp [-Int.not_le, -Int.not_lt] at c3 <;> simp [c3, hn1, hn2]
        · refine gD (fun c4 => ?_) (fun c4 => ?_) <;> simp [-Int.not_le, -Int.not_lt] at c4 <;> simp [c4, hn1, hn2]
          · have w2 := w64 (r.next - 1) (by omega) (by omega)
            have hlq : (r.next - 1).toNat < L.length := by omega
            obtain ⟨q, hq⟩ : ∃ q, L[(r.next - 1).toNat]? = some q := ⟨_, List.getElem?_eq_getElem hlq⟩
            have h0' : 1 ≤ r.next := by omega
            have ei : (r.next - 1).toNat = r.next.toNat - 1 := by omega
            have hq2 := hq
            rw [ei] at hq2
            simp [w2, h0', hq2, encR, hn1, hn2]
            refine gC (fun c5 => ?_) (fun c5 => ?_) <;> simp at c5
            · simp
              refine bad fun h => ?_
              obtain ⟨q', hq', e⟩ := h.2.2.2 c4
              rw [hq] at hq'; cases hq'; exact c5 e
            · simp [hn1, hn2, ht4, ht0, ht4', w1]
              refine gC (fun c6 => ?_) (fun c6 => ?_) <;> simp at c6 <;> simp [hn1, hn2, ht4, ht0, ht4', w1]
              · refine ih (n + 1, B1 + 1) _ _ _ (by simp; omega) ⟨by simp; omega, fun j r' hj' hr' => ?_, by simp; omega⟩ (by simp) ?_ (by simp)
                · by_cases ej : j = n
                  · subst ej; rw [hr] at hr'; cases hr'; exact ⟨c1, c2, by omega, fun _ => ⟨q, hq, c5⟩⟩
                  · exact hi j r' (by simp at hj'; omega) hr'
                · intro i k' hk'
                  have ha := arrL_end hr htx c6
                  simp only [Hp.set_app, Hp.nil_app] at hk' ⊢
                  split at hk'
                  · rename_i ei; rw [if_pos ei, ha]; exact hk'
                  · cases hk'
              · refine ih (n + 1, B1 + 1) _ _ _ (by simp; omega) ⟨by simp; omega, fun j r' hj' hr' => ?_, by simp; omega⟩ (by simp) ?_ (by simp)
                · by_cases ej : j = n
                  · subst ej; rw [hr] at hr'; cases hr'; exact ⟨c1, c2, by omega, fun _ => ⟨q, hq, c5⟩⟩
                  · exact hi j r' (by simp at hj'; omega) hr'
                · intro i k' hk'
                  have ha := arrL_go hr htx c6
                  simp only [Hp.set_app, Hp.nil_app] at hk' ⊢
                  split at hk'
                  · rename_i ei; rw [if_pos ei, ha]; exact hk'
                  · cases hk'
          · simp [hn1, hn2, ht4, ht0, ht4', w1]
            refine gC (fun c6 => ?_) (fun c6 => ?_) <;> simp at c6 <;> simp [hn1, hn2, ht4, ht0, ht4', w1]
            · refine ih (n + 1, B1 + 1) _ _ _ (by simp; omega) ⟨by simp; omega, fun j r' hj' hr' => ?_, by simp; omega⟩ (by simp) ?_ (by simp)
              · by_cases ej : j = n
                · subst ej; rw [hr] at hr'; cases hr'; exact ⟨c1, c2, by omega, fun h => absurd h c4⟩
                · exact hi j r' (by simp at hj'; omega) hr'
              · intro i k' hk'
                have ha := arrL_end hr htx c6
                simp only [Hp.set_app, Hp.nil_app] at hk' ⊢
                split at hk'
                · rename_i ei; rw [if_pos ei, ha]; exact hk'
                · cases hk'
            · refine ih (n + 1, B1 + 1) _ _ _ (by simp; omega) ⟨by simp; omega, fun j r' hj' hr' => ?_, by simp; omega⟩ (by simp) ?_ (by simp)
              · by_cases ej : j = n
                · subst ej; rw [hr] at hr'; cases hr'; exact ⟨c1, c2, by omega, fun h => absurd h c4⟩
                · exact hi j r' (by simp at hj'; omega) hr'
              · intro i k' hk'
                have ha := arrL_go hr htx c6
                simp only [Hp.set_app, Hp.nil_app] at hk' ⊢
                split at hk'
                · rename_i ei; rw [if_pos ei, ha]; exact hk'
                · cases hk'
        · exact bad fun h => by have := h.2.2.1; omega
      · exact bad fun h => c2 h.2.1
    · exact bad fun h => c1 h.1
  · intro h
    obtain rfl : n = L.length := by omega
    have hg : LogGood L := fun i r hr => hi i r (List.getElem?_eq_some_iff.1 hr).1 hr
    exact ⟨hg, by omega⟩

end Go.Proofs.YtnaafbdgkmlnaaaGreat

/- Functions: is an engine valid? (The program's.) -/
namespace Go.Proofs.YtnaafbdgkmlnaaaGreat
set_option linter.unusedVariables false
set_option linter.unusedSimpArgs false
set_option linter.unnecessarySimpa false
set_option maxRecDepth 20000
set_option maxHeartbeats 4000000

theorem Has_last {L : List R} {t page : Int} (h : last L t = 0) : ¬ Has L t page := by simp [Has, chain, h]
theorem locks_eq (L : List R) (page : Int) : locks L page = lockI L page [1, 2, 3] (0, true) := by
  have hz := fun t => @Has_last L t page
  have z1 := hz 1; have z2 := hz 2; have z3 := hz 3
  simp only [locks, opn]
  by_cases h1 : last L 1 = 0 <;> by_cases h2 : last L 2 = 0 <;> by_cases h3 : last L 3 = 0 <;> simp_all [lockI]
theorem locks_ok (L : List R) (page : Int) : (locks L page).2 = decide (One L page) := by
  rw [locks_eq]
  by_cases h1 : Has L 1 page <;> by_cases h2 : Has L 2 page <;> by_cases h3 : Has L 3 page <;> simp [lockI, One, h1, h2, h3]

theorem c30 (e : Eng) (hs : ShortE e) : Told 30 [.agg (encE e)] [] [] 0 (.bool (decide (EngOk e))) := by
  refine told_of (Keep.nil _) trivial fun B _ => ?_
  refine acallsF M3 Tryz.func30 (by kernel_rfl) fun hlt => ?_
  obtain ⟨hs1, hs2, hs3⟩ := hs
  have c72e := c72 e.log hs3
  have c81d := c81 e.disk hs1
  have c81m := c81 e.mem hs2
  simp [Tryz.f30, encE]
  refine callw_told c81d (Nat.zero_le _) (by simp) ?_
  simp
  refine gO (fun h1 => ?_) (fun h1 => ?_) <;> simp at h1 <;> simp [h1]
  rotate_left
  · intro h; exact h1 h.1
  refine callw_told c81m (Nat.zero_le _) (by simp) ?_
  simp
  refine gO (fun h2 => ?_) (fun h2 => ?_) <;> simp at h2 <;> simp [h1, h2]
  rotate_left
  · intro h; exact h2 h.2.1
  refine callw_told c72e (Nat.zero_le _) (by simp) ?_
  simp
  refine gO (fun h3 => ?_) (fun h3 => ?_) <;> simp at h3 <;> simp [h1, h2, h3]
  rotate_left
  · intro h; exact h3 h.2.2.1
  have hg := h3.1
  have hrec := hg.rec
  have h150 := h3.2
  refine gO (fun h4 => ?_) (fun h4 => ?_) <;> simp at h4 <;> simp [h1, h2, h3, h4]
  rotate_left
  · intro h; exact h4 h.2.2.2.1
  refine callw_told (c82 e.log hg hs3) (Nat.zero_le _) (by simp) ?_
  simp
  refine gO (fun h5 => ?_) (fun h5 => ?_) <;> simp at h5 <;> simp [h1, h2, h3, h4, h5]
  rotate_left
  · intro h; exact h5 h.2.2.2.2.1
  have c83e := c83 e h1 hg h150 h4
  simp only [encE] at c83e
  refine callw_told c83e (Nat.zero_le _) (by simp) ?_
  simp
  refine gC (fun h6 => ?_) (fun h6 => ?_) <;> simp at h6 <;> simp
  · intro h; exact h6 h.2.2.2.2.2.1
  have c84e : Told 84 [.sl 3 (e.disk.map encP), .sl 8 (e.log.map encR)] [] [] 0 (.tup [.sl 3 ((redo e.disk e.log).map encP), .bool (decide (PagesOkP (redo e.disk e.log)))]) :=
    told_mk (c84 e.disk e.log h1.sh hrec hs3) (fun H i hi => Fz.tup' (.cons (Fz.slice hi rfl rfl rfl) (.cons (.same _) .nil))) ⟨lt_pages 0 _, trivial, trivial⟩
  refine callw_told c84e (Nat.zero_le _) (by simp) ?_
  simp
  have hrok : PagesOkP (redo e.disk e.log) := (h6 e.log.length h4.2 (Nat.le_refl _)).1
  refine aloop_ind (ι := Nat) (fun i => 5 - i) (fun i => i ≤ 5 ∧ ∀ q : Nat, q < i → PageFine e q) (fun i => [(1, .qe (encE e)), (3, .sl 3 ((redo e.disk e.log).map encP)), (52, I64 i)]) (fun _ => Hp.of []) (fun i => B) 0 ⟨by omega, fun q h => by omega⟩ (by simp [encE]) (by simp) (Nat.le_refl _) ?_
  rintro A2 p ⟨hp5, hi2⟩ ih2
  refine wpC_sound M3 _ _ _ _ _ (by kernel_rfl) ?_
  by_cases hp : p < 5
  · have wp := w64 ((p : Int) + 1) (by omega) (by omega)
    have hp4 : (p : Int) ≤ 4 := by omega
    have hpi : (p : Int) < 5 := by omega
    have m1 : e.mem[p]? = some (pgAt e.mem p) := by simpa using (h2.sh.at (n := (p : Int)) (by omega) hp4).1
    have d1 : e.disk[p]? = some (pgAt e.disk p) := by simpa using (h1.sh.at (n := (p : Int)) (by omega) hp4).1
    have r1 : (redo e.disk e.log)[p]? = some (pgAt (redo e.disk e.log) p) := by simpa using (hrok.sh.at (n := (p : Int)) (by omega) hp4).1
    have bad : ¬ PageFine e p → ¬ EngOk e := fun h hok => h (hok.2.2.2.2.2.2 p hp)
    have c60e := c60 e.log p hg hs3
    rw [locks_ok] at c60e
    have hmv := (h2.sh.at (n := (p : Int)) (by omega) hp4).2
    have c85e := c85 (pgAt e.mem p) (pgAt e.disk p) (by omega)
    have c86e := c86 e p (pgAt (redo e.disk e.log) p) h1.sh h2.sh hg hs3 (by omega) hp4
    simp only [encE, encP, pgRow] at c86e c85e
    have next : PageFine e p → ∀ F, (∀ q ∈ [(1, AV.qe (encE e)), (3, .sl 3 ((redo e.disk e.log).map encP)), (52, I64 ((p + 1 : Nat) : Int))], F q.1 = q.2) → A2 F (Hp.of []) B := fun hf F hF =>
      ih2 (p + 1) F _ _ (by omega) ⟨by omega, fun q hq => by
        by_cases eq : q = p
        · subst eq; exact hf
        · exact hi2 q (by omega)⟩ hF (by simp) (Nat.le_refl _)
    simp [hpi, encE]
    refine callw_told c60e (Nat.zero_le _) (by simp) ?_
    simp
    refine gD (fun c1 => ?_) (fun c1 => ?_) <;> simp at c1 <;> simp [c1, d1, encP, pgRow]
    · refine gC (fun c2 => ?_) (fun c2 => ?_) <;> simp [-Int.not_le, -Int.not_lt] at c2 <;> simp [d1, m1, encP, pgRow]
      · exact bad fun h => by have := h.2.1; omega
      · cases hdn : e.down with
        | true =>
          rw [hdn] at c86e
          simp [d1, m1, encP, pgRow]
          refine calld_told c85e (Nat.zero_le _) (by simp) ?_
          simp
          refine gD (fun c3 => ?_) (fun c3 => ?_) <;> simp at c3 <;> simp [c3, wp]
          · exact next ⟨c1, by omega, by rw [hdn]; exact c3⟩ _ (by simp [encE, hdn])
          · exact bad fun h => by have := h.2.2; rw [hdn] at this; exact c3 this
        | false =>
          rw [hdn] at c86e
          simp [r1, encP, pgRow]
          refine calld_told c86e (Nat.zero_le _) (by simp) ?_
          simp
          refine gC (fun c3 => ?_) (fun c3 => ?_) <;> simp at c3 <;> simp [wp]
          · exact bad fun h => by have := h.2.2; rw [hdn] at this; exact c3 this
          · exact next ⟨c1, by omega, by rw [hdn]; exact c3⟩ _ (by simp [encE, hdn])
    · exact bad fun h => c1 h.1
  · obtain rfl : p = 5 := by omega
    simp
    exact ⟨h1, h2, h3, h4, h5, h6, fun q hq => hi2 q hq⟩

end Go.Proofs.YtnaafbdgkmlnaaaGreat

/- Functions: engines anew; what was forced. -/
namespace Go.Proofs.YtnaafbdgkmlnaaaGreat
set_option linter.unusedVariables false
set_option linter.unusedSimpArgs false
set_option linter.unnecessarySimpa false
set_option maxRecDepth 20000
set_option maxHeartbeats 2000000

theorem lt_engA (B : Nat) (e : Eng) : AV.lt B (.agg (encE e)) := by simp only [AV.lt]; exact lt_eng B e
theorem lt_engT (B : Nat) (e : Eng) (b : Bool) : AV.lt B (.tup [.agg (encE e), .bool b]) := by
  simp only [AV.lt, AV.ltL, and_true]; exact lt_eng B e

theorem c70 (e : Eng) (h : ShortE e) : Told 70 [.agg (encE e)] [] [] 0 (.agg (encE e)) := by
  refine told_fz (lt_engA 0 e) fun B => ?_
  obtain ⟨hd, hm, hl⟩ := h
  have h1 := (c79 e.disk hd).told (pages_rows _)
  have h2 := (c79 e.mem hm).told (pages_rows _)
  refine acallsF M0 Tryz.func70 (by kernel_rfl) fun hlt => ?_
  simp [Tryz.f70, encE]
  refine calld_told h1 (Nat.zero_le _) (by simp) ?_
  simp
  refine calld_told h2 (Nat.zero_le _) (by simp) ?_
  simp
  refine calld_told (c80 e.log hl) (Nat.zero_le _) (by simp) ?_
  simp
  exact ⟨chkW_sh (by kernel_rfl), .same _⟩

theorem c78 (e : Eng) (h : ShortE e) : Told 78 [.agg (encE e)] [] [] 0 (.agg (encE e)) := by
  refine told_fz (lt_engA 0 e) fun B => ?_
  obtain ⟨hd, hm, hl⟩ := h
  have h1 := (c138 e.disk hd).told (pages_rows _)
  have h2 := (c138 e.mem hm).told (pages_rows _)
  have hb : e.log.length * 64 ≤ 140737488355328 := by omega
  refine acallsF M0 Tryz.func78 (by kernel_rfl) fun hlt => ?_
  simp [Tryz.f78, encE]
  refine calld_told h1 (Nat.zero_le _) (by simp) ?_
  simp
  refine calld_told h2 (Nat.zero_le _) (by simp) ?_
  simp [hb]
  exact ⟨chkW_sh (by kernel_rfl), .same _⟩

def eng0 : Eng := ⟨[], [], [], 0, false⟩
theorem fz_eng0 (H : Hp) : FzL allS H [.nils, .nils, .nils, I64 0, .bool false] (encE eng0) :=
  .cons (.nils 3) (.cons (.nils 3) (.cons (.nils 8) (.cons (.same _) (.cons (.same _) .nil))))
theorem fz_tupE (H : Hp) {xs : List AV} {e : Eng} {b b' : Bool} (h : FzL allS H xs (encE e)) (hb : b = b') : Fz allS H (.tup [.agg xs, .bool b]) (.tup [.agg (encE e), .bool b']) := by
  subst hb; exact .tup' (.cons (.agg' h) (.cons (.same _) .nil))
theorem FzL.refl (H : Hp) : ∀ xs : List AV, FzL allS H xs xs
  | [] => .nil
  | x :: xs => .cons (.same x) (FzL.refl H xs)

/-- What was forced. -/
def forceOk (e : Eng) : Prop := EngOk e ∧ e.down = false
noncomputable instance (e : Eng) : Decidable (forceOk e) := by unfold forceOk; infer_instance
noncomputable def forceE (e : Eng) : Eng := if forceOk e then { e with safe := e.log.length } else eng0

theorem c40 (e : Eng) (h : ShortE e) : Told 40 [.agg (encE e)] [] [] 0 (.tup [.agg (encE (forceE e)), .bool (decide (forceOk e))]) := by
  refine told_fz (lt_engT 0 _ _) fun B => ?_
  have h30 := c30 e h
  have h70 := c70 e h
  obtain ⟨hd, hm, hl⟩ := h
  simp only [encE] at h30 h70
  refine acallsF M0 Tryz.func40 (by kernel_rfl) fun hlt => ?_
  simp [Tryz.f40, encE]
  refine callw_told h30 (Nat.zero_le _) (by simp) ?_
  simp
  refine gO (fun c1 => ?_) (fun c1 => ?_) <;> simp at c1 <;> simp [c1]
  · refine gC (fun c2 => ?_) (fun c2 => ?_) <;> simp [c2]
    · exact fz_tupE _ (by rw [forceE, if_neg (by simp [forceOk, c1, c2])]; exact fz_eng0 _) (by simp [forceOk, c1, c2])
    · rw [c2] at h70
      refine callw_told h70 (Nat.zero_le _) (by simp) ?_
      simp
      exact fz_tupE _ (by rw [forceE, if_pos ⟨c1, c2⟩]; simp only [encE, c2]; exact FzL.refl _ _) (by simp [forceOk, c1, c2])
  · exact fz_tupE _ (by rw [forceE, if_neg (by simp [forceOk, c1])]; exact fz_eng0 _) (by simp [forceOk, c1])

theorem c39 (e : Eng) (h : ShortE e) : Told 39 [.agg (encE e)] [] [] 0 (.tup [.agg (encE (forceE e)), .bool (decide (forceOk e))]) := by
  refine told_fz (lt_engT 0 _ _) fun B => ?_
  have h30 := c50 e h
  have h70 := c78 e h
  obtain ⟨hd, hm, hl⟩ := h
  simp only [encE] at h30 h70
  refine acallsF M0 Tryz.func39 (by kernel_rfl) fun hlt => ?_
  simp [Tryz.f39, encE]
  refine callw_told h30 (Nat.zero_le _) (by simp) ?_
  simp
  refine gO (fun c1 => ?_) (fun c1 => ?_) <;> simp at c1 <;> simp [c1]
  · refine gC (fun c2 => ?_) (fun c2 => ?_) <;> simp [c2]
    · exact fz_tupE _ (by rw [forceE, if_neg (by simp [forceOk, c1, c2])]; exact fz_eng0 _) (by simp [forceOk, c1, c2])
    · rw [c2] at h70
      refine callw_told h70 (Nat.zero_le _) (by simp) ?_
      simp
      exact fz_tupE _ (by rw [forceE, if_pos ⟨c1, c2⟩]; simp only [encE, c2]; exact FzL.refl _ _) (by simp [forceOk, c1, c2])
  · exact fz_tupE _ (by rw [forceE, if_neg (by simp [forceOk, c1])]; exact fz_eng0 _) (by simp [forceOk, c1])

end Go.Proofs.YtnaafbdgkmlnaaaGreat
