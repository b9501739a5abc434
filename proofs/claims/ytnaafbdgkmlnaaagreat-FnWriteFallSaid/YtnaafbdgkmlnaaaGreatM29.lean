/- Laws about the machine's run of the program's functions, part 29, in import order. No condition. -/
import Derived.Test.YtnaafbdgkmlnaaaGreatM28

set_option linter.unusedVariables false
set_option linter.unusedSimpArgs false
set_option linter.unnecessarySimpa false
/- Functions: lent logs; engines of the program's own, all of it named. -/
namespace Go.Proofs.YtnaafbdgkmlnaaaGreat
set_option linter.unusedVariables false
set_option linter.unusedSimpArgs false
set_option linter.unnecessarySimpa false
set_option maxRecDepth 20000
set_option maxHeartbeats 4000000

/-- A log, named. -/
def rcs (L : List R) : Blk := ⟨71, 8, L.map encR⟩
theorem recs_rows (L : List R) : ∀ B, AV.ltLL B (rcs L).rows := fun B => by have := lt_recs B L; simpa only [AV.lt, rcs] using this
def lbl (Lg : Nat) (L : List R) : List (Nat × Blk) := if L = [] then [] else [(Lg, rcs L)]
theorem lbl_keep (Lg : Nat) (L : List R) (B : Nat) : Keep (lbl Lg L) B := by
  unfold lbl; split
  · exact Keep.nil _
  · exact keep1 (recs_rows L) B
theorem lbl_fz (Lg : Nat) (L : List R) : Fz allS (Hp.of (lbl Lg L)) (outV Lg 8 (L.map encR)) (.sl 8 (L.map encR)) := by
  unfold lbl outV
  by_cases h : L = []
  · simp [h]; exact .nils 8
  · simp [h]; exact Fz.slice (k := rcs L) (by simp [Hp.of]) rfl rfl (by simp)

/-- A log is lent to who reads it. -/
theorem lend_log {f : FuncId} {Lg Bm : Nat} {L : List R} {args : List AV} {v : AV} (h : Told f (.sl 8 (L.map encR) :: args) [] [] 0 v) (ho : Own v) (hv : AV.lt Bm v) : Told f (outV Lg 8 (L.map encR) :: args) (lbl Lg L) (lbl Lg L) Bm v :=
  told_borrow h ho (lbl_keep Lg L Bm) (Fz.tup' (.cons (lbl_fz Lg L) (FzL.same _ _))) hv

theorem c73o (Lg : Nat) (L : List R) (hL : L.length ≤ 1000000) : Told 73 [outV Lg 8 (L.map encR)] (lbl Lg L) (lbl Lg L) 0 (.sl 1 (ints (opn L))) := by
  refine told_of (lbl_keep Lg L 0) (ints_rows _ 0) fun B _ => ?_
  have h0 : ACalls PP 73 [.sl 8 (L.map encR)] Hp.nil B (fun v H' B' => ∃ id, v = outV id 1 (ints (opn L)) ∧ H' = outH Hp.nil id 3 1 (ints (opn L))) :=
    (o73 L hL B).only fun v H' B' hlt ⟨id, h1, h2, h3⟩ => ⟨outH Hp.nil id 3 1 (ints (opn L)), (fun i k hk => by
      have := outH_id hk
      unfold outH at hk
      split at hk
      · cases hk
      · rename_i q
        simp only [Hp.set_app, Hp.nil_app] at hk
        split at hk
        · rename_i e; subst e; rw [h3 q]; exact hk
        · rename_i e; exact absurd this e), id, h2, rfl⟩
  refine (h0.borrow (H := Hp.of (lbl Lg L)) (Fz.tup' (.cons (lbl_fz Lg L) .nil)) ?_).fin ?_
  · rintro v H1 B1 ⟨id, rfl, rfl⟩
    refine ⟨by unfold outV; split <;> constructor, fun i k hk r hr x hx => ?_⟩
    unfold outH at hk
    split at hk
    · cases hk
    · simp only [Hp.set_app, Hp.nil_app] at hk
      split at hk
      · cases hk
        simp only [ints, List.mem_map] at hr
        obtain ⟨n, _, rfl⟩ := hr
        simp only [List.mem_singleton] at hx
        subst hx; exact .int _ _
      · cases hk
  · rintro v H' B' hlt ⟨H1, ⟨id, rfl, rfl⟩, rfl, hd⟩
    refine ⟨fun i => (Hp.of (lbl Lg L)) i = none, _, Hp.of (lbl Lg L), ?_, fun i k hk => ⟨by simp [hk], ?_⟩, rfl, fun i k hk => hk⟩
    · by_cases h : ints (opn L) = []
      · unfold outV; rw [if_pos h, h]; exact .nils 1
      · have h1 := outH_eq (H := Hp.nil) (id := id) (e := 3) (sz := 1) h
        exact fz_outV (e := 3) (hd id _ h1) fun _ => by simp [Hp.plus, h1]
    · unfold Hp.plus
      cases hq : outH Hp.nil id 3 1 (ints (opn L)) i with
      | none => exact hk
      | some k' => rw [hd i k' hq] at hk; cases hk

theorem hp2_sub {Lg B : Nat} {a b : Blk} {H : Hp} (h1 : H Lg = some a) (h2 : H B = some b) : ∀ i k, ((Hp.nil.set Lg a).set B b) i = some k → H i = some k := by
  intro i k hk
  simp only [Hp.set_app, Hp.nil_app] at hk
  split at hk
  · rename_i q; subst q; rw [h2]; exact hk
  split at hk
  · rename_i q; subst q; rw [h1]; exact hk
  · cases hk

theorem c84r (Lg : Nat) (ps : List Pg) (L : List R) (hps : ShP ps) (hL : ∀ r ∈ L, RecOkP r) (hl : L.length ≤ 1000000) : ∀ B, Lg + 1 ≤ B → ToldN 84 [.sl 3 (ps.map encP), .ref Lg 8 0 L.length] [(Lg, rcs L)] [(Lg, rcs L)] B (.tup [.ref B 3 0 5, .bool (decide (PagesOkP (redo ps L)))]) [pgs (redo ps L)] := by
  have hrl : ((redo ps L).map encP).length = 5 := by simp [(hps.redoB hL L.length).1, redo]
  have key := fun h => @mk1h_of 84 [.sl 3 (ps.map encP), .ref Lg 8 0 L.length] [(Lg, rcs L)] (fun x => .tup [x, .bool (decide (PagesOkP (redo ps L)))]) (Lg + 1) 38 3 ((redo ps L).map encP) (keep1 (recs_rows L)) (by simp)
    (by
      rw [hrl]
      intro B id hB hid
      refine .tup _ _ rfl fun k x y hx hy => ?_
      match k with
      | 0 => cases hx; cases hy; exact ren_self hid
      | 1 => cases hx; cases hy; exact .same _ trivial
      | n + 2 => simp at hx) (pages_rows _) h
  rw [hrl] at key
  refine key fun B hB => ?_
  have n1 : ¬ Lg = B := by omega
  have n2 : ¬ B = Lg := by omega
  refine acallsF M3 Tryz.func84 (by kernel_rfl) fun hlt => ?_
  have hne : ps.map encP ≠ [] := by intro e; have := hps.1; simp at e; simp [e] at this
  have h5 := hps.1
  simp [Tryz.f84]
  refine callw_mk ((c79 ps hps.short).mk1 hne (pages_rows _)) ?_
  simp [h5, n1, n2]
  refine aloop_ind (ι := Nat × Nat) (fun i => L.length - i.1) (fun i => i.1 ≤ L.length ∧ B < i.2) (fun i => [(12, .ref Lg 8 0 L.length), (13, I64 L.length), (6, .ref B 3 0 5), (14, I64 i.1)]) (fun i => (Hp.nil.set Lg (rcs L)).set B ⟨38, 3, (redoB ps L i.1).map encP⟩) (fun i => i.2) (0, B + 1) ⟨by simp, by simp⟩ (by simp) (hp2_sub (by simp [n1, rcs]) (by simp [redoB])) (by simp) ?_
  rintro A ⟨n, B1⟩ ⟨hn, hB⟩ ih
  simp only at hn hB
  have hsh := hps.redoB hL n
  refine wpC_sound M3 _ _ _ _ _ (by kernel_rfl) ?_
  obtain ⟨qs, hqs⟩ : ∃ qs, qs = redoB ps L n := ⟨_, rfl⟩
  rw [← hqs] at hsh ⊢
  simp [cond_dec, rcs, n1, n2]
  constructor
  · intro hlt'
    obtain ⟨r, hr⟩ : ∃ r, L[n]? = some r := ⟨_, List.getElem?_eq_getElem hlt'⟩
    have hrok := hL r (List.mem_of_getElem? hr)
    have hrn : L[n] = r := by have := List.getElem?_eq_getElem hlt'; rw [hr] at this; exact (Option.some.inj this).symm
    have w1 := w64 ((n : Int) + 1) (by omega) (by omega)
    have hpg := hrok.page
    obtain ⟨e1, e2⟩ := hsh.at hpg.1 hpg.2
    have hB1 : ¬ B = B1 := by omega
    have hL1 : ¬ Lg = B1 := by omega
    have hL2 : ¬ Lg = B1 + 1 := by omega
    have hB2 : ¬ B1 = B := by omega
    have hpl : r.page < 5 := by omega
    have hql : qs.length = 5 := hsh.1
    have hst : redoB ps L (n + 1) = redoStep qs n r := by simp [redoB, hr, hqs]
    have h144 := c144 (pgAt qs r.page) r e2 (by have := hrok.slot; omega)
    simp only [encP, pgRow, encR] at h144
    simp [hlt', hrn, encR, hB1, hB2, rcs, n1, n2, hL1]
    refine gO (fun h1 => ?_) (fun h1 => ?_) <;> simp at h1 <;> simp [h1, hB1, hB2, hpg.1, hpl, e1, encP, pgRow, w1, rcs, n1, n2, hL1, hlt', hrn, encR]
    · refine gC (fun h2 => ?_) (fun h2 => ?_) <;> simp [-Int.not_le, -Int.not_lt] at h2 <;> simp [hB1, hB2, hpg.1, hpl, e1, encP, pgRow, w1, rcs, n1, n2, hL1, hlt', hrn, encR]
      · refine ih (n + 1, B1 + 1) _ _ _ (by simp; omega) ⟨by simp; omega, by simp; omega⟩ (by simp) ?_ (by simp)
        have : redoB ps L (n + 1) = qs := by rw [hst, redoStep, if_neg (fun h => by omega)]
        simp only [this]
        exact hp2_sub (by simp [rcs, n1, hL1, hL2]) (by simp [hB1])
      · refine calld_told h144 (Nat.zero_le _) (by simp) ?_
        have hwe : wr (pgAt qs r.page) r ((n : Int) + 1) = ⟨(n : Int) + 1, (wr (pgAt qs r.page) r (pgAt qs r.page).lsn).owner, (wr (pgAt qs r.page) r (pgAt qs r.page).lsn).vals⟩ := by unfold wr; split <;> rfl
        have hset : (qs.map encP).set r.page.toNat [I64 ((n : Int) + 1), I64 (wr (pgAt qs r.page) r (pgAt qs r.page).lsn).owner, .sl 1 (ints (wr (pgAt qs r.page) r (pgAt qs r.page).lsn).vals)] = (redoB ps L (n + 1)).map encP := by
          rw [hst, redoStep, if_pos ⟨h1, by omega⟩, pgSet, ← map_set_enc, hwe]; rfl
        have hB3 : ¬ B = B1 + 1 := by omega
        simp [hB1, hB2, hB3, hpg.1, hpl, e1, encP, pgRow, w1, hql, rcs, n1, n2, hL1, hL2, hlt', hrn, encR]
        refine ⟨chkW_tk [B, B1, B1 + 1] [⟨[], [], false⟩, ⟨[], [], false⟩, ⟨[1], [], false⟩, ⟨[], [], false⟩, ⟨[0], [], false⟩, ⟨[1], [], false⟩, ⟨[], [], false⟩, ⟨[], [2], true⟩, ⟨[2], [2], false⟩] (by simp; omega) rfl (by kernel_rfl), ?_⟩
        refine ih (n + 1, B1 + 2) _ _ _ (by simp; omega) ⟨by simp; omega, by simp; omega⟩ (by simp) ?_ (by simp)
        rw [hset]
        exact hp2_sub (by simp [rcs, n1, hL1, hL2]) (by simp)
    · refine ih (n + 1, B1 + 1) _ _ _ (by simp; omega) ⟨by simp; omega, by simp; omega⟩ (by simp) ?_ (by simp)
      have : redoB ps L (n + 1) = qs := by rw [hst, redoStep, if_neg (fun h => h1 h.1)]
      simp only [this]
      exact hp2_sub (by simp [rcs, n1, hL1, hL2]) (by simp [hB1])
  · intro h
    obtain rfl : n = L.length := by omega
    have hql : qs.length = 5 := hsh.1
    have e : redo ps L = qs := hqs.symm
    rw [e]
    refine callw_told (lend_pages (e := 38) (c81 qs hsh.short) (.bool _) (fun _ => trivial) hql.symm) (Nat.zero_le _) (by simp) ?_
    simp [hql, n1, n2, pgs, rcs]



theorem c84n (ps : List Pg) (hps : ShP ps) : Mk1 84 [.sl 3 (ps.map encP), .nils] (fun x => .tup [x, .bool (decide (PagesOkP ps))]) 38 3 (ps.map encP) := by
  refine mk1_of (fun B id h => .tup _ _ rfl fun k x y hx hy => ?_) (pages_rows _) fun B => ?_
  · match k with
    | 0 => cases hx; cases hy; exact ren_self h
    | 1 => cases hx; cases hy; exact .same _ trivial
    | n + 2 => simp at hx
  refine acallsF M3 Tryz.func84 (by kernel_rfl) fun hlt => ?_
  have hne : ps.map encP ≠ [] := by intro e; have := hps.1; simp at e; simp [e] at this
  have h5 := hps.1
  simp [Tryz.f84]
  refine callw_mk ((c79 ps hps.short).mk1 hne (pages_rows _)) ?_
  simp [h5]
  refine aloop_ind (ι := Unit) (fun i => 0) (fun i => True) (fun i => [(12, .nils), (13, I64 0), (6, .ref B 3 0 5), (14, I64 0)]) (fun i => Hp.nil.set B ⟨38, 3, ps.map encP⟩) (fun i => B + 1) () trivial (by simp) (by simp) (by simp) ?_
  rintro A ⟨⟩ - ih
  refine wpC_sound M3 _ _ _ _ _ (by kernel_rfl) ?_
  simp [cond_dec]
  refine callw_told (lend_pages (e := 38) (c81 ps hps.short) (.bool _) (fun _ => trivial) h5.symm) (Nat.zero_le _) (by simp) ?_
  simp [h5]

/-- What a log says is done again; the log is named. -/
theorem c84o (Lg : Nat) (ps : List Pg) (L : List R) (hps : ShP ps) (hL : ∀ r ∈ L, RecOkP r) (hl : L.length ≤ 1000000) (B : Nat) (hB : Lg + 1 ≤ B) : ToldN 84 [.sl 3 (ps.map encP), outV Lg 8 (L.map encR)] (lbl Lg L) (lbl Lg L) B (.tup [.ref B 3 0 5, .bool (decide (PagesOkP (redo ps L)))]) [pgs (redo ps L)] := by
  by_cases h : L = []
  · subst h
    have h5 : (ps.map encP).length = 5 := by simp [hps.1]
    have := c84n ps hps B
    rw [h5] at this
    simpa [lbl, outV, redo, redoB, pgs] using this
  · have := c84r Lg ps L hps hL hl B hB
    simpa [lbl, outV, h] using this

theorem c80n (L : List R) (h0 : L ≠ []) (hL : L.length ≤ 1000000) : Mk1 80 [.sl 8 (L.map encR)] id 71 8 (L.map encR) := by
  refine mk1_of (fun B id h => ren_self h) (recs_rows L) fun B => ?_
  refine acallsF (Mu [7]) Tryz.func80 (by kernel_rfl) fun hlt => ?_
  have hb : L.length * 64 ≤ 140737488355328 := by omega
  simp [Tryz.f80, hb, h0]
theorem c80e : Told 80 [.sl 8 []] [] [] 0 .nils := by
  refine told_of (Keep.nil _) trivial fun B _ => ?_
  refine acallsF (Mu [7]) Tryz.func80 (by kernel_rfl) fun hlt => ?_
  simp [Tryz.f80]

/-- An engine of the program's own. -/
theorem a70 (e : Eng) (hd : ShP e.disk) (hm : ShP e.mem) (hl : e.log.length ≤ 1000000) (B : Nat) : ACalls PP 70 [.agg (encE e)] Hp.nil B (fun v H' B' => ∃ D M Lg, B ≤ D ∧ B ≤ M ∧ B ≤ Lg ∧ D < B' ∧ M < B' ∧ (¬ e.log = [] → Lg < B') ∧ D ≠ M ∧ D ≠ Lg ∧ M ≠ Lg ∧ v = .agg (encW D M Lg e) ∧ H' = hpW Hp.nil D M Lg e) := by
  have hd0 : e.disk.map encP ≠ [] := by intro q; have := hd.1; simp at q; simp [q] at this
  have hm0 : e.mem.map encP ≠ [] := by intro q; have := hm.1; simp at q; simp [q] at this
  have hd5 := hd.1
  have hm5 := hm.1
  have h : ACalls PP 70 [.agg (encE e)] Hp.nil B (fun v H' B' => v = .agg (encW (B + 1) (B + 2) (B + 3) e) ∧ H' (B + 1) = some (pgs e.disk) ∧ H' (B + 2) = some (pgs e.mem) ∧ (¬ e.log.map encR = [] → H' (B + 3) = some ⟨71, 8, e.log.map encR⟩)) := by
    refine acallsF (Mu [8]) Tryz.func70 (by kernel_rfl) fun hlt => ?_
    simp [Tryz.f70, encE]
    refine calld_mk ((c79 e.disk hd.short).mk1 hd0 (pages_rows _)) ?_
    simp
    refine calld_mk ((c79 e.mem hm.short).mk1 hm0 (pages_rows _)) ?_
    simp
    by_cases h0 : e.log = []
    · rw [h0]
      simp only [List.map_nil]
      refine calld_told c80e (Nat.zero_le _) (by simp) ?_
      simp [encW, outV, h0, hd5, hm5]
      exact ⟨chkW_sh (by kernel_rfl), rfl, rfl⟩
    · refine calld_mk (c80n e.log h0 hl) ?_
      have n1 : ¬ B = B + 1 + 2 := by omega
      have n2 : ¬ B + 1 = B + 1 + 2 := by omega
      simp [encW, outV, h0, hd5, hm5, n1, n2]
      exact ⟨chkW_sh (by kernel_rfl), by simp [pgs]⟩
  refine h.only fun v H' B' hlt ⟨h1, h2, h3, h4⟩ => ⟨_, hpW_sub (H0 := Hp.nil) (by simp) h2 h3 h4, B + 1, B + 2, B + 3, by omega, by omega, by omega, hlt _ _ h2, hlt _ _ h3, (fun q => hlt _ _ (h4 (by simpa using q))), by omega, by omega, by omega, h1, rfl⟩

end Go.Proofs.YtnaafbdgkmlnaaaGreat

/- Functions: the program's add, apply and undo, over an engine of its own. -/
namespace Go.Proofs.YtnaafbdgkmlnaaaGreat
set_option linter.unusedVariables false
set_option linter.unusedSimpArgs false
set_option linter.unnecessarySimpa false
set_option maxRecDepth 20000
set_option maxHeartbeats 4000000

/-- An engine in a box, its log named. -/
def hpA (O Lg : Nat) (a b c d : AV) (L : List R) : Hp := outH (Hp.nil.set O ⟨30, 5, [[a, b, outV Lg 8 (L.map encR), c, d]]⟩) Lg 71 8 (L.map encR)
theorem hpA_sub {O Lg : Nat} {a b c d : AV} {L : List R} {H : Hp} (h1 : H O = some ⟨30, 5, [[a, b, outV Lg 8 (L.map encR), c, d]]⟩) (h2 : ¬ L = [] → H Lg = some (rcs L)) : ∀ i k, hpA O Lg a b c d L i = some k → H i = some k := by
  intro i k hk
  unfold hpA outH at hk
  split at hk
  · simp only [Hp.set_app, Hp.nil_app] at hk
    split at hk
    · rename_i q; subst q; rw [h1]; exact hk
    · cases hk
  · rename_i hL
    simp only [Hp.set_app, Hp.nil_app] at hk
    split at hk
    · rename_i q; subst q; rw [h2 (by intro q; subst q; exact hL rfl)]; exact hk
    split at hk
    · rename_i q; subst q; rw [h1]; exact hk
    · cases hk

theorem a156 (O Lg : Nat) (a b c d : AV) (L : List R) (r : R) (hOL : O ≠ Lg) (hL : L.length ≤ 1000) (B : Nat) (hO : O < B) (hLg : Lg < B) :
    ACalls PP 156 [.pe O 5 0, .agg (encR r)] (hpA O Lg a b c d L) B (fun v H' B' => ∃ Lg', B ≤ Lg' ∧ Lg' < B' ∧ v = I64 ((L.length : Int) + 1) ∧ H' = hpA O Lg' a b c d (addL L r)) := by
  have hne : ¬ (addL L r).map encR = [] := by simp [addL]
  have h : ACalls PP 156 [.pe O 5 0, .agg (encR r)] (hpA O Lg a b c d L) B (fun v H' B' => ∃ Lg', B ≤ Lg' ∧ v = I64 ((L.length : Int) + 1) ∧ H' O = some ⟨30, 5, [[a, b, .ref Lg' 8 0 (L.length + 1), c, d]]⟩ ∧ H' Lg' = some (rcs (addL L r))) := by
    have h135 := lend_log (Lg := Lg) (Bm := 0) (c135 L r.tx (by omega)) (.int _ _) trivial
    have hb : (L.length + 1) * 64 ≤ 140737488355328 := by omega
    have w1 := w64 ((L.length : Int) + 1) (by omega) (by omega)
    have n1 : ¬ O = B := by omega
    have n2 : ¬ Lg = B := by omega
    have n3 : ¬ Lg = O := Ne.symm hOL
    refine acallsF (Mu [3, 20]) Tryz.func156 (by kernel_rfl) fun hlt => ?_
    by_cases h0 : L = []
    · simp [h0, hpA, outV, outH, lbl] at h135 ⊢
      simp [Tryz.f156, encR, n1, n2, n3]
      refine calld_told h135 (Nat.zero_le _) (by simp) ?_
      have n4 : ¬ O = B + 1 := by omega
      simp [n1, n2, n3, n4]
      refine ⟨chkW_shb (by simp) (by kernel_rfl), chkW_shb (by simp) (by kernel_rfl), ?_⟩
      exact ⟨B + 1, by omega, rfl, by simp [Ne.symm n4, rcs, addL, addR, encR]⟩
    · simp [h0, hpA, outV, outH, lbl] at h135 ⊢
      simp [Tryz.f156, encR, n1, n2, n3, hOL]
      refine calld_told h135 (Nat.zero_le _) ?_ ?_
      · simp [rcs, n1, n2, n3]
      have n4 : ¬ O = B + 1 := by omega
      simp [n1, n2, n3, n4, hb, w1, hOL]
      exact ⟨chkW_shb (by simp) (by kernel_rfl), chkW_shb (by simp) (by kernel_rfl), B + 1, by omega, rfl, by simp [Ne.symm n4, rcs, addL, addR, encR]⟩
  refine h.only fun v H' B' hlt ⟨Lg', h1, h2, h3, h4⟩ => ⟨hpA O Lg' a b c d (addL L r), hpA_sub (by rw [h3]; simp [outV, addL]) (fun _ => h4), Lg', h1, hlt _ _ h4, h2, rfl⟩

theorem hpA_none {O Lg i : Nat} {a b c d : AV} {L : List R} (h1 : i ≠ O) (h2 : i ≠ Lg) : hpA O Lg a b c d L i = none := by
  unfold hpA; rw [outH_ne h2]; simp [h1]
theorem hpA_O {O Lg : Nat} {a b c d : AV} {L : List R} (h2 : O ≠ Lg) : hpA O Lg a b c d L O = some ⟨30, 5, [[a, b, outV Lg 8 (L.map encR), c, d]]⟩ := by
  unfold hpA; rw [outH_ne h2]; simp
theorem hpA_Lg {O Lg : Nat} {a b c d : AV} {L : List R} (h : ¬ L = []) : hpA O Lg a b c d L Lg = some (rcs L) := by
  unfold hpA; rw [outH_eq (by simpa using h)]; rfl

/-- What the program's apply leaves in memory. -/
noncomputable def appM (mem : List Pg) (L : List R) (r : R) : List Pg := if (recDo (pgAt mem r.page) (addR L r) ((L.length : Int) + 1)).2 = true then pgSet mem r.page (recDo (pgAt mem r.page) (addR L r) ((L.length : Int) + 1)).1 else mem

theorem a154 (O M Lg : Nat) (a c d : AV) (mem : List Pg) (L : List R) (r : R) (hOL : O ≠ Lg) (hOM : O ≠ M) (hML : M ≠ Lg) (hm : ShP mem) (hp : In r.page 0 4) (hL : L.length ≤ 1000) (B : Nat) (hO : O < B) (hM : M < B) (hLg : Lg < B) :
    ACalls PP 154 [.pe O 5 0, .agg (encR r)] ((hpA O Lg a (.ref M 3 0 5) c d L).set M (pgs mem)) B (fun v H' B' => ∃ Lg', B ≤ Lg' ∧ Lg' < B' ∧ H' = (hpA O Lg' a (.ref M 3 0 5) c d (addL L r)).set M (pgs (appM mem L r))) := by
  have h : ACalls PP 154 [.pe O 5 0, .agg (encR r)] ((hpA O Lg a (.ref M 3 0 5) c d L).set M (pgs mem)) B (fun v H' B' => ∃ Lg', B ≤ Lg' ∧ H' O = some ⟨30, 5, [[a, .ref M 3 0 5, outV Lg' 8 ((addL L r).map encR), c, d]]⟩ ∧ H' Lg' = some (rcs (addL L r)) ∧ H' M = some (pgs (appM mem L r))) := by
    have hO0 : ((hpA O Lg a (.ref M 3 0 5) c d L).set M (pgs mem)) O = some ⟨30, 5, [[a, .ref M 3 0 5, outV Lg 8 (L.map encR), c, d]]⟩ := by simp [hOM, hpA_O hOL]
    have hM0 : ((hpA O Lg a (.ref M 3 0 5) c d L).set M (pgs mem)) M = some (pgs mem) := by simp
    have hL0 : ¬ L = [] → ((hpA O Lg a (.ref M 3 0 5) c d L).set M (pgs mem)) Lg = some (rcs L) := fun q => by simp [Ne.symm hML, hpA_Lg q]
    generalize (hpA O Lg a (.ref M 3 0 5) c d L).set M (pgs mem) = H0 at hO0 hM0 hL0 ⊢
    refine acallsF (M3u [5]) Tryz.func154 (by kernel_rfl) fun hlt => ?_
    simp [Tryz.f154, encR]
    have h156 := a156 O Lg a (.ref M 3 0 5) c d L r hOL hL B hO hLg
    simp only [encR] at h156
    refine callw_rel h156 (hpA_sub hO0 hL0) ?_
    rintro v H' B1 H2 ⟨Lg', k1, k2, rfl, rfl⟩ hB1 s1 s2
    have g1 := s1 _ _ (hpA_O (a := a) (b := .ref M 3 0 5) (c := c) (d := d) (L := addL L r) (show O ≠ Lg' by omega))
    have g2 := s1 _ _ (hpA_Lg (O := O) (Lg := Lg') (a := a) (b := .ref M 3 0 5) (c := c) (d := d) (L := addL L r) (by simp [addL]))
    have g3 : H2 M = some (pgs mem) := s2 _ _ hM0 (hpA_none (Ne.symm hOM) hML) (hpA_none (Ne.symm hOM) (by omega))
    clear s1 s2 h156
    simp only [pgs, rcs] at g1 g2 g3
    have hne : ¬ (addL L r).map encR = [] := by simp [addL]
    simp only [outV, if_neg hne] at g1
    have hr : (addL L r)[L.length]? = some (addR L r) := by simp [addL]
    obtain ⟨e1, e2⟩ := hm.at hp.1 hp.2
    have h202 := c202 (pgAt mem r.page) (addR L r) ((L.length : Int) + 1) (by omega)
    have w1 := w64 ((L.length : Int) + 1 - 1) (by omega) (by omega)
    simp only [encP, pgRow, encR] at h202
    have hpl : r.page < 5 := by have := hp.2; omega
    have hp0 : 0 ≤ r.page := hp.1
    have hlen : (addL L r).length = L.length + 1 := by simp [addL]
    have wl := w64 (L.length : Int) (by omega) (by omega)
    have hll : (L.length : Int) < (L.length : Int) + 1 := by omega
    have hrn : (addL L r)[L.length]'(by omega) = addR L r := by have := List.getElem?_eq_getElem (l := addL L r) (i := L.length) (by omega); rw [hr] at this; exact (Option.some.inj this).symm
    have hmlen : mem.length = 5 := hm.1
    simp [g1, g2, g3, hp0, hpl, e1, encP, pgRow, wl, hlen, encR, hll, hrn]
    refine calld_told h202 (Nat.zero_le _) (by simp) ?_
    have m1 : ¬ O = B1 := by omega
    have m2 : ¬ M = B1 := by omega
    have m3 : ¬ Lg' = B1 := by omega
    have m4 : ¬ O = B1 + 1 := by omega
    have m5 : ¬ M = B1 + 1 := by omega
    have m6 : ¬ Lg' = B1 + 1 := by omega
    obtain ⟨q, hq⟩ : ∃ q, q = recDo (pgAt mem r.page) (addR L r) ((L.length : Int) + 1) := ⟨_, rfl⟩
    rw [← hq]
    simp [m1, m2, m3, m4, m5, m6, hOM, g1, g2, g3]
    refine ⟨chkW_tk [O, M, Lg', B1] [⟨[], [], false⟩, ⟨[], [], false⟩, ⟨[], [], false⟩, ⟨[0], [], false⟩, ⟨[], [], false⟩, ⟨[], [], false⟩, ⟨[], [], false⟩, ⟨[1], [], false⟩, ⟨[], [], false⟩, ⟨[], [], false⟩, ⟨[], [], false⟩, ⟨[0], [], false⟩, ⟨[], [], false⟩, ⟨[], [], false⟩, ⟨[], [], false⟩, ⟨[2], [], false⟩, ⟨[], [], false⟩, ⟨[], [], false⟩, ⟨[], [], false⟩, ⟨[], [], false⟩, ⟨[], [], false⟩, ⟨[], [3], true⟩, ⟨[3], [3], false⟩, ⟨[], [], false⟩] (by simp [hOM]; omega) rfl (by kernel_rfl), ?_⟩
    have hap : appM mem L r = if q.2 = true then pgSet mem r.page q.1 else mem := by rw [hq]; rfl
    have u1 : ¬ M = O := Ne.symm hOM
    have u2 : ¬ M = Lg' := by omega
    have u3 : ¬ Lg' = M := by omega
    have u4 : ¬ Lg' = O := by omega
    have u5 : ¬ O = Lg' := by omega
    have m7 : ¬ B1 = M := by omega
    have m8 : ¬ B1 = O := by omega
    refine gC (fun c1 => ?_) (fun c1 => ?_) <;> simp [m1, m2, m3, m4, m5, m6, m7, m8, hOM, g1, g2, g3, hp0, hpl, hmlen, u1, u2, u3, u4, u5]
    · refine ⟨chkW_tk [O, M, B1] [⟨[], [], false⟩, ⟨[], [], false⟩, ⟨[], [], false⟩, ⟨[0], [], false⟩, ⟨[], [], false⟩, ⟨[], [], false⟩, ⟨[2], [], false⟩, ⟨[], [], false⟩, ⟨[1], [1], false⟩] (by simp [hOM]; omega) rfl (by kernel_rfl), Lg', k1, by simp [outV, hne], by simp [u3, m3, g2, rcs], ?_⟩
      rw [hap, if_pos c1, pgs, pgSet, ← map_set_enc]; rfl
    · exact ⟨Lg', k1, by simp [outV, hne], by simp [m3, g2, rcs], by rw [hap, if_neg (by simp [c1]), pgs]⟩
  refine h.only fun v H' B' hlt ⟨Lg', h1, h2, h3, h4⟩ => ⟨(hpA O Lg' a (.ref M 3 0 5) c d (addL L r)).set M (pgs (appM mem L r)), fun i k hk => ?_, Lg', h1, hlt _ _ h3, rfl⟩
  simp only [Hp.set_app] at hk
  split at hk
  · rename_i q; subst q; rw [h4]; exact hk
  · exact hpA_sub h2 (fun _ => h3) i k hk

/-- What the program's undo leaves in memory. -/
noncomputable def undM (mem : List Pg) (L : List R) (tx : Int) : List Pg := if back L (last L tx) = 0 then mem else appM mem L (stepR L tx)
theorem addR_back (L : List R) (q : R) (n : Int) : addR L (backR q n) = addR L (backR q 0) := rfl

theorem a92 (O M Lg : Nat) (a c d : AV) (mem : List Pg) (L : List R) (tx : Int) (hOL : O ≠ Lg) (hOM : O ≠ M) (hML : M ≠ Lg) (hm : ShP mem) (hg : LogGood L) (h0 : ¬ L = []) (hL : L.length ≤ 1000) (B : Nat) (hO : O < B) (hM : M < B) (hLg : Lg < B) :
    ACalls PP 92 [.pe O 5 0, I64 tx] ((hpA O Lg a (.ref M 3 0 5) c d L).set M (pgs mem)) B (fun v H' B' => ∃ Lg', B ≤ Lg' ∧ Lg' < B' ∧ H' = (hpA O Lg' a (.ref M 3 0 5) c d (addL L (stepR L tx))).set M (pgs (undM mem L tx))) := by
  have h : ACalls PP 92 [.pe O 5 0, I64 tx] ((hpA O Lg a (.ref M 3 0 5) c d L).set M (pgs mem)) B (fun v H' B' => ∃ Lg', B ≤ Lg' ∧ H' O = some ⟨30, 5, [[a, .ref M 3 0 5, outV Lg' 8 ((addL L (stepR L tx)).map encR), c, d]]⟩ ∧ H' Lg' = some (rcs (addL L (stepR L tx))) ∧ H' M = some (pgs (undM mem L tx))) := by
    have hO0 : ((hpA O Lg a (.ref M 3 0 5) c d L).set M (pgs mem)) O = some ⟨30, 5, [[a, .ref M 3 0 5, outV Lg 8 (L.map encR), c, d]]⟩ := by simp [hOM, hpA_O hOL]
    have hM0 : ((hpA O Lg a (.ref M 3 0 5) c d L).set M (pgs mem)) M = some (pgs mem) := by simp
    have hL0 : ((hpA O Lg a (.ref M 3 0 5) c d L).set M (pgs mem)) Lg = some (rcs L) := by simp [Ne.symm hML, hpA_Lg h0]
    generalize (hpA O Lg a (.ref M 3 0 5) c d L).set M (pgs mem) = H0 at hO0 hM0 hL0 ⊢
    have hsub : ∀ i k, ((hpA O Lg a (.ref M 3 0 5) c d L).set M (pgs mem)) i = some k → H0 i = some k := fun i k hk => by
      simp only [Hp.set_app] at hk
      split at hk
      · rename_i q; subst q; rw [hM0]; exact hk
      · exact hpA_sub hO0 (fun _ => hL0) i k hk
    have hne : ¬ L.map encR = [] := by simpa using h0
    have h135 := lend_log (Lg := Lg) (Bm := 0) (c135 L tx (by omega)) (.int _ _) trivial
    have h153 := lend_log (Lg := Lg) (Bm := 0) (c153 L (last L tx) hg (last_le L tx) (by omega)) (.int _ _) trivial
    simp only [outV, if_neg hne, lbl, if_neg h0, List.length_map] at h135 h153
    have hO1 := hO0
    simp only [outV, if_neg hne, List.length_map] at hO1
    refine acallsF M3 Tryz.func92 (by kernel_rfl) fun hlt => ?_
    simp [Tryz.f92, hO1]
    refine calld_told h135 (Nat.zero_le _) (by simp [hL0]) ?_
    simp [hO1]
    refine calld_told h153 (Nat.zero_le _) (by simp [hL0]) ?_
    simp [hO1]
    refine ⟨chkW_tk [O, Lg] [⟨[], [], false⟩, ⟨[], [], false⟩, ⟨[], [], false⟩, ⟨[0], [], false⟩, ⟨[], [], false⟩, ⟨[], [], false⟩, ⟨[], [], false⟩, ⟨[0], [], false⟩, ⟨[], [], false⟩, ⟨[1], [1], false⟩, ⟨[1], [1], false⟩, ⟨[], [], false⟩] (by simp [hOL]) rfl (by kernel_rfl), ?_⟩
    refine gC (fun c1 => ?_) (fun c1 => ?_) <;> simp at c1
    · obtain ⟨m, q, hb, hq, hk, htx, hst⟩ : ∃ m q, back L (last L tx) = m + 1 ∧ L[m]? = some q ∧ (q.kind = 1 ∨ q.kind = 2) ∧ q.tx = tx ∧ stepR L tx = backR q (last L tx) := by
        rcases stepR_cases hg tx with ⟨h, _⟩ | h
        · exact absurd h c1
        · exact h
      have hml := (List.getElem?_eq_some_iff.1 hq).1
      have hqn : L[m] = q := (List.getElem?_eq_some_iff.1 hq).2
      have w1 := w64 (m : Int) (by omega) (by omega)
      have hp := (hg.recOk hq).page
      have h155 := c155 q 0
      simp only [encR] at h155
      simp [hO1, hb, w1, hml, hL0, rcs, hqn, encR]
      have h154 := a154 O M Lg a c d mem L (backR q 0) hOL hOM hML hm hp hL B hO hM hLg
      simp only [encR] at h154
      refine callw_rel h154 hsub ?_
      rintro v H' B1 H2 ⟨Lg', k1, k2, rfl⟩ hB1 s1 s2
      have u0 : ¬ Lg' = M := by omega
      have e1 : addL L (backR q 0) = addL L (stepR L tx) := by rw [hst]; rfl
      have e2 : appM mem L (backR q 0) = undM mem L tx := by rw [undM, if_neg c1, hst]; rfl
      rw [e1, e2] at s1
      have g1 := s1 O _ (by simp [hOM]; exact hpA_O (show O ≠ Lg' by omega))
      have g2 := s1 Lg' _ (by simp [u0]; exact hpA_Lg (by simp [addL]))
      have g3 := s1 M _ (by simp; rfl)
      clear s1 s2
      simp
      exact ⟨Lg', k1, g1, g2, g3⟩
    · have hst : stepR L tx = endR 5 tx := by rw [stepR, if_pos c1]
      have h156 := a156 O Lg a (.ref M 3 0 5) c d L (endR 5 tx) hOL hL B hO hLg
      simp only [encR, endR] at h156
      simp
      refine callw_rel h156 (hpA_sub hO0 (fun _ => hL0)) ?_
      rintro v H' B1 H2 ⟨Lg', k1, k2, rfl, rfl⟩ hB1 s1 s2
      have g1 := s1 O _ (hpA_O (show O ≠ Lg' by omega))
      have g2 := s1 Lg' _ (hpA_Lg (by simp [addL]))
      have g3 : H2 M = some (pgs mem) := s2 _ _ hM0 (hpA_none (Ne.symm hOM) hML) (hpA_none (Ne.symm hOM) (by omega))
      clear s1 s2
      have e2 : undM mem L tx = mem := by rw [undM, if_pos c1]
      rw [e2, hst]
      simp
      exact ⟨Lg', k1, g1, g2, g3⟩
  refine h.only fun v H' B' hlt ⟨Lg', h1, h2, h3, h4⟩ => ⟨(hpA O Lg' a (.ref M 3 0 5) c d (addL L (stepR L tx))).set M (pgs (undM mem L tx)), fun i k hk => ?_, Lg', h1, hlt _ _ h3, rfl⟩
  simp only [Hp.set_app] at hk
  split at hk
  · rename_i q; subst q; rw [h4]; exact hk
  · exact hpA_sub h2 (fun _ => h3) i k hk

end Go.Proofs.YtnaafbdgkmlnaaaGreat

/- Engines that rise: whatever is undone leaves valid pages. -/
namespace Go.Proofs.YtnaafbdgkmlnaaaGreat
set_option linter.unusedVariables false

/-- Pages that hold the same; of the second ones the numbers are in order. -/
structure Sim (ps qs : List Pg) : Prop where
  len : ps.length = qs.length
  at' : ∀ n : Int, (pgAt ps n).owner = (pgAt qs n).owner ∧ (pgAt ps n).vals = (pgAt qs n).vals ∧ In (pgAt qs n).lsn 0 150

theorem pgAt_out {ps : List Pg} {n : Int} (h : ¬ n.toNat < ps.length) : pgAt ps n = pgNew := by simp [pgAt, h]
theorem pgSet_out {ps : List Pg} {n : Int} {p : Pg} (h : ¬ n.toNat < ps.length) : pgSet ps n p = ps := by
  unfold pgSet; exact List.set_eq_of_length_le (by omega)
theorem pgSet_len (ps : List Pg) (n : Int) (p : Pg) : (pgSet ps n p).length = ps.length := by simp [pgSet]

theorem Sim.set {ps qs : List Pg} (h : Sim ps qs) (n : Int) {p q : Pg} (h1 : p.owner = q.owner) (h2 : p.vals = q.vals) (h3 : In q.lsn 0 150) : Sim (pgSet ps n p) (pgSet qs n q) := by
  refine ⟨by rw [pgSet_len, pgSet_len, h.len], fun m => ?_⟩
  by_cases hn : n.toNat < ps.length
  · rw [pgAt_set hn, pgAt_set (by rw [← h.len]; exact hn)]
    split
    · exact ⟨h1, h2, h3⟩
    · exact h.at' m
  · rw [pgSet_out hn, pgSet_out (by rw [← h.len]; exact hn)]; exact h.at' m

theorem wr_same {p q : Pg} (h1 : p.owner = q.owner) (h2 : p.vals = q.vals) (r : R) (m n : Int) : (wr p r m).owner = (wr q r n).owner ∧ (wr p r m).vals = (wr q r n).vals := by
  unfold wr; split <;> simp [h1, h2]
theorem wr_lsn' (p : Pg) (r : R) (n : Int) : (wr p r n).lsn = n := by unfold wr; split <;> rfl
theorem ok_same {p q : Pg} (h : PageOkP p) (h1 : p.owner = q.owner) (h2 : p.vals = q.vals) (h3 : In q.lsn 0 150) : PageOkP q := by
  obtain ⟨a, b, c, d, e⟩ := h
  rw [h1] at b e
  rw [h2] at c d e
  exact ⟨h3, b, c, d, e⟩

/-- What is undone is valid, whatever the numbers. -/
theorem UndoneL_sim {L L' : List R} : ∀ (l : List Nat) {ps qs : List Pg}, (∀ n ∈ l, recAt L n = recAt L' n) → Sim ps qs → UndoneL L l ps → UndoneL L' l qs
  | [], _, _, _, _, _ => trivial
  | n :: l, ps, qs, hl, hs, h => by
    obtain ⟨h1, h2⟩ := h
    have e : recAt L n = recAt L' n := hl n (by simp)
    obtain ⟨a, b, c⟩ := hs.at' (recAt L n).page
    have w := wr_same a b (backR (recAt L n) 0) (pgAt ps (recAt L n).page).lsn (pgAt qs (recAt L n).page).lsn
    have hq : In (undoPg L' qs n).lsn 0 150 := by unfold undoPg; rw [wr_lsn', ← e]; exact c
    have w1 : (undoPg L ps n).owner = (undoPg L' qs n).owner := by unfold undoPg; rw [← e]; exact w.1
    have w2 : (undoPg L ps n).vals = (undoPg L' qs n).vals := by unfold undoPg; rw [← e]; exact w.2
    refine ⟨ok_same h1 w1 w2 hq, ?_⟩
    rw [← e]
    exact UndoneL_sim l (fun m hm => hl m (by simp [hm])) (hs.set _ w1 w2 hq) h2

theorem PagesOkP.atU {ps : List Pg} (h : PagesOkP ps) {n : Int} (h0 : 0 ≤ n) (h1 : n ≤ 4) : PageOkP (pgAt ps n) := by
  have hl := h.1
  have e : pgAt ps n = ps[n.toNat]'(by omega) := by simp [pgAt, show n.toNat < ps.length by omega]
  rw [e]; exact h.2 _ (List.getElem_mem _)
theorem PagesOkP.setU {ps : List Pg} (h : PagesOkP ps) (n : Int) {p : Pg} (hp : PageOkP p) : PagesOkP (pgSet ps n p) := by
  refine ⟨by rw [pgSet_len]; exact h.1, fun q hq => ?_⟩
  rcases List.mem_or_eq_of_mem_set hq with hq | rfl
  · exact h.2 q hq
  · exact hp
theorem PagesOkP.sim {ps : List Pg} (h : PagesOkP ps) : Sim ps ps := ⟨rfl, fun n => ⟨rfl, rfl, by
  by_cases hn : n.toNat < ps.length
  · have e : pgAt ps n = ps[n.toNat] := by simp [pgAt, hn]
    rw [e]; exact (h.2 _ (List.getElem_mem _)).1
  · rw [pgAt_out hn]; simp [pgNew, In]⟩⟩

theorem undosAt_in {L : List R} (h : LogGood L) : ∀ (n : Nat), n ≤ L.length → ∀ m ∈ undosAt L n, 0 < m ∧ m ≤ L.length := by
  intro n
  induction n using Nat.strongRecOn with
  | _ n ih =>
    intro hn m hm
    cases hb : back L n with
    | zero => rw [undosAt_nil hb] at hm; cases hm
    | succ k =>
      have hk := back_le h hn
      have hp := h.prevAt_le (n := k) (by omega)
      rw [undosAt_succ h hn hb] at hm
      rcases List.mem_cons.1 hm with rfl | hm
      · omega
      · exact ih _ (by omega) (by omega) m hm
theorem allUndos_in {L : List R} (h : LogGood L) : ∀ m ∈ allUndos L, 0 < m ∧ m ≤ L.length := by
  intro m hm
  simp only [allUndos, List.mem_append] at hm
  rcases hm with (hm | hm) | hm <;> exact undosAt_in h _ (last_le L _) m hm

/-- Engines that rise. -/
structure Rising (e : Eng) : Prop where
  good : LogGood e.log
  fits : Fits e.log
  disk : PagesOkP e.disk
  s0 : 0 ≤ e.safe
  s1 : e.safe ≤ e.log.length
  dl : LsnLe e.disk e.safe
  pre : PrefixesOk e
  mem : e.mem = redo e.disk e.log

theorem Rising.len {e : Eng} (h : Rising e) : e.log.length ≤ 150 := by have := h.fits; unfold Fits at this; omega
theorem Rising.memOk {e : Eng} (h : Rising e) : PagesOkP e.mem ∧ Undone e.mem e.log := by
  have := h.pre e.log.length h.s1 (Nat.le_refl _)
  rw [List.take_length] at this
  rw [h.mem]; exact this
theorem Rising.lsn {e : Eng} (h : Rising e) (p : Int) : (pgAt e.mem p).lsn ≤ e.log.length := by
  have hl := redoB_lsnLe (L := e.log) (h.dl.mono h.s1) e.log.length (Int.le_refl _)
  rw [h.mem]
  by_cases hp : p.toNat < (redo e.disk e.log).length
  · have e1 : pgAt (redo e.disk e.log) p = (redo e.disk e.log)[p.toNat] := by simp [pgAt, hp]
    rw [e1]; exact hl _ (List.getElem_mem _)
  · rw [pgAt_out hp]; simp [pgNew]

theorem redo_add (ps : List Pg) (L : List R) (r : R) : redo ps (addL L r) = redoStep (redo ps L) L.length (addR L r) := by
  have hl : (addL L r).length = L.length + 1 := by simp [addL]
  have hr : (addL L r)[L.length]? = some (addR L r) := by simp [addL]
  unfold redo
  rw [hl]
  simp only [redoB, hr]
  rw [redoB_congr (L := addL L r) (L' := L) L.length fun i hi => by simp [addL, List.getElem?_append_left hi]]

/-- A step of one that rises. -/
theorem Rising.step {e : Eng} (h : Rising e) (ho : ¬ first e.log = 0) : Rising (addI e (stepR e.log (first e.log))) ∧
    (¬ back e.log (last e.log (first e.log)) = 0 → PageOkP (wr (pgAt e.mem (stepR e.log (first e.log)).page) (addR e.log (stepR e.log (first e.log))) ((e.log.length : Int) + 1))) := by
  obtain ⟨ht, hl⟩ := first_open ho
  obtain ⟨tx, htx⟩ : ∃ tx, tx = first e.log := ⟨_, rfl⟩
  rw [← htx] at ht hl ⊢
  have hlen := h.len
  have hgood := step_good h.good hlen ht
  have hfit := step_fits h.good hlen ht hl
  have hf := h.fits
  simp only [Fits] at hf
  have hneed : 1 ≤ need e.log := by
    have hn := step_need h.good hlen ht hl
    have : tx = 1 ∨ tx = 2 ∨ tx = 3 := by simp only [In] at ht; omega
    rcases this with q | q | q <;> rw [q] at hn <;> simp only [need] <;> omega
  obtain ⟨hpo, hun⟩ := h.memOk
  obtain ⟨r, hr⟩ : ∃ r, r = stepR e.log tx := ⟨_, rfl⟩
  have hstx : (addR e.log r).tx = tx := by rw [addR_tx, hr, stepR_tx h.good]
  have hlL : (addL e.log r).length = e.log.length + 1 := by simp [addL]
  rw [← hr] at hgood hfit ⊢
  have hpage : In r.page 0 4 := by rw [hr]; exact (stepR_ok h.good ht).page
  have hlsn := h.lsn r.page
  -- the pages
  have hmem : (addI e r).mem = redo e.disk (addL e.log r) := by
    rw [redo_add, ← h.mem]
    have e1 : ((addL e.log r).length : Int) = (e.log.length : Int) + 1 := by rw [hlL]; simp
    have e2 : (addI e r).mem = if Changes r.kind then pgSet e.mem r.page (wr (pgAt e.mem r.page) (addR e.log r) ((addL e.log r).length : Int)) else e.mem := rfl
    rw [e2, e1]
    by_cases hc : Changes r.kind
    · have hc' : Changes (addR e.log r).kind ∧ (pgAt e.mem (addR e.log r).page).lsn < (e.log.length : Int) + 1 := ⟨hc, by rw [addR_page]; omega⟩
      rw [if_pos hc, redoStep, if_pos hc']; rfl
    · have hc' : ¬ (Changes (addR e.log r).kind ∧ (pgAt e.mem (addR e.log r).page).lsn < (e.log.length : Int) + 1) := fun q => hc q.1
      rw [if_neg hc, redoStep, if_neg hc']
  -- those before are not open
  have hfst : ∀ t : Int, In t 1 3 → t < tx → undos e.log t = [] := fun t h1 h2 => by
    refine undos_nil ?_
    rw [htx] at h2
    simp only [first] at h2
    have : t = 1 ∨ t = 2 ∨ t = 3 := by simp only [In] at h1; omega
    rcases this with q | q | q <;> rw [q] at h2 ⊢ <;> split at h2 <;> first | omega | (split at h2 <;> first | omega | (split at h2 <;> omega))
  have hother : ∀ t : Int, tx ≠ t → undos (addL e.log r) t = undos e.log t := fun t hne => undos_other hgood (by rw [hstx]; exact hne)
  have hrec : ∀ n, 0 < n → n ≤ e.log.length → recAt e.log n = recAt (addL e.log r) n := fun n h0 h1 => (recAt_snoc h0 h1).symm
  have htc : tx = 1 ∨ tx = 2 ∨ tx = 3 := by simp only [In] at ht; omega
  -- what is left to undo
  have key : PagesOkP (addI e r).mem ∧ Undone (addI e r).mem (addL e.log r) ∧ (¬ back e.log (last e.log tx) = 0 → PageOkP (wr (pgAt e.mem r.page) (addR e.log r) ((e.log.length : Int) + 1))) := by
    rcases stepR_cases h.good tx with ⟨hb, er⟩ | ⟨m, q, hb, hq, hk, hqt, er⟩ <;> rw [← hr] at er
    · have hE : Ends (addR e.log r) := by rw [er]; right; rfl
      have u1 : undos e.log tx = [] := undosAt_nil hb
      have u2 : undos (addL e.log r) tx = [] := by have := undos_end (L := e.log) hE; rw [hstx] at this; exact this
      have hmm : (addI e r).mem = e.mem := by unfold addI; rw [er]; rfl
      have hall : allUndos (addL e.log r) = allUndos e.log := by
        unfold allUndos
        rcases htc with q | q | q <;> rw [q] at u1 u2 hother
        · rw [u1, u2, hother 2 (by decide), hother 3 (by decide)]
        · rw [u1, u2, hother 1 (by decide), hother 3 (by decide)]
        · rw [u1, u2, hother 1 (by decide), hother 2 (by decide)]
      rw [hmm]
      refine ⟨hpo, ?_, fun c => absurd hb c⟩
      unfold Undone
      rw [hall]
      exact UndoneL_sim _ (fun n hn => hrec n (allUndos_in h.good n hn).1 (allUndos_in h.good n hn).2) hpo.sim hun
    · have hk6 : (addR e.log r).kind = 6 := by rw [er]; rfl
      have u1 : undos e.log tx = (m + 1) :: undosAt e.log (prevAt e.log (m + 1)) := undosAt_succ h.good (last_le _ _) hb
      have u2 : undos (addL e.log r) tx = undosAt e.log (prevAt e.log (m + 1)) := by
        have := undos_undo hgood hk6
        rw [hstx] at this
        have hn : (addR e.log r).next.toNat = prevAt e.log (m + 1) := by rw [er, prevAt_eq hq]; rfl
        rw [hn] at this; exact this
      obtain ⟨S, a1, a2⟩ : ∃ S, allUndos e.log = (m + 1) :: S ∧ allUndos (addL e.log r) = S := by
        unfold allUndos
        rcases htc with q | q | q <;> rw [q] at u1 u2 hother hfst
        · refine ⟨undosAt e.log (prevAt e.log (m + 1)) ++ undos e.log 2 ++ undos e.log 3, by rw [u1]; simp, by rw [u2, hother 2 (by decide), hother 3 (by decide)]⟩
        · have k1 := hfst 1 (by decide) (by decide)
          refine ⟨undosAt e.log (prevAt e.log (m + 1)) ++ undos e.log 3, by rw [u1, k1]; simp, by rw [u2, hother 1 (by decide), hother 3 (by decide), k1]; simp⟩
        · have k1 := hfst 1 (by decide) (by decide)
          have k2 := hfst 2 (by decide) (by decide)
          refine ⟨undosAt e.log (prevAt e.log (m + 1)), by rw [u1, k1, k2]; simp, by rw [u2, hother 1 (by decide), hother 2 (by decide), k1, k2]; simp⟩
      have hun' := hun
      unfold Undone at hun'
      rw [a1] at hun'
      obtain ⟨h1, h2⟩ := hun'
      have eq1 : recAt e.log (m + 1) = q := recAt_some hq
      rw [eq1] at h2
      obtain ⟨P, hP⟩ : ∃ P, P = wr (pgAt e.mem r.page) (addR e.log r) ((e.log.length : Int) + 1) := ⟨_, rfl⟩
      have hrp : r.page = q.page := by rw [er]; rfl
      have hPe : P = wr (pgAt e.mem q.page) (backR q 0) ((e.log.length : Int) + 1) := by rw [hP, hrp, er]; rfl
      have hU : undoPg e.log e.mem (m + 1) = wr (pgAt e.mem q.page) (backR q 0) (pgAt e.mem q.page).lsn := by unfold undoPg; rw [eq1]
      have w := wr_same (p := pgAt e.mem q.page) (q := pgAt e.mem q.page) rfl rfl (backR q 0) (pgAt e.mem q.page).lsn ((e.log.length : Int) + 1)
      rw [← hU, ← hPe] at w
      have hPl : In P.lsn 0 150 := by rw [hPe, wr_lsn']; simp only [In]; omega
      have hPok : PageOkP P := ok_same h1 w.1 w.2 hPl
      have hc : Changes r.kind := by rw [er]; right; right; rfl
      have hmm : (addI e r).mem = pgSet e.mem q.page P := by
        have e1 : ((addL e.log r).length : Int) = (e.log.length : Int) + 1 := by rw [hlL]; simp
        have e2 : (addI e r).mem = if Changes r.kind then pgSet e.mem r.page (wr (pgAt e.mem r.page) (addR e.log r) ((addL e.log r).length : Int)) else e.mem := rfl
        rw [e2, if_pos hc, e1, ← hP, hrp]
      rw [hmm, ← hP]
      refine ⟨hpo.setU _ hPok, ?_, fun _ => hPok⟩
      unfold Undone
      rw [a2]
      exact UndoneL_sim S (fun n hn => hrec n (allUndos_in h.good n (by rw [a1]; simp [hn])).1 (allUndos_in h.good n (by rw [a1]; simp [hn])).2) (hpo.sim.set _ w.1 w.2 hPl) h2
  obtain ⟨k1, k2, k3⟩ := key
  refine ⟨⟨hgood, ?_, h.disk, h.s0, ?_, h.dl, fun n hn1 hn2 => ?_, hmem⟩, k3⟩
  · show (addL e.log r).length + need (addL e.log r) ≤ 150
    omega
  · show e.safe ≤ ((addL e.log r).length : Int)
    rw [hlL]; have := h.s1; omega
  · have hn2' : n ≤ (addL e.log r).length := hn2
    show PagesOkP (redoB e.disk (addL e.log r) n) ∧ Undone (redoB e.disk (addL e.log r) n) ((addL e.log r).take n)
    by_cases hl2 : n ≤ e.log.length
    · rw [redoB_congr (L := addL e.log r) (L' := e.log) n fun i hi => by simp [addL, List.getElem?_append_left (show i < e.log.length by omega)]]
      have : (addL e.log r).take n = e.log.take n := by unfold addL; exact List.take_append_of_le_length hl2
      rw [this]
      exact h.pre n hn1 hl2
    · have hn : n = (addL e.log r).length := by omega
      subst hn
      have : redoB e.disk (addL e.log r) (addL e.log r).length = (addI e r).mem := hmem.symm
      rw [this, List.take_length]
      exact ⟨k1, k2⟩

end Go.Proofs.YtnaafbdgkmlnaaaGreat
