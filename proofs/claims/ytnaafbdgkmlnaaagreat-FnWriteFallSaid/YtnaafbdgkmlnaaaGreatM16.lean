/- Laws about the machine's run of the program's functions, part 16, in import order. No condition. -/
import Derived.Test.YtnaafbdgkmlnaaaGreatM01
import Derived.Test.YtnaafbdgkmlnaaaGreatM13
import Derived.Test.YtnaafbdgkmlnaaaGreatM15

set_option linter.unusedVariables false
set_option linter.unusedSimpArgs false
set_option linter.unnecessarySimpa false
/- Functions: what a log says is done again. -/
namespace Go.Proofs.YtnaafbdgkmlnaaaGreat
set_option linter.unusedVariables false
set_option linter.unusedSimpArgs false
set_option linter.unnecessarySimpa false
set_option maxRecDepth 20000
set_option maxHeartbeats 2000000

/-- Pages have their form. -/
def ShP (ps : List Pg) : Prop := ps.length = 5 ∧ ∀ p ∈ ps, p.vals.length = 3
theorem ShP.short {ps : List Pg} (h : ShP ps) : ShortPs ps := ⟨by have := h.1; omega, fun p hp => by have := h.2 p hp; omega⟩
theorem PagesOkP.sh {ps : List Pg} (h : PagesOkP ps) : ShP ps := ⟨h.1, fun p hp => (h.2 p hp).2.2.1⟩
theorem ShP.at {ps : List Pg} (h : ShP ps) {n : Int} (h0 : 0 ≤ n) (h1 : n ≤ 4) : ps[n.toNat]? = some (pgAt ps n) ∧ (pgAt ps n).vals.length = 3 := by
  have hl := h.1
  have e : ps[n.toNat]? = some (ps[n.toNat]'(by omega)) := List.getElem?_eq_getElem _
  have e2 : pgAt ps n = ps[n.toNat]'(by omega) := by simp [pgAt, e]
  exact ⟨by rw [e2]; exact e, by rw [e2]; exact h.2 _ (List.getElem_mem _)⟩
theorem ShP.set {ps : List Pg} (h : ShP ps) (n : Int) {p : Pg} (hp : p.vals.length = 3) : ShP (pgSet ps n p) := by
  refine ⟨by simp [pgSet, h.1], fun q hq => ?_⟩
  rcases List.mem_or_eq_of_mem_set hq with hq | rfl
  · exact h.2 q hq
  · exact hp
theorem ShP.step {ps : List Pg} (h : ShP ps) (i : Nat) {r : R} (hr : 0 ≤ r.page ∧ r.page ≤ 4) : ShP (redoStep ps i r) := by
  unfold redoStep
  split
  · exact h.set _ (wr_len _ _ _ (h.at hr.1 hr.2).2)
  · exact h
theorem ShP.redoB {ps : List Pg} (h : ShP ps) {L : List R} (hL : ∀ r ∈ L, RecOkP r) : ∀ n, ShP (redoB ps L n)
  | 0 => h
  | n + 1 => by
    simp only [Go.Proofs.YtnaafbdgkmlnaaaGreat.redoB]
    cases hr : L[n]? with
    | none => exact h.redoB hL n
    | some r => exact (h.redoB hL n).step n (hL r (List.mem_of_getElem? hr)).page

theorem map_set_enc (ps : List Pg) (n : Nat) (p : Pg) : (ps.map encP).set n (encP p) = (ps.set n p).map encP := by simp [List.map_set]

theorem hp_one {H : Hp} {B B1 id : Nat} {x y z k : Blk} (h : ¬ B = B1) (hk : (Hp.nil.set B x) id = some k) : (((H.set B1 y).set B1 z).set B x) id = some k := by
  simp only [Hp.set_app, Hp.nil_app] at hk ⊢
  split at hk
  · rename_i e; rw [if_pos e]; exact hk
  · cases hk
theorem hp_two {B B1 id : Nat} {x y z k : Blk} (h : ¬ B = B1) (hk : (Hp.nil.set B x) id = some k) : (((Hp.nil.set B x).set B1 y).set B1 z) id = some k := by
  simp only [Hp.set_app, Hp.nil_app] at hk ⊢
  split at hk
  · rename_i e; rw [if_neg (by omega), if_neg (by omega), if_pos e]; exact hk
  · cases hk

theorem c104 (ps : List Pg) (L : List R) (hps : ShP ps) (hL : ∀ r ∈ L, RecOkP r) (hl : L.length ≤ 1000000) : Mk1 104 [.sl 3 (ps.map encP), .sl 8 (L.map encR)] id 38 3 ((redo ps L).map encP) := by
  refine mk1_of (fun B id h => ren_self h) (pages_rows _) fun B => ?_
  refine acallsF M3 Tryz.func104 (by kernel_rfl) fun hlt => ?_
  have hne : ps.map encP ≠ [] := by intro e; have := hps.1; simp at e; simp [e] at this
  have h5 := hps.1
  simp [Tryz.f104]
  refine callw_mk ((c138 ps hps.short).mk1 hne (pages_rows _)) ?_
  simp [h5]
  refine aloop_ind (ι := Nat × Nat) (fun i => L.length - i.1) (fun i => i.1 ≤ L.length ∧ B < i.2) (fun i => [(1, .sl 8 (L.map encR)), (5, .ref B 3 0 5), (6, I64 i.1)]) (fun i => Hp.nil.set B ⟨38, 3, (redoB ps L i.1).map encP⟩) (fun i => i.2) (0, B + 1) ⟨by simp, by simp⟩ (by simp) (by simp [redoB]) (by simp) ?_
  rintro A ⟨n, B1⟩ ⟨hn, hB⟩ ih
  simp only at hn hB
  have hsh := hps.redoB hL n
  refine wpC_sound M3 _ _ _ _ _ (by kernel_rfl) ?_
  obtain ⟨qs, hqs⟩ : ∃ qs, qs = redoB ps L n := ⟨_, rfl⟩
  rw [← hqs] at hsh ⊢
  simp [cond_dec]
  constructor
  · intro hlt'
    obtain ⟨r, hr⟩ : ∃ r, L[n]? = some r := ⟨_, List.getElem?_eq_getElem hlt'⟩
    have hrok := hL r (List.mem_of_getElem? hr)
    have w1 := w64 ((n : Int) + 1) (by omega) (by omega)
    have hpg := hrok.page
    obtain ⟨e1, e2⟩ := hsh.at hpg.1 hpg.2
    have hB1 : ¬ B = B1 := by omega
    have hB2 : ¬ B1 = B := by omega
    have hpl : r.page < 5 := by omega
    have hql : qs.length = 5 := hsh.1
    have hst : redoB ps L (n + 1) = redoStep qs n r := by simp [redoB, hr, hqs]
    have h164 := c164 (pgAt qs r.page) r ((n : Int) + 1) e2 (by have := hrok.slot; omega)
    simp only [encP, pgRow, encR] at h164
    simp [hr, encR, hB1, hB2]
    refine gO (fun h1 => ?_) (fun h1 => ?_) <;> simp at h1 <;> simp [h1, hB1, hB2, hpg.1, hpl, e1, encP, pgRow, w1]
    · refine gC (fun h2 => ?_) (fun h2 => ?_) <;> simp [-Int.not_le, -Int.not_lt] at h2 <;> simp [hB1, hB2, hpg.1, hpl, e1, encP, pgRow, w1]
      · refine calld_told h164 (Nat.zero_le _) (by simp) ?_
        have hset : (qs.map encP).set r.page.toNat [I64 (wr (pgAt qs r.page) r ((n : Int) + 1)).lsn, I64 (wr (pgAt qs r.page) r ((n : Int) + 1)).owner, .sl 1 (ints (wr (pgAt qs r.page) r ((n : Int) + 1)).vals)] = (redoB ps L (n + 1)).map encP := by
          rw [hst, redoStep, if_pos ⟨h1, h2⟩, pgSet, ← map_set_enc]; rfl
        simp [hB1, hB2, hpg.1, hpl, e1, encP, pgRow, w1, hql]
        refine ⟨chkW_sh (by kernel_rfl), ?_⟩
        refine ih (n + 1, B1 + 1) _ _ _ (by simp; omega) ⟨by simp; omega, by simp; omega⟩ (by simp) ?_ (by simp)
        rw [hset]
        exact fun id k hk => hp_one hB1 hk
      · refine ih (n + 1, B1 + 1) _ _ _ (by simp; omega) ⟨by simp; omega, by simp; omega⟩ (by simp) ?_ (by simp)
        have : redoB ps L (n + 1) = qs := by rw [hst, redoStep, if_neg (fun h => h2 h.2)]
        simp only [this]
        exact fun id k hk => hp_two hB1 hk
    · refine ih (n + 1, B1 + 1) _ _ _ (by simp; omega) ⟨by simp; omega, by simp; omega⟩ (by simp) ?_ (by simp)
      have : redoB ps L (n + 1) = qs := by rw [hst, redoStep, if_neg (fun h => h1 h.1)]
      simp only [this]
      exact fun id k hk => hp_two hB1 hk
  · intro h
    obtain rfl : n = L.length := by omega
    have hql : qs.length = 5 := hsh.1
    have e : redo ps L = qs := hqs.symm
    rw [e]
    exact ⟨B, Nat.le_refl _, by simp [hql], by simp⟩

theorem pages_own (ps : List Pg) (B : Nat) : AV.lt B (.sl 3 (ps.map encP)) := lt_pages B ps
/-- A named list of pages is lent to who reads it. -/
theorem lend_pages {f : FuncId} {B e : Nat} {S : List Pg} {v : AV} {n : Nat} (h : Told f [.sl 3 (S.map encP)] [] [] 0 v) (ho : Own v) (hv : ∀ B, AV.lt B v) (hn : n = S.length) : Told f [.ref B 3 0 n] [(B, ⟨e, 3, S.map encP⟩)] [(B, ⟨e, 3, S.map encP⟩)] 0 v := by
  refine told_borrow h ho ⟨by simp [Hp.of], by simpa using pages_rows S 0⟩ ?_ (hv 0)
  exact Fz.tup' (.cons (Fz.slice (k := ⟨e, 3, S.map encP⟩) (by simp [Hp.of]) rfl rfl (by simp [hn])) .nil)

theorem c84 (ps : List Pg) (L : List R) (hps : ShP ps) (hL : ∀ r ∈ L, RecOkP r) (hl : L.length ≤ 1000000) : Mk1 84 [.sl 3 (ps.map encP), .sl 8 (L.map encR)] (fun x => .tup [x, .bool (decide (PagesOkP (redo ps L)))]) 38 3 ((redo ps L).map encP) := by
  refine mk1_of (fun B id h => .tup _ _ rfl fun k x y hx hy => ?_) (pages_rows _) fun B => ?_
  · match k with
    | 0 => cases hx; cases hy; exact ren_self h
    | 1 => cases hx; cases hy; exact .same _ trivial
    | n + 2 => simp at hx
  refine acallsF M3 Tryz.func84 (by kernel_rfl) fun hlt => ?_
  have hne : ps.map encP ≠ [] := by intro e; have := hps.1; simp at e; simp [e] at this
  have h5 := hps.1
  simp [Tryz.f84]
  refine callw_mk ((c79 ps hps.short).mk1 hne (pages_rows _)) ?_
  simp [h5]
  refine aloop_ind (ι := Nat × Nat) (fun i => L.length - i.1) (fun i => i.1 ≤ L.length ∧ B < i.2) (fun i => [(12, .sl 8 (L.map encR)), (13, I64 L.length), (6, .ref B 3 0 5), (14, I64 i.1)]) (fun i => Hp.nil.set B ⟨38, 3, (redoB ps L i.1).map encP⟩) (fun i => i.2) (0, B + 1) ⟨by simp, by simp⟩ (by simp) (by simp [redoB]) (by simp) ?_
  rintro A ⟨n, B1⟩ ⟨hn, hB⟩ ih
  simp only at hn hB
  have hsh := hps.redoB hL n
  refine wpC_sound M3 _ _ _ _ _ (by kernel_rfl) ?_
  obtain ⟨qs, hqs⟩ : ∃ qs, qs = redoB ps L n := ⟨_, rfl⟩
  rw [← hqs] at hsh ⊢
  simp [cond_dec]
  constructor
  · intro hlt'
    obtain ⟨r, hr⟩ : ∃ r, L[n]? = some r := ⟨_, List.getElem?_eq_getElem hlt'⟩
    have hrok := hL r (List.mem_of_getElem? hr)
    have w1 := w64 ((n : Int) + 1) (by omega) (by omega)
    have hpg := hrok.page
    obtain ⟨e1, e2⟩ := hsh.at hpg.1 hpg.2
    have hB1 : ¬ B = B1 := by omega
    have hB2 : ¬ B1 = B := by omega
    have hpl : r.page < 5 := by omega
    have hql : qs.length = 5 := hsh.1
    have hst : redoB ps L (n + 1) = redoStep qs n r := by simp [redoB, hr, hqs]
    have h144 := c144 (pgAt qs r.page) r e2 (by have := hrok.slot; omega)
    simp only [encP, pgRow, encR] at h144
    simp [hr, encR, hB1, hB2]
    refine gO (fun h1 => ?_) (fun h1 => ?_) <;> simp at h1 <;> simp [h1, hB1, hB2, hpg.1, hpl, e1, encP, pgRow, w1]
    · refine gC (fun h2 => ?_) (fun h2 => ?_) <;> simp [-Int.not_le, -Int.not_lt] at h2 <;> simp [hB1, hB2, hpg.1, hpl, e1, encP, pgRow, w1]
      · refine ih (n + 1, B1 + 1) _ _ _ (by simp; omega) ⟨by simp; omega, by simp; omega⟩ (by simp) ?_ (by simp)
        have : redoB ps L (n + 1) = qs := by rw [hst, redoStep, if_neg (fun h => by omega)]
        simp only [this]
        exact fun id k hk => hp_two hB1 hk
      · refine calld_told h144 (Nat.zero_le _) (by simp) ?_
        have hwe : wr (pgAt qs r.page) r ((n : Int) + 1) = ⟨(n : Int) + 1, (wr (pgAt qs r.page) r (pgAt qs r.page).lsn).owner, (wr (pgAt qs r.page) r (pgAt qs r.page).lsn).vals⟩ := by unfold wr; split <;> rfl
        have hset : (qs.map encP).set r.page.toNat [I64 ((n : Int) + 1), I64 (wr (pgAt qs r.page) r (pgAt qs r.page).lsn).owner, .sl 1 (ints (wr (pgAt qs r.page) r (pgAt qs r.page).lsn).vals)] = (redoB ps L (n + 1)).map encP := by
          rw [hst, redoStep, if_pos ⟨h1, by omega⟩, pgSet, ← map_set_enc, hwe]; rfl
        have hB3 : ¬ B = B1 + 1 := by omega
        simp [hB1, hB2, hB3, hpg.1, hpl, e1, encP, pgRow, w1, hql]
        refine ⟨chkW_tk [B, B1, B1 + 1] [⟨[], [], false⟩, ⟨[], [], false⟩, ⟨[1], [], false⟩, ⟨[], [], false⟩, ⟨[0], [], false⟩, ⟨[1], [], false⟩, ⟨[], [], false⟩, ⟨[], [2], true⟩, ⟨[2], [2], false⟩] (by simp; omega) rfl (by kernel_rfl), ?_⟩
        refine ih (n + 1, B1 + 2) _ _ _ (by simp; omega) ⟨by simp; omega, by simp; omega⟩ (by simp) ?_ (by simp)
        rw [hset]
        intro id k hk
        simp only [Hp.set_app, Hp.nil_app] at hk ⊢
        split at hk
        · rename_i e; rw [if_pos e]; exact hk
        · cases hk
    · refine ih (n + 1, B1 + 1) _ _ _ (by simp; omega) ⟨by simp; omega, by simp; omega⟩ (by simp) ?_ (by simp)
      have : redoB ps L (n + 1) = qs := by rw [hst, redoStep, if_neg (fun h => h1 h.1)]
      simp only [this]
      exact fun id k hk => hp_two hB1 hk
  · intro h
    obtain rfl : n = L.length := by omega
    have hql : qs.length = 5 := hsh.1
    have e : redo ps L = qs := hqs.symm
    rw [e]
    refine callw_told (lend_pages (e := 38) (c81 qs hsh.short) (.bool _) (fun _ => trivial) hql.symm) (Nat.zero_le _) (by simp) ?_
    simp
    exact hql.symm


end Go.Proofs.YtnaafbdgkmlnaaaGreat

/- Functions: a record is put behind all. -/
namespace Go.Proofs.YtnaafbdgkmlnaaaGreat
set_option linter.unusedVariables false
set_option linter.unusedSimpArgs false
set_option linter.unnecessarySimpa false
set_option maxRecDepth 20000
set_option maxHeartbeats 2000000

theorem lt_pgs (B : Nat) (ps : List Pg) : AV.ltLL B (pgs ps).rows := pages_rows ps B
theorem lt_encN {B D M : Nat} (hD : D < B) (hM : M < B) (e : Eng) : AV.ltL B (encN D M e) := by
  simp only [encN, encG, AV.ltL, and_true]; exact ⟨hD, hM, lt_recs B _, trivial, trivial⟩

/-- A call that may write an engine's pages. -/
theorem told_N {f : FuncId} {args : List AV} {D M Bm : Nat} {e e' : Eng} {v : AV} (hDM : D ≠ M) (hv : AV.lt Bm v)
    (h : ∀ B, Bm ≤ B → ACalls PP f args (Hp.of (ebl D M e)) B (fun v' H' _ => v' = v ∧ H' D = some (pgs e'.disk) ∧ H' M = some (pgs e'.mem))) : Told f args (ebl D M e) (ebl D M e') Bm v where
  call := fun B hB => (h B hB).mono fun v' H' B' ⟨h1, h2, h3⟩ => ⟨h1, by simp [ebl, h2, h3]⟩
  keys := by simp [ebl]
  lt := hv
  rows := by simp [ebl, lt_pgs]
  nd := by simp [ebl, Hp.of, hDM, Ne.symm hDM]
  all := by simp [ebl]

def sq1 (cd : Code) : Code := match cd with | .seq x _ => x | _ => .skip
def sq2 (cd : Code) : Code := match cd with | .seq _ x => x | _ => .skip
noncomputable def rest177 : Code := sq2 (sq2 (sq2 (bodyOf Tryz.f177)))
def Q177 (D M : Nat) (e : Eng) (r : R) : QT := fun x F H B => (x = .normal ∨ x = .ret) ∧ ∃ v, resAV Tryz.f177.results F H = some v ∧ (v = .tup [.agg (encN D M (addE e r)), .bool (decide (addOk e r))] ∧ H D = some (pgs (addE e r).disk) ∧ H M = some (pgs (addE e r).mem))

theorem addE_no {e : Eng} {r : R} (h : ¬ addOk e r) : addE e r = e := if_neg h
theorem addE_ok {e : Eng} {r : R} (h : addOk e r) : addE e r = addI e r := if_pos h

theorem k177 (D M : Nat) (hDM : D ≠ M) (B : Nat) (hD : D < B) (hM : M < B) (e : Eng) (r : R) (hm : ShP e.mem) (hl : e.log.length ≤ 1000) (hg : LogGood (addL e.log r)) (hp : 0 ≤ r.page ∧ r.page ≤ 4) (hs : r.slot ≤ 2) (B2 : Nat) (hB2 : B + 3 ≤ B2) (F : Fr) (H : Hp)
    (F2 : F 2 = .pe B 5 0) (F3 : F 3 = .pe (B + 1) 8 0) (F4 : F 4 = .pe (B + 2) 5 0) (F6 : F 6 = .sl 8 ((addL e.log r).map encR))
    (H2 : H B = some ⟨30, 5, [encN D M e]⟩) (H3 : H (B + 1) = some ⟨71, 8, [encR (addR e.log r)]⟩) (H4 : ∃ rw, H (B + 2) = some ⟨30, 5, [rw]⟩) (HD : H D = some (pgs e.disk)) (HM : H M = some (pgs e.mem)) :
    AWP PP 48 rest177 F H B2 (Q177 D M e r) := by
  obtain ⟨rw4, H4⟩ := H4
  have h105 := c105 (addL e.log r) hg (by simp [addL]; omega)
  have hll := addL_len e.log r
  have hneed : need (addL e.log r) ≤ 3 * 1002 := by have := needB_le hg 3; rw [needB_3] at this; omega
  have wn := w64 (((addL e.log r).length : Int) + (need (addL e.log r) : Int)) (by omega) (by omega)
  have n1 : ¬ D = B := by omega
  have n2 : ¬ M = B := by omega
  have n3 : ¬ D = B + 1 := by omega
  have n4 : ¬ M = B + 1 := by omega
  have n5 : ¬ D = B + 2 := by omega
  have n6 : ¬ M = B + 2 := by omega
  have n7 : ¬ M = D := Ne.symm hDM
  have r2 : ¬ B = M := by omega
  have r4 : ¬ B + 1 = M := by omega
  have r6 : ¬ B + 2 = M := by omega
  obtain ⟨m1, m2⟩ := hm.at hp.1 hp.2
  have h164 := c164 (pgAt e.mem r.page) (addR e.log r) ((addL e.log r).length : Int) m2 hs
  have h163 := c163 r.kind
  have hp0 : 0 ≤ r.page := hp.1
  have hp5 : r.page < 5 := by omega
  have hml := hm.1
  simp only [encP, pgRow, encR] at h164
  simp only [encN, encG] at H2
  simp only [pgs] at HD HM
  simp only [encR, addR] at H3
  refine wpC_sound M0 _ _ _ _ _ (by kernel_rfl) ?_
  simp [rest177, sq2, Tryz.f177, F2, F3, F4, F6, H2, H3, H4, HD, HM, encR]
  refine callw_told h105 (Nat.zero_le _) (by simp) ?_
  simp [F2, F3, F4, F6, H2, H3, H4, HD, HM, wn, n1, n2, n3, n4, n5, n6]
  refine gC (fun c1 => ?_) (fun c1 => ?_) <;> simp at c1 <;> simp [F2, F3, F4, F6, H2, H3, H4, HD, HM]
  · have hno : ¬ addOk e r := by simp only [addOk]; omega
    simp [Q177, Tryz.f177, addE_no hno, hno, encN, encG, HD, HM, n5, n6, pgs, F4]
  · have hok : addOk e r := by simp only [addOk]; omega
    refine callw_told h163 (Nat.zero_le _) (by simp) ?_
    simp
    refine gC (fun c2 => ?_) (fun c2 => ?_) <;> simp at c2 <;> simp [F2, F3, F4, F6, H2, H3, H4, HD, HM, n1, n2, n3, n4, n5, n6, n7, m1, hp0, hp5, encP, pgRow]
    · refine calld_told h164 (Nat.zero_le _) (by simp) ?_
      have hp6 : r.page.toNat < 5 := by omega
      simp [F2, F4, H2, H4, HM, n1, n2, n3, n4, n5, n6, n7, hml, hp0, hp5, hp6, r2, r4, r6]
      refine ⟨chkW_sh (by kernel_rfl), ?_⟩
      simp [Q177, Tryz.f177, addE_ok hok, hok, encN, encG, HD, HM, n1, n2, n3, n4, n5, n6, n7, r2, r4, r6, pgs, F4, addI, c2, hDM, pgSet, List.map_set, encP, pgRow]
    · simp [Q177, Tryz.f177, addE_ok hok, hok, encN, encG, HD, HM, n1, n2, n3, n4, n5, n6, n7, r2, r4, r6, pgs, F4, addI, c2, hDM]

theorem c177 (D M : Nat) (hDM : D ≠ M) (Bm : Nat) (hD : D < Bm) (hM : M < Bm) (e : Eng) (r : R) (hm : ShP e.mem) (hl : e.log.length ≤ 1000) (hg : LogGood (addL e.log r)) (hp : 0 ≤ r.page ∧ r.page ≤ 4) (hs : r.slot ≤ 2) :
    Told 177 [.agg (encN D M e), .agg (encR r)] (ebl D M e) (ebl D M (addE e r)) Bm (.tup [.agg (encN D M (addE e r)), .bool (decide (addOk e r))]) := by
  refine told_N hDM (by simp only [AV.lt, AV.ltL, and_true]; exact lt_encN hD hM _) fun B hB => ?_
  have hnD : ∀ k, ¬ D = B + k := fun k => by omega
  have hnM : ∀ k, ¬ M = B + k := fun k => by omega
  have h122 := c122 e.log r.tx (by omega)
  have h105 := c105 (addL e.log r) hg (by simp [addL]; omega)
  have hb : e.log.length * 64 ≤ 140737488355328 := by omega
  have hb2 : (e.log.length + 1) * 64 ≤ 140737488355328 := by omega
  have hadd : (addL e.log r).map encR = e.log.map encR ++ [[I64 r.kind, I64 r.tx, I64 r.page, I64 r.slot, I64 r.old, I64 r.new, I64 ((last e.log r.tx : Nat) : Int), I64 r.next]] := by simp [addL, addR, encR]
  refine acalls_of (fn := Tryz.f177) (cd := .seq (sq1 (bodyOf Tryz.f177)) (.seq (sq1 (sq2 (bodyOf Tryz.f177))) (.seq (sq1 (sq2 (sq2 (bodyOf Tryz.f177)))) rest177))) (by kernel_rfl) (by kernel_rfl) (by simp [Tryz.f177]) ?_
  change AWP PP _ _ _ _ _ (Q177 D M e r)
  have key := k177 D M hDM B (by omega) (by omega) e r hm hl hg hp hs
  generalize rest177 = rst at key ⊢
  have nD := hnD 0
  have nD1 := hnD 1
  have nD2 := hnD 2
  have nM := hnM 0
  have nM1 := hnM 1
  have nM2 := hnM 2
  simp only [Nat.add_zero] at nD nM
  refine awp_seq (wpC_sound (Mu [2, 3]) _ _ _ _ _ (by kernel_rfl) ?_)
  simp [sq1, Tryz.f177, encN, encG, encR]
  refine awp_seq (wpC_sound (Mu [2, 3]) _ _ _ _ _ (by kernel_rfl) ?_)
  simp [sq1, sq2, Tryz.f177]
  refine callw_told h122 (Nat.zero_le _) (by simp) ?_
  simp
  refine awp_seq (wpC_sound (Mu [16]) _ _ _ _ _ (by kernel_rfl) ?_)
  by_cases h0 : e.log = []
  · simp [sq1, sq2, Tryz.f177, h0]
    refine key _ (by omega) _ _ ?_ ?_ ?_ ?_ ?_ ?_ ?_ ?_ ?_
    all_goals simp [encN, encG, encR, addR, h0, hadd, ebl, Hp.of, nD, nD1, nD2, nM, nM1, nM2, hDM, Ne.symm hDM]
    simp [addL, addR, encR]
  · have nD3 : ¬ D = B + 1 + 2 := by omega
    have nM3 : ¬ M = B + 1 + 2 := by omega
    have nB3 : ¬ B = B + 1 + 2 := by omega
    simp [sq1, sq2, Tryz.f177, h0, hb, hb2]
    refine ⟨chkW_tk [B, B + 1, B + 1 + 2] [⟨[], [], false⟩, ⟨[], [], false⟩, ⟨[0], [], false⟩, ⟨[], [2], true⟩, ⟨[1], [], false⟩, ⟨[], [], false⟩, ⟨[2], [2], true⟩, ⟨[], [], false⟩] (by simp; omega) rfl (by kernel_rfl), ?_⟩
    refine key _ (by omega) _ _ ?_ ?_ ?_ ?_ ?_ ?_ ?_ ?_ ?_
    all_goals simp [encN, encG, encR, addR, h0, hadd, ebl, Hp.of, nD, nD1, nD2, nM, nM1, nM2, hDM, Ne.symm hDM, nD3, nM3, nB3]

end Go.Proofs.YtnaafbdgkmlnaaaGreat

/- Logs of plays: what holds of them, whatever happens. -/
namespace Go.Proofs.YtnaafbdgkmlnaaaGreat
set_option linter.unusedVariables false

theorem addL_at {L : List R} {r : R} : (addL L r)[L.length]? = some (addR L r) := by simp [addL]
@[simp] theorem addR_tx (L : List R) (r : R) : (addR L r).tx = r.tx := rfl
@[simp] theorem addR_kind (L : List R) (r : R) : (addR L r).kind = r.kind := rfl
@[simp] theorem addR_page (L : List R) (r : R) : (addR L r).page = r.page := rfl
@[simp] theorem addR_next (L : List R) (r : R) : (addR L r).next = r.next := rfl
@[simp] theorem addR_slot (L : List R) (r : R) : (addR L r).slot = r.slot := rfl
@[simp] theorem addR_new (L : List R) (r : R) : (addR L r).new = r.new := rfl
theorem addR_prev (L : List R) (r : R) : (addR L r).prev = last L r.tx := rfl

theorem LogGood.nil : LogGood [] := fun i r h => by simp at h
theorem LogGood.recOk {L : List R} (h : LogGood L) {n : Nat} {r : R} (hr : L[n]? = some r) : RecOkP r := (h n r hr).1

/-- The record as it is put there. -/
theorem addR_ok {L : List R} {r : R} (hl : L.length ≤ 150) (h : RecOkP { r with prev := 0 }) : RecOkP (addR L r) := by
  have hp := last_le L r.tx
  obtain ⟨h1, h2, -⟩ := h
  refine ⟨h1, h2, ?_⟩
  show In ((last L r.tx : Nat) : Int) 0 150
  simp only [In]; omega
theorem addL_good {L : List R} (hg : LogGood L) (hl : L.length ≤ 150) {r : R} (h : RecOkP { r with prev := 0 }) (hn : r.next ≤ L.length) (hq : 0 < r.next → ∃ q, L[(r.next - 1).toNat]? = some q ∧ q.tx = r.tx) : LogGood (addL L r) :=
  hg.snoc (addR_ok hl h) rfl hn hq
theorem addL_good0 {L : List R} (hg : LogGood L) (hl : L.length ≤ 150) {r : R} (h : RecOkP { r with prev := 0 }) (hn : r.next = 0) : LogGood (addL L r) :=
  addL_good hg hl h (by omega) (fun h0 => by omega)

/-! ### A step back -/
theorem recAt_some {L : List R} {m : Nat} {q : R} (h : L[m]? = some q) : recAt L (m + 1) = q := by simp [recAt, h]

theorem stepR_cases {L : List R} (hg : LogGood L) (tx : Int) : (back L (last L tx) = 0 ∧ stepR L tx = endR 5 tx) ∨
    (∃ m q, back L (last L tx) = m + 1 ∧ L[m]? = some q ∧ (q.kind = 1 ∨ q.kind = 2) ∧ q.tx = tx ∧ stepR L tx = backR q (last L tx)) := by
  cases hb : back L (last L tx) with
  | zero => left; exact ⟨rfl, by rw [stepR, if_pos hb]⟩
  | succ m =>
    right
    obtain ⟨q, hq, hk, ht⟩ := back_last hg hb
    exact ⟨m, q, rfl, hq, hk, ht, by rw [stepR, if_neg (by omega), hb, recAt_some hq]⟩
theorem stepR_tx {L : List R} (hg : LogGood L) (tx : Int) : (stepR L tx).tx = tx := by
  rcases stepR_cases hg tx with ⟨_, e⟩ | ⟨m, q, _, _, _, ht, e⟩ <;> rw [e]
  · rfl
  · exact ht
theorem backR_ok {q : R} (h : RecOkP q) (hk : q.kind = 1 ∨ q.kind = 2) (n : Int) : RecOkP { backR q n with prev := 0 } := by
  obtain ⟨h1, h2, h3⟩ := h
  refine ⟨.inr (.inr (.inr (.inr ⟨rfl, ?_⟩))), h2, by simp [In]⟩
  show In q.page 0 4 ∧ In q.slot (-1) 2 ∧ (0 : Int) = 0 ∧ ((q.slot = -1 ∧ In q.old 0 3) ∨ (¬ q.slot = -1 ∧ In q.old 0 9)) ∧ In q.prev 0 150
  simp only [PutOk, OwnOk, LoadOk, EndOk, UndoOk, In] at h1 h3 ⊢
  refine ⟨by omega, by omega, trivial, ?_, by omega⟩
  by_cases hs : q.slot = -1
  · exact .inl ⟨hs, by omega, by omega⟩
  · exact .inr ⟨hs, by omega, by omega⟩
theorem endR_ok {k tx : Int} (hk : k = 4 ∨ k = 5) (ht : In tx 1 3) : RecOkP { endR k tx with prev := 0 } :=
  ⟨.inr (.inr (.inr (.inl ⟨hk, rfl, rfl, rfl, rfl, rfl⟩))), ht, by simp [In]⟩
theorem stepR_ok {L : List R} (hg : LogGood L) {tx : Int} (ht : In tx 1 3) : RecOkP { stepR L tx with prev := 0 } := by
  rcases stepR_cases hg tx with ⟨_, e⟩ | ⟨m, q, _, hq, hk, _, e⟩ <;> rw [e]
  · exact endR_ok (.inr rfl) ht
  · exact backR_ok (hg.recOk hq) hk _
theorem step_good {L : List R} (hg : LogGood L) (hl : L.length ≤ 150) {tx : Int} (ht : In tx 1 3) : LogGood (addL L (stepR L tx)) := by
  have hok := stepR_ok hg ht
  rcases stepR_cases hg tx with ⟨_, e⟩ | ⟨m, q, hm, hq, hk, htx, e⟩ <;> rw [e] at hok ⊢
  · exact addL_good0 hg hl hok rfl
  · obtain ⟨h1, h2, h3, h4⟩ := hg m q hq
    have hlt := (List.getElem?_eq_some_iff.1 hq).1
    have hpl := lastB_le L q.tx m
    refine addL_good hg hl hok ?_ ?_
    · simp only [backR]; omega
    · intro h0
      simp only [backR] at h0 ⊢
      obtain ⟨k, hk⟩ : ∃ k, lastB L q.tx m = k + 1 := ⟨lastB L q.tx m - 1, by omega⟩
      obtain ⟨_, u, hu, hut, _⟩ := lastB_spec hk
      have : (q.prev - 1).toNat = k := by omega
      exact ⟨u, by rw [this]; exact hu, hut⟩

/-! ### What is needed -/
theorem need_snoc {L : List R} {r : R} (h : LogGood (L ++ [r])) : need (L ++ [r]) + needTx L r.tx = need L + needTx (L ++ [r]) r.tx := by
  have ht := (h.recOk snoc_at).tx
  have hc : r.tx = 1 ∨ r.tx = 2 ∨ r.tx = 3 := by omega
  have o := fun (t : Int) (hne : r.tx ≠ t) => needTx_other h hne
  simp only [need]
  rcases hc with e | e | e <;> rw [e] at o ⊢
  · rw [o 2 (by omega), o 3 (by omega)]; omega
  · rw [o 1 (by omega), o 3 (by omega)]; omega
  · rw [o 1 (by omega), o 2 (by omega)]; omega

theorem needTx_open {L : List R} {tx : Int} (h : ¬ last L tx = 0) : needTx L tx = (undos L tx).length + 1 := if_neg h
theorem step_need {L : List R} (hg : LogGood L) (hl : L.length ≤ 150) {tx : Int} (ht : In tx 1 3) (ho : ¬ last L tx = 0) : needTx (addL L (stepR L tx)) tx + 1 = needTx L tx := by
  have hgood := step_good hg hl ht
  have hstx : (addR L (stepR L tx)).tx = tx := by rw [addR_tx, stepR_tx hg]
  rw [needTx_open ho]
  rcases stepR_cases hg tx with ⟨hb, e⟩ | ⟨m, q, hb, hq, hk, htx, e⟩
  · have hE : Ends (addR L (stepR L tx)) := by rw [e]; right; rfl
    have := needTx_end (L := L) hE
    rw [hstx] at this
    rw [addL, this, undos, undosAt_nil hb]
    rfl
  · have hk6 : (addR L (stepR L tx)).kind = 6 := by rw [e]; rfl
    have hE : ¬ Ends (addR L (stepR L tx)) := by simp only [Ends]; omega
    have h1 := needTx_same (L := L) hE
    have h2 := undos_undo hgood hk6
    rw [hstx] at h1 h2
    have hn : (addR L (stepR L tx)).next.toNat = prevAt L (m + 1) := by rw [e, prevAt_eq hq]; rfl
    rw [addL, h1, h2, hn, undos, undosAt_succ hg (last_le _ _) hb]
    rfl
theorem step_fits {L : List R} (hg : LogGood L) (hl : L.length ≤ 150) {tx : Int} (ht : In tx 1 3) (ho : ¬ last L tx = 0) : (addL L (stepR L tx)).length + need (addL L (stepR L tx)) = L.length + need L := by
  have h1 := need_snoc (step_good hg hl ht)
  have h2 := step_need hg hl ht ho
  have hstx : (addR L (stepR L tx)).tx = tx := by rw [addR_tx, stepR_tx hg]
  rw [hstx] at h1
  simp only [addL] at h2 ⊢
  rw [List.length_append, List.length_singleton]
  omega
theorem end_fits {L : List R} {k tx : Int} (hk : k = 4 ∨ k = 5) (hg : LogGood (addL L (endR k tx))) (ho : ¬ last L tx = 0) : (addL L (endR k tx)).length + need (addL L (endR k tx)) ≤ L.length + need L := by
  have h1 := need_snoc hg
  have hE : Ends (addR L (endR k tx)) := hk
  have h2 := needTx_end (L := L) hE
  have h3 := needTx_open ho
  simp only [addL, addR_tx] at h1 h2 ⊢
  simp only [endR] at h1 h2 h3 ⊢
  rw [List.length_append, List.length_singleton]
  omega

/-! ### Chains -/
/-- What undoes goes on within its own chain. -/
def UndoLocal (L : List R) : Prop := ∀ (i : Nat) (r : R), L[i]? = some r → r.kind = 6 → r.next = 0 ∨ r.next.toNat ∈ chainAt L r.prev.toNat

theorem chainAt_trans {L : List R} (hg : LogGood L) : ∀ (n : Nat), n ≤ L.length → ∀ m ∈ chainAt L n, ∀ k ∈ chainAt L m, k ∈ chainAt L n := by
  intro n
  induction n using Nat.strongRecOn with
  | _ n ih =>
    intro hn m hm k hk
    cases n with
    | zero => simp at hm
    | succ n =>
      have hp := hg.prevAt_le (n := n) (by omega)
      have e := chainAt_succ hg (n := n) (by omega)
      rw [e] at hm
      rcases List.mem_cons.1 hm with rfl | hm
      · exact hk
      · rw [e]; exact List.mem_cons_of_mem _ (ih _ (by omega) (by omega) m hm k hk)
theorem chainAt_prev {L : List R} (hg : LogGood L) {n m : Nat} (hn : n ≤ L.length) (hm : m + 1 ∈ chainAt L n) : prevAt L (m + 1) = 0 ∨ prevAt L (m + 1) ∈ chainAt L n := by
  have hle := chainAt_le hg n hn _ hm
  have hp := hg.prevAt_le (n := m) (by omega)
  cases hq : prevAt L (m + 1) with
  | zero => exact .inl rfl
  | succ k =>
    right
    refine chainAt_trans hg n hn _ hm _ ?_
    rw [chainAt_succ hg (by omega), hq, chainAt_succ hg (by omega)]
    simp
theorem chainAt_self {L : List R} (hg : LogGood L) {n : Nat} (h0 : 0 < n) (hn : n ≤ L.length) : n ∈ chainAt L n := by
  obtain ⟨m, rfl⟩ : ∃ m, n = m + 1 := ⟨n - 1, by omega⟩
  rw [chainAt_succ hg (by omega)]; simp
theorem back_chain {L : List R} (hg : LogGood L) (hu : UndoLocal L) : ∀ (n : Nat), n ≤ L.length → ∀ m, back L n = m + 1 → m + 1 ∈ chainAt L n := by
  intro n
  induction n using Nat.strongRecOn with
  | _ n ih =>
    intro hn m hm
    cases n with
    | zero => simp at hm
    | succ n =>
      have hr : L[n]? = some L[n] := List.getElem?_eq_getElem (by omega)
      obtain ⟨h1, h2⟩ := hg.prev_le hr
      obtain ⟨h3, -, h4, -⟩ := hg n _ hr
      have h5 := h3.next
      have e := chainAt_succ hg (n := n) (by omega)
      rw [prevAt_eq hr] at e
      rw [back_succ hg hr] at hm
      split at hm
      · rw [e, ← hm]; simp
      · split at hm
        · rename_i hk
          rcases hu n _ hr hk with h0 | hc
          · rw [h0] at hm; simp at hm
          · have := ih L[n].next.toNat (by omega) (by omega) m hm
            rw [e]; exact List.mem_cons_of_mem _ (chainAt_trans hg _ (by omega) _ hc _ this)
        · have := ih L[n].prev.toNat (by omega) (by omega) m hm
          rw [e]; exact List.mem_cons_of_mem _ this
theorem UndoLocal.snoc {L : List R} {r : R} (hg : LogGood (L ++ [r])) (hu : UndoLocal L) (h : r.kind = 6 → r.next = 0 ∨ r.next.toNat ∈ chainAt L r.prev.toNat) : UndoLocal (L ++ [r]) := by
  intro i q hi hk
  have hlt := (List.getElem?_eq_some_iff.1 hi).1
  rw [List.length_append, List.length_singleton] at hlt
  by_cases hl : i < L.length
  · rw [snoc_lt hl] at hi
    have := hg.left.prev_le hi
    rw [chainAt_snoc hg (by omega)]
    exact hu i q hi hk
  · obtain rfl : i = L.length := by omega
    rw [snoc_at] at hi
    cases hi
    obtain ⟨_, h2, -⟩ := hg.end
    have := last_le L r.tx
    rw [chainAt_snoc hg (by omega)]
    exact h hk
theorem UndoLocal.take {L : List R} (hg : LogGood L) (hu : UndoLocal L) (n : Nat) : UndoLocal (L.take n) := by
  intro i q hi hk
  rw [List.getElem?_take] at hi
  split at hi
  · rename_i hin
    have hlt := (List.getElem?_eq_some_iff.1 hi).1
    have := hg.prev_le hi
    rw [chainAt_congr hg (hg.take n) q.prev.toNat (by omega) (by rw [List.length_take]; omega) fun j hj => by rw [List.getElem?_take, if_pos (by omega)]]
    exact hu i q hi hk
  · cases hi
theorem UndoLocal.nil : UndoLocal [] := fun i r h => by simp at h

/-- Whom a page belongs to, with a record more. -/
theorem Has_other {L : List R} {r : R} (h : LogGood (L ++ [r])) {tx page : Int} (ht : r.tx ≠ tx) : Has (L ++ [r]) tx page ↔ Has L tx page := by
  unfold Has
  rw [chain_other h ht]
  constructor
  · rintro ⟨n, hn, e⟩
    have h0 := chainF_mem _ _ _ hn
    have hle := chainAt_le h.left _ (last_le L tx) n hn
    have := last_le L tx
    exact ⟨n, hn, by rwa [recAt_snoc h0 (by omega)] at e⟩
  · rintro ⟨n, hn, e⟩
    have h0 := chainF_mem _ _ _ hn
    have hle := chainAt_le h.left _ (last_le L tx) n hn
    have := last_le L tx
    exact ⟨n, hn, by rwa [recAt_snoc h0 (by omega)]⟩
theorem Has_same {L : List R} {r : R} (h : LogGood (L ++ [r])) (he : ¬ Ends r) {page : Int} : Has (L ++ [r]) r.tx page ↔ r.page = page ∨ Has L r.tx page := by
  unfold Has
  rw [chain_same h he]
  constructor
  · rintro ⟨n, hn, e⟩
    rcases List.mem_cons.1 hn with rfl | hn
    · rw [recAt_end] at e; exact .inl e
    · have h0 := chainF_mem _ _ _ hn
      have hle := chainAt_le h.left _ (last_le L r.tx) n hn
      have := last_le L r.tx
      exact .inr ⟨n, hn, by rwa [recAt_snoc h0 (by omega)] at e⟩
  · rintro (e | ⟨n, hn, e⟩)
    · exact ⟨L.length + 1, by simp, by rw [recAt_end]; exact e⟩
    · have h0 := chainF_mem _ _ _ hn
      have hle := chainAt_le h.left _ (last_le L r.tx) n hn
      have := last_le L r.tx
      exact ⟨n, List.mem_cons_of_mem _ hn, by rwa [recAt_snoc h0 (by omega)]⟩
theorem Has_end {L : List R} {r : R} (he : Ends r) {page : Int} : ¬ Has (L ++ [r]) r.tx page := by
  unfold Has; rw [chain_end he]; simp

def OneG (L : List R) (page : Int) : Prop := ∀ s t : Int, In s 1 3 → In t 1 3 → Has L s page → Has L t page → s = t
theorem One_G (L : List R) (page : Int) : One L page ↔ OneG L page := by
  constructor
  · rintro ⟨h1, h2, h3⟩ s t hs ht a b
    have hs' : s = 1 ∨ s = 2 ∨ s = 3 := by simp only [In] at hs; omega
    have ht' : t = 1 ∨ t = 2 ∨ t = 3 := by simp only [In] at ht; omega
    rcases hs' with rfl | rfl | rfl <;> rcases ht' with rfl | rfl | rfl <;> first | rfl | exact (h1 ⟨a, b⟩).elim | exact (h2 ⟨a, b⟩).elim | exact (h3 ⟨a, b⟩).elim | exact (h1 ⟨b, a⟩).elim | exact (h2 ⟨b, a⟩).elim | exact (h3 ⟨b, a⟩).elim
  · intro h
    refine ⟨fun ⟨a, b⟩ => ?_, fun ⟨a, b⟩ => ?_, fun ⟨a, b⟩ => ?_⟩
    · have := h 1 2 (by decide) (by decide) a b; omega
    · have := h 1 3 (by decide) (by decide) a b; omega
    · have := h 2 3 (by decide) (by decide) a b; omega

theorem OneG.snoc {L : List R} {r : R} (h : LogGood (L ++ [r])) {page : Int} (ho : OneG L page) (hr : ¬ Ends r → r.page = page → ∀ t, In t 1 3 → Has L t page → t = r.tx) : OneG (L ++ [r]) page := by
  intro s t hs ht a b
  have key : ∀ u, In u 1 3 → Has (L ++ [r]) u page → Has L u page ∨ (u = r.tx ∧ ¬ Ends r ∧ r.page = page) := fun u _ hu => by
    by_cases e : r.tx = u
    · subst e
      by_cases he : Ends r
      · exact absurd hu (Has_end he)
      · rcases (Has_same h he).1 hu with e2 | e2
        · exact .inr ⟨rfl, he, e2⟩
        · exact .inl e2
    · exact .inl ((Has_other h e).1 hu)
  rcases key s hs a with a' | ⟨a1, a2, a3⟩ <;> rcases key t ht b with b' | ⟨b1, b2, b3⟩
  · exact ho s t hs ht a' b'
  · rw [b1]; exact hr b2 b3 s hs a'
  · rw [a1]; exact (hr a2 a3 t ht b').symm
  · rw [a1, b1]

theorem lockOf_only {L : List R} {page tx : Int} (ho : OneG L page) (htx : In tx 1 3) (h : lockOf L page = 0 ∨ lockOf L page = tx) : ∀ t, In t 1 3 → Has L t page → t = tx := by
  intro t ht hh
  have ht' : t = 1 ∨ t = 2 ∨ t = 3 := by simp only [In] at ht; omega
  unfold lockOf at h
  by_cases h1 : Has L 1 page
  · rw [if_pos h1] at h
    have := ho t 1 ht (by decide) hh h1
    omega
  · rw [if_neg h1] at h
    by_cases h2 : Has L 2 page
    · rw [if_pos h2] at h
      have := ho t 2 ht (by decide) hh h2
      omega
    · rw [if_neg h2] at h
      by_cases h3 : Has L 3 page
      · rw [if_pos h3] at h
        have := ho t 3 ht (by decide) hh h3
        omega
      · rcases ht' with rfl | rfl | rfl
        · exact absurd hh h1
        · exact absurd hh h2
        · exact absurd hh h3

/-! ### Logs of plays -/
structure PlayLog (L : List R) : Prop where
  good : LogGood L
  loc : UndoLocal L
  pre : ∀ n, n ≤ L.length → Fits (L.take n) ∧ ∀ p, OneG (L.take n) p

theorem PlayLog.fits {L : List R} (h : PlayLog L) : Fits L := by have := (h.pre L.length (Nat.le_refl _)).1; rwa [List.take_length] at this
theorem PlayLog.one {L : List R} (h : PlayLog L) (p : Int) : OneG L p := by have := (h.pre L.length (Nat.le_refl _)).2 p; rwa [List.take_length] at this
theorem PlayLog.len {L : List R} (h : PlayLog L) : L.length ≤ 150 := by have := h.fits; unfold Fits at this; omega
theorem PlayLog.nil : PlayLog [] := ⟨.nil, .nil, fun n hn => by
  simp only [List.take_nil]
  exact ⟨by simp [Fits, need, needTx, last, lastB], fun p s t _ _ ⟨k, hk, _⟩ => by simp [chain, last, lastB] at hk⟩⟩
theorem PlayLog.take {L : List R} (h : PlayLog L) (n : Nat) : PlayLog (L.take n) := ⟨h.good.take n, h.loc.take h.good n, fun m hm => by
  rw [List.length_take] at hm
  rw [List.take_take, Nat.min_eq_left (by omega)]
  exact h.pre m (by omega)⟩
theorem PlayLog.snoc {L : List R} {r : R} (h : PlayLog L) (hg : LogGood (L ++ [r])) (hf : Fits (L ++ [r])) (hu : r.kind = 6 → r.next = 0 ∨ r.next.toNat ∈ chainAt L r.prev.toNat)
    (ho : ¬ Ends r → ∀ t, In t 1 3 → Has L t r.page → t = r.tx) : PlayLog (L ++ [r]) := ⟨hg, .snoc hg h.loc hu, fun n hn => by
  rw [List.length_append, List.length_singleton] at hn
  by_cases hl : n ≤ L.length
  · rw [List.take_append_of_le_length hl]; exact h.pre n hl
  · obtain rfl : n = L.length + 1 := by omega
    have e : (L ++ [r]).take (L.length + 1) = L ++ [r] := List.take_of_length_le (by simp)
    rw [e]
    exact ⟨hf, fun p => (h.one p).snoc hg fun he hp t ht hh => ho he t ht (by rw [hp]; exact hh)⟩⟩

/-- A record that a step puts there is of a page that one has. -/
theorem step_has {L : List R} (h : PlayLog L) {tx : Int} : ¬ Ends (stepR L tx) → Has L tx (stepR L tx).page := by
  intro he
  rcases stepR_cases h.good tx with ⟨_, e⟩ | ⟨m, q, hb, hq, hk, htx, e⟩
  · rw [e] at he; exact absurd (.inr rfl) he
  · rw [e]
    refine ⟨m + 1, back_chain h.good h.loc _ (last_le _ _) m hb, ?_⟩
    rw [recAt_some hq]; rfl
theorem PlayLog.step {L : List R} (h : PlayLog L) {tx : Int} (ht : In tx 1 3) (ho : ¬ last L tx = 0) : PlayLog (addL L (stepR L tx)) := by
  have hg := step_good h.good h.len ht
  have hstx : (addR L (stepR L tx)).tx = tx := by rw [addR_tx, stepR_tx h.good]
  refine h.snoc hg ?_ ?_ ?_
  · have := step_fits h.good h.len ht ho
    have hf := h.fits
    simp only [Fits, addL] at *
    omega
  · intro hk
    rcases stepR_cases h.good tx with ⟨_, e⟩ | ⟨m, q, hb, hq, hkq, htx, e⟩
    · rw [e] at hk; exact absurd hk (by simp [endR])
    · rw [addR_prev, stepR_tx h.good, addR_next, e]
      have hc := back_chain h.good h.loc _ (last_le _ _) m hb
      have hp := chainAt_prev h.good (last_le _ _) hc
      rw [prevAt_eq hq] at hp
      have hpl := h.good.prev_le hq
      have e2 : (backR q (last L tx)).next = q.prev := rfl
      rw [e2]
      rcases hp with hp | hp
      · left; omega
      · right; exact hp
  · intro he t ht' hh
    rw [hstx]
    exact h.one _ t tx ht' ht hh (step_has h he)
theorem PlayLog.ends {L : List R} (h : PlayLog L) {k tx : Int} (hk : k = 4 ∨ k = 5) (ht : In tx 1 3) (ho : ¬ last L tx = 0) : PlayLog (addL L (endR k tx)) := by
  have hg : LogGood (addL L (endR k tx)) := addL_good0 h.good h.len (endR_ok hk ht) rfl
  refine h.snoc hg ?_ ?_ ?_
  · have := end_fits hk hg ho
    have hf := h.fits
    simp only [Fits, addL] at *
    omega
  · intro hk6
    rcases hk with rfl | rfl <;> exact absurd hk6 (by simp [endR])
  · intro he; exact absurd hk he
/-- What changes a page that nobody else has. -/
theorem PlayLog.add {L : List R} (h : PlayLog L) {r : R} (hok : RecOkP { r with prev := 0 }) (hn : r.next = 0) (hk : r.kind ≠ 6) (hf : ¬ 150 < (addL L r).length + need (addL L r)) (hl : lockOf L r.page = 0 ∨ lockOf L r.page = r.tx) : PlayLog (addL L r) := by
  have hg : LogGood (addL L r) := addL_good0 h.good h.len hok hn
  refine h.snoc hg (by simp only [Fits, addL] at *; omega) (fun h6 => absurd h6 hk) fun _ t ht hh => ?_
  exact lockOf_only (h.one _) hok.2.1 hl t ht hh

end Go.Proofs.YtnaafbdgkmlnaaaGreat
