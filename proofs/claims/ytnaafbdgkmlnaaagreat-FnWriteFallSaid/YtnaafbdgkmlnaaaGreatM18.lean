/- Laws about the machine's run of the program's functions, part 18, in import order. No condition. -/
import Derived.Test.YtnaafbdgkmlnaaaGreatM17

set_option linter.unusedVariables false
set_option linter.unusedSimpArgs false
set_option linter.unnecessarySimpa false
/- Functions: a page is filled; all is done that one changed. -/
namespace Go.Proofs.YtnaafbdgkmlnaaaGreat
set_option linter.unusedVariables false
set_option linter.unusedSimpArgs false
set_option linter.unnecessarySimpa false
set_option maxRecDepth 20000
set_option maxHeartbeats 2000000

theorem c126 (D M : Nat) (hDM : D ≠ M) (Bm : Nat) (hD : D < Bm) (hM : M < Bm) (e : Eng) (tx : Int) (h : PlayInv e) :
    Told 126 [.agg (encN D M e), I64 tx] (ebl D M e) (ebl D M (doneE e tx)) Bm (.tup [.agg (encN D M (doneE e tx)), .bool (decide (goes e tx))]) := by
  refine told_N2 hDM (by simp only [AV.lt, AV.ltL, and_true]; exact lt_encN hD hM _) fun B hB H0 HD HM => ?_
  have hlen := h.len
  have hg := h.log.good
  have hll := last_le e.log tx
  refine acallsF (M3u [2, 4]) Tryz.func126 (by kernel_rfl) fun hlt => ?_
  have n1 : ¬ D = B := by omega
  have n2 : ¬ M = B := by omega
  have n3 : ¬ M = D := Ne.symm hDM
  have n4 : ¬ B = M := by omega
  have n5 : ¬ B = D := by omega
  have n6 : ¬ D = B + 1 := by omega
  have n7 : ¬ M = B + 1 := by omega
  have n8 : ¬ B + 1 = M := by omega
  have n9 : ¬ B + 1 = D := by omega
  have no : ¬ goes e tx → doneE e tx = e := fun hn => if_neg hn
  simp only [pgs] at HD HM
  simp [Tryz.f126, encN, encG, HD, HM, n1, n2, n6, n7]
  refine gO (fun c1 => ?_) (fun c1 => ?_) <;> simp at c1 <;> simp [c1, HD, HM, n1, n2, n6, n7]
  rotate_left
  · have hn : ¬ goes e tx := fun q => by have := q.1; simp [c1] at this
    simp [no hn, hn, c1, HD, HM, n1, n2, n6, n7, pgs]
  refine gO (fun c2 => ?_) (fun c2 => ?_) <;> simp at c2 <;> simp [c2, c1, HD, HM, n1, n2, n6, n7]
  rotate_left
  · have hn : ¬ goes e tx := fun q => c2 q.2.1
    simp [no hn, hn, c1, HD, HM, n1, n2, n6, n7, pgs]
  refine callw_told (c122 e.log tx (by omega)) (Nat.zero_le _) (by simp) ?_
  simp
  refine gC (fun c3 => ?_) (fun c3 => ?_) <;> simp at c3 <;> simp [c1, HD, HM, n1, n2, n6, n7]
  · have hn : ¬ goes e tx := fun q => q.2.2 c3
    simp [no hn, hn, c1, HD, HM, n1, n2, n6, n7, pgs]
  have hgo : goes e tx := ⟨c1, c2, c3⟩
  have hun : doneE e tx = doneI e tx := if_pos hgo
  refine callw_told (c122 e.log tx (by omega)) (Nat.zero_le _) (by simp) ?_
  simp
  refine aloop_ind (ι := Nat × Eng × Nat) (fun i => i.1) (fun i => B + 2 ≤ i.2.2 ∧ i.1 ≤ e.log.length ∧ PlayInv i.2.1 ∧ i.2.1.log = e.log ∧ doneW (chainAt e.log i.1) i.2.1 = doneW (chain e.log tx) e) (fun i => [(1, I64 tx), (2, .pe B 5 0), (4, .pe (B + 1) 5 0), (6, I64 i.1)]) (fun i => hpE D M B (B + 1) i.2.1) (fun i => i.2.2) (last e.log tx, e, B + 2) ⟨Nat.le_refl _, hll, h, rfl, rfl⟩ (by simp) ?_ (Nat.le_refl _) ?_
  · exact hpE_sub (by simp [n1, n6, HD]) (by simp [n2, n7, HM]) (by simp [encN, encG, c1]) (by simp)
  rintro A ⟨n, x, B1⟩ ⟨hB1, hn, hx, hxl, hux⟩ ih
  simp only at hB1 hn hx hxl hux
  refine wpC_sound (M3u [2, 4]) _ _ _ _ _ (by kernel_rfl) ?_
  cases n with
  | zero =>
    have hok := endR_ok (.inl rfl) c2 (k := 4)
    have h177 := c177 D M hDM Bm hD hM x (endR 4 tx) hx.mem.sh (by rw [hxl]; omega) (by rw [hxl]; exact addL_good0 hg h.len hok rfl) (by simp [endR]) (by simp [endR])
    have hxe : doneW (chain e.log tx) e = x := by rw [← hux]; rfl
    have hd2 : doneI e tx = { addE x (endR 4 tx) with safe := ((addE x (endR 4 tx)).log.length : Int) } := by rw [doneI, hxe]
    rw [hun, hd2]
    generalize addE x (endR 4 tx) = y at h177 ⊢
    generalize decide (addOk x (endR 4 tx)) = ok at h177
    simp only [encN, encG, encR, endR] at h177
    simp [hpE, encN, encG, n1, n2, n6, n7]
    refine callw_eng h177 (by omega) (by simp [n1, n2, n3, n6, n7, hDM, pgs]) (by simp [n1, n2, n6, n7, pgs]) ?_
    have q1 : ¬ D = B1 := by omega
    have q2 : ¬ M = B1 := by omega
    have q3 : ¬ B = B1 := by omega
    have q4 : ¬ B + 1 = B1 := by omega
    simp [hDM, n1, n2, n3, n4, n5, n6, n7, n8, n9, q1, q2, q3, q4, pgs, hgo]
  | succ m =>
    obtain ⟨r, hr⟩ : ∃ r, e.log[m]? = some r := ⟨_, List.getElem?_eq_getElem (by omega)⟩
    obtain ⟨hok, hprev, hnext, _⟩ := hg m r hr
    have hpl := lastB_le e.log r.tx m
    have w1 := w64 (((m + 1 : Nat) : Int) - 1) (by omega) (by omega)
    have e1 : (((m + 1 : Nat) : Int) - 1) = m := by omega
    rw [e1] at w1
    have hpos : (0 : Int) < ((m + 1 : Nat) : Int) := by omega
    have ep : (r.prev.toNat : Int) = r.prev := by omega
    rw [chainAt_succ hg (by omega), prevAt_eq hr] at hux
    simp only [doneW] at hux
    rw [hxl, recAt_some hr] at hux
    have next : ∀ (y : Eng) F H B', (B + 2 ≤ B') → PlayInv y → y.log = e.log → doneW (chainAt e.log r.prev.toNat) y = doneW (chain e.log tx) e → (∀ p ∈ [(1, I64 tx), (2, AV.pe B 5 0), (4, AV.pe (B + 1) 5 0), (6, I64 (r.prev.toNat : Int))], F p.1 = p.2) → (∀ id k, hpE D M B (B + 1) y id = some k → H id = some k) → A F H B' := fun y F H B' hb' hy hyl hd hF hH =>
      ih (r.prev.toNat, y, B') F H B' (by simp; omega) ⟨by simp; omega, by simp; omega, hy, hyl, hd⟩ hF hH (Nat.le_refl _)
    rw [ep] at next
    generalize hq : ((m + 1 : Nat) : Int) = q at *
    simp [hpE, encN, encG, n1, n2, n6, n7, hpos, e1, w1, hxl, hr, encR]
    refine gC (fun c4 => ?_) (fun c4 => ?_) <;> simp at c4 <;> simp [hpE, encN, encG, n1, n2, n6, n7, hpos, e1, w1, hxl, hr, encR]
    · have h111 := c111 D M hDM Bm hD hM x r.page hx.disk.sh hx.mem.sh hok.page
      simp only [encN, encG, hxl] at h111
      refine calld_eng h111 (by omega) (by simp [n1, n2, n3, n6, n7, hDM, pgs]) (by simp [n1, n2, n6, n7, pgs]) ?_
      simp [hDM, n1, n2, n3, n4, n5, n6, n7, n8, n9, e1, w1, writeE_log, hxl, hr, encR]
      refine ⟨chkW_shb (by simp; omega) (by kernel_rfl), ?_⟩
      refine next (writeE x r.page) _ _ _ (by omega) (hx.write hok.page) hxl ?_ (by simp) ?_
      · rw [if_pos c4] at hux; exact hux
      · exact hpE_sub (by simp [hDM, n1, n6]) (by simp [n2, n7]) (by simp [encN, encG, writeE_log, hxl]) (by simp [n8, n9])
    · refine next x _ _ _ (by omega) hx hxl ?_ (by simp) ?_
      · rw [if_neg c4] at hux; exact hux
      · exact hpE_sub (by simp [hDM, n1, n6]) (by simp [n2, n7]) (by simp [encN, encG, hxl]) (by simp)

end Go.Proofs.YtnaafbdgkmlnaaaGreat

/- Functions: a page is filled at once. -/
namespace Go.Proofs.YtnaafbdgkmlnaaaGreat
set_option linter.unusedVariables false
set_option linter.unusedSimpArgs false
set_option linter.unnecessarySimpa false
set_option maxRecDepth 20000
set_option maxHeartbeats 2000000

theorem c125 (D M : Nat) (hDM : D ≠ M) (Bm : Nat) (hD : D < Bm) (hM : M < Bm) (e : Eng) (tx page : Int) (vals : List Int) (h : PlayInv e) (hv : vals.length ≤ 1000000) :
    Told 125 [.agg (encN D M e), I64 tx, I64 page, .sl 1 (ints vals)] (ebl D M e) (ebl D M (loadE e tx page vals)) Bm (.tup [.agg (encN D M (loadE e tx page vals)), .bool (decide (loadOk e tx page vals))]) := by
  refine told_N2 hDM (by simp only [AV.lt, AV.ltL, and_true]; exact lt_encN hD hM _) fun B hB H0 HD HM => ?_
  have hlen := h.len
  have hd := h.disk.sh
  have hm := h.mem.sh
  have h176 := c176 D M hDM e tx page hd hm h.log.good (by omega)
  refine acallsF (M3u [8, 11]) Tryz.func125 (by kernel_rfl) fun hlt => ?_
  have n1 : ¬ D = B := by omega
  have n2 : ¬ M = B := by omega
  have n3 : ¬ M = D := Ne.symm hDM
  have n4 : ¬ B = M := by omega
  have n5 : ¬ B = D := by omega
  simp only [encN, encG] at h176
  simp [Tryz.f125, encN, encG]
  refine callw_told h176 (Nat.zero_le _) (by simp [ebl, HD, HM, n1, n2]) ?_
  simp
  have no : ¬ loadMay e tx page vals → loadE e tx page vals = e ∧ ¬ loadOk e tx page vals := fun hn => ⟨if_neg (fun q => hn q.1), fun q => hn q.1⟩
  refine gO (fun c1 => ?_) (fun c1 => ?_) <;> simp at c1 <;> simp [c1]
  rotate_left
  · obtain ⟨e1, e2⟩ := no (fun q => c1 q.1)
    simp [e1, e2, HD, HM, n1, n2]
  have p0 := c1.2.2.1.1
  have p4 := c1.2.2.1.2
  have p5 : page < 5 := by omega
  obtain ⟨m1, m2⟩ := hm.at p0 p4
  have h178 := c178 (pgAt e.mem page) (by omega)
  simp only [encP, pgRow] at h178
  simp only [pgs] at HD HM
  refine gO (fun c2 => ?_) (fun c2 => ?_) <;> simp at c2 <;> simp [c2, p0, p5, n1, n2, HM, m1, encP, pgRow]
  rotate_left
  · obtain ⟨e1, e2⟩ := no (fun q => by have := q.2.1; omega)
    simp [e1, e2, HD, HM, n1, n2, pgs, encP, pgRow]
  refine gO (fun c3 => ?_) (fun c3 => ?_) <;> simp at c3 <;> simp [c3, p0, p5, n1, n2, HM, m1, encP, pgRow]
  rotate_left
  · obtain ⟨e1, e2⟩ := no (fun q => q.2.2.1 c3)
    simp [e1, e2, HD, HM, n1, n2, pgs, encP, pgRow]
  refine callw_told h178 (Nat.zero_le _) (by simp) ?_
  simp
  refine gO (fun c4 => ?_) (fun c4 => ?_) <;> simp at c4 <;> simp [c4, p0, p5, n1, n2, HM, m1, encP, pgRow]
  rotate_left
  · obtain ⟨e1, e2⟩ := no (fun q => c4 q.2.2.2.1)
    simp [e1, e2, HD, HM, n1, n2, pgs, encP, pgRow]
  refine callw_told (c179 e.log tx page h.log.good (by omega)) (Nat.zero_le _) (by simp) ?_
  simp
  refine gC (fun c5 => ?_) (fun c5 => ?_) <;> simp at c5 <;> simp
  · obtain ⟨e1, e2⟩ := no (fun q => c5 q.2.2.2.2.1)
    simp [e1, e2, HD, HM, n1, n2, pgs, encP, pgRow]
  have hvl : vals.length = 3 := by omega
  refine aloop_ind (ι := Nat) (fun n => 3 - n) (fun n => n ≤ 3 ∧ ∀ v ∈ vals.take n, In v 0 9) (fun n => [(1, I64 tx), (2, I64 page), (3, .sl 1 (ints vals)), (4, .qe (encN D M e)), (8, .pe B 5 0), (10, I64 n)]) (fun _ => ((Hp.nil.set D ⟨38, 3, e.disk.map encP⟩).set M ⟨38, 3, e.mem.map encP⟩).set B ⟨30, 5, [[.nils, .nils, .nils, I64 0, .bool false]]⟩) (fun _ => B + 1) 0 ⟨by omega, by simp⟩ (by simp [encN, encG]) ?_ (by simp) ?_
  · intro id k hk
    simp only [Hp.set_app, Hp.nil_app] at hk ⊢
    split at hk
    · rename_i q; rw [if_pos q]; exact hk
    rename_i q0; rw [if_neg q0]
    split at hk
    · rename_i q; subst q; rw [HM]; exact hk
    split at hk
    · rename_i q; subst q; rw [HD]; exact hk
    · cases hk
  rintro A n ⟨hn, hi⟩ ih
  refine wpC_sound (M3u [8, 11]) _ _ _ _ _ (by kernel_rfl) ?_
  simp [hvl, cond_dec, encN, encG]
  constructor
  · intro hlt'
    obtain ⟨v, hv⟩ : ∃ v, vals[n]? = some v := ⟨_, List.getElem?_eq_getElem (by omega)⟩
    have w1 := w64 ((n : Int) + 1) (by omega) (by omega)
    have htk : vals.take (n + 1) = vals.take n ++ [v] := by rw [List.take_add_one, hv]; rfl
    simp [ints_at hv]
    refine gC (fun c6 => ?_) (fun c6 => ?_) <;> simp at c6 <;> simp [w1]
    · obtain ⟨e1, e2⟩ := no (fun q => c6 (q.2.2.2.2.2 v (List.mem_of_getElem? hv)))
      simp [e1, e2, hDM, n1, n2, n3, n4, n5, pgs, encP, pgRow]
    · refine ih (n + 1) _ _ _ (by omega) ⟨by omega, ?_⟩ (by simp [encN, encG]) (by simp) (Nat.le_refl _)
      rw [htk]; intro u hu; rcases List.mem_append.1 hu with hu | hu
      · exact hi u hu
      · simp at hu; rw [hu]; exact c6
  · intro hge
    obtain rfl : n = 3 := by omega
    rw [List.take_of_length_le (by omega)] at hi
    have hmay : loadMay e tx page vals := ⟨c1, hvl, c3, c4, c5, hi⟩
    have hok := loadR_ok c1.2.1 c1.2.2.1
    have h177 := c177 D M hDM Bm hD hM e (loadR tx page) hm (by omega) (addL_good0 h.log.good h.len hok rfl) ⟨p0, p4⟩ (by simp [loadR])
    have hme : (addE e (loadR tx page)).mem = e.mem := by unfold addE; split <;> rfl
    have hde : (addE e (loadR tx page)).disk = e.disk := by unfold addE; split <;> rfl
    have hll : addOk e (loadR tx page) → (addE e (loadR tx page)).log.length = e.log.length + 1 := fun q => by rw [addE, if_pos q]; exact addL_len _ _
    have hle : loadE e tx page vals = if addOk e (loadR tx page) then { addE e (loadR tx page) with mem := pgSet e.mem page ⟨(e.log.length : Int) + 1, (pgAt e.mem page).owner, vals⟩ } else addE e (loadR tx page) := by
      unfold loadE
      by_cases q : addOk e (loadR tx page)
      · rw [if_pos ⟨hmay, q⟩, if_pos q, loadI, addE, if_pos q]
      · rw [if_neg (fun u => q u.2), if_neg q, addE, if_neg q]
    have e2 : loadOk e tx page vals ↔ addOk e (loadR tx page) := ⟨fun q => q.2, fun q => ⟨hmay, q⟩⟩
    have e3 : decide (loadOk e tx page vals) = decide (addOk e (loadR tx page)) := decide_eq_decide.2 e2
    rw [hle, e3]
    generalize addE e (loadR tx page) = x at h177 hme hde hll ⊢
    by_cases ok : addOk e (loadR tx page)
    · have hxl := hll ok
      simp only [ok, decide_true, if_true] at h177 ⊢
      simp only [encN, encG, encR, loadR] at h177
      simp
      refine callw_eng h177 (by omega) (by simp [n1, n2, n3, hDM, pgs]) (by simp [n1, n2, n3, pgs]) ?_
      have n6 : ¬ D = B + 1 := by omega
      have n7 : ¬ M = B + 1 := by omega
      have n8 : ¬ B + 1 = M := by omega
      have n9 : ¬ B + 1 = D := by omega
      have m3 : x.mem[page.toNat]? = some (pgAt e.mem page) := by rw [hme]; exact m1
      have hml : x.mem.length = 5 := by rw [hme]; exact hm.1
      have hp5 : page.toNat < 5 := by omega
      have hset : (x.mem.map encP).set page.toNat [I64 ((e.log.length : Int) + 1), I64 (pgAt e.mem page).owner, .sl 1 (ints vals)] = (pgSet e.mem page ⟨(e.log.length : Int) + 1, (pgAt e.mem page).owner, vals⟩).map encP := by
        rw [pgSet, ← map_set_enc, hme]; rfl
      simp [hDM, n1, n2, n3, n4, n5, n6, n7, n8, n9, p0, p5, m3, hxl, hml, hp5, hvl, encP, pgRow, hset]
      refine ⟨chkW_shb (by simp) (by kernel_rfl), ?_⟩
      simp [hDM, n1, n2, n3, n4, n5, n6, n7, n8, n9, hset, pgs]
      have m4 : x.mem[page.toNat]'(by omega) = pgAt e.mem page := by rw [List.getElem?_eq_getElem (by omega)] at m3; exact Option.some.inj m3
      rw [m4]; exact hset
    · simp only [ok, decide_false, if_false] at h177 ⊢
      simp only [encN, encG, encR, loadR] at h177
      simp
      refine callw_eng h177 (by omega) (by simp [n1, n2, n3, hDM, pgs]) (by simp [n1, n2, n3, pgs]) ?_
      have n6 : ¬ D = B + 1 := by omega
      have n7 : ¬ M = B + 1 := by omega
      have n8 : ¬ B + 1 = M := by omega
      have n9 : ¬ B + 1 = D := by omega
      simp [hDM, n1, n2, n3, n4, n5, n6, n7, n8, n9, pgs]

end Go.Proofs.YtnaafbdgkmlnaaaGreat

/- Calls that read named blocks and hand back one more. Functions: a fall, in place. -/
namespace Go.Proofs.YtnaafbdgkmlnaaaGreat
set_option linter.unusedVariables false
set_option linter.unusedSimpArgs false
set_option linter.unnecessarySimpa false
set_option maxRecDepth 20000
set_option maxHeartbeats 2000000

theorem mk1h_of {f : FuncId} {args : List AV} {hs : List (Nat × Blk)} {V : AV → AV} {Bm e sz : Nat} {rows : List (List AV)} (hk : ∀ B, Keep hs B) (hlt : ∀ p ∈ hs, p.1 < Bm)
    (hV : ∀ B id, Bm ≤ B → B ≤ id → Ren B [id] (V (.ref id sz 0 rows.length)) (V (.ref B sz 0 rows.length))) (hr : ∀ B, AV.ltLL B rows)
    (h : ∀ B, Bm ≤ B → ACalls PP f args (Hp.of hs) B (fun v' H' B' => ∃ id, B ≤ id ∧ v' = V (.ref id sz 0 rows.length) ∧ H' id = some ⟨e, sz, rows⟩ ∧ ∀ p ∈ hs, H' p.1 = some p.2)) (B : Nat) (hB : Bm ≤ B) :
    ToldN f args hs hs B (V (.ref B sz 0 rows.length)) [⟨e, sz, rows⟩] := by
  refine ⟨?_, fun p hp => ⟨_, hp⟩, (hk B).nd, fun p hp => ⟨_, hp⟩, by simp⟩
  refine (h B hB).rename fun v H1 B1 ⟨id, h1, h2, h3, h4⟩ => ?_
  refine ⟨[id], V (.ref B sz 0 rows.length), (Hp.of hs).set B ⟨e, sz, rows⟩, by simp, by simpa using h1, by rw [h2]; exact hV B id hB h1, ?_, rfl, rfl, ?_, ?_⟩
  · intro i k' hk'
    simp only [Hp.set_app] at hk'
    split at hk'
    · rename_i hi
      cases hk'
      refine ⟨id, _, .inr ⟨0, rfl, by omega⟩, h3, rfl, rfl, rfl, fun j r r' a b => ?_, fun i j x y hx hy => ?_⟩
      · rw [a] at b; cases b; rfl
      · rw [hx] at hy; cases hy; exact .same _ (AV.ltLL_at2 (hr B) hx)
    · have hm := Hp.of_mem hk'
      have hl := hlt _ hm
      simp only at hl
      refine ⟨i, k', .inl ⟨rfl, by omega⟩, h4 _ hm, rfl, rfl, rfl, fun j r r' a b => ?_, fun i j x y hx hy => ?_⟩
      · rw [a] at b; cases b; rfl
      · rw [hx] at hy; cases hy; exact .same _ (AV.ltLL_at2 ((hk B).rows _ hm) hx)
  · intro p hp
    have hl := hlt _ hp
    simp only [Hp.set_app]
    rw [if_neg (by omega)]
    exact (hk B).nd p hp
  · intro j k hj
    cases j with
    | zero => simp at hj; subst hj; simp
    | succ j => simp at hj

theorem callw_mkh {f : FuncId} {args : List AV} {hs : List (Nat × Blk)} {B : Nat} {v : AV} {k0 : Blk} {H : Hp} {K : AV → Hp → Nat → Prop} (h : ToldN f args hs hs B v [k0]) (hH : ∀ p ∈ hs, H p.1 = some p.2) (k : K v (H.set B k0) (B + 1)) : CallW f args H B K :=
  .inr (.inr ⟨v, hs, hs, _, h, hH, by rw [Hp.app_append, app_same hH]; exact k⟩)
theorem calld_mkh {f : FuncId} {args : List AV} {hs : List (Nat × Blk)} {B : Nat} {v : AV} {k0 : Blk} {H : Hp} {K : AV → Hp → Nat → Info → Prop} (h : ToldN f args hs hs B v [k0]) (hH : ∀ p ∈ hs, H p.1 = some p.2)
    (k : K v (H.set B k0) (B + 1) ⟨hs.map (·.1), (upds hs ++ newU B [k0]).map (·.1), true, false, 0⟩) : CallD f args H B K :=
  .inr ⟨v, hs, hs, _, h, hH, by rw [Hp.app_append, app_same hH]; exact k⟩

theorem keep1 {D : Nat} {k : Blk} (h : ∀ B, AV.ltLL B k.rows) (B : Nat) : Keep [(D, k)] B := ⟨by simp [Hp.of], by simpa using h B⟩

/-- Pages that are named, anew. -/
theorem c138r (D : Nat) (ps : List Pg) (hps : ShP ps) : ∀ B, D + 1 ≤ B → ToldN 138 [.ref D 3 0 5] [(D, pgs ps)] [(D, pgs ps)] B (.ref B 3 0 5) [pgs ps] := by
  have h5 := hps.1
  have hml : (ps.map encP).length = 5 := by simp [h5]
  have key := fun h => @mk1h_of 138 [.ref D 3 0 5] [(D, pgs ps)] id (D + 1) 38 3 (ps.map encP) (keep1 (pages_rows ps)) (by simp) (fun B id _ h => ren_self h) (pages_rows _) h
  rw [hml] at key
  refine key fun B hB => ?_
  have hs := hps.short
  refine acallsF (Mu [19]) Tryz.func138 (by kernel_rfl) fun hlt => ?_
  have n1 : ¬ D = B := by omega
  simp [Tryz.f138, pgs]
  refine aloop_ind (ι := Nat × Nat × Nat) (fun i => ps.length - i.1) (fun i => i.1 ≤ ps.length ∧ B ≤ i.2.1 ∧ i.2.1 < i.2.2) (fun i => [(0, .ref D 3 0 5), (3, outV i.2.1 3 ((ps.take i.1).map encP)), (4, I64 i.1)]) (fun i => outH (Hp.nil.set D ⟨38, 3, ps.map encP⟩) i.2.1 38 3 ((ps.take i.1).map encP)) (fun i => i.2.2) (0, B, B + 1) ⟨Nat.zero_le _, Nat.le_refl _, by simp⟩ (by simp [outV]) (by simp [outH, Hp.of]) (by simp) ?_
  rintro A ⟨n, id, B1⟩ ⟨hn, hB', hid⟩ ih
  simp only at hn hB' hid
  refine wpC_sound (Mu [19]) _ _ _ _ _ (by kernel_rfl) ?_
  obtain ⟨out, hout⟩ : ∃ out, out = (ps.take n).map encP := ⟨_, rfl⟩
  simp only [← hout]
  have q1 : ¬ D = id := by omega
  have q2 : ¬ D = B1 := by omega
  simp [cond_dec]
  constructor
  · intro hlt'
    have h1000 := hs.1
    have w1 := w64 ((n : Int) + 1) (by omega) (by omega)
    obtain ⟨p, hp⟩ : ∃ p, ps[n]? = some p := ⟨_, List.getElem?_eq_getElem (by omega)⟩
    have hpv := hs.2 p (List.mem_of_getElem? hp)
    have h66 := c66 p hpv
    simp only [encP, pgRow] at h66
    have hD : outH (Hp.nil.set D ⟨38, 3, ps.map encP⟩) id 38 3 out D = some ⟨38, 3, ps.map encP⟩ := by
      unfold outH; split <;> simp [q1]
    simp [hlt', hD, hp, encP, pgRow]
    refine callw_told h66 (Nat.zero_le _) (by simp) ?_
    have htk : (ps.take (n + 1)).map encP = out ++ [encP p] := by rw [List.take_add_one, hp, hout]; simp
    have hlen : out.length ≤ 1000 := by rw [hout]; simp; omega
    have hne : out ++ [encP p] ≠ [] := by simp
    by_cases h0 : out = []
    · subst h0
      simp [outV, outH, encP, pgRow]
      refine ih (n + 1, B1, B1 + 1) _ _ _ (by simp; omega) ⟨by simp; omega, by simp; omega, by simp⟩ ?_ ?_ (by simp)
      · simp only [htk]; simp [w1, outV, encP, pgRow]
      · simp only [htk]; simp [outH, encP, pgRow]
    · have hb : (out.length + 1) * 40 ≤ 140737488355328 := by omega
      simp [outV, outH, encP, pgRow, h0, hb]
      refine ih (n + 1, B1, B1 + 1) _ _ _ (by simp; omega) ⟨by simp; omega, by simp; omega, by simp⟩ ?_ ?_ (by simp)
      · simp only [htk]; simp [w1, outV, encP, pgRow]
      · simp only [htk]
        intro i k' hk'
        simp [outH, encP, pgRow] at hk' ⊢
        split at hk'
        · rename_i q; rw [if_pos q]; exact hk'
        · rename_i q; rw [if_neg q]
          split at hk'
          · rename_i q3; rw [if_neg (by omega), if_neg (by omega), if_pos q3]; exact hk'
          · cases hk'
  · intro h
    obtain rfl : n = ps.length := by omega
    rw [List.take_length] at hout
    subst hout
    have hne : ¬ ps = [] := by intro q; simp [q] at h5
    simp [outV, outH, h5, hne, q1]
    exact ⟨id, hB', rfl, fun q => absurd rfl q⟩

/-- What a log says is done again, over pages that are named. -/
theorem c104r (D : Nat) (ps : List Pg) (L : List R) (hps : ShP ps) (hL : ∀ r ∈ L, RecOkP r) (hl : L.length ≤ 1000000) : ∀ B, D + 1 ≤ B → ToldN 104 [.ref D 3 0 5, .sl 8 (L.map encR)] [(D, pgs ps)] [(D, pgs ps)] B (.ref B 3 0 5) [pgs (redo ps L)] := by
  have h5 := hps.1
  have hrl : ((redo ps L).map encP).length = 5 := by simp [redo, redoB_len, h5]
  have key := fun h => @mk1h_of 104 [.ref D 3 0 5, .sl 8 (L.map encR)] [(D, pgs ps)] id (D + 1) 38 3 ((redo ps L).map encP) (keep1 (pages_rows ps)) (by simp) (fun B id _ h => ren_self h) (pages_rows _) h
  rw [hrl] at key
  refine key fun B hB0 => ?_
  refine acallsF M3 Tryz.func104 (by kernel_rfl) fun hlt => ?_
  have n1 : ¬ D = B := by omega
  simp [Tryz.f104]
  refine callw_mkh (c138r D ps hps B hB0) (by simp [Hp.of]) ?_
  simp [pgs]
  refine aloop_ind (ι := Nat × Nat) (fun i => L.length - i.1) (fun i => i.1 ≤ L.length ∧ B < i.2) (fun i => [(1, .sl 8 (L.map encR)), (5, .ref B 3 0 5), (6, I64 i.1)]) (fun i => (Hp.nil.set D ⟨38, 3, ps.map encP⟩).set B ⟨38, 3, (redoB ps L i.1).map encP⟩) (fun i => i.2) (0, B + 1) ⟨by simp, by simp⟩ (by simp) (by simp [redoB, Hp.of]) (by simp) ?_
  rintro A ⟨n, B1⟩ ⟨hn, hB⟩ ih
  simp only at hn hB
  have hsh := hps.redoB hL n
  refine wpC_sound M3 _ _ _ _ _ (by kernel_rfl) ?_
  obtain ⟨qs, hqs⟩ : ∃ qs, qs = redoB ps L n := ⟨_, rfl⟩
  rw [← hqs] at hsh ⊢
  simp [cond_dec]
  constructor
  · intro hlt'
    obtain ⟨r, hr⟩ : ∃ r, L[n]? = some r := ⟨_, List.getElem?_eq_getElem hlt'⟩
    have hrok := hL r (List.mem_of_getElem? hr)
    have w1 := w64 ((n : Int) + 1) (by omega) (by omega)
    have hpg := hrok.page
    obtain ⟨e1, e2⟩ := hsh.at hpg.1 hpg.2
    have hB1 : ¬ B = B1 := by omega
    have hB2 : ¬ B1 = B := by omega
    have hD1 : ¬ D = B1 := by omega
    have hpl : r.page < 5 := by omega
    have hql : qs.length = 5 := hsh.1
    have hst : redoB ps L (n + 1) = redoStep qs n r := by simp [redoB, hr, hqs]
    have h164 := c164 (pgAt qs r.page) r ((n : Int) + 1) e2 (by have := hrok.slot; omega)
    simp only [encP, pgRow, encR] at h164
    have sub : ∀ (ps' : List Pg) (y z : Blk) i k, (((Hp.nil.set D ⟨38, 3, ps.map encP⟩).set B ⟨38, 3, ps'.map encP⟩) i = some k → (((((Hp.nil.set D ⟨38, 3, ps.map encP⟩).set B ⟨38, 3, qs.map encP⟩).set B1 y).set B1 z).set B ⟨38, 3, ps'.map encP⟩) i = some k) := fun ps' y z i k hk => by
      simp only [Hp.set_app, Hp.nil_app] at hk ⊢
      split at hk
      · rename_i q; rw [if_pos q]; exact hk
      split at hk
      · rename_i q0 q; rw [if_neg q0, if_neg (by omega), if_neg (by omega), if_neg q0, if_pos q]; exact hk
      · cases hk
    have sub2 : ∀ (y z : Blk) i k, (((Hp.nil.set D ⟨38, 3, ps.map encP⟩).set B ⟨38, 3, qs.map encP⟩) i = some k → ((((Hp.nil.set D ⟨38, 3, ps.map encP⟩).set B ⟨38, 3, qs.map encP⟩).set B1 y).set B1 z) i = some k) := fun y z i k hk => by
      simp only [Hp.set_app, Hp.nil_app] at hk ⊢
      split at hk
      · rename_i q; rw [if_neg (by omega), if_neg (by omega), if_pos q]; exact hk
      split at hk
      · rename_i q0 q; rw [if_neg (by omega), if_neg (by omega), if_neg q0, if_pos q]; exact hk
      · cases hk
    simp [hr, encR, hB1, hB2]
    refine gO (fun h1 => ?_) (fun h1 => ?_) <;> simp at h1 <;> simp [h1, hB1, hB2, hpg.1, hpl, e1, encP, pgRow, w1]
    · refine gC (fun h2 => ?_) (fun h2 => ?_) <;> simp [-Int.not_le, -Int.not_lt] at h2 <;> simp [hB1, hB2, hpg.1, hpl, e1, encP, pgRow, w1]
      · refine calld_told h164 (Nat.zero_le _) (by simp) ?_
        have hset : (qs.map encP).set r.page.toNat [I64 (wr (pgAt qs r.page) r ((n : Int) + 1)).lsn, I64 (wr (pgAt qs r.page) r ((n : Int) + 1)).owner, .sl 1 (ints (wr (pgAt qs r.page) r ((n : Int) + 1)).vals)] = (redoB ps L (n + 1)).map encP := by
          rw [hst, redoStep, if_pos ⟨h1, h2⟩, pgSet, ← map_set_enc]; rfl
        simp [hB1, hB2, hpg.1, hpl, e1, encP, pgRow, w1, hql]
        refine ⟨chkW_sh (by kernel_rfl), ?_⟩
        refine ih (n + 1, B1 + 1) _ _ _ (by simp; omega) ⟨by simp; omega, by simp; omega⟩ (by simp) ?_ (by simp)
        rw [hset]
        exact sub _ _ _
      · refine ih (n + 1, B1 + 1) _ _ _ (by simp; omega) ⟨by simp; omega, by simp; omega⟩ (by simp) ?_ (by simp)
        have : redoB ps L (n + 1) = qs := by rw [hst, redoStep, if_neg (fun h => h2 h.2)]
        simp only [this]
        exact sub2 _ _
    · refine ih (n + 1, B1 + 1) _ _ _ (by simp; omega) ⟨by simp; omega, by simp; omega⟩ (by simp) ?_ (by simp)
      have : redoB ps L (n + 1) = qs := by rw [hst, redoStep, if_neg (fun h => h1 h.1)]
      simp only [this]
      exact sub2 _ _
  · intro h
    obtain rfl : n = L.length := by omega
    have hql : qs.length = 5 := hsh.1
    have e : redo ps L = qs := hqs.symm
    rw [e]
    exact ⟨B, Nat.le_refl _, by simp, by simp, by simp [n1]⟩

end Go.Proofs.YtnaafbdgkmlnaaaGreat

/- Functions: a fall, a rise, in place. -/
namespace Go.Proofs.YtnaafbdgkmlnaaaGreat
set_option linter.unusedVariables false
set_option linter.unusedSimpArgs false
set_option linter.unnecessarySimpa false
set_option maxRecDepth 20000
set_option maxHeartbeats 2000000

theorem ren_eng {D B id : Nat} (hD : D < B) (hid : B ≤ id) (x : Eng) : Ren B [id] (.agg (encG (.ref D 3 0 5) (.ref id 3 0 5) x)) (.agg (encG (.ref D 3 0 5) (.ref B 3 0 5) x)) := by
  refine .agg _ _ rfl fun k a b ha hb => ?_
  match k with
  | 0 => cases ha; cases hb; exact .same _ hD
  | 1 => cases ha; cases hb; exact ren_self hid
  | 2 => cases ha; cases hb; exact .same _ (lt_recs B _)
  | 3 => cases ha; cases hb; exact .same _ trivial
  | 4 => cases ha; cases hb; exact .same _ trivial
  | n + 5 => simp [encG] at ha
theorem ebl_lt {D M Bm : Nat} {e : Eng} (hD : D < Bm) (hM : M < Bm) : ∀ p ∈ ebl D M e, p.1 < Bm := by simp [ebl, hD, hM]

theorem leftN_if3 (e : Eng) (left : Int) : (if e.safe < (if (e.log.length : Int) < left then (e.log.length : Int) else left) then (if (e.log.length : Int) < left then (e.log.length : Int) else left) else e.safe) = leftN e left := by
  simp only [leftN]; split <;> split <;> omega

theorem c77r (D M : Nat) (hDM : D ≠ M) (Bm : Nat) (hD : D < Bm) (hM : M < Bm) (e : Eng) (left : Int) (h : PlayInv e) (h0 : 0 ≤ left) :
    ∀ B, Bm ≤ B → ToldN 77 [.agg (encN D M e), I64 left] (ebl D M e) (ebl D M e) B (.agg (encN D B (fallI e left))) [pgs e.disk] := by
  have hd := h.disk.sh
  have h5 := hd.1
  have hlen := h.len
  have hrl : (e.disk.map encP).length = 5 := by simp [h5]
  have key := fun h => @mk1h_of 77 [.agg (encN D M e), I64 left] (ebl D M e) (fun x => .agg (encG (.ref D 3 0 5) x (fallI e left))) Bm 38 3 (e.disk.map encP) (fun B => ebl_keep hDM) (ebl_lt hD hM) (by rw [hrl]; exact fun B id hB hid => ren_eng (by omega) hid _) (pages_rows _) h
  rw [hrl] at key
  refine key fun B hB => ?_
  have q0 := h.s0
  have q1 := h.s1
  have l0 : 0 ≤ leftN e left := by simp only [leftN]; omega
  have l1 : leftN e left ≤ e.log.length := by simp only [leftN]; omega
  have hb : (leftN e left).toNat * 64 ≤ 140737488355328 := by omega
  have HD := ebl_D (e := e) hDM
  have HM := ebl_M (e := e) hDM
  generalize Hp.of (ebl D M e) = H0 at HD HM ⊢
  have n1 : ¬ D = B := by omega
  have n2 : ¬ M = B := by omega
  have n6 : ¬ D = B + 1 := by omega
  have n7 : ¬ M = B + 1 := by omega
  have n8 : ¬ D = B + 2 := by omega
  have n9 : ¬ M = B + 2 := by omega
  simp only [pgs] at HD HM
  refine acallsF (M3u [2, 4]) Tryz.func77 (by kernel_rfl) fun hlt => ?_
  simp [Tryz.f77, encN, encG, leftN_if3, l0, l1, hb]
  refine callw_mkh (c138r D e.disk hd (B + 2) (by omega)) (by simp [HD, n1, n6, pgs]) ?_
  simp
  refine ⟨B + 2, by omega, ⟨rfl, by simp [fallI, List.map_take], rfl, rfl⟩, by simp [pgs], ?_⟩
  intro a b hab
  simp only [ebl, List.mem_cons, List.not_mem_nil, or_false] at hab
  rcases hab with q | q <;> cases q <;> simp [HD, HM, n1, n2, n6, n7, n8, n9, pgs]

theorem upF_first {e : Eng} (h : first e.log = 0) : ∀ n, upF n e = e
  | 0 => rfl
  | n + 1 => by simp only [upF]; rw [if_pos h]
theorem stepE_disk (e : Eng) (tx : Int) : (stepE e tx).disk = e.disk := by unfold stepE addE; split <;> rfl
theorem stepE_down (e : Eng) (tx : Int) : (stepE e tx).down = e.down := by unfold stepE addE; split <;> rfl
theorem stepE_safe (e : Eng) (tx : Int) : (stepE e tx).safe = e.safe := by unfold stepE addE; split <;> rfl

theorem upI_disk_up (e : Eng) (steps : Int) : (upI e steps).disk = (upB e steps).disk := by unfold upI; split <;> rfl
theorem upF_disk : ∀ (n : Nat) (e : Eng), (upF n e).disk = e.disk
  | 0, e => rfl
  | n + 1, e => by
    simp only [upF]
    split
    · rfl
    · rw [upF_disk n, stepE_disk]
theorem upI_disk (e : Eng) (steps : Int) : (upI e steps).disk = e.disk := by rw [upI_disk_up, upB, upF_disk]; rfl

/-- The heap while an engine rises: M is what was in memory, N what is. -/
def hpU (D M N B1 B2 : Nat) (e0 e : Eng) : Hp := ((((Hp.nil.set D ⟨38, 3, e0.disk.map encP⟩).set M ⟨38, 3, e0.mem.map encP⟩).set B1 ⟨30, 5, [encN D N e]⟩).set B2 ⟨30, 5, [[.nils, .nils, .nils, I64 0, .bool false]]⟩).set N ⟨38, 3, e.mem.map encP⟩
theorem hpU_sub {D M N B1 B2 : Nat} {e0 e : Eng} {H : Hp} (HD : H D = some ⟨38, 3, e0.disk.map encP⟩) (HM : H M = some ⟨38, 3, e0.mem.map encP⟩) (H1 : H B1 = some ⟨30, 5, [encN D N e]⟩) (H2 : H B2 = some ⟨30, 5, [[.nils, .nils, .nils, I64 0, .bool false]]⟩) (HN : H N = some ⟨38, 3, e.mem.map encP⟩) :
    ∀ id k, hpU D M N B1 B2 e0 e id = some k → H id = some k := by
  intro id k hk
  simp only [hpU, Hp.set_app, Hp.nil_app] at hk
  split at hk
  · rename_i q; subst q; rw [HN]; exact hk
  split at hk
  · rename_i q; subst q; rw [H2]; exact hk
  split at hk
  · rename_i q; subst q; rw [H1]; exact hk
  split at hk
  · rename_i q; subst q; rw [HM]; exact hk
  split at hk
  · rename_i q; subst q; rw [HD]; exact hk
  · cases hk

theorem c89r (D M : Nat) (hDM : D ≠ M) (Bm : Nat) (hD : D < Bm) (hM : M < Bm) (e : Eng) (steps : Int) (h : StepInv e) (hdn : e.down = true) :
    ∀ B, Bm ≤ B → ToldN 89 [.agg (encN D M e), I64 steps] (ebl D M e) (ebl D M e) B (.tup [.agg (encN D B (upI e steps)), .bool (decide (upOk e steps))]) [pgs (upI e steps).mem] := by
  have hd := h.disk
  have h5 := hd.1
  have hlen := h.len
  have hrl : ((upI e steps).mem.map encP).length = 5 := by simp [(h.up steps).mem.1]
  have key := fun h => @mk1h_of 89 [.agg (encN D M e), I64 steps] (ebl D M e) (fun x => .tup [.agg (encG (.ref D 3 0 5) x (upI e steps)), .bool (decide (upOk e steps))]) Bm 38 3 ((upI e steps).mem.map encP) (fun B => ebl_keep hDM) (ebl_lt hD hM)
    (by
      rw [hrl]
      intro B id hB hid
      refine .tup _ _ rfl fun k a b ha hb => ?_
      match k with
      | 0 => cases ha; cases hb; exact ren_eng (by omega) hid _
      | 1 => cases ha; cases hb; exact .same _ trivial
      | n + 2 => simp at ha) (pages_rows _) h
  rw [hrl] at key
  refine key fun B hB => ?_
  have hL := h.good.rec
  have HD := ebl_D (e := e) hDM
  have HM := ebl_M (e := e) hDM
  generalize Hp.of (ebl D M e) = H0 at HD HM ⊢
  have n1 : ¬ D = B := by omega
  have n2 : ¬ M = B := by omega
  have n3 : ¬ M = D := Ne.symm hDM
  have n4 : ¬ B = M := by omega
  have n5 : ¬ B = D := by omega
  have n6 : ¬ D = B + 1 := by omega
  have n7 : ¬ M = B + 1 := by omega
  have n8 : ¬ D = B + 2 := by omega
  have n9 : ¬ M = B + 2 := by omega
  have n10 : ¬ B + 1 = M := by omega
  have n11 : ¬ B + 1 = D := by omega
  have n12 : ¬ B + 2 = M := by omega
  have n13 : ¬ B + 2 = D := by omega
  have n14 : ¬ B = B + 2 := by omega
  have n15 : ¬ B + 1 = B + 2 := by omega
  simp only [pgs] at HD HM
  refine acallsF (M3u [2, 4]) Tryz.func89 (by kernel_rfl) fun hlt => ?_
  simp [Tryz.f89, encN, encG, HD, HM, n1, n2, n6, n7]
  refine callw_mkh (c104r D e.disk e.log hd hL (by omega) (B + 2) (by omega)) (by simp [HD, n1, n6, pgs]) ?_
  simp [n14, n15]
  refine aloop_ind (ι := Nat × Eng × Nat) (fun i => need i.2.1.log) (fun i => B + 3 ≤ i.2.2 ∧ i.1 + need i.2.1.log ≤ 150 ∧ StepInv i.2.1 ∧ i.2.1.disk = e.disk ∧ (i.1 : Int) ≤ max steps 0 ∧ upF (steps.toNat - i.1) i.2.1 = upB e steps) (fun i => [(1, I64 steps), (2, .pe B 5 0), (4, .pe (B + 1) 5 0), (6, I64 i.1)]) (fun i => hpU D M (B + 2) B (B + 1) e i.2.1) (fun i => i.2.2) (0, redoneE e, B + 3) ⟨Nat.le_refl _, ?_, h.redone, rfl, by simp only; omega, rfl⟩ (by simp) ?_ (Nat.le_refl _) ?_
  · have := h.fits
    simp only [Fits] at this
    simp only [redoneE]; omega
  · exact hpU_sub (by simp [n1, n6, n8, HD]) (by simp [n2, n7, n9, HM]) (by simp [encN, encG, redoneE, n14]) (by simp [n15]) (by simp [redoneE, pgs])
  rintro A ⟨n, x, B1⟩ ⟨hB1, hnn, hx, hxd, hns, hux⟩ ih
  simp only at hB1 hnn hx hxd hns hux
  refine wpC_sound (M3u [2, 4]) _ _ _ _ _ (by kernel_rfl) ?_
  have hxl := hx.len
  have hxd' : e.disk = x.disk := hxd.symm
  have hfn : first x.log = 0 ∨ 1 ≤ first x.log := by
    by_cases q : first x.log = 0
    · exact .inl q
    · exact .inr (first_open q).1.1
  have q1 : ¬ D = B1 := by omega
  have q2 : ¬ M = B1 := by omega
  have q3 : ¬ B = B1 := by omega
  have q4 : ¬ B + 1 = B1 := by omega
  have q5 : ¬ B + 2 = B1 := by omega
  simp [hpU, encN, encG, n1, n2, n6, n7, n8, n9, n14, n15]
  refine gO (fun c1 => ?_) (fun c1 => ?_) <;> simp at c1 <;> simp [c1, n14, n15]
  · refine callw_told (c149 x.log (by omega)) (Nat.zero_le _) (by simp) ?_
    simp
    refine gC (fun c2 => ?_) (fun c2 => ?_) <;> simp [-Int.not_le, -Int.not_lt] at c2 <;> simp [n14, n15]
    · obtain ⟨ht, ho⟩ := first_open (L := x.log) (by omega)
      have h150 := c150 D (B + 2) n8 (B + 3) (by omega) (by omega) x (first x.log) hx ht
      have htot := hx.total ht ho
      simp only [encN, encG] at h150
      refine calld_told (c149 x.log (by omega)) (Nat.zero_le _) (by simp) ?_
      simp [n14, n15]
      refine calld_eng h150 (by omega) (by simp [n1, n6, n8, pgs, hxd', hDM]) (by simp [pgs]) ?_
      have w1 := w64 ((n : Int) + 1) (by omega) (by omega)
      simp [n1, n2, n3, n4, n5, n6, n7, n8, n9, n10, n11, n12, n13, n14, n15, w1]
      refine ⟨chkW_shb (by simp; omega) (by kernel_rfl), ?_⟩
      refine ih (n + 1, stepE x (first x.log), B1) _ _ _ (by simp; omega) ⟨hB1, by simp; omega, hx.step ht ho, by simp only; rw [stepE_disk, hxd], by simp; omega, ?_⟩ (by simp) ?_ (Nat.le_refl _)
      · have e1 : steps.toNat - n = (steps.toNat - (n + 1)) + 1 := by omega
        rw [← hux, e1]
        simp only [upF]
        rw [if_neg (by omega)]
      · exact hpU_sub (by simp [n1, n6, n8, stepE_disk, hxd]) (by simp [n2, n7, n9, n3]) (by simp [encN, encG, n5, n14]) (by simp [n11, n15]) (by simp)
    · have hxe : x = upB e steps := by rw [← hux]; exact (upF_first (by omega) _).symm
      clear ih
      refine callw_told (c149 x.log (by omega)) (Nat.zero_le _) (by simp) ?_
      simp
      refine gC (fun c2 => ?_) (fun c2 => ?_) <;> simp [-Int.not_le, -Int.not_lt] at c2 <;> simp [n14, n15]
      · have hup : upI e steps = { x with mem := x.disk } := by unfold upI; rw [← hxe, if_neg (by omega)]
        have hno : ¬ upOk e steps := by unfold upOk; rw [← hxe]; omega
        refine callw_mkh (c138r D x.disk hx.disk B1 (by omega)) (by simp [n1, n6, n8, pgs, hxd', hDM]) ?_
        simp [n14, n15, q1, q2, q3, q4, q5]
        refine ⟨B1, by omega, ⟨⟨rfl, by rw [hup], by rw [hup], by rw [hup]⟩, hno⟩, by rw [hup]; simp [pgs, Ne.symm q3, Ne.symm q4], ?_⟩
        intro a b hab
        simp only [ebl, List.mem_cons, List.not_mem_nil, or_false] at hab
        rcases hab with q | q <;> cases q <;> simp [n1, n2, n3, n6, n7, n8, n9, q1, q2, hDM, pgs, hxd']
      · have hup : upI e steps = { x with down := false } := by unfold upI; rw [← hxe, if_pos (by omega)]
        have hno : upOk e steps := by unfold upOk; rw [← hxe]; omega
        refine ⟨B + 2, by omega, ⟨⟨rfl, by rw [hup], by rw [hup], by rw [hup]⟩, hno⟩, by rw [hup]; simp [n14, n15], ?_⟩
        intro a b hab
        simp only [ebl, List.mem_cons, List.not_mem_nil, or_false] at hab
        rcases hab with q | q <;> cases q <;> simp [n1, n2, n3, n6, n7, n8, n9, q1, q2, hDM, pgs, hxd']
  · have hxe : x = upB e steps := by rw [← hux, show steps.toNat - n = 0 by omega]; rfl
    clear ih
    have c3 : ¬ (n : Int) < steps := by omega
    simp [c3, n14, n15]
    refine callw_told (c149 x.log (by omega)) (Nat.zero_le _) (by simp) ?_
    simp
    refine gC (fun c2 => ?_) (fun c2 => ?_) <;> simp [-Int.not_le, -Int.not_lt] at c2 <;> simp [n14, n15]
    · have hup : upI e steps = { x with mem := x.disk } := by unfold upI; rw [← hxe, if_neg (by omega)]
      have hno : ¬ upOk e steps := by unfold upOk; rw [← hxe]; omega
      refine callw_mkh (c138r D x.disk hx.disk B1 (by omega)) (by simp [n1, n6, n8, pgs, hxd', hDM]) ?_
      simp [n14, n15, q1, q2, q3, q4, q5]
      refine ⟨B1, by omega, ⟨⟨rfl, by rw [hup], by rw [hup], by rw [hup]⟩, hno⟩, by rw [hup]; simp [pgs, Ne.symm q3, Ne.symm q4], ?_⟩
      intro a b hab
      simp only [ebl, List.mem_cons, List.not_mem_nil, or_false] at hab
      rcases hab with q | q <;> cases q <;> simp [n1, n2, n3, n6, n7, n8, n9, q1, q2, hDM, pgs, hxd']
    · have hup : upI e steps = { x with down := false } := by unfold upI; rw [← hxe, if_pos (by omega)]
      have hno : upOk e steps := by unfold upOk; rw [← hxe]; omega
      refine ⟨B + 2, by omega, ⟨⟨rfl, by rw [hup], by rw [hup], by rw [hup]⟩, hno⟩, by rw [hup]; simp [n14, n15], ?_⟩
      intro a b hab
      simp only [ebl, List.mem_cons, List.not_mem_nil, or_false] at hab
      rcases hab with q | q <;> cases q <;> simp [n1, n2, n3, n6, n7, n8, n9, q1, q2, hDM, pgs, hxd']

end Go.Proofs.YtnaafbdgkmlnaaaGreat
