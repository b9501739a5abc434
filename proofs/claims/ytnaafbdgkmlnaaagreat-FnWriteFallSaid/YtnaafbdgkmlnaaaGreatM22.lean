/- Laws about the machine's run of the program's functions, part 22, in import order. No condition. -/
import Derived.Test.YtnaafbdgkmlnaaaGreatM01
import Derived.Test.YtnaafbdgkmlnaaaGreatM21

set_option linter.unusedVariables false
set_option linter.unusedSimpArgs false
set_option linter.unnecessarySimpa false
/- Functions: the program's, of logs. -/
namespace Go.Proofs.YtnaafbdgkmlnaaaGreat
set_option linter.unusedVariables false
set_option linter.unusedSimpArgs false
set_option linter.unnecessarySimpa false
set_option maxRecDepth 20000
set_option maxHeartbeats 2000000

theorem c153 (L : List R) (n0 : Nat) (hg : LogGood L) (h0 : n0 ≤ L.length) (hL : L.length ≤ 1000000) : Told 153 [.sl 8 (L.map encR), I64 n0] [] [] 0 (I64 (back L n0)) := by
  refine told_of (Keep.nil _) trivial fun B _ => ?_
  refine acallsF M0 Tryz.func153 (by kernel_rfl) fun hlt => ?_
  simp [Tryz.f153]
  refine aloop_ind (ι := Nat × Nat) (fun i => i.1) (fun i => i.1 ≤ L.length ∧ back L i.1 = back L n0) (fun i => [(0, .sl 8 (L.map encR)), (1, I64 i.1)]) (fun _ => Hp.of []) (fun i => i.2) (n0, B) ⟨h0, rfl⟩ (by simp) (by simp) (Nat.le_refl _) ?_
  rintro A ⟨n, B1⟩ ⟨hn, hlast⟩ ih
  simp only at hn hlast
  refine wpC_sound M0 _ _ _ _ _ (by kernel_rfl) ?_
  cases n with
  | zero => simp [← hlast]
  | succ m =>
    obtain ⟨r, hr⟩ : ∃ r, L[m]? = some r := ⟨_, List.getElem?_eq_getElem (by omega)⟩
    have hl := back_succ hg hr
    obtain ⟨hok, hprev, hnext, _⟩ := hg m r hr
    have hpl := lastB_le L r.tx m
    have hn0 := hok.next
    have w1 := w64 (((m + 1 : Nat) : Int) - 1) (by omega) (by omega)
    have e : (((m + 1 : Nat) : Int) - 1) = m := by omega
    rw [e] at w1
    have hne : ¬ ((m + 1 : Nat) : Int) = 0 := by omega
    have hzz : ((m + 1 : Nat) : Int) = (m : Int) + 1 := by omega
    rw [← hlast, hl]
    generalize hz : ((m + 1 : Nat) : Int) = z at *
    simp [hne, e, w1, hr, encR]
    repeat' (first
        | (refine gO (fun h => ?_) (fun h => ?_) <;> (try simp at h) <;> simp [*, hr, encR])
        | (refine gD (fun h => ?_) (fun h => ?_) <;> (try simp at h) <;> simp [*, hr, encR])
        | (refine gC (fun h => ?_) (fun h => ?_) <;> (try simp at h) <;> simp [*, hr, encR]))
    · refine ih (r.next.toNat, B1 + 1) _ _ _ (by simp; omega) ⟨by simp; omega, ?_⟩ (by simp; omega) (by simp) (by simp)
      rw [← hlast, hl]; simp [*]
    · refine ih (lastB L r.tx m, B1 + 1) _ _ _ (by simp; omega) ⟨by simp; omega, ?_⟩ (by simp) (by simp) (by simp)
      rw [← hlast, hl]; simp [*]

def opnB (L : List R) : Nat → List Int
  | 0 => []
  | k + 1 => if last L ((k + 1 : Nat) : Int) = 0 then opnB L k else opnB L k ++ [((k + 1 : Nat) : Int)]
theorem opnB_3 (L : List R) : opnB L 3 = opn L := by
  simp only [opnB, opn]
  by_cases h1 : last L 1 = 0 <;> by_cases h2 : last L 2 = 0 <;> by_cases h3 : last L 3 = 0 <;> simp [h1, h2, h3]
theorem opnB_len (L : List R) : ∀ k, (opnB L k).length ≤ k
  | 0 => Nat.le_refl _
  | k + 1 => by
    have := opnB_len L k
    simp only [opnB]
    split
    · omega
    · simp; omega

theorem o73 (L : List R) (hL : L.length ≤ 1000000) : MkO 73 [.sl 8 (L.map encR)] 3 1 (ints (opn L)) := by
  intro B
  refine acallsF (Mu [16]) Tryz.func73 (by kernel_rfl) fun hlt => ?_
  simp [Tryz.f73]
  refine aloop_ind (ι := Nat × Nat × Nat) (fun i => 3 - i.1) (fun i => i.1 ≤ 3 ∧ B ≤ i.2.1 ∧ i.2.1 < i.2.2) (fun i => [(0, .sl 8 (L.map encR)), (3, outV i.2.1 1 (ints (opnB L i.1))), (4, I64 ((i.1 + 1 : Nat) : Int))]) (fun i => outH Hp.nil i.2.1 3 1 (ints (opnB L i.1))) (fun i => i.2.2) (0, B, B + 1) ⟨Nat.zero_le _, Nat.le_refl _, by simp⟩ (by simp [outV, opnB, ints]) (by simp [outH, opnB, ints]) (by simp) ?_
  rintro A ⟨n, id, B1⟩ ⟨hn, hB, hid⟩ ih
  simp only at hn hB hid
  refine wpC_sound (Mu [16]) _ _ _ _ _ (by kernel_rfl) ?_
  obtain ⟨out, hout⟩ : ∃ out, out = opnB L n := ⟨_, rfl⟩
  simp only [← hout]
  by_cases hn3 : n < 3
  · have hle3 : ((n + 1 : Nat) : Int) ≤ 3 := by omega
    have wq := w64 (((n + 1 : Nat) : Int) + 1) (by omega) (by omega)
    have eq1 : ((n + 1 + 1 : Nat) : Int) = ((n + 1 : Nat) : Int) + 1 := by omega
    have hlen : out.length ≤ 3 := by rw [hout]; have := opnB_len L n; omega
    have hst : opnB L (n + 1) = if last L ((n + 1 : Nat) : Int) = 0 then out else out ++ [((n + 1 : Nat) : Int)] := by rw [hout]; rfl
    generalize hq : ((n + 1 : Nat) : Int) = q at *
    simp [hle3]
    refine callw_told (c135 L q hL) (Nat.zero_le _) (by simp) ?_
    simp
    refine gC (fun h => ?_) (fun h => ?_) <;> simp at h <;> simp
    · have htk : ints (opnB L (n + 1)) = ints out ++ [[I64 q]] := by rw [hst, if_neg h]; simp [ints]
      by_cases h0 : ints out = []
      · rw [h0] at htk ⊢
        simp [outV, outH, wq]
        refine ih (n + 1, B1, B1 + 1) _ _ _ (by simp; omega) ⟨by simp; omega, by simp; omega, by simp⟩ ?_ ?_ (by simp)
        · simp only [htk]; simp [outV, eq1]
        · simp only [htk]; simp [outH]
      · have hb : ((ints out).length + 1) * 8 ≤ 140737488355328 := by simp; omega
        simp [outV, outH, h0, hb, wq]
        have hb2 : (out.length + 1) * 8 ≤ 140737488355328 := by omega
        simp [hb2]
        refine ih (n + 1, B1, B1 + 1) _ _ _ (by simp; omega) ⟨by simp; omega, by simp; omega, by simp⟩ ?_ ?_ (by simp)
        · simp only [htk]; simp [outV, eq1]
        · simp only [htk]; simp [outH]
    · simp [wq]
      refine ih (n + 1, id, B1) _ _ _ (by simp; omega) ⟨by simp; omega, by simp; omega, by simp; omega⟩ ?_ ?_ (by simp)
      · simp [hst, h, eq1]
      · simp [hst, h]
  · obtain rfl : n = 3 := by omega
    rw [opnB_3] at hout
    subst hout
    simp
    exact ⟨id, hB, rfl, fun h0 => by simp [outH, h0]⟩
theorem c73 (L : List R) (hL : L.length ≤ 1000000) : Told 73 [.sl 8 (L.map encR)] [] [] 0 (.sl 1 (ints (opn L))) := (o73 L hL).told (ints_rows _)

theorem c172_len {L : List R} (h : LogGood L) : ∀ n, n ≤ L.length → (chainAt L n).length ≤ n := by
  intro n
  induction n using Nat.strongRecOn with
  | _ n ih =>
    intro hn
    cases n with
    | zero => simp
    | succ m =>
      rw [chainAt_succ h (by omega)]
      have := h.prevAt_le (n := m) (by omega)
      have := ih (prevAt L (m + 1)) (by omega) (by omega)
      simp; omega

/-- Places as numbers. -/
def nats (l : List Nat) : List Int := l.map fun n : Nat => (n : Int)
@[simp] theorem nats_len (l : List Nat) : (nats l).length = l.length := by simp [nats]
theorem nats_snoc (l : List Nat) (n : Nat) : ints (nats (l ++ [n])) = ints (nats l) ++ [[I64 n]] := by simp [nats, ints]
theorem nats_nil {l : List Nat} : ints (nats l) = [] ↔ l = [] := by simp [nats, ints]

theorem o172 (L : List R) (tx : Int) (hg : LogGood L) (hL : L.length ≤ 1000000) : MkO 172 [.sl 8 (L.map encR), I64 tx] 3 1 (ints (nats (chain L tx))) := by
  intro B
  refine acallsF (Mu [21]) Tryz.func172 (by kernel_rfl) fun hlt => ?_
  simp [Tryz.f172]
  refine callw_told (c135 L tx hL) (Nat.zero_le _) (by simp) ?_
  simp
  have hll := last_le L tx
  refine aloop_ind (ι := (Nat × List Nat) × Nat × Nat) (fun i => i.1.1) (fun i => i.1.1 ≤ L.length ∧ i.1.2 ++ chainAt L i.1.1 = chain L tx ∧ B ≤ i.2.1 ∧ i.2.1 < i.2.2) (fun i => [(0, .sl 8 (L.map encR)), (5, outV i.2.1 1 (ints (nats i.1.2))), (6, I64 i.1.1)]) (fun i => outH Hp.nil i.2.1 3 1 (ints (nats i.1.2))) (fun i => i.2.2) ((last L tx, []), B, B + 1) ⟨hll, rfl, Nat.le_refl _, by simp⟩ (by simp [outV, nats, ints]) (by simp [outH, nats, ints]) (by simp) ?_
  rintro A ⟨⟨n, out⟩, id, B1⟩ ⟨hn, hout, hB, hid⟩ ih
  simp only at hn hout hB hid
  have hlen : out.length ≤ 1000000 := by
    have := congrArg List.length hout
    have h2 := c172_len hg _ hll
    simp only [chain, List.length_append] at this
    omega
  refine wpC_sound (Mu [21]) _ _ _ _ _ (by kernel_rfl) ?_
  cases n with
  | zero =>
    simp at hout
    subst hout
    simp
    exact ⟨id, hB, rfl, fun h0 => by simp [outH, h0]⟩
  | succ m =>
    obtain ⟨r, hr⟩ : ∃ r, L[m]? = some r := ⟨_, List.getElem?_eq_getElem (by omega)⟩
    obtain ⟨hok, hprev, hnext, _⟩ := hg m r hr
    have hpl := lastB_le L r.tx m
    have w1 := w64 (((m + 1 : Nat) : Int) - 1) (by omega) (by omega)
    have e : (((m + 1 : Nat) : Int) - 1) = m := by omega
    rw [e] at w1
    have hne : ¬ ((m + 1 : Nat) : Int) = 0 := by omega
    have hch := chainAt_succ hg (n := m) (by omega)
    have e4 : r.prev.toNat = lastB L r.tx m := by omega
    rw [prevAt_eq hr, e4] at hch
    rw [hch] at hout
    have hout2 : (out ++ [m + 1]) ++ chainAt L (lastB L r.tx m) = chain L tx := by rw [← hout]; simp
    have htk := nats_snoc out (m + 1)
    generalize hz : ((m + 1 : Nat) : Int) = z at *
    simp [hne]
    by_cases h0 : ints (nats out) = []
    · rw [h0] at htk ⊢
      simp [outV, outH, e, w1, hr, encR, hprev]
      refine ih ((lastB L r.tx m, out ++ [m + 1]), B1, B1 + 1) _ _ _ (by simp; omega) ⟨by simp; omega, hout2, by simp; omega, by simp⟩ ?_ ?_ (by simp)
      · simp only [htk]; simp [outV]
      · simp only [htk]; simp [outH]
    · have hb2 : (out.length + 1) * 8 ≤ 140737488355328 := by omega
      simp [outV, outH, h0, hb2, e, w1, hr, encR, hprev]
      refine ih ((lastB L r.tx m, out ++ [m + 1]), B1, B1 + 1) _ _ _ (by simp; omega) ⟨by simp; omega, hout2, by simp; omega, by simp⟩ ?_ ?_ (by simp)
      · simp only [htk]; simp [outV]
      · simp only [htk]; simp [outH]
theorem c172 (L : List R) (tx : Int) (hg : LogGood L) (hL : L.length ≤ 1000000) : Told 172 [.sl 8 (L.map encR), I64 tx] [] [] 0 (.sl 1 (ints (nats (chain L tx)))) := (o172 L tx hg hL).told (ints_rows _)

theorem o169 (L : List R) (tx : Int) (hg : LogGood L) (hL : L.length ≤ 1000000) : MkO 169 [.sl 8 (L.map encR), I64 tx] 3 1 (ints (nats (undos L tx))) := by
  intro B
  refine acallsF (Mu [25]) Tryz.func169 (by kernel_rfl) fun hlt => ?_
  simp [Tryz.f169]
  have hll := last_le L tx
  refine callw_told (c135 L tx hL) (Nat.zero_le _) (by simp) ?_
  simp
  refine callw_told (c153 L (last L tx) hg hll hL) (Nat.zero_le _) (by simp) ?_
  simp
  have hbl := back_le hg hll
  have hul := undosAt_len hg _ hll
  refine aloop_ind (ι := (Nat × List Nat) × Nat × Nat) (fun i => i.1.1) (fun i => i.1.1 ≤ L.length ∧ i.1.2 ++ uList L i.1.1 = undos L tx ∧ B ≤ i.2.1 ∧ i.2.1 < i.2.2) (fun i => [(0, .sl 8 (L.map encR)), (5, outV i.2.1 1 (ints (nats i.1.2))), (6, I64 i.1.1)]) (fun i => outH Hp.nil i.2.1 3 1 (ints (nats i.1.2))) (fun i => i.2.2) ((back L (last L tx), []), B, B + 1) ⟨by simp; omega, by simp [undos, uList_back hg hll], Nat.le_refl _, by simp⟩ (by simp [outV, nats, ints]) (by simp [outH, nats, ints]) (by simp) ?_
  rintro A ⟨⟨n, out⟩, id, B1⟩ ⟨hn, hout, hB, hid⟩ ih
  simp only at hn hout hB hid
  have hlen : out.length ≤ 1000000 := by
    have := congrArg List.length hout
    simp only [undos, List.length_append] at this
    omega
  refine wpC_sound (Mu [25]) _ _ _ _ _ (by kernel_rfl) ?_
  cases n with
  | zero =>
    simp [uList] at hout
    subst hout
    simp
    exact ⟨id, hB, rfl, fun h0 => by simp [outH, h0]⟩
  | succ m =>
    obtain ⟨r, hr⟩ : ∃ r, L[m]? = some r := ⟨_, List.getElem?_eq_getElem (by omega)⟩
    obtain ⟨hok, hprev, hnext, _⟩ := hg m r hr
    have hpl := lastB_le L r.tx m
    have w1 := w64 (((m + 1 : Nat) : Int) - 1) (by omega) (by omega)
    have e : (((m + 1 : Nat) : Int) - 1) = m := by omega
    rw [e] at w1
    have hne : ¬ ((m + 1 : Nat) : Int) = 0 := by omega
    have e4 : r.prev.toNat = lastB L r.tx m := by omega
    have hu : uList L (m + 1) = (m + 1) :: uList L (back L (lastB L r.tx m)) := by
      simp only [uList, if_neg (Nat.succ_ne_zero m), prevAt_eq hr, e4]
      congr 1
      exact uList_back hg (by omega)
    have hbk2 := back_le hg (n := lastB L r.tx m) (by omega)
    rw [hu] at hout
    have hout2 : (out ++ [m + 1]) ++ uList L (back L (lastB L r.tx m)) = undos L tx := by rw [← hout]; simp
    have htk := nats_snoc out (m + 1)
    generalize hz : ((m + 1 : Nat) : Int) = z at *
    simp [hne]
    by_cases h0 : ints (nats out) = []
    · rw [h0] at htk ⊢
      simp [outV, outH, e, w1, hr, encR, hprev]
      refine callw_told (c153 L (lastB L r.tx m) hg (by omega) hL) (Nat.zero_le _) (by simp) ?_
      simp
      refine ih ((back L (lastB L r.tx m), out ++ [m + 1]), B1, B1 + 1) _ _ _ (by simp; omega) ⟨by simp; omega, hout2, by simp; omega, by simp⟩ ?_ ?_ (by simp)
      · simp only [htk]; simp [outV]
      · simp only [htk]; simp [outH]
    · have hb2 : (out.length + 1) * 8 ≤ 140737488355328 := by omega
      simp [outV, outH, h0, hb2, e, w1, hr, encR, hprev]
      refine callw_told (c153 L (lastB L r.tx m) hg (by omega) hL) (Nat.zero_le _) (by simp) ?_
      simp
      refine ih ((back L (lastB L r.tx m), out ++ [m + 1]), B1, B1 + 1) _ _ _ (by simp; omega) ⟨by simp; omega, hout2, by simp; omega, by simp⟩ ?_ ?_ (by simp)
      · simp only [htk]; simp [outV]
      · simp only [htk]; simp [outH]
theorem c169 (L : List R) (tx : Int) (hg : LogGood L) (hL : L.length ≤ 1000000) : Told 169 [.sl 8 (L.map encR), I64 tx] [] [] 0 (.sl 1 (ints (nats (undos L tx)))) := (o169 L tx hg hL).told (ints_rows _)

end Go.Proofs.YtnaafbdgkmlnaaaGreat

/- Functions: the program's pagesOf. -/
namespace Go.Proofs.YtnaafbdgkmlnaaaGreat
set_option linter.unusedVariables false
set_option linter.unusedSimpArgs false
set_option linter.unnecessarySimpa false
set_option maxRecDepth 20000
set_option maxHeartbeats 2000000

def pgsOf (L : List R) (p : R → Bool) (l : List Nat) : List Int := (l.filter fun n => p (recAt L n)).map fun n => (recAt L n).page
theorem pgsOf_len (L : List R) (p : R → Bool) (l : List Nat) : (pgsOf L p l).length ≤ l.length := by
  simp only [pgsOf, List.length_map]; exact List.length_filter_le _ _
theorem pgsOf_snoc (L : List R) (p : R → Bool) (l : List Nat) (n : Nat) : pgsOf L p (l ++ [n]) = if p (recAt L n) then pgsOf L p l ++ [(recAt L n).page] else pgsOf L p l := by
  unfold pgsOf
  by_cases h : p (recAt L n) <;> simp [List.filter_append, h]

theorem chain_rec {L : List R} (hg : LogGood L) {n : Nat} (hn : n ≤ L.length) : ∀ m ∈ chainAt L n, 1 ≤ m ∧ m ≤ L.length := by
  induction n using Nat.strongRecOn with
  | _ n ih =>
    cases n with
    | zero => simp
    | succ m =>
      rw [chainAt_succ hg (by omega)]
      have := hg.prevAt_le (n := m) (by omega)
      intro k hk
      rcases List.mem_cons.1 hk with rfl | hk
      · omega
      · exact ih _ (by omega) (by omega) k hk

theorem nats_get {l : List Nat} {n m : Nat} (h : l[n]? = some m) : (ints (nats l))[n]? = some [I64 m] := by simp [ints, nats, h]

theorem fz_pre {H : Hp} {id e n : Nat} {rows more : List (List AV)} (h : H id = some ⟨e, 1, rows ++ more⟩) (hn : n = rows.length) : Fz allS H (.ref id 1 0 n) (.sl 1 rows) := by
  subst hn
  refine .ref _ _ _ _ _ _ trivial h rfl (by simp) rfl (fun j r r' a b => ?_) (fun j c x y a b => ?_)
  · have hj := (List.getElem?_eq_some_iff.1 b).1
    simp only [Nat.zero_add, List.getElem?_append_left hj] at a
    rw [a] at b; cases b; rfl
  · obtain ⟨r, hr, hc⟩ := at2_row b
    have hj := (List.getElem?_eq_some_iff.1 hr).1
    simp only [at2, Nat.zero_add, List.getElem?_append_left hj] at a
    rw [hr] at a
    have : x = y := by rw [Option.bind_some, hc] at a; exact (Option.some.inj a).symm
    subst this; exact .same _

theorem outH_id {id e sz i : Nat} {rows : List (List AV)} {k : Blk} (h : outH Hp.nil id e sz rows i = some k) : i = id := by
  unfold outH at h
  split at h
  · cases h
  · simp only [Hp.set_app] at h
    split at h
    · assumption
    · cases h

theorem c118 (L : List R) (tx : Int) (f : FuncId) (p : R → Bool) (hf : okF f = true) (hp : ∀ r, Told f [.agg (encR r)] [] [] 0 (.bool (p r))) (hg : LogGood L) (hL : L.length ≤ 1000000) : Told 118 [.sl 8 (L.map encR), I64 tx, .fn f []] [] [] 0 (.sl 1 (ints (sortD (chPages L tx p)))) := by
  refine told_fz (ints_rows _ _) fun B => ?_
  have hf' : 3 ≤ f ∧ f < 232 := by simpa [okF] using hf
  have hcl : (chain L tx).length ≤ 1000000 := Nat.le_trans (c172_len hg _ (last_le L tx)) (Nat.le_trans (last_le L tx) hL)
  have hcr : ∀ m ∈ chain L tx, 1 ≤ m ∧ m ≤ L.length := chain_rec hg (last_le L tx)
  refine acallsF (Mu [31]) Tryz.func118 (by kernel_rfl) fun hlt => ?_
  simp [Tryz.f118]
  refine callw_told (c172 L tx hg hL) (Nat.zero_le _) (by simp) ?_
  simp
  generalize hch : chain L tx = ch at *
  refine aloop_ind (ι := Nat × Nat × Nat) (fun i => ch.length - i.1) (fun i => i.1 ≤ ch.length ∧ B ≤ i.2.1 ∧ i.2.1 < i.2.2) (fun i => [(0, .sl 8 (L.map encR)), (2, .fn f []), (7, outV i.2.1 1 (ints (pgsOf L p (ch.take i.1)))), (13, .sl 1 (ints (nats ch))), (14, I64 ch.length), (15, I64 i.1)]) (fun i => outH Hp.nil i.2.1 3 1 (ints (pgsOf L p (ch.take i.1)))) (fun i => i.2.2) (0, B, B + 1) ⟨Nat.zero_le _, Nat.le_refl _, by simp⟩ (by simp [outV, pgsOf, ints]) (by simp [outH, pgsOf, ints]) (by simp) ?_
  rintro A ⟨n, id, B1⟩ ⟨hn, hB, hid⟩ ih
  simp only at hn hB hid
  refine wpC_sound (Mu [31]) _ _ _ _ _ (by kernel_rfl) ?_
  obtain ⟨out, hout⟩ : ∃ out, out = pgsOf L p (ch.take n) := ⟨_, rfl⟩
  simp only [← hout]
  have holen : out.length ≤ 1000000 := by rw [hout]; have := pgsOf_len L p (ch.take n); simp at this; omega
  simp [cond_dec]
  constructor
  · intro hlt'
    obtain ⟨m, hm⟩ : ∃ m, ch[n]? = some m := ⟨_, List.getElem?_eq_getElem hlt'⟩
    have hmm := hcr m (List.mem_of_getElem? hm)
    have e1 := nats_get hm
    obtain ⟨r, hr⟩ : ∃ r, L[m - 1]? = some r := ⟨_, List.getElem?_eq_getElem (by omega)⟩
    have w1 := w64 ((m : Int) - 1) (by omega) (by omega)
    have w2 := w64 ((n : Int) + 1) (by omega) (by omega)
    have hz0 : 0 ≤ (m : Int) - 1 := by omega
    have hz1 : ((m : Int) - 1).toNat = m - 1 := by omega
    have htake : ch.take (n + 1) = ch.take n ++ [m] := by rw [List.take_add_one, hm]; rfl
    have hst : pgsOf L p (ch.take (n + 1)) = if p r then out ++ [r.page] else out := by
      have hrec : recAt L m = r := by simp [recAt, hr]
      rw [htake, pgsOf_snoc, hrec, hout]
    have hm1 : (1 : Int) ≤ m := by omega
    have hp1 := hp r
    simp only [encR] at hp1
    simp [e1, w1, hr, hf', hz0, hm1, encR]
    refine callw_told hp1 (Nat.zero_le _) (by simp) ?_
    simp
    refine gC (fun h => ?_) (fun h => ?_) <;> simp [encR, w2]
    · have htk : ints (pgsOf L p (ch.take (n + 1))) = ints out ++ [[I64 r.page]] := by rw [hst, if_pos h]; simp [ints]
      by_cases h0 : ints out = []
      · rw [h0] at htk ⊢
        simp [outV, outH, w2]
        refine ih (n + 1, B1 + 1, B1 + 2) _ _ _ (by simp; omega) ⟨by simp; omega, by simp; omega, by simp⟩ ?_ ?_ (Nat.le_refl _)
        · simp only [htk]; simp [outV]
        · simp only [htk]; simp [outH]
      · have hb2 : (out.length + 1) * 8 ≤ 140737488355328 := by omega
        have hne : ¬ id = B1 := by omega
        simp [outV, outH, h0, hb2, w2, hne]
        refine ih (n + 1, B1 + 1, B1 + 2) _ _ _ (by simp; omega) ⟨by simp; omega, by simp; omega, by simp⟩ ?_ ?_ (Nat.le_refl _)
        · simp only [htk]; simp [outV]
        · simp only [htk]; simp [outH]
    · refine ih (n + 1, id, B1 + 1) _ _ _ (by simp; omega) ⟨by simp; omega, by simp; omega, by simp; omega⟩ ?_ ?_ (Nat.le_refl _)
      · simp [hst, h]
      · simp [hst, h]
        intro i k' hk
        have := outH_id hk
        rw [if_neg (by omega), if_neg (by omega)]
        exact hk
  · intro h
    obtain rfl : n = ch.length := by omega
    have hres : out = chPages L tx p := by rw [hout, List.take_length, chPages, hch]; rfl
    rw [← hres]
    by_cases h0 : ints out = []
    · have : out = [] := by simpa [ints] using h0
      subst this
      simp [outV, outH, ints]
      refine callw_told n173 (Nat.zero_le _) (by simp) ?_
      simp
      refine callw_told n175 (Nat.zero_le _) (by simp) ?_
      simp
      refine callw_told n174 (Nat.zero_le _) (by simp) ?_
      simp
      have e0 : sortD [] = [] := by have := sortD_len []; exact List.length_eq_zero_iff.1 (by simpa using this)
      rw [e0]
      exact .nils 1
    · simp [outV, outH, h0]
      refine callw_upd (c173 id 3 _ hid out (by omega)) (Nat.le_refl _) (by simp) ?_
      simp
      have hlm : (out.mergeSort fun x y => decide (x ≤ y)).length = out.length := List.length_mergeSort _
      have h2 := c175 id 3 B1 hid (out.mergeSort fun x y => decide (x ≤ y)) (by omega)
      rw [hlm] at h2
      refine callw_upd h2 (Nat.le_refl _) (by simp) ?_
      simp
      refine callw_upd (c174 (k := ⟨3, 1, _⟩) hid (ints_lt _)) (Nat.le_refl _) (by simp; rfl) ?_
      simp
      exact fz_pre (e := 3) (by simp; rfl) (by rw [ints_len]; rfl)

end Go.Proofs.YtnaafbdgkmlnaaaGreat

/- Functions: the program's, of logs: cost, space; what a list holds; who locks a page. -/
namespace Go.Proofs.YtnaafbdgkmlnaaaGreat
set_option linter.unusedVariables false
set_option linter.unusedSimpArgs false
set_option linter.unnecessarySimpa false
set_option maxRecDepth 20000
set_option maxHeartbeats 2000000

def costL (L : List R) : List Int → Nat
  | [] => 0
  | t :: ts => (undos L t).length + 1 + costL L ts
theorem costL_opn (L : List R) : costL L (opn L) = need L := by
  simp only [opn, need, needTx]
  by_cases h1 : last L 1 = 0 <;> by_cases h2 : last L 2 = 0 <;> by_cases h3 : last L 3 = 0 <;> simp [h1, h2, h3, costL] <;> omega
theorem opn_len (L : List R) : (opn L).length ≤ 3 := by rw [← opnB_3]; exact opnB_len L 3

theorem c110 (L : List R) (hg : LogGood L) (hL : L.length ≤ 1000000) : Told 110 [.sl 8 (L.map encR)] [] [] 0 (I64 (need L)) := by
  refine told_of (Keep.nil _) trivial fun B _ => ?_
  refine acallsF M0 Tryz.func110 (by kernel_rfl) fun hlt => ?_
  simp [Tryz.f110]
  refine callw_told (c73 L hL) (Nat.zero_le _) (by simp) ?_
  simp
  have hol := opn_len L
  have hnl := needB_le hg 3
  rw [needB_3] at hnl
  refine aloop_ind (ι := Nat × Nat) (fun i => (opn L).length - i.1) (fun i => i.1 ≤ (opn L).length ∧ i.2 + costL L ((opn L).drop i.1) = need L) (fun i => [(0, .sl 8 (L.map encR)), (3, I64 i.2), (7, .sl 1 (ints (opn L))), (8, I64 (opn L).length), (9, I64 i.1)]) (fun _ => Hp.of []) (fun i => B) (0, 0) ⟨Nat.zero_le _, by simp [costL_opn]⟩ (by simp) (by simp) (Nat.le_refl _) ?_
  rintro A ⟨n, c⟩ ⟨hn, hc⟩ ih
  simp only at hn hc
  refine wpC_sound M0 _ _ _ _ _ (by kernel_rfl) ?_
  simp [cond_dec]
  constructor
  · intro hlt'
    obtain ⟨t, ht⟩ : ∃ t, (opn L)[n]? = some t := ⟨_, List.getElem?_eq_getElem hlt'⟩
    have e1 := ints_at ht
    obtain ⟨h1, h2⟩ := List.getElem?_eq_some_iff.1 ht
    rw [List.drop_eq_getElem_cons hlt', h2, costL] at hc
    have w1 := w64 ((n : Int) + 1) (by omega) (by omega)
    have w2 := w64 (((undos L t).length : Int) + 1) (by omega) (by omega)
    have w3 := w64 ((c : Int) + (((undos L t).length : Int) + 1)) (by omega) (by omega)
    simp [e1]
    refine callw_told (c169 L t hg hL) (Nat.zero_le _) (by simp) ?_
    simp [w1, w2, w3]
    refine ih (n + 1, c + ((undos L t).length + 1)) _ _ _ (by simp; omega) ⟨by simp; omega, by simp; omega⟩ (by simp) (by simp) (Nat.le_refl _)
  · intro h
    obtain rfl : n = (opn L).length := by omega
    simp [costL] at hc
    simp [hc]

theorem c82 (L : List R) (hg : LogGood L) (hL : L.length ≤ 1000000) : Told 82 [.sl 8 (L.map encR)] [] [] 0 (.bool (decide (Fits L))) := by
  refine told_of (Keep.nil _) trivial fun B _ => ?_
  refine acallsF M0 Tryz.func82 (by kernel_rfl) fun hlt => ?_
  simp [Tryz.f82]
  have hnl := needB_le hg 3
  rw [needB_3] at hnl
  refine callw_told (c110 L hg hL) (Nat.zero_le _) (by simp) ?_
  have wn := w64 ((L.length : Int) + need L) (by omega) (by omega)
  simp [wn]
  unfold Fits; omega

theorem c171 (V : List Int) (x : Int) (hV : V.length ≤ 1000000) : Told 171 [.sl 1 (ints V), I64 x] [] [] 0 (I64 (idxB (fun v => decide (x = v)) V 0)) := by
  refine told_of (Keep.nil _) trivial fun B _ => ?_
  refine acallsF M0 Tryz.func171 (by kernel_rfl) fun hlt => ?_
  simp [Tryz.f171]
  refine aloop_ind (ι := Nat) (fun n => V.length - n) (fun n => n ≤ V.length ∧ idxB (fun v => decide (x = v)) (V.drop n) n = idxB (fun v => decide (x = v)) V 0) (fun n => [(0, .sl 1 (ints V)), (1, I64 x), (7, I64 V.length), (8, I64 n)]) (fun _ => Hp.of []) (fun _ => B) 0 ⟨Nat.zero_le _, rfl⟩ (by simp) (by simp) (Nat.le_refl _) ?_
  rintro A n ⟨hn, hi⟩ ih
  refine wpC_sound M0 _ _ _ _ _ (by kernel_rfl) ?_
  simp [cond_dec]
  constructor
  · intro hlt'
    obtain ⟨v, hv⟩ : ∃ v, V[n]? = some v := ⟨_, List.getElem?_eq_getElem hlt'⟩
    have w1 := w64 ((n : Int) + 1) (by omega) (by omega)
    have hv' := idxB_succ (p := fun v => decide (x = v)) hv
    simp [ints_get, hv]
    refine gC (fun h => ?_) (fun h => ?_) <;> simp at h <;> simp [h] at hv' ⊢
    · subst h; rw [← hi, hv']
    · refine ih (n + 1) _ _ _ (by omega) ⟨hlt', by rw [← hv', hi]⟩ (by simp [w1]) (by simp) (Nat.le_refl _)
  · intro h
    obtain rfl : n = V.length := by omega
    simp [← hi, idxB]
theorem c117 (V : List Int) (x : Int) (hV : V.length ≤ 1000000) : Told 117 [.sl 1 (ints V), I64 x] [] [] 0 (.bool (decide (x ∈ V))) := by
  refine told_of (Keep.nil _) trivial fun B _ => ?_
  refine acallsF M0 Tryz.func117 (by kernel_rfl) fun hlt => ?_
  simp [Tryz.f117]
  refine callw_told (c171 V x hV) (Nat.zero_le _) (by simp) ?_
  simp [idxB_nn]

theorem chPages_has (L : List R) (tx page : Int) : page ∈ sortD (chPages L tx fun _ => true) ↔ Has L tx page := by
  rw [mem_sortD]; simp [chPages, Has]
theorem chPages_loaded (L : List R) (tx page : Int) : page ∈ sortD (chPages L tx fun r => decide (r.kind = 3)) ↔ LoadedTx L tx page := by
  rw [mem_sortD]
  simp only [chPages, LoadedTx, List.mem_map, List.mem_filter, decide_eq_true_eq]
  constructor
  · rintro ⟨a, ⟨h1, h2⟩, h3⟩; exact ⟨a, h1, h2, h3⟩
  · rintro ⟨a, h1, h2, h3⟩; exact ⟨a, ⟨h1, h2⟩, h3⟩
theorem chPages_len {L : List R} (hg : LogGood L) (tx : Int) (p : R → Bool) : (sortD (chPages L tx p)).length ≤ L.length := by
  have h1 := sortD_len (chPages L tx p)
  have h2 : (chPages L tx p).length ≤ (chain L tx).length := by simp only [chPages, List.length_map]; exact List.length_filter_le _ _
  have h3 := c172_len hg _ (last_le L tx)
  have h4 := last_le L tx
  simp only [chain] at h2
  omega

/-- Who locks a page: the last one; whether it is one at most. -/
def lockI (L : List R) (page : Int) : List Int → Int × Bool → Int × Bool
  | [], s => s
  | t :: ts, s => lockI L page ts (if Has L t page then (t, decide (s.1 = 0)) else s)
def locks (L : List R) (page : Int) : Int × Bool := lockI L page (opn L) (0, true)

theorem c60 (L : List R) (page : Int) (hg : LogGood L) (hL : L.length ≤ 1000000) : Told 60 [.sl 8 (L.map encR), I64 page] [] [] 0 (.tup [I64 (locks L page).1, .bool (locks L page).2]) := by
  refine told_of (Keep.nil _) ⟨trivial, trivial, trivial⟩ fun B _ => ?_
  refine acallsF M0 Tryz.func60 (by kernel_rfl) fun hlt => ?_
  simp [Tryz.f60]
  refine callw_told (c73 L hL) (Nat.zero_le _) (by simp) ?_
  simp
  have hol := opn_len L
  refine aloop_ind (ι := Nat × (Int × Bool)) (fun i => (opn L).length - i.1) (fun i => i.1 ≤ (opn L).length ∧ lockI L page ((opn L).drop i.1) i.2 = locks L page) (fun i => [(0, .sl 8 (L.map encR)), (1, I64 page), (6, I64 i.2.1), (7, .bool i.2.2), (11, .sl 1 (ints (opn L))), (12, I64 (opn L).length), (13, I64 i.1)]) (fun _ => Hp.of []) (fun i => B) (0, (0, true)) ⟨Nat.zero_le _, rfl⟩ (by simp) (by simp) (Nat.le_refl _) ?_
  rintro A ⟨n, by', ok⟩ ⟨hn, hc⟩ ih
  simp only at hn hc
  refine wpC_sound M0 _ _ _ _ _ (by kernel_rfl) ?_
  simp [cond_dec]
  constructor
  · intro hlt'
    obtain ⟨t, ht⟩ : ∃ t, (opn L)[n]? = some t := ⟨_, List.getElem?_eq_getElem hlt'⟩
    have e1 := ints_at ht
    obtain ⟨h1, h2⟩ := List.getElem?_eq_some_iff.1 ht
    rw [List.drop_eq_getElem_cons hlt', h2, lockI] at hc
    have w1 := w64 ((n : Int) + 1) (by omega) (by omega)
    have hcl := chPages_len hg t fun _ => true
    simp [e1]
    refine callw_told (c118 L t 119 (fun _ => true) rfl c119 hg hL) (Nat.zero_le _) (by simp) ?_
    simp
    refine callw_told (c117 _ page (by omega)) (Nat.zero_le _) (by simp) ?_
    simp [chPages_has]
    refine gC (fun h => ?_) (fun h => ?_) <;> simp at h <;> simp [w1]
    · rw [if_pos h] at hc
      exact ih (n + 1, (t, decide (by' = 0))) _ _ _ (by simp; omega) ⟨by simp; omega, hc⟩ (by simp) (by simp) (Nat.le_refl _)
    · rw [if_neg h] at hc
      exact ih (n + 1, (by', ok)) _ _ _ (by simp; omega) ⟨by simp; omega, hc⟩ (by simp) (by simp) (Nat.le_refl _)
  · intro h
    obtain rfl : n = (opn L).length := by omega
    simp [lockI] at hc
    simp [← hc]

end Go.Proofs.YtnaafbdgkmlnaaaGreat

/- Functions: the program's: is a page loaded; is memory as it must be. -/
namespace Go.Proofs.YtnaafbdgkmlnaaaGreat
set_option linter.unusedVariables false
set_option linter.unusedSimpArgs false
set_option linter.unnecessarySimpa false
set_option maxRecDepth 20000
set_option maxHeartbeats 2000000

theorem c210c (f : FuncId) (caps : List AV) (p : Int → Bool) (hf : okF f = true) (hp : ∀ n, Told f (I64 n :: caps) [] [] 0 (.bool (p n))) (L : List Int) (hL : L.length ≤ 1000000) : Told 210 [.sl 1 (ints L), .fn f caps] [] [] 0 (I64 (idxB p L 0)) := by
  refine told_of (Keep.nil _) trivial fun B _ => ?_
  refine acallsF M0 Tryz.func210 (by kernel_rfl) fun hlt => ?_
  simp [Tryz.f210]
  refine aloop_ind (ι := Nat) (fun n => L.length - n) (fun n => n ≤ L.length ∧ idxB p (L.drop n) n = idxB p L 0) (fun n => [(0, .sl 1 (ints L)), (1, .fn f caps), (7, I64 L.length), (8, I64 n)]) (fun _ => Hp.of []) (fun _ => B) 0 ⟨Nat.zero_le _, rfl⟩ (by simp) (by simp) (Nat.le_refl _) ?_
  rintro A n ⟨hn, hi⟩ ih
  refine wpC_sound M0 _ _ _ _ _ (by kernel_rfl) ?_
  simp [cond_dec]
  constructor
  · intro hlt'
    obtain ⟨v, hv⟩ : ∃ v, L[n]? = some v := ⟨_, List.getElem?_eq_getElem hlt'⟩
    have w1 := w64 ((n : Int) + 1) (by omega) (by omega)
    have hv' := idxB_succ (p := p) hv
    have hf' : 3 ≤ f ∧ f < 232 := by simpa [okF] using hf
    simp [ints_get, hv, hf']
    refine callw_told (hp v) (Nat.zero_le _) (by simp) ?_
    simp
    refine gC (fun h => ?_) (fun h => ?_) <;> simp [h] at hv' ⊢
    · rw [← hi, hv']
    · refine ih (n + 1) _ _ _ (by omega) ⟨hlt', by rw [← hv', hi]⟩ (by simp [w1]) (by simp) (Nat.le_refl _)
  · intro h
    obtain rfl : n = L.length := by omega
    simp [← hi, idxB]

theorem c189c (f : FuncId) (caps : List AV) (p : Int → Bool) (hf : okF f = true) (hp : ∀ n, Told f (I64 n :: caps) [] [] 0 (.bool (p n))) (L : List Int) (hL : L.length ≤ 1000000) : Told 189 [.sl 1 (ints L), .fn f caps] [] [] 0 (.bool (!decide (∀ v ∈ L, p v = false))) := by
  refine told_of (Keep.nil _) trivial fun B _ => ?_
  refine acallsF M0 Tryz.func189 (by kernel_rfl) fun hlt => ?_
  simp [Tryz.f189]
  refine callw_told (c210c f caps p hf hp L hL) (Nat.zero_le _) (by simp) ?_
  simp
  by_cases h : ∃ v ∈ L, p v = true
  · rw [decide_eq_true ((idxB_nn L 0).2 h), decide_eq_false (by obtain ⟨v, h1, h2⟩ := h; intro hh; rw [hh v h1] at h2; cases h2)]; rfl
  · rw [decide_eq_false (fun q => h ((idxB_nn L 0).1 q)), decide_eq_true (by intro v hv; cases hp' : p v with | false => rfl | true => exact absurd ⟨v, hv, hp'⟩ h)]; rfl


theorem c201 (L : List R) (tx page : Int) (hg : LogGood L) (hL : L.length ≤ 1000000) : Told 201 [I64 tx, .qe [.sl 8 (L.map encR)], .qe [I64 page]] [] [] 0 (.bool (decide (LoadedTx L tx page))) := by
  refine told_of (Keep.nil _) trivial fun B _ => ?_
  refine acallsF M0 Tryz.func201 (by kernel_rfl) fun hlt => ?_
  have hcl := chPages_len hg tx fun r => decide (r.kind = 3)
  simp [Tryz.f201]
  refine calld_told (c118 L tx 193 (fun r => decide (r.kind = 3)) rfl c193 hg hL) (Nat.zero_le _) (by simp) ?_
  simp
  refine calld_told (c117 _ page (by omega)) (Nat.zero_le _) (by simp) ?_
  simp [chPages_loaded]

theorem loaded_opn (L : List R) (page : Int) : (∀ t ∈ opn L, decide (LoadedTx L t page) = false) ↔ ¬ Loaded L page := by
  have hz : ∀ t, last L t = 0 → ¬ LoadedTx L t page := fun t h => by simp [LoadedTx, chain, h]
  simp only [opn, Loaded]
  have z1 := hz 1; have z2 := hz 2; have z3 := hz 3
  by_cases h1 : last L 1 = 0 <;> by_cases h2 : last L 2 = 0 <;> by_cases h3 : last L 3 = 0 <;> simp_all

theorem c146 (L : List R) (page : Int) (hg : LogGood L) (hL : L.length ≤ 1000000) : Told 146 [.sl 8 (L.map encR), I64 page] [] [] 0 (.bool (decide (Loaded L page))) := by
  refine told_of (Keep.nil _) trivial fun B _ => ?_
  refine acallsF M0 Tryz.func146 (by kernel_rfl) fun hlt => ?_
  have hol := opn_len L
  simp [Tryz.f146]
  refine callw_told (c73 L hL) (Nat.zero_le _) (by simp) ?_
  simp
  refine callw_told (c189c 201 [.qe [.sl 8 (L.map encR)], .qe [I64 page]] (fun t => decide (LoadedTx L t page)) rfl (fun n => c201 L n page hg hL) (opn L) (by omega)) (Nat.zero_le _) (by simp) ?_
  have := loaded_opn L page
  simp only [decide_eq_false_iff_not] at this
  simp [this]

def ops2 (fn : Func) : Array Oper := match bodyOf fn with | .seq _ (.seq (.region _ ops _) _) => ops | _ => #[]
def first2 (fn : Func) : Code := match bodyOf fn with | .seq x _ => x | _ => .skip
def rest2 (fn : Func) : Code := match bodyOf fn with | .seq _ (.seq _ x) => x | _ => .skip

def Q86 (b : Bool) : QT := fun e F H B => (e = .normal ∨ e = .ret) ∧ ∃ v, resAV Tryz.f86.results F H = some v ∧ (v = AV.bool b ∧ ∀ (id : Nat) (k : Blk), Hp.of [] id = some k → H id = some k)
theorem fz_pe {H : Hp} {id e sz : Nat} {r : List AV} (h : H id = some ⟨e, sz, [r]⟩) : Fz allS H (.pe id sz 0) (.qe r) :=
  .pe _ _ _ _ r r trivial h rfl rfl rfl fun c x y hx hy => by rw [hx] at hy; cases hy; exact .same _
theorem sz86 : 10 < (ops2 Tryz.f86).size ∧ 11 < (ops2 Tryz.f86).size := by decide +kernel

theorem c86 (e : Eng) (page : Int) (q : Pg) (hd : ShP e.disk) (hm : ShP e.mem) (hg : LogGood e.log) (hl : e.log.length ≤ 1000000) (hp0 : 0 ≤ page) (hp4 : page ≤ 4) : Told 86 [.agg (encE e), I64 page, .agg (encP q)] [] [] 0 (.bool (decide (MemOk e page q))) := by
  refine told_of (Keep.nil _) trivial fun B _ => ?_
  obtain ⟨m1, m2⟩ := hm.at hp0 hp4
  obtain ⟨d1, d2⟩ := hd.at hp0 hp4
  have h1 := c85 (pgAt e.mem page) q (by omega)
  have h2 := c85 (pgAt e.mem page) (pgAt e.disk page) (by omega)
  have h3 := c147 e.log page hl
  simp only [encP, pgRow] at h1 h2
  refine acalls_of (fn := Tryz.f86) (cd := .seq (first2 Tryz.f86) (.seq (.region 1 (ops2 Tryz.f86) true) (rest2 Tryz.f86))) (by kernel_rfl) (by kernel_rfl) (by simp [Tryz.f86]) ?_
  change AWP PP _ _ _ _ _ (Q86 (decide (MemOk e page q)))
  have key : ∀ B', AWP PP 53 (rest2 Tryz.f86) (((((Fr.nil.set 1 (I64 page)).set 3 (.qe (encE e))).set 5 (.qe (encP q))).set 7 (.qe (encP (pgAt e.mem page)))).set 8 (.qe (encP (pgAt e.disk page)))) Hp.nil B' (Q86 (decide (MemOk e page q))) := by
    intro B'
    refine wpC_sound M0 _ _ _ _ _ (by kernel_rfl) ?_
    simp [rest2, Tryz.f86, encE, encP, pgRow, hp0, m1, d1]
    refine callw_told (c146 e.log page hg hl) (Nat.zero_le _) (by simp) ?_
    simp
    refine gC (fun c1 => ?_) (fun c1 => ?_) <;> simp at c1 <;> simp
    · refine callw_told h1 (Nat.zero_le _) (by simp) ?_
      simp [MemOk, c1, Q86, Tryz.f86, resAV]
    · refine gD (fun c2 => ?_) (fun c2 => ?_) <;> simp at c2 <;> simp [c2]
      · refine calld_told h3 (Nat.zero_le _) (by simp) ?_
        simp
        refine gD (fun c3 => ?_) (fun c3 => ?_) <;> simp at c3 <;> simp [c3]
        · refine gD (fun c4 => ?_) (fun c4 => ?_) <;> simp [-Int.not_le, -Int.not_lt] at c4 <;> simp [c4]
          · rw [c2, c3] at h2
            refine calld_told h2 (Nat.zero_le _) (by simp) ?_
            simp [MemOk, c1, c2, c3, c4, Q86, Tryz.f86]
          · simp [MemOk, c1, c2, c3, c4, Q86, Tryz.f86]
        · simp [MemOk, c1, c2, c3, Q86, Tryz.f86]
      · simp [MemOk, c1, c2, Q86, Tryz.f86]
  refine awp_seq (wpC_sound M0 _ _ _ _ _ (by kernel_rfl) ?_)
  generalize rest2 Tryz.f86 = rst at key ⊢
  simp [first2, Tryz.f86, encE, encP, pgRow]
  simp only [encE, encP, pgRow] at key
  have fin : ∀ (F : Fr) (H : Hp) (B' : Nat), F 1 = I64 page → Fz allS H (F 3) (.qe (encE e)) → Fz allS H (F 5) (.qe (encP q)) → Fz allS H (F 7) (.qe (encP (pgAt e.mem page))) → Fz allS H (F 8) (.qe (encP (pgAt e.disk page))) → AWP PP 53 rst F H B' (Q86 (decide (MemOk e page q))) := by
    intro F H B' f1 f3 f5 f7 f8
    refine awp_freeze (S := allS) (fun t => ?_) (fun id k hk => by cases hk) (key B')
    simp only [Fr.set_app]
    split
    · rename_i e; subst e; exact f8
    · split
      · rename_i e; subst e; exact f7
      · split
        · rename_i e; subst e; exact f5
        · split
          · rename_i e; subst e; exact f3
          · split
            · rename_i e; subst e; rw [f1]; exact .same _
            · exact .any _
  refine awp_seq (awp_any mixed (any_two (i := 10) (j := 11) sz86.1 sz86.2 (ext_add (by decide) sz86.2) (ext_add (by decide) sz86.1) (swp_swap (by simpa [edgeA] using sz86.1) (by simpa [edgeA] using sz86.2)) (by kernel_rfl) ?_ ?_))
  · refine any_draw (by kernel_rfl) (wpD_sound (M := M0) _ _ _ _ _ ?_)
    simp [edgeA, ops2, Tryz.f86, List.modify_toArray, encP, pgRow, hp0, m1, d1]
    refine ⟨chkW_sh (by kernel_rfl), fin _ _ _ ?_ ?_ ?_ ?_ ?_⟩
    all_goals simp [encE, encP, pgRow]
    all_goals first | exact .same _ | exact fz_pe (e := 38) (by simp)
  · refine any_draw (by kernel_rfl) (wpD_sound (M := M0) _ _ _ _ _ ?_)
    rw [swapE, show (edgeA (ops2 Tryz.f86) 10 11).size = 14 by kernel_rfl, show List.range 14 = [0, 1, 2, 3, 4, 5, 6, 7, 8, 9, 10, 11, 12, 13] from rfl]
    generalize hw : wpD M0 53 = W
    simp only [List.map_cons, List.map_nil]
    simp [edgeA, sw, rnOp, ops2, Tryz.f86, List.modify_toArray]
    rw [← hw]
    simp [encP, pgRow, hp0, m1, d1]
    refine ⟨chkW_sh (by kernel_rfl), fin _ _ _ ?_ ?_ ?_ ?_ ?_⟩
    all_goals simp [encE, encP, pgRow]
    all_goals first | exact .same _ | exact fz_pe (e := 38) (by simp)

end Go.Proofs.YtnaafbdgkmlnaaaGreat
