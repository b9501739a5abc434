/- Laws about the machine's run of the program's functions, part 13, in import order. No condition. -/
import Derived.Test.YtnaafbdgkmlnaaaGreatM01
import Derived.Test.YtnaafbdgkmlnaaaGreatM11
import Derived.Test.YtnaafbdgkmlnaaaGreatM12

set_option linter.unusedVariables false
set_option linter.unusedSimpArgs false
set_option linter.unnecessarySimpa false
/- Functions: pages anew, one by one. -/
namespace Go.Proofs.YtnaafbdgkmlnaaaGreat
set_option linter.unusedVariables false
set_option linter.unusedSimpArgs false
set_option linter.unnecessarySimpa false
set_option maxRecDepth 20000
set_option maxHeartbeats 2000000

/-! ### A list to which is appended -/
def outV (id sz : Nat) (rows : List (List AV)) : AV := if rows = [] then .nils else .ref id sz 0 rows.length
def outH (H : Hp) (id e sz : Nat) (rows : List (List AV)) : Hp := if rows = [] then H else H.set id ⟨e, sz, rows⟩
def MkO (f : FuncId) (args : List AV) (e sz : Nat) (rows : List (List AV)) : Prop := ∀ B, ACalls PP f args Hp.nil B (fun v H' B' => ∃ id, B ≤ id ∧ v = outV id sz rows ∧ (rows ≠ [] → H' id = some ⟨e, sz, rows⟩))
theorem MkO.mk1 {f : FuncId} {args : List AV} {e sz : Nat} {rows : List (List AV)} (h : MkO f args e sz rows) (h0 : rows ≠ []) (hr : ∀ B, AV.ltLL B rows) : Mk1 f args id e sz rows :=
  mk1_of (fun B id h => ren_self h) hr fun B => (h B).mono fun v H' B' ⟨id, h1, h2, h3⟩ => ⟨id, h1, by rw [h2, outV, if_neg h0]; rfl, h3 h0⟩
theorem MkO.told {f : FuncId} {args : List AV} {e sz : Nat} {rows : List (List AV)} (h : MkO f args e sz rows) (hr : ∀ B, AV.ltLL B rows) : Told f args [] [] 0 (.sl sz rows) :=
  told_fz (by have := hr 0; simpa only [AV.lt] using this) fun B => (h B).mono fun v H' B' ⟨id, h1, h2, h3⟩ => by
    by_cases h0 : rows = []
    · rw [h2, outV, if_pos h0, h0]; exact .nils _
    · rw [h2, outV, if_neg h0]; exact Fz.slice (h3 h0) rfl rfl rfl

def ShortPs (ps : List Pg) : Prop := ps.length ≤ 1000 ∧ ∀ p ∈ ps, p.vals.length ≤ 1000000
theorem pages_rows (ps : List Pg) : ∀ B, AV.ltLL B (ps.map encP) := fun B => by have := lt_pages B ps; simpa only [AV.lt] using this

theorem c138 (ps : List Pg) (hs : ShortPs ps) : MkO 138 [.sl 3 (ps.map encP)] 38 3 (ps.map encP) := by
  intro B
  refine acallsF (Mu [19]) Tryz.func138 (by kernel_rfl) fun hlt => ?_
  simp [Tryz.f138]
  refine aloop_ind (ι := Nat × Nat × Nat) (fun i => ps.length - i.1) (fun i => i.1 ≤ ps.length ∧ B ≤ i.2.1 ∧ i.2.1 < i.2.2) (fun i => [(0, .sl 3 (ps.map encP)), (3, outV i.2.1 3 ((ps.take i.1).map encP)), (4, I64 i.1)]) (fun i => outH Hp.nil i.2.1 38 3 ((ps.take i.1).map encP)) (fun i => i.2.2) (0, B, B + 1) ⟨Nat.zero_le _, Nat.le_refl _, by simp⟩ (by simp [outV]) (by simp [outH]) (by simp) ?_
  rintro A ⟨n, id, B1⟩ ⟨hn, hB, hid⟩ ih
  simp only at hn hB hid
  refine wpC_sound (Mu [19]) _ _ _ _ _ (by kernel_rfl) ?_
  obtain ⟨out, hout⟩ : ∃ out, out = (ps.take n).map encP := ⟨_, rfl⟩
  simp only [← hout]
  simp [cond_dec]
  constructor
  · intro hlt'
    have h1000 := hs.1
    have w1 := w64 ((n : Int) + 1) (by omega) (by omega)
    obtain ⟨p, hp⟩ : ∃ p, ps[n]? = some p := ⟨_, List.getElem?_eq_getElem hlt'⟩
    have hpv := hs.2 p (List.mem_of_getElem? hp)
    simp [hp]
    refine callw_told (c66 p hpv) (Nat.zero_le _) (by simp) ?_
    have htk : (ps.take (n + 1)).map encP = out ++ [encP p] := by rw [List.take_add_one, hp, hout]; simp
    have hlen : out.length ≤ 1000 := by rw [hout]; simp; omega
    have hne : out ++ [encP p] ≠ [] := by simp
    by_cases h0 : out = []
    · subst h0
      simp [outV, outH, encP, pgRow]
      refine ih (n + 1, B1, B1 + 1) _ _ _ (by simp; omega) ⟨by simp; omega, by simp; omega, by simp⟩ ?_ ?_ (by simp)
      · simp only [htk]; simp [w1, outV, encP, pgRow]
      · simp only [htk]; simp [outH, encP, pgRow]
    · have hb : (out.length + 1) * 40 ≤ 140737488355328 := by omega
      simp [outV, outH, encP, pgRow, h0, hb]
      refine ih (n + 1, B1, B1 + 1) _ _ _ (by simp; omega) ⟨by simp; omega, by simp; omega, by simp⟩ ?_ ?_ (by simp)
      · simp only [htk]; simp [w1, outV, encP, pgRow]
      · simp only [htk]; simp [outH, encP, pgRow]
  · intro h
    obtain rfl : n = ps.length := by omega
    rw [List.take_length] at hout
    subst hout
    exact ⟨id, hB, rfl, fun h0 => by simp [outH, h0]⟩

theorem c79 (ps : List Pg) (hs : ShortPs ps) : MkO 79 [.sl 3 (ps.map encP)] 38 3 (ps.map encP) := by
  intro B
  refine acallsF (Mu [16]) Tryz.func79 (by kernel_rfl) fun hlt => ?_
  simp [Tryz.f79]
  refine aloop_ind (ι := Nat × Nat × Nat) (fun i => ps.length - i.1) (fun i => i.1 ≤ ps.length ∧ B ≤ i.2.1 ∧ i.2.1 < i.2.2) (fun i => [(6, .sl 3 (ps.map encP)), (7, I64 ps.length), (3, outV i.2.1 3 ((ps.take i.1).map encP)), (8, I64 i.1)]) (fun i => outH Hp.nil i.2.1 38 3 ((ps.take i.1).map encP)) (fun i => i.2.2) (0, B, B + 1) ⟨Nat.zero_le _, Nat.le_refl _, by simp⟩ (by simp [outV]) (by simp [outH]) (by simp) ?_
  rintro A ⟨n, id, B1⟩ ⟨hn, hB, hid⟩ ih
  simp only at hn hB hid
  refine wpC_sound (Mu [16]) _ _ _ _ _ (by kernel_rfl) ?_
  obtain ⟨out, hout⟩ : ∃ out, out = (ps.take n).map encP := ⟨_, rfl⟩
  simp only [← hout]
  simp [cond_dec]
  constructor
  · intro hlt'
    have h1000 := hs.1
    have w1 := w64 ((n : Int) + 1) (by omega) (by omega)
    obtain ⟨p, hp⟩ : ∃ p, ps[n]? = some p := ⟨_, List.getElem?_eq_getElem hlt'⟩
    have hpv := hs.2 p (List.mem_of_getElem? hp)
    have c61p := c61 p hpv
    simp only [encP, pgRow] at c61p
    simp [hp, encP, pgRow]
    refine callw_told c61p (Nat.zero_le _) (by simp) ?_
    have htk : (ps.take (n + 1)).map encP = out ++ [encP p] := by rw [List.take_add_one, hp, hout]; simp
    have hlen : out.length ≤ 1000 := by rw [hout]; simp; omega
    by_cases h0 : out = []
    · subst h0
      simp [outV, outH, encP, pgRow]
      refine ih (n + 1, B1 + 1, B1 + 2) _ _ _ (by simp; omega) ⟨by simp; omega, by simp; omega, by simp⟩ ?_ ?_ (by simp)
      · simp only [htk]; simp [w1, outV, encP, pgRow]
      · simp only [htk]; simp [outH, encP, pgRow]
    · have hb : (out.length + 1) * 40 ≤ 140737488355328 := by omega
      have hne : ¬ id = B1 := by omega
      simp [outV, outH, encP, pgRow, h0, hb, hne]
      refine ih (n + 1, B1 + 1, B1 + 2) _ _ _ (by simp; omega) ⟨by simp; omega, by simp; omega, by simp⟩ ?_ ?_ (by simp)
      · simp only [htk]; simp [w1, outV, encP, pgRow]
      · simp only [htk]; simp [outH, encP, pgRow]
  · intro h
    obtain rfl : n = ps.length := by omega
    rw [List.take_length] at hout
    subst hout
    exact ⟨id, hB, rfl, fun h0 => by simp [outH, h0]⟩

theorem c62 : MkO 62 [] 38 3 ((List.replicate 5 pgNew).map encP) := by
  intro B
  refine acallsF (Mu [11]) Tryz.func62 (by kernel_rfl) fun hlt => ?_
  simp only [Tryz.f62]
  simp
  refine aloop_ind (ι := Nat × Nat × Nat) (fun i => 5 - i.1) (fun i => i.1 ≤ 5 ∧ B ≤ i.2.1 ∧ i.2.1 < i.2.2) (fun i => [(1, outV i.2.1 3 ((List.replicate i.1 pgNew).map encP)), (2, I64 i.1)]) (fun i => outH Hp.nil i.2.1 38 3 ((List.replicate i.1 pgNew).map encP)) (fun i => i.2.2) (0, B, B + 1) ⟨Nat.zero_le _, Nat.le_refl _, by simp⟩ (by simp [outV]) (by simp [outH]) (by simp) ?_
  rintro A ⟨n, id, B1⟩ ⟨hn, hB, hid⟩ ih
  simp only at hn hB hid
  refine wpC_sound (Mu [11]) _ _ _ _ _ (by kernel_rfl) ?_
  obtain ⟨out, hout⟩ : ∃ out, out = (List.replicate n pgNew).map encP := ⟨_, rfl⟩
  simp only [← hout]
  simp [cond_dec]
  constructor
  · intro hlt'
    have w1 := w64 ((n : Int) + 1) (by omega) (by omega)
    refine callw_told c121 (Nat.zero_le _) (by simp) ?_
    have htk : (List.replicate (n + 1) pgNew).map encP = out ++ [encP pgNew] := by rw [List.replicate_succ', hout]; simp
    have hlen : out.length ≤ 1000 := by rw [hout]; simp; omega
    by_cases h0 : out = []
    · subst h0
      simp [outV, outH, encP, pgRow]
      refine ih (n + 1, B1, B1 + 1) _ _ _ (by simp; omega) ⟨by simp; omega, by simp; omega, by simp⟩ ?_ ?_ (by simp)
      · simp only [htk]; simp [w1, outV, encP, pgRow]
      · simp only [htk]; simp [outH, encP, pgRow]
    · have hb : (out.length + 1) * 40 ≤ 140737488355328 := by omega
      simp [outV, outH, encP, pgRow, h0, hb]
      refine ih (n + 1, B1, B1 + 1) _ _ _ (by simp; omega) ⟨by simp; omega, by simp; omega, by simp⟩ ?_ ?_ (by simp)
      · simp only [htk]; simp [w1, outV, encP, pgRow]
      · simp only [htk]; simp [outH, encP, pgRow]
  · intro h
    obtain rfl : n = 5 := by omega
    subst hout
    exact ⟨id, hB, rfl, by simp [outH]⟩

theorem c58 : MkO 58 [] 38 3 ((List.replicate 5 pgNew).map encP) := by
  intro B
  refine acallsF (Mu [7]) Tryz.func58 (by kernel_rfl) fun hlt => ?_
  simp only [Tryz.f58]
  simp
  refine aloop_ind (ι := Nat × Nat × Nat) (fun i => 5 - i.1) (fun i => i.1 ≤ 5 ∧ B ≤ i.2.1 ∧ i.2.1 < i.2.2) (fun i => [(1, outV i.2.1 3 ((List.replicate i.1 pgNew).map encP)), (2, I64 i.1)]) (fun i => outH Hp.nil i.2.1 38 3 ((List.replicate i.1 pgNew).map encP)) (fun i => i.2.2) (0, B, B + 1) ⟨Nat.zero_le _, Nat.le_refl _, by simp⟩ (by simp [outV]) (by simp [outH]) (by simp) ?_
  rintro A ⟨n, id, B1⟩ ⟨hn, hB, hid⟩ ih
  simp only at hn hB hid
  refine wpC_sound (Mu [7]) _ _ _ _ _ (by kernel_rfl) ?_
  obtain ⟨out, hout⟩ : ∃ out, out = (List.replicate n pgNew).map encP := ⟨_, rfl⟩
  simp only [← hout]
  simp [cond_dec]
  constructor
  · intro hlt'
    have w1 := w64 ((n : Int) + 1) (by omega) (by omega)
    refine callw_told c116 (Nat.zero_le _) (by simp) ?_
    have htk : (List.replicate (n + 1) pgNew).map encP = out ++ [encP pgNew] := by rw [List.replicate_succ', hout]; simp
    have hlen : out.length ≤ 1000 := by rw [hout]; simp; omega
    by_cases h0 : out = []
    · subst h0
      simp [outV, outH, encP, pgRow]
      refine ih (n + 1, B1, B1 + 1) _ _ _ (by simp; omega) ⟨by simp; omega, by simp; omega, by simp⟩ ?_ ?_ (by simp)
      · simp only [htk]; simp [w1, outV, encP, pgRow]
      · simp only [htk]; simp [outH, encP, pgRow]
    · have hb : (out.length + 1) * 40 ≤ 140737488355328 := by omega
      simp [outV, outH, encP, pgRow, h0, hb]
      refine ih (n + 1, B1, B1 + 1) _ _ _ (by simp; omega) ⟨by simp; omega, by simp; omega, by simp⟩ ?_ ?_ (by simp)
      · simp only [htk]; simp [w1, outV, encP, pgRow]
      · simp only [htk]; simp [outH, encP, pgRow]
  · intro h
    obtain rfl : n = 5 := by omega
    subst hout
    exact ⟨id, hB, rfl, by simp [outH]⟩

end Go.Proofs.YtnaafbdgkmlnaaaGreat

/- Functions: the reference's, of logs. -/
namespace Go.Proofs.YtnaafbdgkmlnaaaGreat
set_option linter.unusedVariables false
set_option linter.unusedSimpArgs false
set_option linter.unnecessarySimpa false
set_option maxRecDepth 20000
set_option maxHeartbeats 2000000

theorem c122 (L : List R) (tx : Int) (hL : L.length ≤ 1000000) : Told 122 [.sl 8 (L.map encR), I64 tx] [] [] 0 (I64 (last L tx)) := by
  refine told_of (Keep.nil _) trivial fun B _ => ?_
  refine acallsF M0 Tryz.func122 (by kernel_rfl) fun hlt => ?_
  simp [Tryz.f122]
  refine aloop_ind (ι := Nat) (fun n => n) (fun n => n ≤ L.length ∧ lastB L tx n = last L tx) (fun n => [(0, .sl 8 (L.map encR)), (1, I64 tx), (5, I64 ((n : Int) - 1))]) (fun _ => Hp.of []) (fun _ => B) L.length ⟨Nat.le_refl _, rfl⟩ (by simp; exact w64 _ (by omega) (by omega)) (by simp) (Nat.le_refl _) ?_
  rintro A n ⟨hn, hlast⟩ ih
  refine wpC_sound M0 _ _ _ _ _ (by kernel_rfl) ?_
  cases n with
  | zero => simp [← hlast, lastB]
  | succ m =>
    have e : (((m + 1 : Nat) : Int) - 1) = m := by omega
    simp only [e]
    obtain ⟨r, hr⟩ : ∃ r, L[m]? = some r := ⟨_, List.getElem?_eq_getElem (by omega)⟩
    have hl : lastB L tx (m + 1) = if r.tx = tx then (if Ends r then 0 else m + 1) else lastB L tx m := by simp [lastB, hr]
    have w1 := w64 ((m : Int) - 1) (by omega) (by omega)
    have w2 := w64 ((m : Int) + 1) (by omega) (by omega)
    rw [← hlast, hl]
    simp [hr, encR]
    refine gC (fun h1 => ?_) (fun h1 => ?_) <;> simp at h1 <;> simp [h1, hr, encR]
    · repeat' (first
        | (refine gO (fun h => ?_) (fun h => ?_) <;> (try simp at h) <;> simp [*, Ends, encR])
        | (refine gD (fun h => ?_) (fun h => ?_) <;> (try simp at h) <;> simp [*, Ends, encR])
        | (refine gC (fun h => ?_) (fun h => ?_) <;> (try simp at h) <;> simp [*, Ends, encR]))
    · refine ih m _ _ _ (by omega) ⟨by omega, ?_⟩ (by simp [w1]) (by simp) (Nat.le_refl _)
      rw [← hlast, hl, if_neg h1]

theorem c165 (L : List R) (n0 : Nat) (hg : LogGood L) (h0 : n0 ≤ L.length) (hL : L.length ≤ 1000000) : Told 165 [.sl 8 (L.map encR), I64 n0] [] [] 0 (I64 (back L n0)) := by
  refine told_of (Keep.nil _) trivial fun B _ => ?_
  refine acallsF M0 Tryz.func165 (by kernel_rfl) fun hlt => ?_
  simp [Tryz.f165]
  refine aloop_ind (ι := Nat × Nat) (fun i => i.1) (fun i => i.1 ≤ L.length ∧ back L i.1 = back L n0) (fun i => [(0, .sl 8 (L.map encR)), (1, I64 i.1)]) (fun _ => Hp.of []) (fun i => i.2) (n0, B) ⟨h0, rfl⟩ (by simp) (by simp) (Nat.le_refl _) ?_
  rintro A ⟨n, B1⟩ ⟨hn, hlast⟩ ih
  simp only at hn hlast
  refine wpC_sound M0 _ _ _ _ _ (by kernel_rfl) ?_
  simp [cond_dec]
  constructor
  · intro hp
    obtain ⟨m, rfl⟩ : ∃ m, n = m + 1 := ⟨n - 1, by omega⟩
    obtain ⟨r, hr⟩ : ∃ r, L[m]? = some r := ⟨_, List.getElem?_eq_getElem (by omega)⟩
    have hl := back_succ hg hr
    obtain ⟨hok, hprev, hnext, _⟩ := hg m r hr
    have hpl := lastB_le L r.tx m
    have hn0 := hok.next
    have w1 := w64 ((m : Int) + 1 - 1) (by omega) (by omega)
    have hm : ((m : Int) + 1 - 1) = m := by omega
    rw [hm] at w1
    rw [← hlast, hl]
    simp [hm, w1, hr, encR]
    repeat' (first
        | (refine gO (fun h => ?_) (fun h => ?_) <;> (try simp at h) <;> simp [*, hm, hr, encR])
        | (refine gD (fun h => ?_) (fun h => ?_) <;> (try simp at h) <;> simp [*, hm, hr, encR])
        | (refine gC (fun h => ?_) (fun h => ?_) <;> (try simp at h) <;> simp [*, hm, hr, encR]))
    · refine ih (r.next.toNat, B1 + 1) _ _ _ (by simp; omega) ⟨by simp; omega, ?_⟩ (by simp; omega) (by simp) (by simp)
      rw [← hlast, hl]; simp [*]
    · refine ih (lastB L r.tx m, B1 + 1) _ _ _ (by simp; omega) ⟨by simp; omega, ?_⟩ (by simp) (by simp) (by simp)
      rw [← hlast, hl]; simp [*]
  · intro h
    have : n = 0 := by omega
    subst this
    simp [← hlast]

end Go.Proofs.YtnaafbdgkmlnaaaGreat

/- Functions: the reference's, of logs: who holds a page, what is needed. -/
namespace Go.Proofs.YtnaafbdgkmlnaaaGreat
set_option linter.unusedVariables false
set_option linter.unusedSimpArgs false
set_option linter.unnecessarySimpa false
set_option maxRecDepth 20000
set_option maxHeartbeats 2000000

def HasAt (L : List R) (n : Nat) (page : Int) : Prop := ∃ m ∈ chainAt L n, (recAt L m).page = page
instance (L : List R) (n : Nat) (page : Int) : Decidable (HasAt L n page) := by unfold HasAt; infer_instance
theorem recAt_eq {L : List R} {m : Nat} {r : R} (h : L[m]? = some r) : recAt L (m + 1) = r := by simp [recAt, h]
theorem HasAt_succ {L : List R} (hg : LogGood L) {m : Nat} {r : R} (hr : L[m]? = some r) (page : Int) : HasAt L (m + 1) page ↔ r.page = page ∨ HasAt L r.prev.toNat page := by
  have hm := (List.getElem?_eq_some_iff.1 hr).1
  simp only [HasAt, chainAt_succ hg hm, prevAt_eq hr, List.mem_cons]
  constructor
  · rintro ⟨k, rfl | hk, h⟩
    · rw [recAt_eq hr] at h; exact .inl h
    · exact .inr ⟨k, hk, h⟩
  · rintro (h | ⟨k, hk, h⟩)
    · exact ⟨m + 1, .inl rfl, by rw [recAt_eq hr]; exact h⟩
    · exact ⟨k, .inr hk, h⟩

theorem c65 (L : List R) (tx page : Int) (hg : LogGood L) (hL : L.length ≤ 1000000) : Told 65 [.sl 8 (L.map encR), I64 tx, I64 page] [] [] 0 (.bool (decide (Has L tx page))) := by
  refine told_of (Keep.nil _) trivial fun B _ => ?_
  refine acallsF M0 Tryz.func65 (by kernel_rfl) fun hlt => ?_
  simp [Tryz.f65]
  refine callw_told (c122 L tx hL) (Nat.zero_le _) (by simp) ?_
  simp
  refine aloop_ind (ι := Nat) (fun i => i) (fun i => i ≤ L.length ∧ (HasAt L i page ↔ Has L tx page)) (fun i => [(0, .sl 8 (L.map encR)), (2, I64 page), (7, I64 i)]) (fun _ => Hp.of []) (fun i => B) (last L tx) ⟨last_le _ _, Iff.rfl⟩ (by simp) (by simp) (Nat.le_refl _) ?_
  rintro A n ⟨hn, hi⟩ ih
  refine wpC_sound M0 _ _ _ _ _ (by kernel_rfl) ?_
  cases n with
  | zero =>
    simp
    rw [← hi]; simp [HasAt]
  | succ m =>
    obtain ⟨r, hr⟩ : ∃ r, L[m]? = some r := ⟨_, List.getElem?_eq_getElem (by omega)⟩
    obtain ⟨hok, hprev, hnext, _⟩ := hg m r hr
    have hpl := lastB_le L r.tx m
    have hs := HasAt_succ hg hr page
    have w1 := w64 (((m + 1 : Nat) : Int) - 1) (by omega) (by omega)
    have e : (((m + 1 : Nat) : Int) - 1) = m := by omega
    rw [e] at w1
    have hpos : (0 : Int) < ((m + 1 : Nat) : Int) := by omega
    generalize hq : ((m + 1 : Nat) : Int) = q at *
    simp [hpos, e, w1, hr, encR]
    refine gC (fun h => ?_) (fun h => ?_) <;> simp at h <;> simp [e, w1, hr, encR]
    · exact hi.1 (hs.2 (.inl h))
    · refine ih r.prev.toNat _ _ _ (by omega) ⟨by omega, ?_⟩ (by simp; omega) (by simp) (Nat.le_refl _)
      rw [← hi, hs]
      exact ⟨.inr, fun q => q.resolve_left h⟩

theorem c149 (L : List R) (hL : L.length ≤ 1000000) : Told 149 [.sl 8 (L.map encR)] [] [] 0 (I64 (first L)) := by
  refine told_of (Keep.nil _) trivial fun B _ => ?_
  refine acallsF M0 Tryz.func149 (by kernel_rfl) fun hlt => ?_
  simp [Tryz.f149]
  refine aloop_ind (ι := Nat) (fun i => 4 - i) (fun i => 1 ≤ i ∧ i ≤ 4 ∧ ∀ t : Nat, 1 ≤ t → t < i → last L t = 0) (fun i => [(0, .sl 8 (L.map encR)), (3, I64 i)]) (fun _ => Hp.of []) (fun i => B) 1 ⟨by omega, by omega, fun t h1 h2 => by omega⟩ (by simp) (by simp) (Nat.le_refl _) ?_
  rintro A n ⟨hn, hn4, hi⟩ ih
  refine wpC_sound M0 _ _ _ _ _ (by kernel_rfl) ?_
  simp
  refine gC (fun h => ?_) (fun h => ?_) <;> simp at h <;> simp
  · have w1 := w64 ((n : Int) + 1) (by omega) (by omega)
    refine callw_told (c122 L n hL) (Nat.zero_le _) (by simp) ?_
    simp
    refine gC (fun h1 => ?_) (fun h1 => ?_) <;> simp at h1 <;> simp [w1]
    · have : n = 1 ∨ n = 2 ∨ n = 3 := by omega
      have i1 := hi 1
      have i2 := hi 2
      simp at i1 i2
      rcases this with rfl | rfl | rfl <;> simp_all [first]
    · refine ih (n + 1) _ _ _ (by omega) ⟨by omega, by omega, fun t h2 h3 => ?_⟩ (by simp) (by simp) (Nat.le_refl _)
      by_cases e : t = n
      · rw [e]; omega
      · exact hi t h2 (by omega)
  · have i1 := hi 1
    have i2 := hi 2
    have i3 := hi 3
    have : n = 4 := by omega
    subst this
    simp at i1 i2 i3
    simp [first, i1, i2, i3]

theorem c205 (e : Eng) (page : Int) (hg : LogGood e.log) (hL : e.log.length ≤ 1000000) : Told 205 [.agg (encE e), I64 page] [] [] 0 (I64 (lockOf e.log page)) := by
  refine told_of (Keep.nil _) trivial fun B _ => ?_
  refine acallsF M0 Tryz.func205 (by kernel_rfl) fun hlt => ?_
  simp [Tryz.f205, encE]
  refine aloop_ind (ι := Nat) (fun i => 4 - i) (fun i => 1 ≤ i ∧ i ≤ 4 ∧ ∀ t : Nat, 1 ≤ t → t < i → ¬ Has e.log t page) (fun i => [(1, I64 page), (2, .qe (encE e)), (5, I64 i)]) (fun _ => Hp.of []) (fun i => B) 1 ⟨by omega, by omega, fun t h1 h2 => by omega⟩ (by simp [encE]) (by simp) (Nat.le_refl _) ?_
  rintro A n ⟨hn, hn4, hi⟩ ih
  refine wpC_sound M0 _ _ _ _ _ (by kernel_rfl) ?_
  simp
  refine gC (fun h => ?_) (fun h => ?_) <;> simp at h <;> simp [encE]
  · have w1 := w64 ((n : Int) + 1) (by omega) (by omega)
    refine callw_told (c65 e.log n page hg hL) (Nat.zero_le _) (by simp) ?_
    simp
    refine gC (fun h1 => ?_) (fun h1 => ?_) <;> simp at h1 <;> simp [w1]
    · have : n = 1 ∨ n = 2 ∨ n = 3 := by omega
      have i1 := hi 1
      have i2 := hi 2
      simp at i1 i2
      rcases this with rfl | rfl | rfl <;> simp_all [lockOf]
    · refine ih (n + 1) _ _ _ (by omega) ⟨by omega, by omega, fun t h2 h3 => ?_⟩ (by simp [encE]) (by simp) (Nat.le_refl _)
      by_cases e : t = n
      · rw [e]; exact h1
      · exact hi t h2 (by omega)
  · have i1 := hi 1
    have i2 := hi 2
    have i3 := hi 3
    have : n = 4 := by omega
    subst this
    simp at i1 i2 i3
    simp [lockOf, i1, i2, i3]

end Go.Proofs.YtnaafbdgkmlnaaaGreat

/- Engines, as plain Lean: what is done with them (the reference's steps). -/
namespace Go.Proofs.YtnaafbdgkmlnaaaGreat
set_option linter.unusedVariables false

/-- An engine, as cells; x, y: its pages. -/
def encG (x y : AV) (e : Eng) : List AV := [x, y, .sl 8 (e.log.map encR), I64 e.safe, .bool e.down]
def pgs (ps : List Pg) : Blk := ⟨38, 3, ps.map encP⟩
def encN (D M : Nat) (e : Eng) : List AV := encG (.ref D 3 0 5) (.ref M 3 0 5) e
def ebl (D M : Nat) (e : Eng) : List (Nat × Blk) := [(D, pgs e.disk), (M, pgs e.mem)]


end Go.Proofs.YtnaafbdgkmlnaaaGreat

/- Functions: the reference's, of logs: what is needed, what is loaded. -/
namespace Go.Proofs.YtnaafbdgkmlnaaaGreat
set_option linter.unusedVariables false
set_option linter.unusedSimpArgs false
set_option linter.unnecessarySimpa false
set_option maxRecDepth 20000
set_option maxHeartbeats 2000000

theorem undosAt_len {L : List R} (h : LogGood L) : ∀ (n : Nat), n ≤ L.length → (undosAt L n).length ≤ n := by
  intro n
  induction n using Nat.strongRecOn with
  | _ n ih =>
    intro hn
    have hb := back_le h hn
    cases hm : back L n with
    | zero => rw [undosAt_nil hm]; simp
    | succ m =>
      rw [undosAt_succ h hn hm]
      have := h.prevAt_le (n := m) (by omega)
      have := ih (prevAt L (m + 1)) (by omega) (by omega)
      simp; omega

def uLen (L : List R) (m : Nat) : Nat := if m = 0 then 0 else (undosAt L (prevAt L m)).length + 1
theorem uLen_back {L : List R} (h : LogGood L) {n : Nat} (hn : n ≤ L.length) : (undosAt L n).length = uLen L (back L n) := by
  cases hm : back L n with
  | zero => rw [undosAt_nil hm]; rfl
  | succ m => rw [undosAt_succ h hn hm]; simp [uLen]
def needB (L : List R) : Nat → Nat
  | 0 => 0
  | k + 1 => needB L k + needTx L ((k + 1 : Nat) : Int)
theorem needB_3 (L : List R) : needB L 3 = need L := by simp [needB, need]
theorem needTx_eq {L : List R} (h : LogGood L) (tx : Int) : needTx L tx = (if 0 < last L tx then 1 else 0) + uLen L (back L (last L tx)) := by
  unfold needTx undos
  rw [uLen_back h (last_le L tx)]
  by_cases h0 : last L tx = 0
  · simp [h0, uLen]
  · rw [if_neg h0, if_pos (by omega)]; omega
theorem needTx_le {L : List R} (h : LogGood L) (tx : Int) : needTx L tx ≤ L.length + 1 := by
  unfold needTx undos
  have := undosAt_len h _ (last_le L tx)
  have := last_le L tx
  split <;> omega
theorem needB_le {L : List R} (h : LogGood L) : ∀ k, needB L k ≤ k * (L.length + 1)
  | 0 => by simp [needB]
  | k + 1 => by
    have := needB_le h k
    have := needTx_le h ((k + 1 : Nat) : Int)
    simp only [needB, Nat.add_mul]
    omega

theorem c105 (L : List R) (hg : LogGood L) (hL : L.length ≤ 1000000) : Told 105 [.sl 8 (L.map encR)] [] [] 0 (I64 (need L)) := by
  refine told_of (Keep.nil _) trivial fun B _ => ?_
  refine acallsF M0 Tryz.func105 (by kernel_rfl) fun hlt => ?_
  simp [Tryz.f105]
  refine aloop_ind (ι := Nat) (fun i => 4 - i) (fun i => 1 ≤ i ∧ i ≤ 4) (fun i => [(0, .sl 8 (L.map encR)), (3, I64 (needB L (i - 1))), (4, I64 i)]) (fun _ => Hp.of []) (fun i => B) 1 ⟨by omega, by omega⟩ (by simp [needB]) (by simp) (Nat.le_refl _) ?_
  rintro A n ⟨hn, hn4⟩ ih
  refine wpC_sound M0 _ _ _ _ _ (by kernel_rfl) ?_
  simp
  refine gC (fun h => ?_) (fun h => ?_) <;> simp at h <;> simp
  · obtain ⟨k, rfl⟩ : ∃ k, n = k + 1 := ⟨n - 1, by omega⟩
    have hb1 := needB_le hg k
    have hb2 := needB_le hg (k + 1)
    have hk3 : k ≤ 2 := by omega
    have hk1 : k * (L.length + 1) ≤ 2 * (L.length + 1) := Nat.mul_le_mul_right _ hk3
    have hk2 : (k + 1) * (L.length + 1) ≤ 3 * (L.length + 1) := Nat.mul_le_mul_right _ (by omega)
    have hlast := last_le L ((k + 1 : Nat) : Int)
    have hnt := needTx_eq hg ((k + 1 : Nat) : Int)
    have hnb : needB L (k + 1) = needB L k + needTx L ((k + 1 : Nat) : Int) := rfl
    have hbk := back_le hg hlast
    have e1 : k + 1 - 1 = k := by omega
    simp only [e1]
    generalize hq : ((k + 1 : Nat) : Int) = q at *
    refine callw_told (c122 L q hL) (Nat.zero_le _) (by simp) ?_
    have w0 := w64 ((needB L k : Int) + 1) (by omega) (by omega)
    have wq := w64 (q + 1) (by omega) (by omega)
    simp
    refine gC (fun h1 => ?_) (fun h1 => ?_) <;> simp at h1 <;> simp [w0]
    · refine callw_told (c165 L (last L q) hg hlast hL) (Nat.zero_le _) (by simp) ?_
      simp
      refine aloop_ind (ι := Nat × Nat) (fun i => i.1) (fun i => i.1 ≤ L.length ∧ i.2 + uLen L i.1 = needB L (k + 1)) (fun i => [(0, .sl 8 (L.map encR)), (3, I64 i.2), (4, I64 q), (5, I64 i.1)]) (fun _ => Hp.of []) (fun i => B) (back L (last L q), needB L k + 1) ⟨by simp; omega, by simp [h1] at hnt; simp [hnb, hnt]; omega⟩ (by simp) (by simp) (Nat.le_refl _) ?_
      rintro A2 ⟨m, c⟩ ⟨hm, hc⟩ ih2
      simp only at hm hc
      refine wpC_sound M0 _ _ _ _ _ (by kernel_rfl) ?_
      cases m with
      | zero =>
        simp [wq]
        refine ih (k + 2) _ _ _ (by omega) ⟨by omega, by omega⟩ ?_ (by simp) (Nat.le_refl _)
        have e2 : k + 2 - 1 = k + 1 := by omega
        have e3 : ((k + 2 : Nat) : Int) = q + 1 := by omega
        simp [e2, e3]
        simp [uLen] at hc
        omega
      | succ m =>
        obtain ⟨r, hr⟩ : ∃ r, L[m]? = some r := ⟨_, List.getElem?_eq_getElem (by omega)⟩
        obtain ⟨hok, hprev, hnext, _⟩ := hg m r hr
        have hpl := lastB_le L r.tx m
        have hu : uLen L (m + 1) = uLen L (back L (lastB L r.tx m)) + 1 := by
          have e4 : r.prev.toNat = lastB L r.tx m := by omega
          rw [← uLen_back hg (by omega)]; simp [uLen, prevAt_eq hr, e4]
        have hbk2 := back_le hg (n := lastB L r.tx m) (by omega)
        have w1 := w64 (((m + 1 : Nat) : Int) - 1) (by omega) (by omega)
        have w2 := w64 ((c : Int) + 1) (by omega) (by omega)
        have e : (((m + 1 : Nat) : Int) - 1) = m := by omega
        rw [e] at w1
        have hpos : (0 : Int) < ((m + 1 : Nat) : Int) := by omega
        generalize hz : ((m + 1 : Nat) : Int) = z at *
        simp [hpos, e, w1, w2, hr, encR, hprev]
        refine callw_told (c165 L (lastB L r.tx m) hg (by omega) hL) (Nat.zero_le _) (by simp) ?_
        simp
        refine ih2 (back L (lastB L r.tx m), c + 1) _ _ _ (by simp; omega) ⟨by simp; omega, by simp; omega⟩ (by simp) (by simp) (Nat.le_refl _)
    · refine callw_told (c165 L (last L q) hg hlast hL) (Nat.zero_le _) (by simp) ?_
      simp
      refine aloop_ind (ι := Nat × Nat) (fun i => i.1) (fun i => i.1 ≤ L.length ∧ i.2 + uLen L i.1 = needB L (k + 1)) (fun i => [(0, .sl 8 (L.map encR)), (3, I64 i.2), (4, I64 q), (5, I64 i.1)]) (fun _ => Hp.of []) (fun i => B) (back L (last L q), needB L k) ⟨by simp; omega, by simp [h1] at hnt; simp [hnb, hnt, h1]⟩ (by simp) (by simp) (Nat.le_refl _) ?_
      rintro A2 ⟨m, c⟩ ⟨hm, hc⟩ ih2
      simp only at hm hc
      refine wpC_sound M0 _ _ _ _ _ (by kernel_rfl) ?_
      cases m with
      | zero =>
        simp [wq]
        refine ih (k + 2) _ _ _ (by omega) ⟨by omega, by omega⟩ ?_ (by simp) (Nat.le_refl _)
        have e2 : k + 2 - 1 = k + 1 := by omega
        have e3 : ((k + 2 : Nat) : Int) = q + 1 := by omega
        simp [e2, e3]
        simp [uLen] at hc
        omega
      | succ m =>
        obtain ⟨r, hr⟩ : ∃ r, L[m]? = some r := ⟨_, List.getElem?_eq_getElem (by omega)⟩
        obtain ⟨hok, hprev, hnext, _⟩ := hg m r hr
        have hpl := lastB_le L r.tx m
        have hu : uLen L (m + 1) = uLen L (back L (lastB L r.tx m)) + 1 := by
          have e4 : r.prev.toNat = lastB L r.tx m := by omega
          rw [← uLen_back hg (by omega)]; simp [uLen, prevAt_eq hr, e4]
        have hbk2 := back_le hg (n := lastB L r.tx m) (by omega)
        have w1 := w64 (((m + 1 : Nat) : Int) - 1) (by omega) (by omega)
        have w2 := w64 ((c : Int) + 1) (by omega) (by omega)
        have e : (((m + 1 : Nat) : Int) - 1) = m := by omega
        rw [e] at w1
        have hpos : (0 : Int) < ((m + 1 : Nat) : Int) := by omega
        generalize hz : ((m + 1 : Nat) : Int) = z at *
        simp [hpos, e, w1, w2, hr, encR, hprev]
        refine callw_told (c165 L (lastB L r.tx m) hg (by omega) hL) (Nat.zero_le _) (by simp) ?_
        simp
        refine ih2 (back L (lastB L r.tx m), c + 1) _ _ _ (by simp; omega) ⟨by simp; omega, by simp; omega⟩ (by simp) (by simp) (Nat.le_refl _)
  · have : n = 4 := by omega
    subst this
    simp [needB_3]

end Go.Proofs.YtnaafbdgkmlnaaaGreat

/- Functions: numbers and records. -/
namespace Go.Proofs.YtnaafbdgkmlnaaaGreat
set_option linter.unusedVariables false
set_option linter.unusedSimpArgs false
set_option linter.unnecessarySimpa false

theorem c64 (n lo hi : Int) : Told 64 [I64 n, I64 lo, I64 hi] [] [] 0 (.bool (decide (In n lo hi))) := by
  refine told_of (Keep.nil _) trivial fun B _ => ?_
  refine acallsF M0 Tryz.func64 (by kernel_rfl) fun hlt => ?_
  simp +contextual [guard_dec, guard_ndec, cond_dec, cond_ndec, Tryz.f64, In, -Int.not_le, -Int.not_lt]
theorem c68 (n lo hi : Int) : Told 68 [I64 n, I64 lo, I64 hi] [] [] 0 (.bool (decide (In n lo hi))) := by
  refine told_of (Keep.nil _) trivial fun B _ => ?_
  refine acallsF M0 Tryz.func68 (by kernel_rfl) fun hlt => ?_
  simp +contextual [guard_dec, guard_ndec, cond_dec, cond_ndec, Tryz.f68, In, -Int.not_le, -Int.not_lt]

/-! What is known of calls so far. -/
def an1 : FuncId → List AV → Option AV
  | 64, [.int .i64 n, .int .i64 lo, .int .i64 hi] => some (.bool (decide (In n lo hi)))
  | 68, [.int .i64 n, .int .i64 lo, .int .i64 hi] => some (.bool (decide (In n lo hi)))
  | _, _ => none
theorem an1_ok : ∀ f args v, an1 f args = some v → Told f args [] [] 0 v := by
  intro f args v h
  unfold an1 at h
  split at h
  · cases h; exact c64 _ _ _
  · cases h; exact c68 _ _ _
  · cases h
def M1 : Cfg := ⟨fun _ => false, an1, an1_ok⟩
@[simp] theorem M1_mu (d : Nat) : M1.mu d = false := nr rfl
@[simp] theorem M1_an (f : FuncId) (xs : List AV) : M1.an f xs = an1 f xs := nr rfl
attribute [simp] an1

theorem c112 (n : Int) : Told 112 [I64 n] [] [] 0 (.bool (decide (In n 0 4))) := by
  refine told_of (Keep.nil _) trivial fun B _ => ?_
  refine acallsF M1 Tryz.func112 (by kernel_rfl) fun hlt => ?_
  simp +contextual [guard_dec, guard_ndec, cond_dec, cond_ndec, Tryz.f112, -Int.not_le, -Int.not_lt]
theorem c195 (n : Int) : Told 195 [I64 n] [] [] 0 (.bool (decide (In n 1 3))) := by
  refine told_of (Keep.nil _) trivial fun B _ => ?_
  refine acallsF M1 Tryz.func195 (by kernel_rfl) fun hlt => ?_
  simp +contextual [guard_dec, guard_ndec, cond_dec, cond_ndec, Tryz.f195, -Int.not_le, -Int.not_lt]

theorem c134 (r : R) : Told 134 [.agg (encR r)] [] [] 0 (.bool (decide (Ends r))) := by
  refine told_of (Keep.nil _) trivial fun B _ => ?_
  refine acallsF M1 Tryz.func134 (by kernel_rfl) fun hlt => ?_
  simp +contextual [guard_dec, guard_ndec, cond_dec, cond_ndec, Tryz.f134, encR, Ends, -Int.not_le, -Int.not_lt]
theorem c143 (r : R) : Told 143 [.agg (encR r)] [] [] 0 (.bool (decide (Changes r.kind))) := by
  refine told_of (Keep.nil _) trivial fun B _ => ?_
  refine acallsF M1 Tryz.func143 (by kernel_rfl) fun hlt => ?_
  simp +contextual [guard_dec, guard_ndec, cond_dec, cond_ndec, Tryz.f143, encR, Changes, -Int.not_le, -Int.not_lt]
theorem c163 (k : Int) : Told 163 [I64 k] [] [] 0 (.bool (decide (Changes k))) := by
  refine told_of (Keep.nil _) trivial fun B _ => ?_
  refine acallsF M1 Tryz.func163 (by kernel_rfl) fun hlt => ?_
  simp +contextual [guard_dec, guard_ndec, cond_dec, cond_ndec, Tryz.f163, Changes, -Int.not_le, -Int.not_lt]
theorem c119 (r : R) : Told 119 [.agg (encR r)] [] [] 0 (.bool true) := by
  refine told_of (Keep.nil _) trivial fun B _ => ?_
  refine acallsF M1 Tryz.func119 (by kernel_rfl) fun hlt => ?_
  simp +contextual [guard_dec, guard_ndec, cond_dec, cond_ndec, Tryz.f119, encR, -Int.not_le, -Int.not_lt]
theorem c193 (r : R) : Told 193 [.agg (encR r)] [] [] 0 (.bool (decide (r.kind = 3))) := by
  refine told_of (Keep.nil _) trivial fun B _ => ?_
  refine acallsF M1 Tryz.func193 (by kernel_rfl) fun hlt => ?_
  simp +contextual [guard_dec, guard_ndec, cond_dec, cond_ndec, Tryz.f193, encR, -Int.not_le, -Int.not_lt]
theorem c155 (r : R) (prev : Int) : Told 155 [.agg (encR r), I64 prev] [] [] 0 (.agg (encR (backR r prev))) := by
  refine told_of (Keep.nil _) (by simp [AV.lt, AV.ltL, encR]) fun B _ => ?_
  refine acallsF M1 Tryz.func155 (by kernel_rfl) fun hlt => ?_
  simp [Tryz.f155, encR, backR, -Int.not_le, -Int.not_lt]
theorem c166 (r : R) (prev : Int) : Told 166 [.agg (encR r), I64 prev] [] [] 0 (.agg (encR (backR r prev))) := by
  refine told_of (Keep.nil _) (by simp [AV.lt, AV.ltL, encR]) fun B _ => ?_
  refine acallsF M1 Tryz.func166 (by kernel_rfl) fun hlt => ?_
  simp [Tryz.f166, encR, backR, -Int.not_le, -Int.not_lt]

/-! What is known of calls so far. -/
def an2 : FuncId → List AV → Option AV
  | 64, [.int .i64 n, .int .i64 lo, .int .i64 hi] => some (.bool (decide (In n lo hi)))
  | 68, [.int .i64 n, .int .i64 lo, .int .i64 hi] => some (.bool (decide (In n lo hi)))
  | 112, [.int .i64 n] => some (.bool (decide (In n 0 4)))
  | 195, [.int .i64 n] => some (.bool (decide (In n 1 3)))
  | 163, [.int .i64 k] => some (.bool (decide (Changes k)))
  | _, _ => none
theorem an2_ok : ∀ f args v, an2 f args = some v → Told f args [] [] 0 v := by
  intro f args v h
  unfold an2 at h
  split at h <;> cases h
  · exact c64 _ _ _
  · exact c68 _ _ _
  · exact c112 _
  · exact c195 _
  · exact c163 _
def M2 : Cfg := ⟨fun _ => false, an2, an2_ok⟩
@[simp] theorem M2_mu (d : Nat) : M2.mu d = false := nr rfl
@[simp] theorem M2_an (f : FuncId) (xs : List AV) : M2.an f xs = an2 f xs := nr rfl
attribute [simp] an2

end Go.Proofs.YtnaafbdgkmlnaaaGreat

/- Functions: records. -/
namespace Go.Proofs.YtnaafbdgkmlnaaaGreat
set_option linter.unusedVariables false
set_option linter.unusedSimpArgs false
set_option linter.unnecessarySimpa false
set_option maxRecDepth 20000
set_option maxHeartbeats 2000000

theorem In_m1 : In (-1) 0 2 = False := by simp [In]
theorem In_m1' : In (-1) (-1) 2 = True := by simp [In]
theorem In_00 (n : Int) (h : 0 ≤ n) : In 0 0 n = True := by simp [In, h]
theorem c133 (r : R) : Told 133 [.agg (encR r)] [] [] 0 (.bool (decide (RecOkP r))) := by
  refine told_of (Keep.nil _) trivial fun B _ => ?_
  refine acallsF M2 Tryz.func133 (by kernel_rfl) fun hlt => ?_
  simp [Tryz.f133, encR, In_m1]
  repeat' (first
    | (refine gO (fun h => ?_) (fun h => ?_) <;> (try simp [-Int.not_le, -Int.not_lt] at h) <;> simp [*, In_m1])
    | (refine gC (fun h => ?_) (fun h => ?_) <;> (try simp [-Int.not_le, -Int.not_lt] at h) <;> simp [*, In_m1]))
  all_goals clear hlt
  all_goals (simp only [RecOkP, PutOk, OwnOk, LoadOk, EndOk, UndoOk, In] at *; omega)

def OfOk (r : R) : Prop := In r.page 0 4 ∧ In r.slot (-1) 2 ∧ ((r.slot < 0 ∧ In r.old 0 3 ∧ In r.new 0 3) ∨ (¬ r.slot < 0 ∧ In r.old 0 9 ∧ In r.new 0 9))
instance (r : R) : Decidable (OfOk r) := by unfold OfOk; infer_instance
theorem c203 (r : R) : Told 203 [.agg (encR r)] [] [] 0 (.bool (decide (OfOk r))) := by
  refine told_of (Keep.nil _) trivial fun B _ => ?_
  refine acallsF M2 Tryz.func203 (by kernel_rfl) fun hlt => ?_
  simp [Tryz.f203, encR]
  repeat' (first
    | (refine gO (fun h => ?_) (fun h => ?_) <;> (try simp [-Int.not_le, -Int.not_lt] at h) <;> simp [*, In_m1])
    | (refine gD (fun h => ?_) (fun h => ?_) <;> (try simp [-Int.not_le, -Int.not_lt] at h) <;> simp [*, In_m1])
    | (refine gC (fun h => ?_) (fun h => ?_) <;> (try simp [-Int.not_le, -Int.not_lt] at h) <;> simp [*, In_m1]))
  all_goals clear hlt
  all_goals (simp only [OfOk, In] at *; omega)

end Go.Proofs.YtnaafbdgkmlnaaaGreat
