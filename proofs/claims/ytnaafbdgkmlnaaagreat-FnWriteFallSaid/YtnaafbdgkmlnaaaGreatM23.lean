/- Laws about the machine's run of the program's functions, part 23, in import order. No condition. -/
import Derived.Test.YtnaafbdgkmlnaaaGreatM20
import Derived.Test.YtnaafbdgkmlnaaaGreatM22

set_option linter.unusedVariables false
set_option linter.unusedSimpArgs false
set_option linter.unnecessarySimpa false
/- Functions: do pages stay valid, when all is undone? (The program's.) -/
namespace Go.Proofs.YtnaafbdgkmlnaaaGreat
set_option linter.unusedVariables false
set_option linter.unusedSimpArgs false
set_option linter.unnecessarySimpa false
set_option maxRecDepth 20000
set_option maxHeartbeats 2000000

theorem undosAt_mem {L : List R} (h : LogGood L) : ∀ (n : Nat), n ≤ L.length → ∀ m ∈ undosAt L n, 0 < m ∧ m ≤ L.length := by
  intro n
  induction n using Nat.strongRecOn with
  | _ n ih =>
    intro hn m hm
    have hb := back_le h hn
    cases hk : back L n with
    | zero => rw [undosAt_nil hk] at hm; cases hm
    | succ k =>
      rw [undosAt_succ h hn hk] at hm
      have := h.prevAt_le (n := k) (by omega)
      rcases List.mem_cons.1 hm with rfl | hm
      · omega
      · exact ih (prevAt L (k + 1)) (by omega) (by omega) m hm
def remL (L : List R) : List Int → List Nat
  | [] => []
  | t :: ts => undos L t ++ remL L ts
theorem remL_opn (L : List R) : remL L (opn L) = allUndos L := by
  have hz : ∀ t, last L t = 0 → undos L t = [] := fun t h => by simp only [undos, h]; rfl
  have z1 := hz 1; have z2 := hz 2; have z3 := hz 3
  simp only [opn, allUndos]
  by_cases h1 : last L 1 = 0 <;> by_cases h2 : last L 2 = 0 <;> by_cases h3 : last L 3 = 0 <;> simp_all [remL]

theorem a142 (id : Nat) (ps : List Pg) (L : List R) (hps : ShP ps) (hg : LogGood L) (hl : L.length ≤ 1000000) (B : Nat) (hid : id < B) :
    ACalls PP 142 [.ref id 3 0 5, .sl 8 (L.map encR)] (Hp.of [(id, ⟨38, 3, ps.map encP⟩)]) B (fun v _ _ => v = .bool (decide (Undone ps L))) := by
  refine acallsF M3 Tryz.func142 (by kernel_rfl) fun hlt => ?_
  simp [Tryz.f142]
  refine callw_told (c73 L hl) (Nat.zero_le _) (by simp) ?_
  simp
  have hol := opn_len L
  refine aloop_ind (ι := (Nat × List Pg) × Nat) (fun i => (opn L).length - i.1.1) (fun i => i.1.1 ≤ (opn L).length ∧ ShP i.1.2 ∧ (UndoneL L (remL L ((opn L).drop i.1.1)) i.1.2 ↔ Undone ps L) ∧ id < i.2) (fun i => [(0, .ref id 3 0 5), (1, .sl 8 (L.map encR)), (12, .sl 1 (ints (opn L))), (13, I64 (opn L).length), (14, I64 i.1.1)]) (fun i => Hp.of [(id, ⟨38, 3, i.1.2.map encP⟩)]) (fun i => i.2) ((0, ps), B) ⟨Nat.zero_le _, hps, by simp [remL_opn, Undone], hid⟩ (by simp) (by simp) (Nat.le_refl _) ?_
  rintro A ⟨⟨n, qs⟩, B1⟩ ⟨hn, hsh, hU, hB1⟩ ih
  simp only at hn hsh hU hB1
  refine wpC_sound M3 _ _ _ _ _ (by kernel_rfl) ?_
  simp [cond_dec]
  constructor
  · intro hlt'
    obtain ⟨t, ht⟩ : ∃ t, (opn L)[n]? = some t := ⟨_, List.getElem?_eq_getElem hlt'⟩
    have e1 := ints_at ht
    obtain ⟨h1, h2⟩ := List.getElem?_eq_some_iff.1 ht
    rw [List.drop_eq_getElem_cons hlt', h2, remL] at hU
    have wn := w64 ((n : Int) + 1) (by omega) (by omega)
    have hul := undosAt_len hg _ (last_le L t)
    have hll := last_le L t
    have hul2 : (undos L t).length ≤ L.length := by simp only [undos]; omega
    simp [e1]
    refine callw_told (c169 L t hg hl) (Nat.zero_le _) (by simp) ?_
    simp
    refine aloop_ind (ι := (Nat × List Pg) × Nat) (fun i => (undos L t).length - i.1.1) (fun i => i.1.1 ≤ (undos L t).length ∧ ShP i.1.2 ∧ (UndoneL L ((undos L t).drop i.1.1 ++ remL L ((opn L).drop (n + 1))) i.1.2 ↔ Undone ps L) ∧ id < i.2) (fun i => [(0, .ref id 3 0 5), (1, .sl 8 (L.map encR)), (12, .sl 1 (ints (opn L))), (13, I64 (opn L).length), (14, I64 n), (20, .sl 1 (ints (nats (undos L t)))), (21, I64 (undos L t).length), (22, I64 i.1.1)]) (fun i => Hp.of [(id, ⟨38, 3, i.1.2.map encP⟩)]) (fun i => i.2) ((0, qs), B1) ⟨Nat.zero_le _, hsh, hU, hB1⟩ (by simp) (by simp) (Nat.le_refl _) ?_
    rintro A2 ⟨⟨j, qs2⟩, B2⟩ ⟨hj, hsh2, hU2, hB2⟩ ih2
    simp only at hj hsh2 hU2 hB2
    refine wpC_sound M3 _ _ _ _ _ (by kernel_rfl) ?_
    simp [cond_dec]
    constructor
    · intro hltj
      obtain ⟨z, hz⟩ : ∃ z, (undos L t)[j]? = some z := ⟨_, List.getElem?_eq_getElem hltj⟩
      have hzm := undosAt_mem hg _ hll z (List.mem_of_getElem? hz)
      obtain ⟨m, rfl⟩ : ∃ m, z = m + 1 := ⟨z - 1, by omega⟩
      have e2 : (ints (nats (undos L t)))[j]? = some [I64 ((m + 1 : Nat) : Int)] := ints_at (by simp [nats, hz])
      obtain ⟨g1, g2⟩ := List.getElem?_eq_some_iff.1 hz
      rw [List.drop_eq_getElem_cons hltj, g2, List.cons_append, UndoneL_cons] at hU2
      obtain ⟨r, hr⟩ : ∃ r, L[m]? = some r := ⟨_, List.getElem?_eq_getElem (by omega)⟩
      obtain ⟨hok, hprev, hnext, _⟩ := hg m r hr
      have hrec := recAt_eq hr
      have hpg := hok.page
      obtain ⟨q1, q2⟩ := hsh2.at hpg.1 hpg.2
      have hp5 : r.page < 5 := by omega
      have hql : qs2.length = 5 := hsh2.1
      have hpl2 : r.page.toNat < qs2.length := by omega
      have wj := w64 ((j : Int) + 1) (by omega) (by omega)
      have w1 := w64 (((m + 1 : Nat) : Int) - 1) (by omega) (by omega)
      have e : (((m + 1 : Nat) : Int) - 1) = m := by omega
      rw [e] at w1
      have h144 := c144 (pgAt qs2 r.page) (backR r 0) q2 (by have := hok.slot; simp [backR]; omega)
      have hup : undoPg L qs2 (m + 1) = wr (pgAt qs2 r.page) (backR r 0) (pgAt qs2 r.page).lsn := by simp [undoPg, hrec]
      obtain ⟨u, hu⟩ : ∃ u, u = wr (pgAt qs2 r.page) (backR r 0) (pgAt qs2 r.page).lsn := ⟨_, rfl⟩
      rw [← hu] at h144 hup
      have hul' : u.vals.length = 3 := by rw [hu]; exact wr_len _ _ _ q2
      have h141 := c141 u (by omega)
      simp only [encP, pgRow, encR, backR] at h144 h141
      rw [hup, hrec] at hU2
      generalize hzz : ((m + 1 : Nat) : Int) = zz at *
      have hn1 : ¬ id = B2 := by omega
      have hn2 : ¬ id = B2 + 1 := by omega
      simp [e2, e, w1, hr, encR, backR, hpg.1, hp5, q1, encP, pgRow, Hp.of, hn1, hn2]
      refine calld_told h144 (Nat.zero_le _) (by simp) ?_
      simp [e2, e, w1, hr, encR, backR, hpg.1, hp5, encP, pgRow, Hp.of, hn1, hn2]
      refine ⟨chkW_tk [id, B2, B2 + 1] [⟨[], [], false⟩, ⟨[], [], false⟩, ⟨[1], [], false⟩, ⟨[], [], false⟩, ⟨[0], [], false⟩, ⟨[1], [], false⟩, ⟨[], [], false⟩, ⟨[], [2], true⟩, ⟨[2], [2], false⟩] (by simp; omega) rfl (by kernel_rfl), ?_⟩
      refine callw_told h141 (Nat.zero_le _) (by simp) ?_
      simp
      have hsh3 := hsh2.set r.page hul'
      have hset : (qs2.map encP).set r.page.toNat [I64 u.lsn, I64 u.owner, .sl 1 (ints u.vals)] = (pgSet qs2 r.page u).map encP := by
        rw [pgSet, ← map_set_enc]; rfl
      refine gC (fun c1 => ?_) (fun c1 => ?_) <;> simp at c1 <;> simp [hn1, hn2, hpg.1, hp5, hpl2, hset, wj]
      · intro hh; exact c1 (hU2.2 hh).1
      · refine ih2 ((j + 1, pgSet qs2 r.page u), B2 + 2) _ _ _ (by simp; omega) ⟨by simp; omega, hsh3, ?_, by simp; omega⟩ (by simp) ?_ (by simp)
        · rw [← hU2]; exact ⟨fun h => ⟨c1, h⟩, fun h => h.2⟩
        · intro i k' hk'
          simp only [Hp.of, Hp.set_app, Hp.nil_app] at hk' ⊢
          split at hk'
          · rename_i ei; rw [if_pos ei]; exact hk'
          · cases hk'
    · intro hge
      obtain rfl : j = (undos L t).length := by omega
      simp at hU2
      simp [wn]
      refine ih ((n + 1, qs2), B2) _ _ _ (by simp; omega) ⟨by simp; omega, hsh2, hU2, hB2⟩ (by simp) (by simp) (Nat.le_refl _)
  · intro h
    obtain rfl : n = (opn L).length := by omega
    simp [remL, UndoneL_nil] at hU
    simp [hU]

end Go.Proofs.YtnaafbdgkmlnaaaGreat

/- The table of known calls. (Printed by wip/mk.py, wip/tab.py.) -/
namespace Go.Proofs.YtnaafbdgkmlnaaaGreat
set_option linter.unusedVariables false
set_option linter.unusedSimpArgs false
set_option maxRecDepth 20000
set_option maxHeartbeats 2000000

noncomputable instance (L : List R) : Decidable (LogGood L) := Classical.propDecidable _
noncomputable instance (S : List Pg) : Decidable (ShortPs S) := Classical.propDecidable _
theorem c105t (L : List R) (h : LogGood L ∧ L.length ≤ 1000000) : Told 105 [.sl 8 (L.map encR)] [] [] 0 (I64 (need L)) := c105 L h.1 h.2
theorem c107t (p q : Pg) (h : PageOkP p ∧ PageOkP q) : Told 107 [.agg (encP p), .agg (encP q)] [] [] 0 (.bool (decide (p = q))) := c107 p q h.1 h.2
theorem c108t (L : List R) (n : Int) (h : LogGood L ∧ L.length ≤ 1000000) : Told 108 [.sl 8 (L.map encR), I64 n] [] [] 0 (.bool (decide (Loaded L n))) := c108 L n h.1 h.2
theorem c109t (e : Eng) (n : Int) (h : PagesOkP e.disk ∧ PagesOkP e.mem ∧ e.log.length ≤ 1000000 ∧ 0 ≤ n ∧ n ≤ 4) : Told 109 [.agg (encE e), I64 n] [] [] 0 (.bool (decide (Fresh e n))) := c109 e n h.1 h.2.1 h.2.2.1 h.2.2.2.1 h.2.2.2.2
theorem c65t (L : List R) (n m : Int) (h : LogGood L ∧ L.length ≤ 1000000) : Told 65 [.sl 8 (L.map encR), I64 n, I64 m] [] [] 0 (.bool (decide (Has L n m))) := c65 L n m h.1 h.2

noncomputable def an_M5 (f : FuncId) (args : List AV) : Option AV :=
  if f = 64 then anIn (fun n lo hi => some (.bool (decide (In n lo hi)))) args else
  if f = 68 then anIn (fun n lo hi => some (.bool (decide (In n lo hi)))) args else
  if f = 112 then anI (fun n => some (.bool (decide (In n 0 4)))) args else
  if f = 195 then anI (fun n => some (.bool (decide (In n 1 3)))) args else
  if f = 163 then anI (fun n => some (.bool (decide (Changes n)))) args else
  if f = 134 then anR (fun r => some (.bool (decide (Ends r)))) args else
  if f = 143 then anR (fun r => some (.bool (decide (Changes r.kind)))) args else
  if f = 119 then anR (fun r => some (.bool true)) args else
  if f = 193 then anR (fun r => some (.bool (decide (r.kind = 3)))) args else
  if f = 155 then anRI (fun r n => some (.agg (encR (backR r n)))) args else
  if f = 166 then anRI (fun r n => some (.agg (encR (backR r n)))) args else
  if f = 203 then anR (fun r => some (.bool (decide (OfOk r)))) args else
  if f = 133 then anR (fun r => some (.bool (decide (RecOkP r)))) args else
  if f = 102 then anS (fun S => if ShortPs S then some (.bool (decide (PagesOkP S))) else none) args else
  if f = 103 then anL (fun L => if L.length ≤ 1000000 then some (.bool (decide (LogOkP L))) else none) args else
  if f = 105 then anL (fun L => if LogGood L ∧ L.length ≤ 1000000 then some (I64 (need L)) else none) args else
  if f = 107 then anPP (fun p q => if PageOkP p ∧ PageOkP q then some (.bool (decide (p = q))) else none) args else
  if f = 108 then anLI (fun L n => if LogGood L ∧ L.length ≤ 1000000 then some (.bool (decide (Loaded L n))) else none) args else
  if f = 109 then anEI (fun e n => if PagesOkP e.disk ∧ PagesOkP e.mem ∧ e.log.length ≤ 1000000 ∧ 0 ≤ n ∧ n ≤ 4 then some (.bool (decide (Fresh e n))) else none) args else
  if f = 65 then anLII (fun L n m => if LogGood L ∧ L.length ≤ 1000000 then some (.bool (decide (Has L n m))) else none) args else
  none
theorem an_M5_ok : ∀ f args v, an_M5 f args = some v → Told f args [] [] 0 v := by
  intro f args v h
  delta an_M5 at h
  rcases ite_or h with ⟨e, h⟩ | ⟨_, h⟩; · subst e; obtain ⟨_, _, _, rfl, h1⟩ := anIn_inv h; cases h1; exact c64 _ _ _
  rcases ite_or h with ⟨e, h⟩ | ⟨_, h⟩; · subst e; obtain ⟨_, _, _, rfl, h1⟩ := anIn_inv h; cases h1; exact c68 _ _ _
  rcases ite_or h with ⟨e, h⟩ | ⟨_, h⟩; · subst e; obtain ⟨_, rfl, h1⟩ := anI_inv h; cases h1; exact c112 _
  rcases ite_or h with ⟨e, h⟩ | ⟨_, h⟩; · subst e; obtain ⟨_, rfl, h1⟩ := anI_inv h; cases h1; exact c195 _
  rcases ite_or h with ⟨e, h⟩ | ⟨_, h⟩; · subst e; obtain ⟨_, rfl, h1⟩ := anI_inv h; cases h1; exact c163 _
  rcases ite_or h with ⟨e, h⟩ | ⟨_, h⟩; · subst e; obtain ⟨_, rfl, h1⟩ := anR_inv h; cases h1; exact c134 _
  rcases ite_or h with ⟨e, h⟩ | ⟨_, h⟩; · subst e; obtain ⟨_, rfl, h1⟩ := anR_inv h; cases h1; exact c143 _
  rcases ite_or h with ⟨e, h⟩ | ⟨_, h⟩; · subst e; obtain ⟨_, rfl, h1⟩ := anR_inv h; cases h1; exact c119 _
  rcases ite_or h with ⟨e, h⟩ | ⟨_, h⟩; · subst e; obtain ⟨_, rfl, h1⟩ := anR_inv h; cases h1; exact c193 _
  rcases ite_or h with ⟨e, h⟩ | ⟨_, h⟩; · subst e; obtain ⟨_, _, rfl, h1⟩ := anRI_inv h; cases h1; exact c155 _ _
  rcases ite_or h with ⟨e, h⟩ | ⟨_, h⟩; · subst e; obtain ⟨_, _, rfl, h1⟩ := anRI_inv h; cases h1; exact c166 _ _
  rcases ite_or h with ⟨e, h⟩ | ⟨_, h⟩; · subst e; obtain ⟨_, rfl, h1⟩ := anR_inv h; cases h1; exact c203 _
  rcases ite_or h with ⟨e, h⟩ | ⟨_, h⟩; · subst e; obtain ⟨_, rfl, h1⟩ := anR_inv h; cases h1; exact c133 _
  rcases ite_or h with ⟨e, h⟩ | ⟨_, h⟩; · subst e; obtain ⟨S, rfl, h1⟩ := anS_inv h; have h2 : (if ShortPs S then some (.bool (decide (PagesOkP S))) else none) = some v := h1; rcases ite_or h2 with ⟨hp, h3⟩ | ⟨_, h3⟩ <;> cases h3; exact c102 _ hp
  rcases ite_or h with ⟨e, h⟩ | ⟨_, h⟩; · subst e; obtain ⟨L, rfl, h1⟩ := anL_inv h; have h2 : (if L.length ≤ 1000000 then some (.bool (decide (LogOkP L))) else none) = some v := h1; rcases ite_or h2 with ⟨hp, h3⟩ | ⟨_, h3⟩ <;> cases h3; exact c103 _ hp
  rcases ite_or h with ⟨e, h⟩ | ⟨_, h⟩; · subst e; obtain ⟨L, rfl, h1⟩ := anL_inv h; have h2 : (if LogGood L ∧ L.length ≤ 1000000 then some (I64 (need L)) else none) = some v := h1; rcases ite_or h2 with ⟨hp, h3⟩ | ⟨_, h3⟩ <;> cases h3; exact c105t _ hp
  rcases ite_or h with ⟨e, h⟩ | ⟨_, h⟩; · subst e; obtain ⟨p, q, rfl, h1⟩ := anPP_inv h; have h2 : (if PageOkP p ∧ PageOkP q then some (.bool (decide (p = q))) else none) = some v := h1; rcases ite_or h2 with ⟨hp, h3⟩ | ⟨_, h3⟩ <;> cases h3; exact c107t _ _ hp
  rcases ite_or h with ⟨e, h⟩ | ⟨_, h⟩; · subst e; obtain ⟨L, n, rfl, h1⟩ := anLI_inv h; have h2 : (if LogGood L ∧ L.length ≤ 1000000 then some (.bool (decide (Loaded L n))) else none) = some v := h1; rcases ite_or h2 with ⟨hp, h3⟩ | ⟨_, h3⟩ <;> cases h3; exact c108t _ _ hp
  rcases ite_or h with ⟨e, h⟩ | ⟨_, h⟩; · subst e; obtain ⟨e, n, rfl, h1⟩ := anEI_inv h; have h2 : (if PagesOkP e.disk ∧ PagesOkP e.mem ∧ e.log.length ≤ 1000000 ∧ 0 ≤ n ∧ n ≤ 4 then some (.bool (decide (Fresh e n))) else none) = some v := h1; rcases ite_or h2 with ⟨hp, h3⟩ | ⟨_, h3⟩ <;> cases h3; exact c109t _ _ hp
  rcases ite_or h with ⟨e, h⟩ | ⟨_, h⟩; · subst e; obtain ⟨L, n, m, rfl, h1⟩ := anLII_inv h; have h2 : (if LogGood L ∧ L.length ≤ 1000000 then some (.bool (decide (Has L n m))) else none) = some v := h1; rcases ite_or h2 with ⟨hp, h3⟩ | ⟨_, h3⟩ <;> cases h3; exact c65t _ _ _ hp
  cases h
noncomputable def M5 : Cfg := ⟨fun _ => false, an_M5, an_M5_ok⟩
@[simp] theorem M5_mu (d : Nat) : M5.mu d = false := nr rfl
@[simp] theorem M5_64 (xs : List AV) : M5.an 64 xs = anIn (fun n lo hi => some (.bool (decide (In n lo hi)))) xs := nr rfl
@[simp] theorem M5_68 (xs : List AV) : M5.an 68 xs = anIn (fun n lo hi => some (.bool (decide (In n lo hi)))) xs := nr rfl
@[simp] theorem M5_112 (xs : List AV) : M5.an 112 xs = anI (fun n => some (.bool (decide (In n 0 4)))) xs := nr rfl
@[simp] theorem M5_195 (xs : List AV) : M5.an 195 xs = anI (fun n => some (.bool (decide (In n 1 3)))) xs := nr rfl
@[simp] theorem M5_163 (xs : List AV) : M5.an 163 xs = anI (fun n => some (.bool (decide (Changes n)))) xs := nr rfl
@[simp] theorem M5_134 (xs : List AV) : M5.an 134 xs = anR (fun r => some (.bool (decide (Ends r)))) xs := nr rfl
@[simp] theorem M5_143 (xs : List AV) : M5.an 143 xs = anR (fun r => some (.bool (decide (Changes r.kind)))) xs := nr rfl
@[simp] theorem M5_119 (xs : List AV) : M5.an 119 xs = anR (fun r => some (.bool true)) xs := nr rfl
@[simp] theorem M5_193 (xs : List AV) : M5.an 193 xs = anR (fun r => some (.bool (decide (r.kind = 3)))) xs := nr rfl
@[simp] theorem M5_155 (xs : List AV) : M5.an 155 xs = anRI (fun r n => some (.agg (encR (backR r n)))) xs := nr rfl
@[simp] theorem M5_166 (xs : List AV) : M5.an 166 xs = anRI (fun r n => some (.agg (encR (backR r n)))) xs := nr rfl
@[simp] theorem M5_203 (xs : List AV) : M5.an 203 xs = anR (fun r => some (.bool (decide (OfOk r)))) xs := nr rfl
@[simp] theorem M5_133 (xs : List AV) : M5.an 133 xs = anR (fun r => some (.bool (decide (RecOkP r)))) xs := nr rfl
@[simp] theorem M5_102 (xs : List AV) : M5.an 102 xs = anS (fun S => if ShortPs S then some (.bool (decide (PagesOkP S))) else none) xs := nr rfl
@[simp] theorem M5_103 (xs : List AV) : M5.an 103 xs = anL (fun L => if L.length ≤ 1000000 then some (.bool (decide (LogOkP L))) else none) xs := nr rfl
@[simp] theorem M5_105 (xs : List AV) : M5.an 105 xs = anL (fun L => if LogGood L ∧ L.length ≤ 1000000 then some (I64 (need L)) else none) xs := nr rfl
@[simp] theorem M5_107 (xs : List AV) : M5.an 107 xs = anPP (fun p q => if PageOkP p ∧ PageOkP q then some (.bool (decide (p = q))) else none) xs := nr rfl
@[simp] theorem M5_108 (xs : List AV) : M5.an 108 xs = anLI (fun L n => if LogGood L ∧ L.length ≤ 1000000 then some (.bool (decide (Loaded L n))) else none) xs := nr rfl
@[simp] theorem M5_109 (xs : List AV) : M5.an 109 xs = anEI (fun e n => if PagesOkP e.disk ∧ PagesOkP e.mem ∧ e.log.length ≤ 1000000 ∧ 0 ≤ n ∧ n ≤ 4 then some (.bool (decide (Fresh e n))) else none) xs := nr rfl
@[simp] theorem M5_65 (xs : List AV) : M5.an 65 xs = anLII (fun L n m => if LogGood L ∧ L.length ≤ 1000000 then some (.bool (decide (Has L n m))) else none) xs := nr rfl
@[simp] theorem M5_3 (xs : List AV) : M5.an 3 xs = none := nr rfl
@[simp] theorem M5_4 (xs : List AV) : M5.an 4 xs = none := nr rfl
@[simp] theorem M5_5 (xs : List AV) : M5.an 5 xs = none := nr rfl
@[simp] theorem M5_6 (xs : List AV) : M5.an 6 xs = none := nr rfl
@[simp] theorem M5_7 (xs : List AV) : M5.an 7 xs = none := nr rfl
@[simp] theorem M5_8 (xs : List AV) : M5.an 8 xs = none := nr rfl
@[simp] theorem M5_9 (xs : List AV) : M5.an 9 xs = none := nr rfl
@[simp] theorem M5_10 (xs : List AV) : M5.an 10 xs = none := nr rfl
@[simp] theorem M5_11 (xs : List AV) : M5.an 11 xs = none := nr rfl
@[simp] theorem M5_12 (xs : List AV) : M5.an 12 xs = none := nr rfl
@[simp] theorem M5_13 (xs : List AV) : M5.an 13 xs = none := nr rfl
@[simp] theorem M5_14 (xs : List AV) : M5.an 14 xs = none := nr rfl
@[simp] theorem M5_15 (xs : List AV) : M5.an 15 xs = none := nr rfl
@[simp] theorem M5_16 (xs : List AV) : M5.an 16 xs = none := nr rfl
@[simp] theorem M5_17 (xs : List AV) : M5.an 17 xs = none := nr rfl
@[simp] theorem M5_18 (xs : List AV) : M5.an 18 xs = none := nr rfl
@[simp] theorem M5_19 (xs : List AV) : M5.an 19 xs = none := nr rfl
@[simp] theorem M5_20 (xs : List AV) : M5.an 20 xs = none := nr rfl
@[simp] theorem M5_21 (xs : List AV) : M5.an 21 xs = none := nr rfl
@[simp] theorem M5_22 (xs : List AV) : M5.an 22 xs = none := nr rfl
@[simp] theorem M5_23 (xs : List AV) : M5.an 23 xs = none := nr rfl
@[simp] theorem M5_24 (xs : List AV) : M5.an 24 xs = none := nr rfl
@[simp] theorem M5_25 (xs : List AV) : M5.an 25 xs = none := nr rfl
@[simp] theorem M5_26 (xs : List AV) : M5.an 26 xs = none := nr rfl
@[simp] theorem M5_27 (xs : List AV) : M5.an 27 xs = none := nr rfl
@[simp] theorem M5_28 (xs : List AV) : M5.an 28 xs = none := nr rfl
@[simp] theorem M5_29 (xs : List AV) : M5.an 29 xs = none := nr rfl
@[simp] theorem M5_30 (xs : List AV) : M5.an 30 xs = none := nr rfl
@[simp] theorem M5_31 (xs : List AV) : M5.an 31 xs = none := nr rfl
@[simp] theorem M5_32 (xs : List AV) : M5.an 32 xs = none := nr rfl
@[simp] theorem M5_33 (xs : List AV) : M5.an 33 xs = none := nr rfl
@[simp] theorem M5_34 (xs : List AV) : M5.an 34 xs = none := nr rfl
@[simp] theorem M5_35 (xs : List AV) : M5.an 35 xs = none := nr rfl
@[simp] theorem M5_36 (xs : List AV) : M5.an 36 xs = none := nr rfl
@[simp] theorem M5_37 (xs : List AV) : M5.an 37 xs = none := nr rfl
@[simp] theorem M5_38 (xs : List AV) : M5.an 38 xs = none := nr rfl
@[simp] theorem M5_39 (xs : List AV) : M5.an 39 xs = none := nr rfl
@[simp] theorem M5_40 (xs : List AV) : M5.an 40 xs = none := nr rfl
@[simp] theorem M5_41 (xs : List AV) : M5.an 41 xs = none := nr rfl
@[simp] theorem M5_42 (xs : List AV) : M5.an 42 xs = none := nr rfl
@[simp] theorem M5_43 (xs : List AV) : M5.an 43 xs = none := nr rfl
@[simp] theorem M5_44 (xs : List AV) : M5.an 44 xs = none := nr rfl
@[simp] theorem M5_45 (xs : List AV) : M5.an 45 xs = none := nr rfl
@[simp] theorem M5_46 (xs : List AV) : M5.an 46 xs = none := nr rfl
@[simp] theorem M5_47 (xs : List AV) : M5.an 47 xs = none := nr rfl
@[simp] theorem M5_48 (xs : List AV) : M5.an 48 xs = none := nr rfl
@[simp] theorem M5_49 (xs : List AV) : M5.an 49 xs = none := nr rfl
@[simp] theorem M5_50 (xs : List AV) : M5.an 50 xs = none := nr rfl
@[simp] theorem M5_51 (xs : List AV) : M5.an 51 xs = none := nr rfl
@[simp] theorem M5_52 (xs : List AV) : M5.an 52 xs = none := nr rfl
@[simp] theorem M5_53 (xs : List AV) : M5.an 53 xs = none := nr rfl
@[simp] theorem M5_54 (xs : List AV) : M5.an 54 xs = none := nr rfl
@[simp] theorem M5_55 (xs : List AV) : M5.an 55 xs = none := nr rfl
@[simp] theorem M5_56 (xs : List AV) : M5.an 56 xs = none := nr rfl
@[simp] theorem M5_57 (xs : List AV) : M5.an 57 xs = none := nr rfl
@[simp] theorem M5_58 (xs : List AV) : M5.an 58 xs = none := nr rfl
@[simp] theorem M5_59 (xs : List AV) : M5.an 59 xs = none := nr rfl
@[simp] theorem M5_60 (xs : List AV) : M5.an 60 xs = none := nr rfl
@[simp] theorem M5_61 (xs : List AV) : M5.an 61 xs = none := nr rfl
@[simp] theorem M5_62 (xs : List AV) : M5.an 62 xs = none := nr rfl
@[simp] theorem M5_63 (xs : List AV) : M5.an 63 xs = none := nr rfl
@[simp] theorem M5_66 (xs : List AV) : M5.an 66 xs = none := nr rfl
@[simp] theorem M5_67 (xs : List AV) : M5.an 67 xs = none := nr rfl
@[simp] theorem M5_69 (xs : List AV) : M5.an 69 xs = none := nr rfl
@[simp] theorem M5_70 (xs : List AV) : M5.an 70 xs = none := nr rfl
@[simp] theorem M5_71 (xs : List AV) : M5.an 71 xs = none := nr rfl
@[simp] theorem M5_72 (xs : List AV) : M5.an 72 xs = none := nr rfl
@[simp] theorem M5_73 (xs : List AV) : M5.an 73 xs = none := nr rfl
@[simp] theorem M5_74 (xs : List AV) : M5.an 74 xs = none := nr rfl
@[simp] theorem M5_75 (xs : List AV) : M5.an 75 xs = none := nr rfl
@[simp] theorem M5_76 (xs : List AV) : M5.an 76 xs = none := nr rfl
@[simp] theorem M5_77 (xs : List AV) : M5.an 77 xs = none := nr rfl
@[simp] theorem M5_78 (xs : List AV) : M5.an 78 xs = none := nr rfl
@[simp] theorem M5_79 (xs : List AV) : M5.an 79 xs = none := nr rfl
@[simp] theorem M5_80 (xs : List AV) : M5.an 80 xs = none := nr rfl
@[simp] theorem M5_81 (xs : List AV) : M5.an 81 xs = none := nr rfl
@[simp] theorem M5_82 (xs : List AV) : M5.an 82 xs = none := nr rfl
@[simp] theorem M5_83 (xs : List AV) : M5.an 83 xs = none := nr rfl
@[simp] theorem M5_84 (xs : List AV) : M5.an 84 xs = none := nr rfl
@[simp] theorem M5_85 (xs : List AV) : M5.an 85 xs = none := nr rfl
@[simp] theorem M5_86 (xs : List AV) : M5.an 86 xs = none := nr rfl
@[simp] theorem M5_87 (xs : List AV) : M5.an 87 xs = none := nr rfl
@[simp] theorem M5_88 (xs : List AV) : M5.an 88 xs = none := nr rfl
@[simp] theorem M5_89 (xs : List AV) : M5.an 89 xs = none := nr rfl
@[simp] theorem M5_90 (xs : List AV) : M5.an 90 xs = none := nr rfl
@[simp] theorem M5_91 (xs : List AV) : M5.an 91 xs = none := nr rfl
@[simp] theorem M5_92 (xs : List AV) : M5.an 92 xs = none := nr rfl
@[simp] theorem M5_93 (xs : List AV) : M5.an 93 xs = none := nr rfl
@[simp] theorem M5_94 (xs : List AV) : M5.an 94 xs = none := nr rfl
@[simp] theorem M5_95 (xs : List AV) : M5.an 95 xs = none := nr rfl
@[simp] theorem M5_96 (xs : List AV) : M5.an 96 xs = none := nr rfl
@[simp] theorem M5_97 (xs : List AV) : M5.an 97 xs = none := nr rfl
@[simp] theorem M5_98 (xs : List AV) : M5.an 98 xs = none := nr rfl
@[simp] theorem M5_99 (xs : List AV) : M5.an 99 xs = none := nr rfl
@[simp] theorem M5_100 (xs : List AV) : M5.an 100 xs = none := nr rfl
@[simp] theorem M5_101 (xs : List AV) : M5.an 101 xs = none := nr rfl
@[simp] theorem M5_104 (xs : List AV) : M5.an 104 xs = none := nr rfl
@[simp] theorem M5_106 (xs : List AV) : M5.an 106 xs = none := nr rfl
@[simp] theorem M5_110 (xs : List AV) : M5.an 110 xs = none := nr rfl
@[simp] theorem M5_111 (xs : List AV) : M5.an 111 xs = none := nr rfl
@[simp] theorem M5_113 (xs : List AV) : M5.an 113 xs = none := nr rfl
@[simp] theorem M5_114 (xs : List AV) : M5.an 114 xs = none := nr rfl
@[simp] theorem M5_115 (xs : List AV) : M5.an 115 xs = none := nr rfl
@[simp] theorem M5_116 (xs : List AV) : M5.an 116 xs = none := nr rfl
@[simp] theorem M5_117 (xs : List AV) : M5.an 117 xs = none := nr rfl
@[simp] theorem M5_118 (xs : List AV) : M5.an 118 xs = none := nr rfl
@[simp] theorem M5_120 (xs : List AV) : M5.an 120 xs = none := nr rfl
@[simp] theorem M5_121 (xs : List AV) : M5.an 121 xs = none := nr rfl
@[simp] theorem M5_122 (xs : List AV) : M5.an 122 xs = none := nr rfl
@[simp] theorem M5_123 (xs : List AV) : M5.an 123 xs = none := nr rfl
@[simp] theorem M5_124 (xs : List AV) : M5.an 124 xs = none := nr rfl
@[simp] theorem M5_125 (xs : List AV) : M5.an 125 xs = none := nr rfl
@[simp] theorem M5_126 (xs : List AV) : M5.an 126 xs = none := nr rfl
@[simp] theorem M5_127 (xs : List AV) : M5.an 127 xs = none := nr rfl
@[simp] theorem M5_128 (xs : List AV) : M5.an 128 xs = none := nr rfl
@[simp] theorem M5_129 (xs : List AV) : M5.an 129 xs = none := nr rfl
@[simp] theorem M5_130 (xs : List AV) : M5.an 130 xs = none := nr rfl
@[simp] theorem M5_131 (xs : List AV) : M5.an 131 xs = none := nr rfl
@[simp] theorem M5_132 (xs : List AV) : M5.an 132 xs = none := nr rfl
@[simp] theorem M5_135 (xs : List AV) : M5.an 135 xs = none := nr rfl
@[simp] theorem M5_136 (xs : List AV) : M5.an 136 xs = none := nr rfl
@[simp] theorem M5_137 (xs : List AV) : M5.an 137 xs = none := nr rfl
@[simp] theorem M5_138 (xs : List AV) : M5.an 138 xs = none := nr rfl
@[simp] theorem M5_139 (xs : List AV) : M5.an 139 xs = none := nr rfl
@[simp] theorem M5_140 (xs : List AV) : M5.an 140 xs = none := nr rfl
@[simp] theorem M5_141 (xs : List AV) : M5.an 141 xs = none := nr rfl
@[simp] theorem M5_142 (xs : List AV) : M5.an 142 xs = none := nr rfl
@[simp] theorem M5_144 (xs : List AV) : M5.an 144 xs = none := nr rfl
@[simp] theorem M5_145 (xs : List AV) : M5.an 145 xs = none := nr rfl
@[simp] theorem M5_146 (xs : List AV) : M5.an 146 xs = none := nr rfl
@[simp] theorem M5_147 (xs : List AV) : M5.an 147 xs = none := nr rfl
@[simp] theorem M5_148 (xs : List AV) : M5.an 148 xs = none := nr rfl
@[simp] theorem M5_149 (xs : List AV) : M5.an 149 xs = none := nr rfl
@[simp] theorem M5_150 (xs : List AV) : M5.an 150 xs = none := nr rfl
@[simp] theorem M5_151 (xs : List AV) : M5.an 151 xs = none := nr rfl
@[simp] theorem M5_152 (xs : List AV) : M5.an 152 xs = none := nr rfl
@[simp] theorem M5_153 (xs : List AV) : M5.an 153 xs = none := nr rfl
@[simp] theorem M5_154 (xs : List AV) : M5.an 154 xs = none := nr rfl
@[simp] theorem M5_156 (xs : List AV) : M5.an 156 xs = none := nr rfl
@[simp] theorem M5_157 (xs : List AV) : M5.an 157 xs = none := nr rfl
@[simp] theorem M5_158 (xs : List AV) : M5.an 158 xs = none := nr rfl
@[simp] theorem M5_159 (xs : List AV) : M5.an 159 xs = none := nr rfl
@[simp] theorem M5_160 (xs : List AV) : M5.an 160 xs = none := nr rfl
@[simp] theorem M5_161 (xs : List AV) : M5.an 161 xs = none := nr rfl
@[simp] theorem M5_162 (xs : List AV) : M5.an 162 xs = none := nr rfl
@[simp] theorem M5_164 (xs : List AV) : M5.an 164 xs = none := nr rfl
@[simp] theorem M5_165 (xs : List AV) : M5.an 165 xs = none := nr rfl
@[simp] theorem M5_167 (xs : List AV) : M5.an 167 xs = none := nr rfl
@[simp] theorem M5_168 (xs : List AV) : M5.an 168 xs = none := nr rfl
@[simp] theorem M5_169 (xs : List AV) : M5.an 169 xs = none := nr rfl
@[simp] theorem M5_170 (xs : List AV) : M5.an 170 xs = none := nr rfl
@[simp] theorem M5_171 (xs : List AV) : M5.an 171 xs = none := nr rfl
@[simp] theorem M5_172 (xs : List AV) : M5.an 172 xs = none := nr rfl
@[simp] theorem M5_173 (xs : List AV) : M5.an 173 xs = none := nr rfl
@[simp] theorem M5_174 (xs : List AV) : M5.an 174 xs = none := nr rfl
@[simp] theorem M5_175 (xs : List AV) : M5.an 175 xs = none := nr rfl
@[simp] theorem M5_176 (xs : List AV) : M5.an 176 xs = none := nr rfl
@[simp] theorem M5_177 (xs : List AV) : M5.an 177 xs = none := nr rfl
@[simp] theorem M5_178 (xs : List AV) : M5.an 178 xs = none := nr rfl
@[simp] theorem M5_179 (xs : List AV) : M5.an 179 xs = none := nr rfl
@[simp] theorem M5_180 (xs : List AV) : M5.an 180 xs = none := nr rfl
@[simp] theorem M5_181 (xs : List AV) : M5.an 181 xs = none := nr rfl
@[simp] theorem M5_182 (xs : List AV) : M5.an 182 xs = none := nr rfl
@[simp] theorem M5_183 (xs : List AV) : M5.an 183 xs = none := nr rfl
@[simp] theorem M5_184 (xs : List AV) : M5.an 184 xs = none := nr rfl
@[simp] theorem M5_185 (xs : List AV) : M5.an 185 xs = none := nr rfl
@[simp] theorem M5_186 (xs : List AV) : M5.an 186 xs = none := nr rfl
@[simp] theorem M5_187 (xs : List AV) : M5.an 187 xs = none := nr rfl
@[simp] theorem M5_188 (xs : List AV) : M5.an 188 xs = none := nr rfl
@[simp] theorem M5_189 (xs : List AV) : M5.an 189 xs = none := nr rfl
@[simp] theorem M5_190 (xs : List AV) : M5.an 190 xs = none := nr rfl
@[simp] theorem M5_191 (xs : List AV) : M5.an 191 xs = none := nr rfl
@[simp] theorem M5_192 (xs : List AV) : M5.an 192 xs = none := nr rfl
@[simp] theorem M5_194 (xs : List AV) : M5.an 194 xs = none := nr rfl
@[simp] theorem M5_196 (xs : List AV) : M5.an 196 xs = none := nr rfl
@[simp] theorem M5_197 (xs : List AV) : M5.an 197 xs = none := nr rfl
@[simp] theorem M5_198 (xs : List AV) : M5.an 198 xs = none := nr rfl
@[simp] theorem M5_199 (xs : List AV) : M5.an 199 xs = none := nr rfl
@[simp] theorem M5_200 (xs : List AV) : M5.an 200 xs = none := nr rfl
@[simp] theorem M5_201 (xs : List AV) : M5.an 201 xs = none := nr rfl
@[simp] theorem M5_202 (xs : List AV) : M5.an 202 xs = none := nr rfl
@[simp] theorem M5_204 (xs : List AV) : M5.an 204 xs = none := nr rfl
@[simp] theorem M5_205 (xs : List AV) : M5.an 205 xs = none := nr rfl
@[simp] theorem M5_206 (xs : List AV) : M5.an 206 xs = none := nr rfl
@[simp] theorem M5_207 (xs : List AV) : M5.an 207 xs = none := nr rfl
@[simp] theorem M5_208 (xs : List AV) : M5.an 208 xs = none := nr rfl
@[simp] theorem M5_209 (xs : List AV) : M5.an 209 xs = none := nr rfl
@[simp] theorem M5_210 (xs : List AV) : M5.an 210 xs = none := nr rfl
@[simp] theorem M5_211 (xs : List AV) : M5.an 211 xs = none := nr rfl
@[simp] theorem M5_212 (xs : List AV) : M5.an 212 xs = none := nr rfl
@[simp] theorem M5_213 (xs : List AV) : M5.an 213 xs = none := nr rfl
@[simp] theorem M5_214 (xs : List AV) : M5.an 214 xs = none := nr rfl
@[simp] theorem M5_215 (xs : List AV) : M5.an 215 xs = none := nr rfl
@[simp] theorem M5_216 (xs : List AV) : M5.an 216 xs = none := nr rfl
@[simp] theorem M5_217 (xs : List AV) : M5.an 217 xs = none := nr rfl
@[simp] theorem M5_218 (xs : List AV) : M5.an 218 xs = none := nr rfl
@[simp] theorem M5_219 (xs : List AV) : M5.an 219 xs = none := nr rfl
@[simp] theorem M5_220 (xs : List AV) : M5.an 220 xs = none := nr rfl
@[simp] theorem M5_221 (xs : List AV) : M5.an 221 xs = none := nr rfl
@[simp] theorem M5_222 (xs : List AV) : M5.an 222 xs = none := nr rfl
@[simp] theorem M5_223 (xs : List AV) : M5.an 223 xs = none := nr rfl
@[simp] theorem M5_224 (xs : List AV) : M5.an 224 xs = none := nr rfl
@[simp] theorem M5_225 (xs : List AV) : M5.an 225 xs = none := nr rfl
@[simp] theorem M5_226 (xs : List AV) : M5.an 226 xs = none := nr rfl
@[simp] theorem M5_227 (xs : List AV) : M5.an 227 xs = none := nr rfl
@[simp] theorem M5_228 (xs : List AV) : M5.an 228 xs = none := nr rfl
@[simp] theorem M5_229 (xs : List AV) : M5.an 229 xs = none := nr rfl
@[simp] theorem M5_230 (xs : List AV) : M5.an 230 xs = none := nr rfl
@[simp] theorem M5_231 (xs : List AV) : M5.an 231 xs = none := nr rfl

end Go.Proofs.YtnaafbdgkmlnaaaGreat
