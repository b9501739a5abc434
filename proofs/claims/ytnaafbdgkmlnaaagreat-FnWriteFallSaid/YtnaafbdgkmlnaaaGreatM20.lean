/- Laws about the machine's run of the program's functions, part 20, in import order. No condition. -/
import Derived.Test.YtnaafbdgkmlnaaaGreatM13
import Derived.Test.YtnaafbdgkmlnaaaGreatM14
import Derived.Test.YtnaafbdgkmlnaaaGreatM15
import Derived.Test.YtnaafbdgkmlnaaaGreatM16
import Derived.Test.YtnaafbdgkmlnaaaGreatM19

set_option linter.unusedVariables false
set_option linter.unusedSimpArgs false
set_option linter.unnecessarySimpa false
/- Functions: a code is read byte by byte. -/
namespace Go.Proofs.YtnaafbdgkmlnaaaGreat
set_option linter.unusedVariables false
set_option linter.unusedSimpArgs false
set_option linter.unnecessarySimpa false
set_option maxRecDepth 20000
set_option maxHeartbeats 4000000

theorem bits_xor_i64 (a b : Nat) (ha : a < 4611686018427387904) (hb : b < 4611686018427387904) : bits .xor .i64 (a : Int) (b : Int) = ((a ^^^ b : Nat) : Int) := by
  have hx : a ^^^ b < 4611686018427387904 := Nat.xor_lt_two_pow (n := 62) (by omega) (by omega)
  have e : (BitVec.ofInt IntKind.i64.bits (a : Int) ^^^ BitVec.ofInt IntKind.i64.bits (b : Int)).toNat = a ^^^ b := by
    rw [BitVec.toNat_xor, BitVec.toNat_ofInt, BitVec.toNat_ofInt]
    have h1 : ((a : Int) % ((2 ^ IntKind.i64.bits : Nat) : Int)).toNat = a := by
      simp only [IntKind.bits]; omega
    have h2 : ((b : Int) % ((2 ^ IntKind.i64.bits : Nat) : Int)).toNat = b := by
      simp only [IntKind.bits]; omega
    rw [h1, h2]
  show IntKind.i64.wrap ((BitVec.ofInt IntKind.i64.bits (a : Int) ^^^ BitVec.ofInt IntKind.i64.bits (b : Int)).toNat : Int) = _
  rw [e]
  exact w64 _ (by omega) (by omega)

def BsOk (bs : List Int) : Prop := bs.length ≤ 2000 ∧ ∀ b ∈ bs, 0 ≤ b ∧ b < 256
def bAt (bs : List Int) (n : Nat) : Int := (bs[n]?).getD 0
/-- What stands behind the end of a code. -/
def pickX (bs : List Int) (p : Nat) : Nat := (bAt bs (p % bs.length)).toNat * 131 + (bAt bs ((p * 7 + 3) % bs.length)).toNat * 1117 + p * 29 + p / bs.length * 53
def pickY (bs : List Int) (p : Nat) : Nat := pickX bs p ^^^ (pickX bs p / 64)
def pickV (bs : List Int) (p : Nat) (n : Int) : Int :=
  if n < 1 ∨ bs.length = 0 then 0 else if p < bs.length then (bAt bs p).tmod n else (pickY bs p : Int).tmod n
theorem bAt_in {bs : List Int} (h : BsOk bs) (n : Nat) : 0 ≤ bAt bs n ∧ bAt bs n < 256 := by
  unfold bAt
  cases hn : bs[n]? with
  | none => simp
  | some b => exact h.2 b (List.mem_of_getElem? hn)
theorem tmod_in {a n : Int} (ha : 0 ≤ a) (hn : 1 ≤ n) : 0 ≤ a.tmod n ∧ a.tmod n < n := by
  rw [Int.tmod_eq_emod_of_nonneg ha]
  exact ⟨Int.emod_nonneg _ (by omega), Int.emod_lt_of_pos _ (by omega)⟩
theorem pickV_in {bs : List Int} (h : BsOk bs) (p : Nat) {n : Int} (hn : 1 ≤ n) : 0 ≤ pickV bs p n ∧ pickV bs p n < n := by
  unfold pickV
  split
  · omega
  split
  · exact tmod_in (bAt_in h p).1 hn
  · exact tmod_in (by omega) hn

/-- The reader, as a block. -/
def rdB (bs : List Int) (p : Nat) : Blk := ⟨125, 2, [[bytesAV bs, I64 p]]⟩
theorem bytes_get {bs : List Int} {n : Nat} (h : n < bs.length) : (bs.map fun n => [AV.int .u8 n])[n]? = some [.int .u8 (bAt bs n)] := by
  simp [bAt, List.getElem?_eq_getElem h]

theorem lt_bytes (B : Nat) (bs : List Int) : AV.lt B (bytesAV bs) := by
  simp only [bytesAV, AV.lt]; exact AV.ltLL_map _ (fun n => by simp [AV.ltL, AV.lt]) bs
theorem rdB_lt (B : Nat) (bs : List Int) (p : Nat) : AV.ltLL B (rdB bs p).rows := by
  simp only [rdB, AV.ltLL, AV.ltL, and_true]; exact ⟨lt_bytes B bs, trivial⟩

theorem told_rd {f : FuncId} {args : List AV} {id Bm : Nat} {bs : List Int} {p p' : Nat} {v : AV} (hv : AV.lt Bm v)
    (h : ∀ B, Bm ≤ B → ∀ H0 : Hp, H0 id = some (rdB bs p) → ACalls PP f args H0 B (fun v' H' _ => v' = v ∧ H' id = some (rdB bs p'))) : Told f args [(id, rdB bs p)] [(id, rdB bs p')] Bm v where
  call := fun B hB => (h B hB _ (by simp [Hp.of])).mono fun v' H' B' ⟨h1, h2⟩ => ⟨h1, by simp [h2]⟩
  keys := by simp
  lt := hv
  rows := by simp [rdB_lt]
  nd := by simp [Hp.of]
  all := by simp

theorem c76 (id : Nat) (bs : List Int) (p : Nat) (n : Int) (hb : BsOk bs) (hp : p ≤ 1000000) : Told 76 [.pe id 2 0, I64 n] [(id, rdB bs p)] [(id, rdB bs (p + 1))] 0 (I64 (pickV bs p n)) := by
  refine told_rd trivial fun B hB H0 HI => ?_
  refine acallsF M0 Tryz.func76 (by kernel_rfl) fun hlt => ?_
  have w1 := w64 ((p : Int) + 1) (by omega) (by omega)
  have w2 := w64 (p : Int) (by omega) (by omega)
  simp only [rdB, bytesAV] at HI ⊢
  simp [Tryz.f76, HI, w1]
  have hl := hb.1
  refine gO (fun c1 => ?_) (fun c1 => ?_) <;> simp [-Int.not_le, -Int.not_lt] at c1 <;> simp [c1, w1, w2]
  · have hn0 : ¬ n = 0 := by omega
    refine gC (fun c2 => ?_) (fun c2 => ?_) <;> simp at c2 <;> simp [c1, w1, w2]
    · simp [pickV, c2]
    · have hlen : 0 < bs.length := by cases bs with | nil => exact absurd rfl c2 | cons _ _ => simp
      refine gC (fun c3 => ?_) (fun c3 => ?_) <;> simp [w2] at c3 <;> simp [c1, w1, w2]
      · have hg : bs[p]? = some (bAt bs p) := by simp [bAt, List.getElem?_eq_getElem c3]
        have hbb := bAt_in hb p
        have w3 := w64 (bAt bs p) (by omega) (by omega)
        have hv : pickV bs p n = (bAt bs p).tmod n := by unfold pickV; rw [if_neg (by omega), if_pos c3]
        simp [hg, w3, hn0, hv]
      · obtain ⟨A, hA, hA2⟩ : ∃ A : Nat, bAt bs (p % bs.length) = A ∧ A < 256 := ⟨(bAt bs (p % bs.length)).toNat, by have := bAt_in hb (p % bs.length); omega, by have := bAt_in hb (p % bs.length); omega⟩
        obtain ⟨C, hC, hC2⟩ : ∃ C : Nat, bAt bs ((p * 7 + 3) % bs.length) = C ∧ C < 256 := ⟨(bAt bs ((p * 7 + 3) % bs.length)).toNat, by have := bAt_in hb ((p * 7 + 3) % bs.length); omega, by have := bAt_in hb ((p * 7 + 3) % bs.length); omega⟩
        have l1 := Nat.mod_lt p hlen
        have l2 := Nat.mod_lt (p * 7 + 3) hlen
        have g1 : bs[p % bs.length]? = some (A : Int) := by rw [← hA]; simp [bAt, List.getElem?_eq_getElem l1]
        have g2 : bs[(p * 7 + 3) % bs.length]? = some (C : Int) := by rw [← hC]; simp [bAt, List.getElem?_eq_getElem l2]
        have r1 : (p : Int).tmod (bs.length : Int) = ((p % bs.length : Nat) : Int) := by rw [Int.tmod_eq_emod_of_nonneg (by omega)]; rfl
        have r2 : ((p : Int) * 7 + 3).tmod (bs.length : Int) = (((p * 7 + 3) % bs.length : Nat) : Int) := by rw [Int.tmod_eq_emod_of_nonneg (by omega)]; rfl
        have r3 : (p : Int) / (bs.length : Int) = ((p / bs.length : Nat) : Int) := rfl
        have hq : p / bs.length ≤ p := Nat.div_le_self _ _
        have hv : pickV bs p n = (pickY bs p : Int).tmod n := by unfold pickV; rw [if_neg (by omega), if_neg (by omega)]
        have hX : pickX bs p = A * 131 + C * 1117 + p * 29 + p / bs.length * 53 := by unfold pickX; rw [hA, hC]; simp
        rw [hv, pickY, hX]
        generalize p / bs.length = q at *
        generalize p % bs.length = i1 at *
        generalize (p * 7 + 3) % bs.length = i2 at *
        have v1 := w64 ((p : Int) * 7) (by omega) (by omega)
        have v2 := w64 ((p : Int) * 7 + 3) (by omega) (by omega)
        have v3 := w64 ((A : Int) * 131) (by omega) (by omega)
        have v4 := w64 ((C : Int) * 1117) (by omega) (by omega)
        have v5 := w64 ((A : Int) * 131 + (C : Int) * 1117) (by omega) (by omega)
        have v6 := w64 ((p : Int) * 29) (by omega) (by omega)
        have v7 := w64 ((A : Int) * 131 + (C : Int) * 1117 + (p : Int) * 29) (by omega) (by omega)
        have v8 := w64 ((q : Int) * 53) (by omega) (by omega)
        have v9 := w64 ((A : Int) * 131 + (C : Int) * 1117 + (p : Int) * 29 + (q : Int) * 53) (by omega) (by omega)
        have v10 := w64 (A : Int) (by omega) (by omega)
        have v11 := w64 (C : Int) (by omega) (by omega)
        have v12 := w64 (q : Int) (by omega) (by omega)
        have t1 : 0 ≤ ((p : Int) * 7 + 3) := by omega
        simp [c2, r1, r2, r3, g1, g2, v1, v2, v3, v4, v5, v6, v7, v8, v9, v10, v11, v12]
        have hs : ((A * 131 + C * 1117 + p * 29 + q * 53 : Nat) : Int) = (A : Int) * 131 + (C : Int) * 1117 + (p : Int) * 29 + (q : Int) * 53 := by omega
        have hsz : A * 131 + C * 1117 + p * 29 + q * 53 < 4611686018427387904 := by omega
        rw [← hs]
        generalize A * 131 + C * 1117 + p * 29 + q * 53 = X at *
        have r4 : (X : Int).tdiv 64 = ((X / 64 : Nat) : Int) := by rw [Int.tdiv_eq_ediv_of_nonneg (by omega)]; rfl
        have v13 := w64 ((X / 64 : Nat) : Int) (by omega) (by omega)
        have hx := bits_xor_i64 X (X / 64) hsz (by omega)
        rw [r4, v13, hx]
        simp [hn0]

  · simp [pickV, c1]

end Go.Proofs.YtnaafbdgkmlnaaaGreat

/- Functions: a page's text. -/
namespace Go.Proofs.YtnaafbdgkmlnaaaGreat
set_option linter.unusedVariables false
set_option linter.unusedSimpArgs false
set_option linter.unnecessarySimpa false
set_option maxRecDepth 20000
set_option maxHeartbeats 2000000

theorem c204 (n : Int) (h0 : 0 ≤ n) (h9 : n ≤ 9) : Told 204 [I64 n] [] [] 0 (.str (byteStr (48 + n))) := by
  refine told_of (Keep.nil _) trivial fun B _ => ?_
  refine acallsF M0 Tryz.func204 (by kernel_rfl) fun hlt => ?_
  have w1 := w64 (48 + n) (by omega) (by omega)
  have w2 : IntKind.u8.wrap (48 + n) = 48 + n := by simp [IntKind.wrap, IntKind.bits, IntKind.signed]; omega
  have h1 : ¬ n < -9223372036854775807 := by omega
  have h2 : ¬ n < 0 := by omega
  have h3 : n < 10 := by omega
  simp [Tryz.f204, h1, h2, h3, w1, w2]

def txtN (p : Pg) : Nat → ByteArray
  | 0 => byteStr (48 + p.owner)
  | n + 1 => (txtN p n ++ ⟨#[32]⟩) ++ byteStr (48 + (p.vals[n]?).getD 0)
theorem txtN_list (p : Pg) : ∀ n, (txtN p n).data.toList.length = 1 + 2 * n
  | 0 => rfl
  | n + 1 => by
    have := txtN_list p n
    simp [txtN, byteStr] at this ⊢
    omega
theorem txtN_size (p : Pg) (n : Nat) : (txtN p n).size = 1 + 2 * n := by
  have := txtN_list p n
  show (txtN p n).data.size = _
  rw [← Array.length_toList]
  exact this

theorem c167 (p : Pg) (h : PageOkP p) : Told 167 [.agg (encP p)] [] [] 0 (.str (txtN p 3)) := by
  refine told_of (Keep.nil _) trivial fun B _ => ?_
  refine acallsF M0 Tryz.func167 (by kernel_rfl) fun hlt => ?_
  obtain ⟨h1, h2, h3, h4, h5⟩ := id h
  have h161 := c161 p (by omega)
  rw [decide_eq_true h] at h161
  simp only [encP, pgRow] at h161
  simp [Tryz.f167, encP, pgRow]
  refine callw_told h161 (Nat.zero_le _) (by simp) ?_
  simp
  refine callw_told (c204 p.owner h2.1 (by have := h2.2; omega)) (Nat.zero_le _) (by simp) ?_
  simp
  refine aloop_ind (ι := Nat) (fun n => 3 - n) (fun n => n ≤ 3) (fun n => [(1, .qe [I64 p.lsn, I64 p.owner, .sl 1 (ints p.vals)]), (3, .str (txtN p n)), (4, I64 n)]) (fun _ => Hp.of []) (fun _ => B) 0 (by simp) (by simp [txtN]) (by simp) (Nat.le_refl _) ?_
  rintro A n hn ih
  refine wpC_sound M0 _ _ _ _ _ (by kernel_rfl) ?_
  simp [cond_dec, h3]
  constructor
  · intro hlt'
    have hlt2 : n < p.vals.length := by omega
    obtain ⟨v, hv⟩ : ∃ v, p.vals[n]? = some v := ⟨_, List.getElem?_eq_getElem hlt2⟩
    have e1 : (ints p.vals)[n]? = some [I64 v] := ints_at hv
    have w1 := w64 ((n : Int) + 1) (by omega) (by omega)
    have hv9 := h4 v (List.mem_of_getElem? hv)
    have hs := txtN_size p n
    simp [e1]
    have hsz1 : (txtN p n).size + (⟨#[32]⟩ : ByteArray).size ≤ 1000 := by rw [hs]; show _ + 1 ≤ _; omega
    simp [hsz1]
    refine callw_told (c204 v hv9.1 hv9.2) (Nat.zero_le _) (by simp) ?_
    have hsz2 : (txtN p n).size + (⟨#[32]⟩ : ByteArray).size + (byteStr (48 + v)).size ≤ 1000 := by
      rw [hs]; show 1 + 2 * n + 1 + 1 ≤ _; omega
    simp [hsz2]
    refine ih (n + 1) _ _ _ (by omega) (by omega) (by simp [w1, txtN, hv]) (by simp) (Nat.le_refl _)
  · intro h'
    obtain rfl : n = 3 := by omega
    simp

theorem u8_inj {a b : Int} (ha : 0 ≤ a ∧ a ≤ 9) (hb : 0 ≤ b ∧ b ≤ 9) (h : UInt8.ofNat (48 + a).toNat = UInt8.ofNat (48 + b).toNat) : a = b := by
  have := congrArg UInt8.toNat h
  simp [UInt8.toNat_ofNat'] at this
  omega
theorem u8_eq {a b : Int} (ha : 0 ≤ a ∧ a ≤ 9) (hb : 0 ≤ b ∧ b ≤ 9) : (UInt8.ofNat (48 + a).toNat == UInt8.ofNat (48 + b).toNat) = decide (a = b) := by
  by_cases h : a = b
  · subst h; simp
  · rw [decide_eq_false h]
    simp only [beq_eq_false_iff_ne]
    exact fun e => h (u8_inj ha hb e)
theorem txt_eq {p q : Pg} (hp : PageOkP p) (hq : PageOkP q) : ((txtN p 3).toList == (txtN q 3).toList) = decide (p.owner = q.owner ∧ p.vals = q.vals) := by
  obtain ⟨p1, p2, p3, p4, p5⟩ := hp
  obtain ⟨q1, q2, q3, q4, q5⟩ := hq
  obtain ⟨pl, po, pv⟩ := p
  obtain ⟨ql, qo, qv⟩ := q
  simp only at *
  match pv, p3, p4 with
  | [a, b, c], _, p4 =>
    match qv, q3, q4 with
    | [a', b', c'], _, q4 =>
      simp at p4 q4
      rw [ByteArray.toList_eq, ByteArray.toList_eq]
      simp [txtN, byteStr]
      rw [u8_eq ⟨p2.1, by have := p2.2; omega⟩ ⟨q2.1, by have := q2.2; omega⟩, u8_eq p4.1 q4.1, u8_eq p4.2.1 q4.2.1, u8_eq p4.2.2 q4.2.2]

theorem c107 (p q : Pg) (hp : PageOkP p) (hq : PageOkP q) : Told 107 [.agg (encP p), .agg (encP q)] [] [] 0 (.bool (decide (p = q))) := by
  refine told_of (Keep.nil _) trivial fun B _ => ?_
  refine acallsF M0 Tryz.func107 (by kernel_rfl) fun hlt => ?_
  have h1 := c167 p hp
  have h2 := c167 q hq
  have h3 := txt_eq hp hq
  simp only [encP, pgRow] at h1 h2
  simp [Tryz.f107, encP, pgRow]
  refine gD (fun h => ?_) (fun h => ?_) <;> simp at h <;> simp [h]
  · rw [h] at h1
    refine calld_told h1 (Nat.zero_le _) (by simp) ?_
    simp
    refine calld_told h2 (Nat.zero_le _) (by simp) ?_
    simp [h3]
    obtain ⟨pl, po, pv⟩ := p
    obtain ⟨ql, qo, qv⟩ := q
    simp only at h
    subst h
    by_cases e1 : po = qo <;> by_cases e2 : pv = qv <;> simp [e1, e2]
  · intro e; exact h (by rw [e])

end Go.Proofs.YtnaafbdgkmlnaaaGreat

/- Functions: the reference's, of logs: the last record of a page; what is loaded, what is taken. -/
namespace Go.Proofs.YtnaafbdgkmlnaaaGreat
set_option linter.unusedVariables false
set_option linter.unusedSimpArgs false
set_option linter.unnecessarySimpa false
set_option maxRecDepth 20000
set_option maxHeartbeats 2000000

theorem lastPB_le (L : List R) (page : Int) : ∀ n, lastPB L page n ≤ n
  | 0 => Nat.le_refl _
  | n + 1 => by
    simp only [lastPB]
    split
    · split
      · omega
      · exact Nat.le_succ_of_le (lastPB_le L page n)
    · omega

theorem c168 (L : List R) (page : Int) (hL : L.length ≤ 1000000) : Told 168 [.sl 8 (L.map encR), I64 page] [] [] 0 (I64 (lastP L page)) := by
  refine told_of (Keep.nil _) trivial fun B _ => ?_
  refine acallsF M3 Tryz.func168 (by kernel_rfl) fun hlt => ?_
  simp [Tryz.f168]
  refine aloop_ind (ι := Nat) (fun n => n) (fun n => n ≤ L.length ∧ lastPB L page n = lastP L page) (fun n => [(0, .sl 8 (L.map encR)), (1, I64 page), (5, I64 ((n : Int) - 1))]) (fun _ => Hp.of []) (fun _ => B) L.length ⟨Nat.le_refl _, rfl⟩ (by simp; exact w64 _ (by omega) (by omega)) (by simp) (Nat.le_refl _) ?_
  rintro A n ⟨hn, hlast⟩ ih
  refine wpC_sound M3 _ _ _ _ _ (by kernel_rfl) ?_
  cases n with
  | zero => simp [← hlast, lastPB]
  | succ m =>
    have e : (((m + 1 : Nat) : Int) - 1) = m := by omega
    simp only [e]
    obtain ⟨r, hr⟩ : ∃ r, L[m]? = some r := ⟨_, List.getElem?_eq_getElem (by omega)⟩
    have hl : lastPB L page (m + 1) = if r.page = page ∧ (Changes r.kind ∨ r.kind = 3) then m + 1 else lastPB L page m := by simp [lastPB, hr]
    have w1 := w64 ((m : Int) - 1) (by omega) (by omega)
    have w2 := w64 ((m : Int) + 1) (by omega) (by omega)
    rw [hlast] at hl
    have go : ¬ (r.page = page ∧ (Changes r.kind ∨ r.kind = 3)) → ∀ F, (∀ p ∈ [(0, AV.sl 8 (L.map encR)), (1, I64 page), (5, I64 ((m : Int) - 1))], F p.1 = p.2) → A F (Hp.of []) B := fun hn' F hF =>
      ih m F _ _ (by omega) ⟨by omega, by rw [hl, if_neg hn']⟩ hF (by simp) (Nat.le_refl _)
    simp [hr, encR]
    refine gO (fun h1 => ?_) (fun h1 => ?_) <;> simp at h1 <;> simp [h1, hr, encR]
    · refine gO (fun h2 => ?_) (fun h2 => ?_) <;> simp at h2 <;> simp [h2, hr, encR]
      · refine gC (fun h3 => ?_) (fun h3 => ?_) <;> simp at h3 <;> simp [h3, hr, encR, w2]
        · simp [hl, h1, h2, h3]
        · exact go (by simp [h1, h2, h3]) _ (by simp [w1])
      · simp [hl, h1, h2, w2]
    · exact go (by simp [h1]) _ (by simp [w1])

end Go.Proofs.YtnaafbdgkmlnaaaGreat

/- Functions: do pages stay valid, when all is undone? (The reference's.) -/
namespace Go.Proofs.YtnaafbdgkmlnaaaGreat
set_option linter.unusedVariables false
set_option linter.unusedSimpArgs false
set_option linter.unnecessarySimpa false
set_option maxRecDepth 20000
set_option maxHeartbeats 2000000

/-- A call that is handed a named block for good. -/
theorem callw_eat {f : FuncId} {args : List AV} {H : Hp} {B id : Nat} {k : Blk} {v : AV} {K : AV → Hp → Nat → Prop} (h : ACalls PP f args (Hp.of [(id, k)]) B (fun v' _ _ => v' = v)) (hv : ∀ B, AV.lt B v) (hid : H id = some k) (hK : K v (H.del id) B) : CallW f args H B K := by
  refine .inr (.inl ⟨Hp.of [(id, k)], fun v' H' B' => v' = v ∧ H' = Hp.nil ∧ B' = B, h.rename fun v1 H1 B1 hq => ?_, fun i k' hi => ?_, ?_⟩)
  · subst hq
    refine ⟨[], v1, Hp.nil, by simp, by simp, .same _ (hv B), ?_, rfl, rfl, rfl⟩
    intro i k' hk; cases hk
  · simp only [Hp.of, Hp.set_app] at hi
    split at hi
    · rename_i e; subst e; rw [hid]; exact hi
    · cases hi
  · rintro v1 H1 B1 ⟨rfl, rfl, rfl⟩ _
    have e : Hp.after H (Hp.of [(id, k)]) Hp.nil = H.del id := by
      funext i
      simp only [Hp.after, Hp.of, Hp.set_app, Hp.del_app, Hp.nil_app]
      by_cases hi : i = id
      · simp [hi]
      · simp [hi]
    rw [e]
    exact hK

def uList (L : List R) (m : Nat) : List Nat := if m = 0 then [] else m :: undosAt L (prevAt L m)
theorem uList_back {L : List R} (h : LogGood L) {n : Nat} (hn : n ≤ L.length) : undosAt L n = uList L (back L n) := by
  cases hm : back L n with
  | zero => rw [undosAt_nil hm]; rfl
  | succ m => rw [undosAt_succ h hn hm]; simp [uList]
def remU (L : List R) : Nat → List Nat
  | 0 => undos L 1 ++ (undos L 2 ++ undos L 3)
  | 1 => undos L 2 ++ undos L 3
  | 2 => undos L 3
  | _ => []
theorem remU_succ (L : List R) : ∀ k, k < 3 → remU L k = undos L ((k + 1 : Nat) : Int) ++ remU L (k + 1)
  | 0, _ => rfl
  | 1, _ => rfl
  | 2, _ => by simp [remU]
  | k + 3, h => by omega
theorem UndoneL_nil (L : List R) (ps : List Pg) : UndoneL L [] ps ↔ True := Iff.rfl
theorem UndoneL_cons (L : List R) (n : Nat) (l : List Nat) (ps : List Pg) : UndoneL L (n :: l) ps ↔ PageOkP (undoPg L ps n) ∧ UndoneL L l (pgSet ps (recAt L n).page (undoPg L ps n)) := Iff.rfl

theorem a106 (id : Nat) (ps : List Pg) (L : List R) (hps : ShP ps) (hg : LogGood L) (hl : L.length ≤ 1000000) (B : Nat) :
    ACalls PP 106 [.ref id 3 0 5, .sl 8 (L.map encR)] (Hp.of [(id, ⟨38, 3, ps.map encP⟩)]) B (fun v _ _ => v = .bool (decide (Undone ps L))) := by
  refine acallsF M3 Tryz.func106 (by kernel_rfl) fun hlt => ?_
  simp [Tryz.f106]
  refine aloop_ind (ι := Nat × List Pg) (fun i => 3 - i.1) (fun i => i.1 ≤ 3 ∧ ShP i.2 ∧ (UndoneL L (remU L i.1) i.2 ↔ Undone ps L)) (fun i => [(0, .ref id 3 0 5), (1, .sl 8 (L.map encR)), (5, I64 ((i.1 + 1 : Nat) : Int))]) (fun i => Hp.of [(id, ⟨38, 3, i.2.map encP⟩)]) (fun i => B) (0, ps) ⟨by simp, hps, by simp [Undone, allUndos, remU]⟩ (by simp) (by simp) (by simp) ?_
  rintro A ⟨k, qs⟩ ⟨hk3, hsh, hU⟩ ih
  simp only at hk3 hsh hU
  refine wpC_sound M3 _ _ _ _ _ (by kernel_rfl) ?_
  by_cases hk : k < 3
  · have hrem := remU_succ L k hk
    have hlast := last_le L ((k + 1 : Nat) : Int)
    have hwq := w64 (((k + 1 : Nat) : Int) + 1) (by omega) (by omega)
    have hle3 : ((k + 1 : Nat) : Int) ≤ 3 := by omega
    have eq1 : ((k + 1 + 1 : Nat) : Int) = ((k + 1 : Nat) : Int) + 1 := by omega
    rw [hrem, undos, uList_back hg hlast] at hU
    have hbk := back_le hg hlast
    generalize hq : ((k + 1 : Nat) : Int) = q at *
    simp [hle3]
    refine callw_told (c122 L q hl) (Nat.zero_le _) (by simp) ?_
    simp
    refine callw_told (c165 L (last L q) hg hlast hl) (Nat.zero_le _) (by simp) ?_
    simp
    refine aloop_ind (ι := Nat × List Pg) (fun i => i.1) (fun i => i.1 ≤ L.length ∧ ShP i.2 ∧ (UndoneL L (uList L i.1 ++ remU L (k + 1)) i.2 ↔ Undone ps L) ∧ (∀ m, i.1 = m + 1 → ∃ r, L[m]? = some r ∧ (r.kind = 1 ∨ r.kind = 2))) (fun i => [(0, .ref id 3 0 5), (1, .sl 8 (L.map encR)), (5, I64 q), (6, I64 i.1)]) (fun i => Hp.of [(id, ⟨38, 3, i.2.map encP⟩)]) (fun i => B) (back L (last L q), qs) ⟨by simp; omega, hsh, hU, (back_spec hg _ hlast).2⟩ (by simp) (by simp) (Nat.le_refl _) ?_
    rintro A2 ⟨m, qs2⟩ ⟨hm, hsh2, hU2, hkind⟩ ih2
    simp only at hm hsh2 hU2 hkind
    refine wpC_sound M3 _ _ _ _ _ (by kernel_rfl) ?_
    cases m with
    | zero =>
      simp [hwq]
      refine ih (k + 1, qs2) _ _ _ (by simp; omega) ⟨by simp; omega, hsh2, by simpa [uList] using hU2⟩ (by simp [eq1]) (by simp) (Nat.le_refl _)
    | succ m =>
      obtain ⟨r, hr, hkd⟩ := hkind m rfl
      obtain ⟨hok, hprev, hnext, _⟩ := hg m r hr
      have hpl := lastB_le L r.tx m
      have hpg := hok.page
      obtain ⟨e1, e2⟩ := hsh2.at hpg.1 hpg.2
      have hql : qs2.length = 5 := hsh2.1
      have hp5 : r.page < 5 := by omega
      have hrec := recAt_eq hr
      have w1 := w64 (((m + 1 : Nat) : Int) - 1) (by omega) (by omega)
      have e : (((m + 1 : Nat) : Int) - 1) = m := by omega
      rw [e] at w1
      have hpos : (0 : Int) < ((m + 1 : Nat) : Int) := by omega
      have hbk2 := back_spec hg (lastB L r.tx m) (by omega)
      have h164 := c164 (pgAt qs2 r.page) (backR r 0) (pgAt qs2 r.page).lsn e2 (by have := hok.slot; simp [backR]; omega)
      have hup : undoPg L qs2 (m + 1) = wr (pgAt qs2 r.page) (backR r 0) (pgAt qs2 r.page).lsn := by simp [undoPg, hrec]
      obtain ⟨u, hu⟩ : ∃ u, u = wr (pgAt qs2 r.page) (backR r 0) (pgAt qs2 r.page).lsn := ⟨_, rfl⟩
      rw [← hu] at h164 hup
      have hul : u.vals.length = 3 := by rw [hu]; exact wr_len _ _ _ e2
      have h161 := c161 u (by omega)
      simp only [encP, pgRow, encR, backR] at h164 h161
      have hlist : uList L (m + 1) = (m + 1) :: uList L (back L (lastB L r.tx m)) := by
        have e4 : r.prev.toNat = lastB L r.tx m := by omega
        simp only [uList, if_neg (Nat.succ_ne_zero m), prevAt_eq hr, e4]
        congr 1
        exact uList_back hg (by omega)
      rw [hlist, List.cons_append, UndoneL_cons, hup, hrec] at hU2
      generalize hz : ((m + 1 : Nat) : Int) = z at *
      simp [hpos, e, w1, hr, encR, hprev, hpg.1, hp5, e1, encP, pgRow, backR]
      rw [hprev] at h164
      refine calld_told h164 (Nat.zero_le _) (by simp) ?_
      have hset : (qs2.map encP).set r.page.toNat [I64 u.lsn, I64 u.owner, .sl 1 (ints u.vals)] = (pgSet qs2 r.page u).map encP := by
        rw [pgSet, ← map_set_enc]; rfl
      have hpl2 : r.page.toNat < qs2.length := by omega
      have hget : (pgSet qs2 r.page u)[r.page.toNat]? = some u := by simp [pgSet, hpl2]
      simp [hpos, e, w1, hr, encR, hprev, hpg.1, hp5, encP, pgRow, backR, hpl2, hset, hget]
      refine ⟨chkW_sh (by kernel_rfl), ?_⟩
      refine callw_told h161 (Nat.zero_le _) (by simp) ?_
      simp
      have hsh3 := hsh2.set r.page hul
      refine gC (fun h1 => ?_) (fun h1 => ?_) <;> simp at h1 <;> simp [hpos, e, w1, hr, encR, hprev]
      · intro hh; exact h1 (hU2.2 hh).1
      · refine callw_told (c165 L (lastB L r.tx m) hg (by omega) hl) (Nat.zero_le _) (by simp) ?_
        simp
        refine ih2 (back L (lastB L r.tx m), pgSet qs2 r.page u) _ _ _ (by simp; omega) ⟨by simp; omega, hsh3, ?_, hbk2.2⟩ (by simp) ?_ (Nat.le_refl _)
        · rw [← hU2]; exact ⟨fun h => ⟨h1, h⟩, fun h => h.2⟩
        · intro i k' hk'
          simp only [Hp.of, Hp.set_app, Hp.nil_app] at hk' ⊢
          split at hk'
          · rename_i ei; rw [if_pos ei]; exact hk'
          · cases hk'
  · obtain rfl : k = 3 := by omega
    simp [remU, UndoneL_nil] at hU
    simp [hU]

end Go.Proofs.YtnaafbdgkmlnaaaGreat

/- Functions: is it a log? (The reference's.) -/
namespace Go.Proofs.YtnaafbdgkmlnaaaGreat
set_option linter.unusedVariables false
set_option linter.unusedSimpArgs false
set_option linter.unnecessarySimpa false
set_option maxRecDepth 20000
set_option maxHeartbeats 2000000

def Good1 (L : List R) (i : Nat) (r : R) : Prop := RecOkP r ∧ r.prev = lastB L r.tx i ∧ r.next ≤ i ∧ (0 < r.next → ∃ q, L[(r.next - 1).toNat]? = some q ∧ q.tx = r.tx)

theorem c103 (L : List R) (hL : L.length ≤ 1000000) : Told 103 [.sl 8 (L.map encR)] [] [] 0 (.bool (decide (LogOkP L))) := by
  refine told_of (Keep.nil _) trivial fun B _ => ?_
  refine acallsF M3 Tryz.func103 (by kernel_rfl) fun hlt => ?_
  simp [Tryz.f103]
  refine aloop_ind (ι := Nat) (fun n => L.length - n) (fun n => n ≤ L.length ∧ ∀ i r, i < n → L[i]? = some r → Good1 L i r) (fun n => [(0, .sl 8 (L.map encR)), (3, I64 n)]) (fun _ => Hp.of []) (fun _ => B) 0 ⟨Nat.zero_le _, fun i r h => by omega⟩ (by simp) (by simp) (Nat.le_refl _) ?_
  rintro A n ⟨hn, hi⟩ ih
  refine wpC_sound M3 _ _ _ _ _ (by kernel_rfl) ?_
  simp [cond_dec]
  constructor
  · intro hlt'
    obtain ⟨r, hr⟩ : ∃ r, L[n]? = some r := ⟨_, List.getElem?_eq_getElem hlt'⟩
    have w1 := w64 ((n : Int) + 1) (by omega) (by omega)
    have h162 := c162 r
    have h122 := c122 (L.take n) r.tx (by rw [List.length_take]; omega)
    rw [List.map_take, last_take hn] at h122
    have bad : ¬ Good1 L n r → ¬ LogOkP L := fun h hok => h (hok.1 n r hr)
    have nn : (n : Int) ≤ (L.length : Int) := by omega
    simp only [encR] at h162
    simp [hr, encR]
    refine calld_told h162 (Nat.zero_le _) (by simp) ?_
    simp
    refine gD (fun h1 => ?_) (fun h1 => ?_) <;> simp at h1 <;> simp [h1, hr, encR, nn]
    · refine calld_told h122 (Nat.zero_le _) (by simp) ?_
      simp [hr]
      refine gD (fun h2 => ?_) (fun h2 => ?_) <;> simp at h2 <;> simp [h2, hr, encR, nn]
      · refine gC (fun h3 => ?_) (fun h3 => ?_) <;> simp [-Int.not_le, -Int.not_lt] at h3 <;> simp [hr, encR]
        · exact bad fun h => by have := h.2.2.1; omega
        · have hnx := h1.next
          refine gD (fun h4 => ?_) (fun h4 => ?_) <;> simp [-Int.not_le, -Int.not_lt] at h4 <;> simp [h4, hr, encR]
          · have w2 := w64 (r.next - 1) (by omega) (by omega)
            have hlq : (r.next - 1).toNat < L.length := by omega
            obtain ⟨q, hq⟩ : ∃ q, L[(r.next - 1).toNat]? = some q := ⟨_, List.getElem?_eq_getElem hlq⟩
            have h0 : 0 ≤ r.next - 1 := by omega
            have h0' : 1 ≤ r.next := by omega
            have ei : (r.next - 1).toNat = r.next.toNat - 1 := by omega
            have hq2 := hq
            rw [ei] at hq2
            simp [w2, h0, h0', hq2, encR]
            refine gC (fun h5 => ?_) (fun h5 => ?_) <;> simp at h5 <;> simp [w1]
            · refine bad fun h => ?_
              obtain ⟨q', hq', e⟩ := h.2.2.2 h4
              rw [hq] at hq'; cases hq'; exact h5 e
            · refine ih (n + 1) _ _ _ (by omega) ⟨hlt', fun i r' hi' hr' => ?_⟩ (by simp) (by simp) (Nat.le_refl _)
              by_cases e : i = n
              · subst e; rw [hr] at hr'; cases hr'; exact ⟨h1, h2, by omega, fun _ => ⟨q, hq, h5⟩⟩
              · exact hi i r' (by omega) hr'
          · simp [w1]
            refine ih (n + 1) _ _ _ (by omega) ⟨hlt', fun i r' hi' hr' => ?_⟩ (by simp) (by simp) (Nat.le_refl _)
            by_cases e : i = n
            · subst e; rw [hr] at hr'; cases hr'; exact ⟨h1, h2, by omega, fun h => absurd h h4⟩
            · exact hi i r' (by omega) hr'
      · exact bad fun h => h2 h.2.1
    · exact bad fun h => h1 h.1
  · intro h
    obtain rfl : n = L.length := by omega
    have hg : LogGood L := fun i r hr => hi i r (List.getElem?_eq_some_iff.1 hr).1 hr
    have : ((L.length : Int) ≤ 150) ↔ LogOkP L := ⟨fun h => ⟨hg, by omega⟩, fun h => by have := h.2; omega⟩
    simp [this]

end Go.Proofs.YtnaafbdgkmlnaaaGreat

/- Functions: is a page loaded, is it fresh? -/
namespace Go.Proofs.YtnaafbdgkmlnaaaGreat
set_option linter.unusedVariables false
set_option linter.unusedSimpArgs false
set_option linter.unnecessarySimpa false
set_option maxRecDepth 20000
set_option maxHeartbeats 2000000

def LoadedAt (L : List R) (n : Nat) (page : Int) : Prop := ∃ m ∈ chainAt L n, (recAt L m).kind = 3 ∧ (recAt L m).page = page
theorem LoadedAt_succ {L : List R} (hg : LogGood L) {m : Nat} {r : R} (hr : L[m]? = some r) (page : Int) : LoadedAt L (m + 1) page ↔ (r.kind = 3 ∧ r.page = page) ∨ LoadedAt L r.prev.toNat page := by
  have hm := (List.getElem?_eq_some_iff.1 hr).1
  simp only [LoadedAt, chainAt_succ hg hm, prevAt_eq hr, List.mem_cons]
  constructor
  · rintro ⟨k, rfl | hk, h⟩
    · rw [recAt_eq hr] at h; exact .inl h
    · exact .inr ⟨k, hk, h⟩
  · rintro (h | ⟨k, hk, h⟩)
    · exact ⟨m + 1, .inl rfl, by rw [recAt_eq hr]; exact h⟩
    · exact ⟨k, .inr hk, h⟩
def LoadedRem (L : List R) (page : Int) : Nat → Prop
  | 0 => LoadedTx L 1 page ∨ (LoadedTx L 2 page ∨ LoadedTx L 3 page)
  | 1 => LoadedTx L 2 page ∨ LoadedTx L 3 page
  | 2 => LoadedTx L 3 page
  | _ => False
theorem LoadedRem_succ (L : List R) (page : Int) : ∀ k, k < 3 → (LoadedRem L page k ↔ LoadedTx L ((k + 1 : Nat) : Int) page ∨ LoadedRem L page (k + 1))
  | 0, _ => Iff.rfl
  | 1, _ => Iff.rfl
  | 2, _ => by simp [LoadedRem]
  | k + 3, h => by omega

theorem c108 (L : List R) (page : Int) (hg : LogGood L) (hl : L.length ≤ 1000000) : Told 108 [.sl 8 (L.map encR), I64 page] [] [] 0 (.bool (decide (Loaded L page))) := by
  refine told_of (Keep.nil _) trivial fun B _ => ?_
  refine acallsF M0 Tryz.func108 (by kernel_rfl) fun hlt => ?_
  simp [Tryz.f108]
  refine aloop_ind (ι := Nat) (fun i => 3 - i) (fun i => i ≤ 3 ∧ (LoadedRem L page i ↔ Loaded L page)) (fun i => [(0, .sl 8 (L.map encR)), (1, I64 page), (5, I64 ((i + 1 : Nat) : Int))]) (fun i => Hp.of []) (fun i => B) 0 ⟨by simp, Iff.rfl⟩ (by simp) (by simp) (by simp) ?_
  rintro A k ⟨hk3, hU⟩ ih
  refine wpC_sound M0 _ _ _ _ _ (by kernel_rfl) ?_
  by_cases hk : k < 3
  · have hrem := LoadedRem_succ L page k hk
    have hlast := last_le L ((k + 1 : Nat) : Int)
    have hwq := w64 (((k + 1 : Nat) : Int) + 1) (by omega) (by omega)
    have hle3 : ((k + 1 : Nat) : Int) ≤ 3 := by omega
    have eq1 : ((k + 1 + 1 : Nat) : Int) = ((k + 1 : Nat) : Int) + 1 := by omega
    rw [hrem] at hU
    generalize hq : ((k + 1 : Nat) : Int) = q at *
    simp [hle3]
    refine callw_told (c122 L q hl) (Nat.zero_le _) (by simp) ?_
    simp
    refine aloop_ind (ι := Nat) (fun i => i) (fun i => i ≤ L.length ∧ (LoadedAt L i page ∨ LoadedRem L page (k + 1) ↔ Loaded L page)) (fun i => [(0, .sl 8 (L.map encR)), (1, I64 page), (5, I64 q), (6, I64 i)]) (fun i => Hp.of []) (fun i => B) (last L q) ⟨hlast, hU⟩ (by simp) (by simp) (Nat.le_refl _) ?_
    rintro A2 m ⟨hm, hU2⟩ ih2
    refine wpC_sound M0 _ _ _ _ _ (by kernel_rfl) ?_
    cases m with
    | zero =>
      simp [hwq]
      refine ih (k + 1) _ _ _ (by omega) ⟨by omega, by simpa [LoadedAt] using hU2⟩ (by simp [eq1]) (by simp) (Nat.le_refl _)
    | succ m =>
      obtain ⟨r, hr⟩ : ∃ r, L[m]? = some r := ⟨_, List.getElem?_eq_getElem (by omega)⟩
      obtain ⟨hok, hprev, hnext, _⟩ := hg m r hr
      have hpl := lastB_le L r.tx m
      have w1 := w64 (((m + 1 : Nat) : Int) - 1) (by omega) (by omega)
      have e : (((m + 1 : Nat) : Int) - 1) = m := by omega
      rw [e] at w1
      have hpos : (0 : Int) < ((m + 1 : Nat) : Int) := by omega
      have e4 : r.prev.toNat = lastB L r.tx m := by omega
      have hs := LoadedAt_succ hg hr page
      rw [hs, e4] at hU2
      generalize hz : ((m + 1 : Nat) : Int) = z at *
      have go : ¬ (r.kind = 3 ∧ r.page = page) → ∀ F, (∀ p ∈ [(0, AV.sl 8 (L.map encR)), (1, I64 page), (5, I64 q), (6, I64 (lastB L r.tx m))], F p.1 = p.2) → A2 F (Hp.of []) B := fun hn' F hF =>
        ih2 (lastB L r.tx m) F _ _ (by omega) ⟨by omega, by rw [← hU2]; simp [hn']⟩ hF (by simp) (Nat.le_refl _)
      simp [hpos, e, w1, hr, encR, hprev]
      refine gO (fun h1 => ?_) (fun h1 => ?_) <;> simp at h1 <;> simp [h1, hpos, e, w1, hr, encR, hprev]
      · refine gC (fun h2 => ?_) (fun h2 => ?_) <;> simp at h2 <;> simp [h2, hpos, e, w1, hr, encR, hprev]
        · exact hU2.1 (.inl (.inl ⟨h1, h2⟩))
        · exact go (by simp [h2]) _ (by simp)
      · exact go (by simp [h1]) _ (by simp)
  · obtain rfl : k = 3 := by omega
    simp [LoadedRem] at hU
    simp [hU]

def Fresh (e : Eng) (page : Int) : Prop := (pgAt e.mem page).lsn = lastP e.log page ∧ ((pgAt e.disk page).lsn < (pgAt e.mem page).lsn ∨ pgAt e.mem page = pgAt e.disk page)
instance (e : Eng) (page : Int) : Decidable (Fresh e page) := by unfold Fresh; infer_instance
theorem PagesOkP.at {ps : List Pg} (h : PagesOkP ps) {n : Int} (h0 : 0 ≤ n) (h1 : n ≤ 4) : PageOkP (pgAt ps n) := h.2 _ (List.mem_of_getElem? (h.sh.at h0 h1).1)

theorem c109 (e : Eng) (page : Int) (hd : PagesOkP e.disk) (hm : PagesOkP e.mem) (hl : e.log.length ≤ 1000000) (hp0 : 0 ≤ page) (hp4 : page ≤ 4) : Told 109 [.agg (encE e), I64 page] [] [] 0 (.bool (decide (Fresh e page))) := by
  refine told_of (Keep.nil _) trivial fun B _ => ?_
  refine acallsF M0 Tryz.func109 (by kernel_rfl) fun hlt => ?_
  obtain ⟨m1, m2⟩ := hm.sh.at hp0 hp4
  obtain ⟨d1, d2⟩ := hd.sh.at hp0 hp4
  have h107 := c107 (pgAt e.mem page) (pgAt e.disk page) (hm.at hp0 hp4) (hd.at hp0 hp4)
  have h168 := c168 e.log page hl
  simp only [encP, pgRow] at h107
  simp [Tryz.f109, encE, encP, pgRow, hp0, m1, d1]
  refine calld_told h168 (Nat.zero_le _) (by simp) ?_
  simp
  refine gD (fun h1 => ?_) (fun h1 => ?_) <;> simp at h1 <;> simp [h1, Fresh, hp0, m1, d1, encP, pgRow]
  refine gD (fun h2 => ?_) (fun h2 => ?_) <;> simp [-Int.not_le, -Int.not_lt] at h2 <;> simp [h1, h2, Fresh, hp0, m1, d1, encP, pgRow]
  rw [h1] at h107
  refine calld_told h107 (Nat.zero_le _) (by simp) ?_
  simp [h1, h2]

end Go.Proofs.YtnaafbdgkmlnaaaGreat
