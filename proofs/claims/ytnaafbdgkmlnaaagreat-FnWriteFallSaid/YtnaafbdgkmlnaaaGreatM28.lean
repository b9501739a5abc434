/- Laws about the machine's run of the program's functions, part 28, in import order. No condition. -/
import Derived.Test.YtnaafbdgkmlnaaaGreatRows
import Derived.Lib.SlBytesRowKit
import Derived.ProofKit
import Derived.Test.YtnaafbdgkmlnaaaGreatM17
import Derived.Test.YtnaafbdgkmlnaaaGreatM19
import Derived.Test.YtnaafbdgkmlnaaaGreatM24
import Derived.Test.YtnaafbdgkmlnaaaGreatM27

set_option linter.unusedVariables false
set_option linter.unusedSimpArgs false
set_option linter.unnecessarySimpa false
/- Functions: a fall. -/
namespace Go.Proofs.YtnaafbdgkmlnaaaGreat
set_option linter.unusedVariables false
set_option linter.unusedSimpArgs false
set_option linter.unnecessarySimpa false
set_option maxRecDepth 20000
set_option maxHeartbeats 2000000

def fallOk (e : Eng) (left : Int) : Prop := EngOk e ∧ 0 ≤ left
noncomputable instance (e : Eng) (left : Int) : Decidable (fallOk e left) := by unfold fallOk; infer_instance
noncomputable def fallE (e : Eng) (left : Int) : Eng := if fallOk e left then fallI e left else eng0

theorem leftN_in {e : Eng} {left : Int} (h : In e.safe 0 e.log.length) (h0 : 0 ≤ left) : 0 ≤ leftN e left ∧ leftN e left ≤ e.log.length := by
  simp only [leftN, In] at *; omega
theorem leftN_if (e : Eng) (left : Int) : (if (if (e.log.length : Int) < left then (e.log.length : Int) else left) < e.safe then e.safe else if (e.log.length : Int) < left then (e.log.length : Int) else left) = leftN e left := by
  simp only [leftN]; split <;> split <;> omega
theorem leftN_if2 (e : Eng) (left : Int) : (if e.safe < (if (e.log.length : Int) < left then (e.log.length : Int) else left) then (if (e.log.length : Int) < left then (e.log.length : Int) else left) else e.safe) = leftN e left := by
  simp only [leftN]; split <;> split <;> omega

theorem c27 (e : Eng) (left : Int) (h : ShortE e) : Told 27 [.agg (encE e), I64 left] [] [] 0 (.tup [.agg (encE (fallE e left)), .bool (decide (fallOk e left))]) := by
  refine told_fz (lt_engT 0 _ _) fun B => ?_
  have h30 := c30 e h
  obtain ⟨hd, hm, hl⟩ := h
  have h1 := (c79 e.disk hd).told (pages_rows _)
  simp only [encE] at h30
  refine acallsF M0 Tryz.func27 (by kernel_rfl) fun hlt => ?_
  simp [Tryz.f27, encE]
  refine callw_told h30 (Nat.zero_le _) (by simp) ?_
  simp
  refine gO (fun c1 => ?_) (fun c1 => ?_) <;> simp at c1 <;> simp [c1]
  · refine gC (fun c2 => ?_) (fun c2 => ?_) <;> simp at c2 <;> simp [c2]
    · exact fz_tupE _ (by rw [fallE, if_neg (by simp [fallOk, c1]; omega)]; exact fz_eng0 _) (by simp [fallOk, c1]; omega)
    · obtain ⟨q0, q1⟩ := leftN_in c1.2.2.2.1 c2
      refine calld_told h1 (Nat.zero_le _) (by simp) ?_
      simp
      refine calld_told h1 (Nat.zero_le _) (by simp) ?_
      simp [leftN_if, q0, q1]
      have h80 := c80 (e.log.take (leftN e left).toNat) (by simp; omega)
      rw [List.map_take] at h80
      refine calld_told h80 (Nat.zero_le _) (by simp) ?_
      simp
      exact ⟨chkW_sh (by kernel_rfl), fz_tupE _ (by rw [fallE, if_pos ⟨c1, c2⟩]; simp only [encE, fallI]; rw [List.map_take]; exact FzL.refl _ _) (by simp [fallOk, c1, c2])⟩
  · exact fz_tupE _ (by rw [fallE, if_neg (by simp [fallOk, c1])]; exact fz_eng0 _) (by simp [fallOk, c1])

theorem c77 (e : Eng) (left : Int) (h : ShortE e) (hs : In e.safe 0 e.log.length) (h0 : 0 ≤ left) : Told 77 [.agg (encE e), I64 left] [] [] 0 (.agg (encE (fallI e left))) := by
  refine told_fz (lt_engA 0 _) fun B => ?_
  obtain ⟨hd, hm, hl⟩ := h
  have h1 := (c138 e.disk hd).told (pages_rows _)
  obtain ⟨q0, q1⟩ := leftN_in hs h0
  have hb : (leftN e left).toNat * 64 ≤ 140737488355328 := by omega
  refine acallsF (Mu [2]) Tryz.func77 (by kernel_rfl) fun hlt => ?_
  simp [Tryz.f77, encE, leftN_if2, q0, q1, hb]
  refine callw_told h1 (Nat.zero_le _) (by simp) ?_
  simp [fallI, List.map_take]
  exact .same _

theorem c26 (e : Eng) (left : Int) (h : ShortE e) : Told 26 [.agg (encE e), I64 left] [] [] 0 (.tup [.agg (encE (fallE e left)), .bool (decide (fallOk e left))]) := by
  refine told_fz (lt_engT 0 _ _) fun B => ?_
  have h50 := c50 e h
  have h78 := c78 e h
  have h77 := c77 e left h
  obtain ⟨hd, hm, hl⟩ := h
  simp only [encE] at h50 h78 h77
  refine acallsF M0 Tryz.func26 (by kernel_rfl) fun hlt => ?_
  simp [Tryz.f26, encE]
  refine callw_told h50 (Nat.zero_le _) (by simp) ?_
  simp
  refine gO (fun c1 => ?_) (fun c1 => ?_) <;> simp at c1 <;> simp [c1]
  · refine gC (fun c2 => ?_) (fun c2 => ?_) <;> simp at c2 <;> simp [c2]
    · exact fz_tupE _ (by rw [fallE, if_neg (by simp [fallOk, c1]; omega)]; exact fz_eng0 _) (by simp [fallOk, c1]; omega)
    · refine callw_told h78 (Nat.zero_le _) (by simp) ?_
      simp
      refine callw_told (h77 c1.2.2.2.1 c2) (Nat.zero_le _) (by simp) ?_
      simp
      exact fz_tupE _ (by rw [fallE, if_pos ⟨c1, c2⟩]; exact FzL.refl _ _) (by simp [fallOk, c1, c2])
  · exact fz_tupE _ (by rw [fallE, if_neg (by simp [fallOk, c1])]; exact fz_eng0 _) (by simp [fallOk, c1])

/-- The pages whose records are not on the disk. -/
def dirtyB (e : Eng) : Nat → List Int
  | 0 => []
  | n + 1 => if (pgAt e.mem n).lsn = (pgAt e.disk n).lsn then dirtyB e n else dirtyB e n ++ [(n : Int)]
noncomputable def dirty (e : Eng) : List Int := if EngOk e then dirtyB e 5 else []

theorem dirtyB_len (e : Eng) : ∀ n, (dirtyB e n).length ≤ n
  | 0 => Nat.le_refl _
  | n + 1 => by
    have := dirtyB_len e n
    simp only [dirtyB]
    split
    · omega
    · simp; omega

theorem c41 (e : Eng) (h : ShortE e) : Told 41 [.agg (encE e)] [] [] 0 (.sl 1 (ints (dirty e))) := by
  refine told_fz (ints_rows _ _) fun B => ?_
  have h30 := c30 e h
  obtain ⟨hd, hm, hl⟩ := h
  simp only [encE] at h30
  refine acallsF (Mu [29]) Tryz.func41 (by kernel_rfl) fun hlt => ?_
  simp [Tryz.f41, encE]
  refine callw_told h30 (Nat.zero_le _) (by simp) ?_
  simp
  refine gC (fun c1 => ?_) (fun c1 => ?_) <;> simp at c1 <;> simp
  · rw [dirty, if_neg c1]; exact .nils 1
  · have hsd : ShP e.disk := c1.1.sh
    have hsm : ShP e.mem := c1.2.1.sh
    have hml : (e.mem.length : Int) = 5 := by rw [hsm.1]; rfl
    simp [hml]
    refine aloop_ind (ι := Nat × Nat × Nat) (fun i => 5 - i.1) (fun i => i.1 ≤ 5 ∧ B + 1 ≤ i.2.1 ∧ i.2.1 < i.2.2) (fun i => [(1, .qe (encE e)), (3, outV i.2.1 1 (ints (dirtyB e i.1))), (10, .sl 3 (e.mem.map encP)), (11, I64 5), (12, I64 i.1)]) (fun i => outH Hp.nil i.2.1 3 1 (ints (dirtyB e i.1))) (fun i => i.2.2) (0, B + 1, B + 2) ⟨by simp, by simp, by simp⟩ (by simp [outV, dirtyB, ints, encE]) (by simp [outH, dirtyB, ints]) (by simp) ?_
    rintro A ⟨n, id, B1⟩ ⟨hn, hB, hid⟩ ih
    simp only at hn hB hid
    refine wpC_sound (Mu [29]) _ _ _ _ _ (by kernel_rfl) ?_
    obtain ⟨out, hout⟩ : ∃ out, out = dirtyB e n := ⟨_, rfl⟩
    simp only [← hout]
    have holen : out.length ≤ 5 := by rw [hout]; have := dirtyB_len e n; omega
    simp [cond_dec, encE]
    constructor
    · intro hlt'
      obtain ⟨m1, m2⟩ := hsm.at (n := (n : Int)) (by omega) (by omega)
      obtain ⟨d1, d2⟩ := hsd.at (n := (n : Int)) (by omega) (by omega)
      simp at m1 d1
      have w1 := w64 ((n : Int) + 1) (by omega) (by omega)
      have hst : dirtyB e (n + 1) = if (pgAt e.mem n).lsn = (pgAt e.disk n).lsn then out else out ++ [(n : Int)] := by rw [hout]; rfl
      simp [m1, d1, encP, pgRow]
      refine gC (fun h => ?_) (fun h => ?_) <;> simp at h <;> simp [w1]
      · have htk : ints (dirtyB e (n + 1)) = ints out ++ [[I64 n]] := by rw [hst, if_neg h]; simp [ints]
        by_cases h0 : ints out = []
        · rw [h0] at htk ⊢
          simp [outV, outH, w1]
          refine ih (n + 1, B1 + 1, B1 + 2) _ _ _ (by simp; omega) ⟨by simp; omega, by simp; omega, by simp⟩ ?_ ?_ (Nat.le_refl _)
          · simp only [htk]; simp [outV, encE, encP, pgRow]
          · simp only [htk]; simp [outH]
        · have hb2 : (out.length + 1) * 8 ≤ 140737488355328 := by omega
          have hne : ¬ id = B1 := by omega
          simp [outV, outH, h0, hb2, w1, hne]
          refine ih (n + 1, B1 + 1, B1 + 2) _ _ _ (by simp; omega) ⟨by simp; omega, by simp; omega, by simp⟩ ?_ ?_ (Nat.le_refl _)
          · simp only [htk]; simp [outV, encE, encP, pgRow]
          · simp only [htk]; simp [outH]
      · refine ih (n + 1, id, B1 + 1) _ _ _ (by simp; omega) ⟨by simp; omega, by simp; omega, by simp; omega⟩ ?_ ?_ (Nat.le_refl _)
        · simp [hst, h, encE, encP, pgRow]
        · simp [hst, h]
          intro i k' hk
          have := outH_id hk
          rw [if_neg (by omega), if_neg (by omega)]
          exact hk
    · intro h
      obtain rfl : n = 5 := by omega
      have : dirty e = out := by rw [dirty, if_pos c1, hout]
      rw [this]
      by_cases h0 : ints out = []
      · have : out = [] := by simpa [ints] using h0
        subst this
        simp [outV, outH, ints]
        exact .nils 1
      · simp [outV, outH, h0]
        exact Fz.ints (e := 3) (by simp) rfl rfl

end Go.Proofs.YtnaafbdgkmlnaaaGreat

/- The statement on what was forced. -/
namespace Go.Proofs.YtnaafbdgkmlnaaaGreat
set_option linter.unusedVariables false
set_option linter.unusedSimpArgs false
set_option linter.unnecessarySimpa false
set_option maxRecDepth 20000
set_option maxHeartbeats 2000000

theorem forceOk_ok {e : Eng} (h : forceOk e) : EngOk (forceE e) := by
  rw [forceE, if_pos h]
  obtain ⟨⟨h1, h2, h3, h4, h5, h6, h7⟩, hd⟩ := h
  refine ⟨h1, h2, h3, ⟨Int.natCast_nonneg _, Int.le_refl _⟩, h5, fun n hn hn2 => h6 n (by have := h4.2; simp only at hn; omega) hn2, fun p hp => ?_⟩
  obtain ⟨a, b, c⟩ := h7 p hp
  exact ⟨a, Int.le_trans b h4.2, c⟩

theorem dirtyB_same {e : Eng} (h : e.mem = e.disk) : ∀ n, dirtyB e n = []
  | 0 => rfl
  | n + 1 => by rw [dirtyB, h, if_pos rfl]; exact dirtyB_same h n
theorem dirty_same {e : Eng} (h : e.mem = e.disk) : dirty e = [] := by
  unfold dirty; split
  · exact dirtyB_same h 5
  · rfl

theorem ShortE.force {e : Eng} (h : ShortE e) : ShortE (forceE e) := by
  unfold forceE; split
  · exact h
  · exact ⟨⟨by simp [eng0], by simp [eng0]⟩, ⟨by simp [eng0], by simp [eng0]⟩, by simp [eng0]⟩

theorem ShortE.fall {e : Eng} (h : ShortE e) (left : Int) : ShortE (fallI e left) := ⟨h.1, h.1, by have := h.2.2; simp [fallI]; omega⟩

end Go.Proofs.YtnaafbdgkmlnaaaGreat

/- The statement on what was forced, over its draw. -/
namespace Go.Proofs.YtnaafbdgkmlnaaaGreat
set_option linter.unusedVariables false
set_option linter.unusedSimpArgs false
set_option linter.unnecessarySimpa false
set_option maxRecDepth 20000
set_option maxHeartbeats 4000000

theorem c8 (code : List Int) (hc : ∀ b ∈ code, 0 ≤ b ∧ b < 256) : Told 8 [bytesAV code] [] [] 0 (.bool true) := by
  refine told_of (Keep.nil _) trivial fun B _ => ?_
  refine acallsF M0 Tryz.func8 (by kernel_rfl) fun hlt => ?_
  simp [Tryz.f8, bytesAV]
  refine gC (fun c1 => ?_) (fun c1 => ?_) <;> simp at c1 <;> simp
  have h38 := a38 code (by omega) hc (B)
  simp only [bytesAV] at h38
  refine callw_rel h38 (by simp) ?_
  rintro v H' B1 H1 ⟨e, hdr, rfl, rfl⟩ hB1 s1 s2
  clear s1 s2 h38
  have hs := hdr.1
  have h39 := c39 e hs
  have h40 := c40 e hs
  have h28 := c28 (forceE e) (forceE e) hs.force
  have h27 := c27 (forceE e) 0 hs.force
  simp only [encE] at h39 h40 h28 h27
  simp [encE]
  refine callw_told h39 (Nat.zero_le _) (by simp) ?_
  simp
  refine callw_told h40 (Nat.zero_le _) (by simp) ?_
  simp
  refine callw_told h28 (Nat.zero_le _) (by simp) ?_
  simp
  by_cases c2 : forceOk e
  · have hf : fallE (forceE e) 0 = fallI (forceE e) 0 := by rw [fallE, if_pos ⟨forceOk_ok c2, Int.le_refl 0⟩]
    have hfe : forceE e = { e with safe := e.log.length } := by rw [forceE, if_pos c2]
    have hy : fallI (forceE e) 0 = ⟨e.disk, e.disk, e.log, e.log.length, true⟩ := by
      rw [hfe]
      have : leftN ({ e with safe := e.log.length } : Eng) 0 = e.log.length := by simp [leftN]; omega
      simp only [fallI]
      rw [this]
      simp
    have h29 := c29 e.log e.log hs.2.2
    have h41 := c41 (⟨e.disk, e.disk, e.log, e.log.length, true⟩ : Eng) ⟨hs.1, hs.1, hs.2.2⟩
    have h17 := c17 e.disk e.disk hs.1
    rw [dirty_same rfl] at h41
    have hok : fallOk (forceE e) 0 := ⟨forceOk_ok c2, Int.le_refl 0⟩
    rw [hf, hy] at h27
    simp only [encE] at h41
    simp [c2, hok] at h27 ⊢
    have n1 : ¬ B1 = B1 + 1 + 2 := by omega
    have n2 : ¬ B1 + 1 = B1 + 1 + 2 := by omega
    have n3 : ¬ B1 + 2 = B1 + 1 + 2 := by omega
    refine callw_told h27 (Nat.zero_le _) (by simp) ?_
    simp [n1, n2, n3]
    refine callw_told h29 (Nat.zero_le _) (by simp) ?_
    simp
    refine callw_told h41 (Nat.zero_le _) (by simp) ?_
    simp [ints, n1, n2, n3]
    refine callw_told h17 (Nat.zero_le _) (by simp) ?_
    simp
  · simp [c2]
    refine callw_told h28 (Nat.zero_le _) (by simp) ?_
    simp

end Go.Proofs.YtnaafbdgkmlnaaaGreat

/- A contract over slices of bytes, turned into the row's own form: one slice, two. -/
namespace Go.Proofs.YtnaafbdgkmlnaaaGreat
set_option linter.unusedVariables false
set_option linter.unusedSimpArgs false
open Go.ChangeShapes Go.WideShapes Go.ChangeAt Go.RowKit

theorem repBytesIn {w : World} {a : Option Addr} {len cap : Nat} {xs : List Int} (hx : xs.length = len) (hc : len ≤ cap) (h : Lib.BytesIn w a len xs) : RepV (g00 w) w (bytesAV xs) (.slice a len cap) := by
  by_cases h0 : len = 0
  · have hx0 : xs = [] := List.length_eq_zero_iff.1 (by omega)
    subst h0 hx0; exact .sl0 1 _ _
  obtain ⟨b, o, rfl, hcell⟩ := h.at (by omega)
  have hb : b < w.heap.size := by
    have c0 := hcell 0 (by omega)
    unfold World.cell? at c0
    split at c0
    · rename_i hh; exact (Array.getElem?_eq_some_iff.1 hh).1
    · cases c0
  have hat : ∀ j k x, at2 (xs.map fun n => [AV.int .u8 n]) j k = some x → j < len ∧ k = 0 ∧ x = AV.int .u8 (xs.getD j 0) := by
    intro j k x hx'
    simp only [at2, List.getElem?_map, Option.bind_map] at hx'
    by_cases hj : j < xs.length
    · rw [List.getElem?_eq_getElem hj] at hx'
      simp at hx'
      cases k with
      | zero => simp at hx'; exact ⟨by omega, rfl, by simp [← hx', List.getD_eq_getElem?_getD, List.getElem?_eq_getElem hj]⟩
      | succ k => simp at hx'
    · rw [List.getElem?_eq_none (by omega)] at hx'
      cases hx'
  refine .sl 1 _ b o len cap (fun j k => .int .u8 (xs.getD j 0)) (by simp; omega) hb hc (by intro x hx'; obtain ⟨n, _, rfl⟩ := List.mem_map.1 hx'; rfl) (fun j k x hx' => ?_) (fun j k x hx' => ?_)
  · obtain ⟨hj, rfl, rfl⟩ := hat j k x hx'
    simpa using hcell j hj
  · obtain ⟨hj, rfl, rfl⟩ := hat j k x hx'
    exact .int _ _

theorem call1 {f : FuncId} {xs : List Int} (h : Told f [bytesAV xs] [] [] 0 (.bool true)) {a : Option Addr} {len cap : Nat} {w : World} (hx : xs.length = len) (hc : len ≤ cap) (hw : Lib.BytesIn w a len xs) :
    Calls PP f #[.slice a len cap] w fun e w' => e = .returned (.bool true) ∧ Below w.heap.size w w' := by
  refine Calls.mono (h.call 0 (Nat.le_refl _) (g00 w) w _ (stc00 w) (.tup _ _ rfl fun k x u hx' hu => ?_)) ?_
  · match k with
    | 0 => simp at hx' hu; subst hx' hu; exact repBytesIn hx hc hw
    | k + 1 => simp at hx'
  · rintro e w' ⟨cv, v1, g', H', B', rfl, ⟨rfl, _⟩, hr, hs⟩
    refine ⟨?_, below_of hs⟩
    cases hr; rfl

theorem call2 {f : FuncId} {xs ys : List Int} (h : Told f [bytesAV xs, bytesAV ys] [] [] 0 (.bool true)) {a a2 : Option Addr} {len len2 cap cap2 : Nat} {w : World} (hx : xs.length = len) (hc : len ≤ cap) (hw : Lib.BytesIn w a len xs) (hx2 : ys.length = len2) (hc2 : len2 ≤ cap2) (hw2 : Lib.BytesIn w a2 len2 ys) :
    Calls PP f #[.slice a len cap, .slice a2 len2 cap2] w fun e w' => e = .returned (.bool true) ∧ Below w.heap.size w w' := by
  refine Calls.mono (h.call 0 (Nat.le_refl _) (g00 w) w _ (stc00 w) (.tup _ _ rfl fun k x u hx' hu => ?_)) ?_
  · match k with
    | 0 => simp at hx' hu; subst hx' hu; exact repBytesIn hx hc hw
    | 1 => simp at hx' hu; subst hx' hu; exact repBytesIn hx2 hc2 hw2
    | k + 2 => simp at hx'
  · rintro e w' ⟨cv, v1, g', H', B', rfl, ⟨rfl, _⟩, hr, hs⟩
    refine ⟨?_, below_of hs⟩
    cases hr; rfl

end Go.Proofs.YtnaafbdgkmlnaaaGreat

/- Logs whose records stand by themselves; what is left behind a fall is ok. -/
namespace Go.Proofs.YtnaafbdgkmlnaaaGreat
set_option linter.unusedVariables false

/-- No record has one before it. -/
def Lone (L : List R) : Prop := ∀ (i : Nat) (r : R), L[i]? = some r → r.prev = 0

theorem lone_left {L : List R} {r : R} (hg : LogGood (L ++ [r])) (hz : r.prev = 0) : (Fits (L ++ [r]) → Fits L) ∧ (∀ p, OneG (L ++ [r]) p → OneG L p) := by
  obtain ⟨_, h2, _⟩ := hg.end
  have hl : last L r.tx = 0 := by omega
  constructor
  · intro h
    have hn := need_snoc hg
    have h0 : needTx L r.tx = 0 := by simp [needTx, hl]
    simp only [Fits, List.length_append, List.length_singleton] at h ⊢
    omega
  · intro p h s t hs ht a b
    have key : ∀ u, Has L u p → Has (L ++ [r]) u p := fun u hu => by
      by_cases e : r.tx = u
      · subst e
        obtain ⟨n, hn, _⟩ := hu
        simp [chain, hl] at hn
      · exact (Has_other hg e).2 hu
    exact h s t hs ht (key s a) (key t b)

theorem take_snoc {L : List R} {n : Nat} (h : n < L.length) : L.take (n + 1) = L.take n ++ [L[n]] := by
  rw [List.take_add_one, List.getElem?_eq_getElem h]; rfl

theorem lone_take {L : List R} {p : Int} (hg : LogGood L) (hz : Lone L) (hf : Fits L) (ho : OneG L p) : ∀ k n, n + k = L.length → Fits (L.take n) ∧ OneG (L.take n) p
  | 0, n, h => by rw [List.take_of_length_le (by omega)]; exact ⟨hf, ho⟩
  | k + 1, n, h => by
    obtain ⟨h1, h2⟩ := lone_take hg hz hf ho k (n + 1) (by omega)
    have hlt : n < L.length := by omega
    have e := take_snoc hlt
    have hg' := hg.take (n + 1)
    rw [e] at h1 h2 hg'
    obtain ⟨a, b⟩ := lone_left hg' (hz n _ (List.getElem?_eq_getElem hlt))
    exact ⟨a h1, b p h2⟩

theorem lone_drop {L : List R} (hg : LogGood L) (hd : LogGood (L.drop 1)) : Lone (L.drop 1) := by
  intro i r hr
  obtain ⟨_, h2, _⟩ := hd i r hr
  have hr' : L[i + 1]? = some r := by rw [List.getElem?_drop] at hr; rw [Nat.add_comm]; exact hr
  obtain ⟨_, k2, _⟩ := hg (i + 1) r hr'
  cases hm : lastB (L.drop 1) r.tx i with
  | zero => rw [hm] at h2; simpa using h2
  | succ m =>
    exfalso
    rw [hm] at h2
    have e : lastB L r.tx (i + 1) = m + 1 := by omega
    have key : ∀ n, lastB L r.tx (n + 1) = (if lastB (L.drop 1) r.tx n = 0 then lastB L r.tx (n + 1) else lastB (L.drop 1) r.tx n + 1) := by
      intro n
      induction n with
      | zero => rfl
      | succ n ih =>
        have e1 : L[n + 1]? = (L.drop 1)[n]? := by rw [List.getElem?_drop, Nat.add_comm]
        have u1 : lastB L r.tx (n + 1 + 1) = match L[n + 1]? with
          | some q => if q.tx = r.tx then (if Ends q then 0 else n + 1 + 1) else lastB L r.tx (n + 1)
          | none => 0 := rfl
        have u2 : lastB (L.drop 1) r.tx (n + 1) = match (L.drop 1)[n]? with
          | some q => if q.tx = r.tx then (if Ends q then 0 else n + 1) else lastB (L.drop 1) r.tx n
          | none => 0 := rfl
        rw [u1, u2, e1]
        cases hq : (L.drop 1)[n]? with
        | none => simp
        | some q =>
          simp only
          by_cases c1 : q.tx = r.tx
          · simp only [c1, if_true]
            by_cases c2 : Ends q <;> simp [c2]
          · simp only [c1, if_false]; exact ih
    have := key i
    rw [hm, if_neg (by omega), e] at this
    omega

end Go.Proofs.YtnaafbdgkmlnaaaGreat

/- A drawn engine's fall is ok; a fall is drawn. -/
namespace Go.Proofs.YtnaafbdgkmlnaaaGreat
set_option linter.unusedVariables false
set_option linter.unusedSimpArgs false
set_option linter.unnecessarySimpa false
set_option maxRecDepth 20000
set_option maxHeartbeats 4000000

theorem LogDrawn.pre {L : List R} {p : Int} (h : LogDrawn L) (hg : LogGood L) (hf : Fits L) (ho : OneG L p) (n : Nat) (hn : n ≤ L.length) : Fits (L.take n) ∧ OneG (L.take n) p := by
  obtain ⟨L0, h0, rfl | ⟨r, rfl⟩ | ⟨i, v, q, hq, rfl⟩ | rfl⟩ := h
  · exact ⟨(h0.pre n hn).1, (h0.pre n hn).2 p⟩
  · by_cases hl : n ≤ L0.length
    · rw [List.take_append_of_le_length hl]
      exact ⟨(h0.pre n hl).1, (h0.pre n hl).2 p⟩
    · rw [List.take_of_length_le (by simp at hn ⊢; omega)]; exact ⟨hf, ho⟩
  · have hi := (List.getElem?_eq_some_iff.1 hq).1
    obtain ⟨_, k2, _⟩ := hg i { q with prev := v } (by simp [hi])
    obtain ⟨_, k3, _⟩ := h0.good i q hq
    have e1 : lastB (L0.set i { q with prev := v }) q.tx i = lastB L0 q.tx i := lastB_congr i fun j hj => by rw [List.getElem?_set_ne (by omega)]
    have e2 : v = q.prev := by rw [k3, ← e1]; exact k2
    have e3 : L0.set i { q with prev := v } = L0 := by
      subst e2
      have : ({ q with prev := q.prev } : R) = q := rfl
      rw [this]
      refine List.ext_getElem? fun j => ?_
      by_cases hj : i = j
      · subst hj; rw [hq]; simp [hi]
      · rw [List.getElem?_set_ne hj]
    rw [e3] at hn ⊢
    exact ⟨(h0.pre n hn).1, (h0.pre n hn).2 p⟩
  · exact lone_take hg (lone_drop h0.good hg) hf ho ((L0.drop 1).length - n) n (by omega)

theorem fall_ok {e : Eng} (h : EngOk e) (hd : LogDrawn e.log) {left : Int} (h0 : 0 ≤ left) : EngOk (fallI e left) := by
  obtain ⟨h1, h2, h3, h4, h5, h6, h7⟩ := h
  obtain ⟨q0, q1⟩ := leftN_in h4 h0
  obtain ⟨n, hn⟩ : ∃ n, n = (leftN e left).toNat := ⟨_, rfl⟩
  have hle : n ≤ e.log.length := by omega
  have hs : e.safe ≤ n := by have : e.safe ≤ leftN e left := by simp only [leftN]; omega
                             omega
  have hl : (e.log.take n).length = n := by simp; omega
  have hpre := fun p (ho : OneG e.log p) => hd.pre h3.1 h5 ho n hle
  refine ⟨h1, h1, h3.take _, ?_, ?_, ?_, fun p hp => ?_⟩
  · simp only [fallI, ← hn, hl]; exact ⟨h4.1, hs⟩
  · simp only [fallI, ← hn]; exact (hpre 0 ((One_G _ _).1 (h7 0 (by decide)).1)).1
  · intro m hm hm2
    simp only [fallI, ← hn, hl] at hm hm2 ⊢
    rw [redoB_take hm2, List.take_take, Nat.min_eq_left hm2]
    exact h6 m hm (by omega)
  · obtain ⟨a, b, c⟩ := h7 p hp
    refine ⟨?_, b, ?_⟩
    · simp only [fallI, ← hn]
      exact (One_G _ _).2 (hpre p ((One_G _ _).1 a)).2
    · simp [fallI]

theorem a25 (code : List Int) (hl : code.length ≤ 1000000000) (hc : ∀ b ∈ code, 0 ≤ b ∧ b < 256) (B : Nat) : ACalls PP 25 [bytesAV code] Hp.nil B (fun v H' B' => ∃ (e : Eng) (left : Int), Drawn e ∧ -100 ≤ left ∧ left ≤ 151 ∧ v = .tup [.agg (encE e), I64 left] ∧ H' = Hp.nil) := by
  have hb : BsOk (code.take 2000) := ⟨by simp; omega, fun b hb => hc b (List.mem_of_mem_take hb)⟩
  have h : ACalls PP 25 [bytesAV code] Hp.nil B (fun v H' B' => ∃ (e : Eng) (left : Int), Drawn e ∧ -100 ≤ left ∧ left ≤ 151 ∧ v = .tup [.agg (encE e), I64 left]) := by
    refine acallsF M3 Tryz.func25 (by kernel_rfl) fun hlt => ?_
    simp [Tryz.f25]
    refine callw_rel (a74 code hl (B + 1)) (by simp) ?_
    rintro v H' B1 H2 ⟨id, k1, k2, rfl, rfl⟩ hB1 s1 s2
    have g1 : H2 id = some (rdB (code.take 2000) 0) := s1 _ _ rdH_id
    have g2 : H2 B = some ⟨30, 5, [[.nils, .nils, .nils, I64 0, .bool false]]⟩ := s2 _ _ (by simp) rfl (rdH_none (by omega))
    clear s1 s2
    simp
    refine callw_rel (a75 id _ 0 hb (by omega) B1 k2) (rdH_sub g1) ?_
    rintro v H' B2 H3 ⟨p3, e, k4, k5, k6, rfl, rfl⟩ hB2 s1 s2
    have f1 : H3 id = some (rdB (code.take 2000) p3) := s1 _ _ rdH_id
    have f2 : H3 B = some ⟨30, 5, [[.nils, .nils, .nils, I64 0, .bool false]]⟩ := s2 _ _ g2 (rdH_none (by omega)) (rdH_none (by omega))
    clear s1 s2
    have n1 : ¬ id = B := by omega
    have n2 : ¬ B = id := by omega
    have n3 : ¬ id = B2 := by omega
    have n4 : ¬ B2 = id := by omega
    have n5 : ¬ B2 = B := by omega
    have n6 : ¬ B = B2 := by omega
    have hlen := k6.1.2.2
    simp [encE]
    refine calld_pick (p := p3) hb (by omega) (by decide) (by simp [n3, f1]) fun x x0 x1 => ?_
    have wx := w64 ((e.log.length : Int) - x) (by omega) (by omega)
    simp [wx]
    refine calld_pick (p := p3 + 1) hb (by omega) (by decide) (by simp [n3, f1]) fun y y0 y1 => ?_
    obtain ⟨q, hq⟩ : ∃ q, q = y.tdiv 23 := ⟨_, rfl⟩
    have q0 : 0 ≤ q := by rw [hq]; exact Int.tdiv_nonneg y0 (by decide)
    have q1 : q ≤ 1 := by
      have := Int.lt_ediv_add_one_mul_self y (by decide : (0 : Int) < 23)
      rw [hq, Int.tdiv_eq_ediv_of_nonneg y0]; omega
    have wq := w64 q (by omega) (by omega)
    have wq2 := w64 (q * 99) (by omega) (by omega)
    obtain ⟨z, hz⟩ : ∃ z, z = if (e.log.length : Int) - x < 0 then 0 else (e.log.length : Int) - x := ⟨_, rfl⟩
    have z0 : 0 ≤ z ∧ z ≤ 151 := by have := k6.2.len; rw [hz]; split <;> omega
    have wz := w64 (z - q * 99) (by omega) (by omega)
    simp [n1, n2, n3, n4, n5, n6, f2, ← hq, wq, wq2]
    refine ⟨chkW_tk [B2, id, B] [⟨[0], [], false⟩, ⟨[], [], false⟩, ⟨[0], [], false⟩, ⟨[], [], false⟩, ⟨[], [], false⟩, ⟨[1], [1], false⟩, ⟨[], [], false⟩, ⟨[], [], false⟩, ⟨[], [], false⟩, ⟨[1], [1], false⟩, ⟨[], [], false⟩, ⟨[], [], false⟩, ⟨[], [], false⟩, ⟨[2], [2], false⟩, ⟨[], [], false⟩] (by simp [n1, n2, n3, n4, n5, n6]) rfl (by kernel_rfl), e, k6, z - q * 99, by omega, by omega, ⟨rfl, rfl, rfl, rfl, rfl⟩, ?_⟩
    rw [← hz]; exact wz
  exact h.only fun v H' B' hlt ⟨e, left, h1, h2, h3, h4⟩ => ⟨Hp.nil, by simp, e, left, h1, h2, h3, h4, rfl⟩

end Go.Proofs.YtnaafbdgkmlnaaaGreat

/- The statement on a fall, over its draw. -/
namespace Go.Proofs.YtnaafbdgkmlnaaaGreat
set_option linter.unusedVariables false
set_option linter.unusedSimpArgs false
set_option linter.unnecessarySimpa false
set_option maxRecDepth 20000
set_option maxHeartbeats 4000000

theorem c5 (code : List Int) (hc : ∀ b ∈ code, 0 ≤ b ∧ b < 256) : Told 5 [bytesAV code] [] [] 0 (.bool true) := by
  refine told_of (Keep.nil _) trivial fun B _ => ?_
  refine acallsF M0 Tryz.func5 (by kernel_rfl) fun hlt => ?_
  simp [Tryz.f5, bytesAV]
  refine gC (fun c1 => ?_) (fun c1 => ?_) <;> simp at c1 <;> simp
  have h25 := a25 code (by omega) hc (B)
  simp only [bytesAV] at h25
  refine callw_rel h25 (by simp) ?_
  rintro v H' B1 H1 ⟨e, left, hdr, l0, l1, rfl, rfl⟩ hB1 s1 s2
  clear s1 s2 h25
  have hs := hdr.1
  have h26 := c26 e left hs
  have h27 := c27 e left hs
  have hx : ShortE (fallE e left) := by
    unfold fallE; split
    · exact hs.fall left
    · exact ⟨⟨by simp [eng0], by simp [eng0]⟩, ⟨by simp [eng0], by simp [eng0]⟩, by simp [eng0]⟩
  have h28 := c28 (fallE e left) (fallE e left) hx
  simp only [encE] at h26 h27 h28
  simp [encE]
  refine callw_told h26 (Nat.zero_le _) (by simp) ?_
  simp
  refine callw_told h27 (Nat.zero_le _) (by simp) ?_
  simp
  refine callw_told h28 (Nat.zero_le _) (by simp) ?_
  simp
  by_cases c2 : fallOk e left
  · have hf : fallE e left = fallI e left := by rw [fallE, if_pos c2]
    have hok := fall_ok c2.1 hdr.2 c2.2
    rw [hf] at hx ⊢
    have h30 := c30 (fallI e left) hx
    have h17 := c17 e.disk e.disk hs.1
    obtain ⟨q0, q1⟩ := leftN_in c2.1.2.2.2.1 c2.2
    have hb : (leftN e left).toNat * 64 ≤ 140737488355328 := by have := hs.2.2; omega
    have h29 := c29 (e.log.take (leftN e left).toNat) (e.log.take (leftN e left).toNat) hx.2.2
    have hlen : ((e.log.take (leftN e left).toNat).length : Int) = leftN e left := by simp; omega
    simp only [encE, fallI] at h30
    simp [c2, fallI, hok] at h30 ⊢
    have hmx : max (leftN e left) 0 = leftN e left := by omega
    rw [List.map_take] at h29
    have n1 : ¬ B1 = B1 + 1 + 2 := by omega
    have n2 : ¬ B1 + 1 = B1 + 1 + 2 := by omega
    have n3 : ¬ B1 + 2 = B1 + 1 + 2 := by omega
    refine calld_told h17 (Nat.zero_le _) (by simp) ?_
    simp [n1, n2, n3]
    refine calld_told h17 (Nat.zero_le _) (by simp) ?_
    simp [n1, n2, n3, leftN_if2, leftN_if, q0, q1, hb, hmx]
    refine calld_told h29 (Nat.zero_le _) (by simp) ?_
    simp [n1, n2, n3]
    refine calld_told h30 (Nat.zero_le _) (by simp) ?_
    simp [n1, n2, n3]
    exact decide_eq_true hok
  · simp [c2]
    refine callw_told h28 (Nat.zero_le _) (by simp) ?_
    simp

end Go.Proofs.YtnaafbdgkmlnaaaGreat

/- The statement on two falls, over its draws. -/
namespace Go.Proofs.YtnaafbdgkmlnaaaGreat
set_option linter.unusedVariables false
set_option linter.unusedSimpArgs false
set_option linter.unnecessarySimpa false
set_option maxRecDepth 20000
set_option maxHeartbeats 4000000

theorem fall_len {e : Eng} {left : Int} (h4 : In e.safe 0 e.log.length) (h0 : 0 ≤ left) : ((fallI e left).log.length : Int) = leftN e left := by
  obtain ⟨q0, q1⟩ := leftN_in h4 h0
  simp only [fallI, List.length_take]; omega
theorem fall_same {e : Eng} {left : Int} (h4 : In e.safe 0 e.log.length) (h0 : 0 ≤ left) : fallI (fallI e left) ((fallI e left).log.length : Int) = fallI e left := by
  have hl := fall_len h4 h0
  have hs : e.safe ≤ leftN e left := by simp only [leftN]; omega
  have h1 : leftN (fallI e left) ((fallI e left).log.length : Int) = ((fallI e left).log.length : Int) := by
    have : (fallI e left).safe = e.safe := rfl
    simp only [leftN, this]; omega
  generalize hx : fallI e left = x at *
  have : fallI x x.log.length = ⟨x.disk, x.disk, x.log.take (leftN x x.log.length).toNat, x.safe, true⟩ := rfl
  rw [this, h1]
  subst hx
  simp only [Int.toNat_natCast, List.take_length]
  rfl
theorem fall_less {e : Eng} {left less : Int} (h4 : In e.safe 0 e.log.length) (h0 : 0 ≤ left) (l0 : 0 ≤ less) (l1 : less ≤ e.log.length) : fallI (fallI e left) less = fallI e (min less left) := by
  have hl := fall_len h4 h0
  obtain ⟨q0, q1⟩ := leftN_in h4 h0
  have h1 : leftN (fallI e left) less = leftN e (min less left) := by
    have : (fallI e left).safe = e.safe := rfl
    simp only [leftN, this, In] at *; omega
  have h2 : leftN e (min less left) ≤ leftN e left := by
    simp only [leftN, In] at *; omega
  have : fallI (fallI e left) less = ⟨e.disk, e.disk, (e.log.take (leftN e left).toNat).take (leftN (fallI e left) less).toNat, e.safe, true⟩ := rfl
  rw [this, h1, List.take_take, Nat.min_eq_left (by omega)]
  rfl

theorem c6 (code more : List Int) (hc : ∀ b ∈ code, 0 ≤ b ∧ b < 256) : Told 6 [bytesAV code, bytesAV more] [] [] 0 (.bool true) := by
  refine told_of (Keep.nil _) trivial fun B _ => ?_
  refine acallsF M0 Tryz.func6 (by kernel_rfl) fun hlt => ?_
  simp [Tryz.f6, bytesAV]
  refine gO (fun c1 => ?_) (fun c1 => ?_) <;> simp [-Int.not_le, -Int.not_lt, -Nat.not_lt, -Nat.not_le] at c1 <;> simp [c1]
  refine gC (fun c0 => ?_) (fun c0 => ?_) <;> simp at c0 <;> simp
  have h25 := a25 code (by omega) hc (B)
  simp only [bytesAV] at h25
  refine callw_rel h25 (by simp) ?_
  rintro v H' B1 H1 ⟨e, left, hdr, l0, l1, rfl, rfl⟩ hB1 s1 s2
  clear s1 s2 h25
  have hs := hdr.1
  have h26 := c26 e left hs
  have h27 := c27 e left hs
  have hx : ShortE (fallE e left) := by
    unfold fallE; split
    · exact hs.fall left
    · exact ⟨⟨by simp [eng0], by simp [eng0]⟩, ⟨by simp [eng0], by simp [eng0]⟩, by simp [eng0]⟩
  have h28 := c28 (fallE e left) (fallE e left) hx
  simp only [encE] at h26 h27 h28
  simp [encE]
  refine callw_told h26 (Nat.zero_le _) (by simp) ?_
  simp
  refine callw_told h27 (Nat.zero_le _) (by simp) ?_
  simp
  refine callw_told h28 (Nat.zero_le _) (by simp) ?_
  simp
  by_cases c2 : fallOk e left
  · have hf : fallE e left = fallI e left := by rw [fallE, if_pos c2]
    have hok := fall_ok c2.1 hdr.2 c2.2
    have hsafe := c2.1.2.2.2.1
    have hlen := hdr.2.len
    have f1 := fall_same hsafe c2.2
    obtain ⟨less, hless⟩ : ∃ less, less = (more.length : Int).tmod ((e.log.length : Int) + 1) := ⟨_, rfl⟩
    have ls0 : 0 ≤ less := by rw [hless]; exact Int.tmod_nonneg _ (by omega)
    have ls1 : less < (e.log.length : Int) + 1 := by rw [hless]; exact Int.tmod_lt_of_pos _ (by omega)
    have f2 := fall_less hsafe c2.2 ls0 (by omega)
    have w1 := w64 ((e.log.length : Int) + 1) (by omega) (by omega)
    have w2 := w64 less (by omega) (by omega)
    rw [hf] at hx ⊢
    obtain ⟨x, hxe⟩ : ∃ x, x = fallI e left := ⟨_, rfl⟩
    rw [← hxe] at hx hok f1 f2 ⊢
    have k1 := c27 x x.log.length hx
    have k2 := c27 x less hx
    have k3 := c27 e (min less left) hs
    have b1 : fallE x x.log.length = x := by rw [fallE, if_pos ⟨hok, Int.natCast_nonneg _⟩, f1]
    have b2 : fallE x less = fallI e (min less left) := by rw [fallE, if_pos ⟨hok, ls0⟩, f2]
    have b3 : fallE e (min less left) = fallI e (min less left) := by rw [fallE, if_pos ⟨c2.1, by have := c2.2; omega⟩]
    have d1 : fallOk x x.log.length := ⟨hok, Int.natCast_nonneg _⟩
    have d2 : fallOk x less := ⟨hok, ls0⟩
    have d3 : fallOk e (min less left) := ⟨c2.1, by have := c2.2; omega⟩
    rw [b1] at k1
    rw [b2] at k2
    rw [b3] at k3
    have hz : ShortE (fallI e (min less left)) := hs.fall _
    obtain ⟨z, hze⟩ : ∃ z, z = fallI e (min less left) := ⟨_, rfl⟩
    rw [← hze] at k2 k3 hz
    have r1 := c28 x x hx
    have r2 := c28 z z hz
    simp only [encE] at k1 k2 k3 r1 r2
    simp [d1, d2, d3] at k1 k2 k3 r1 r2
    simp [c2]
    have n1 : ¬ B1 = B1 + 1 + 2 := by omega
    have n2 : ¬ B1 + 1 = B1 + 1 + 2 := by omega
    have n3 : ¬ B1 + 2 = B1 + 1 + 2 := by omega
    refine callw_told k1 (Nat.zero_le _) (by simp) ?_
    have hz1 : ¬ (e.log.length : Int) + 1 = 0 := by omega
    simp [n1, n2, n3, w1, ← hless, w2, hz1]
    refine callw_told k2 (Nat.zero_le _) (by simp) ?_
    have n4 : ¬ B1 = B1 + 2 + 2 := by omega
    have n5 : ¬ B1 + 1 = B1 + 2 + 2 := by omega
    have n6 : ¬ B1 + 2 = B1 + 2 + 2 := by omega
    have n7 : ¬ B1 + 1 + 2 = B1 + 2 + 2 := by omega
    have hmin : (if left < less then left else less) = min less left := by omega
    simp [n1, n2, n3, n4, n5, n6, n7, hmin]
    refine callw_told k3 (Nat.zero_le _) (by simp) ?_
    have n8 : ¬ B1 = B1 + 1 + 2 + 2 := by omega
    have n9 : ¬ B1 + 1 = B1 + 1 + 2 + 2 := by omega
    have n10 : ¬ B1 + 2 = B1 + 1 + 2 + 2 := by omega
    have n11 : ¬ B1 + 1 + 2 = B1 + 1 + 2 + 2 := by omega
    have n12 : ¬ B1 + 2 + 2 = B1 + 1 + 2 + 2 := by omega
    simp [n1, n2, n3, n4, n5, n6, n7, n8, n9, n10, n11, n12]
    refine callw_told r1 (Nat.zero_le _) (by simp) ?_
    simp [n1, n2, n3, n4, n5, n6, n7, n8, n9, n10, n11, n12]
    refine callw_told r2 (Nat.zero_le _) (by simp) ?_
    simp
  · simp [c2]
    refine callw_told h28 (Nat.zero_le _) (by simp) ?_
    simp

end Go.Proofs.YtnaafbdgkmlnaaaGreat
