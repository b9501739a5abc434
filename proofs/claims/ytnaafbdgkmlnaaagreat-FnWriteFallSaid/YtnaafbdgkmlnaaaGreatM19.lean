/- Laws about the machine's run of the program's functions, part 19, in import order. No condition. -/
import Derived.RangeFuncNested
import Derived.RangeFuncBound
import Derived.RangeFuncCalls
import Derived.RangeFuncBox
import Derived.RangeFuncLeaves
import Derived.Shelf.Abstract
import Derived.WalkKit
import Derived.OwnWalkIn
import Derived.TacticsInMore
import Derived.LoopNIn
import Derived.LoopIn
import Derived.Test.YtnaafbdgkmlnaaaGreatM12
import Derived.Test.YtnaafbdgkmlnaaaGreatM18

set_option linter.unusedVariables false
set_option linter.unusedSimpArgs false
set_option linter.unnecessarySimpa false
/- Functions: something happens. -/
namespace Go.Proofs.YtnaafbdgkmlnaaaGreat
set_option linter.unusedVariables false
set_option linter.unusedSimpArgs false
set_option linter.unnecessarySimpa false
set_option maxRecDepth 20000
set_option maxHeartbeats 4000000

/-- An event, as cells. -/
def encEv (v : Ev) : List AV := [I64 v.kind, I64 v.tx, I64 v.page, I64 v.slot, I64 v.n, .sl 1 (ints v.vals)]
/-- Memory is made anew. -/
def newMem (e : Eng) (v : Ev) : Prop := (v.kind = 8 ∧ 0 ≤ v.n) ∨ (v.kind = 9 ∧ 0 ≤ v.n ∧ e.down = true)
instance (e : Eng) (v : Ev) : Decidable (newMem e v) := by unfold newMem; infer_instance

theorem t67 (D M : Nat) (hDM : D ≠ M) (Bm : Nat) (hD : D < Bm) (hM : M < Bm) (e : Eng) (v : Ev) (h : PlayInv e) (hv : v.vals.length ≤ 1000000) (hn : ¬ newMem e v) :
    Told 67 [.agg (encN D M e), .agg (encEv v)] (ebl D M e) (ebl D M (evE e v)) Bm (.agg (encN D M (evE e v))) := by
  refine told_N2 hDM (by simp only [AV.lt]; exact lt_encN hD hM _) fun B hB H0 HD HM => ?_
  refine acallsF (M3u [5]) Tryz.func67 (by kernel_rfl) fun hlt => ?_
  have n1 : ¬ D = B := by omega
  have n2 : ¬ M = B := by omega
  have n3 : ¬ M = D := Ne.symm hDM
  have n4 : ¬ B = M := by omega
  have n5 : ¬ B = D := by omega
  have n6 : ¬ D = B + 1 := by omega
  have n7 : ¬ M = B + 1 := by omega
  have n8 : ¬ B + 1 = M := by omega
  have n9 : ¬ B + 1 = D := by omega
  have h1 := c123 D M hDM Bm hD hM e v.tx v.page v.slot v.n h
  have h2 := c124 D M hDM Bm hD hM e v.tx v.page v.n h
  have h3 := c125 D M hDM Bm hD hM e v.tx v.page v.vals h hv
  have h4 := c126 D M hDM Bm hD hM e v.tx h
  have h5 := c127 D M hDM Bm hD hM e v.tx h.st
  have h6 := c111 D M hDM Bm hD hM e v.page h.disk.sh h.mem.sh
  obtain ⟨x, hx⟩ : ∃ x, x = evE e v := ⟨_, rfl⟩
  rw [← hx]
  simp only [pgs] at HD HM
  simp only [encN, encG] at h1 h2 h3 h4 h5 h6
  simp [Tryz.f67, encN, encG, encEv, n1, n2, n6, n7]
  refine gC (fun c1 => ?_) (fun c1 => ?_) <;> simp at c1 <;> simp
  · have hxe : x = putE e v.tx v.page v.slot v.n := by rw [hx, evE, if_pos c1]
    rw [← hxe] at h1
    refine callw_eng h1 (by omega) (by simp [HD, n1, n6, pgs]) (by simp [HM, n2, n7, pgs]) ?_
    simp [hDM, n1, n2, n3, n4, n5, n6, n7, n8, n9, pgs]
  refine gC (fun c2 => ?_) (fun c2 => ?_) <;> simp at c2 <;> simp
  · have hxe : x = ownE e v.tx v.page v.n := by rw [hx, evE, if_neg c1, if_pos c2]
    rw [← hxe] at h2
    refine callw_eng h2 (by omega) (by simp [HD, n1, n6, pgs]) (by simp [HM, n2, n7, pgs]) ?_
    simp [hDM, n1, n2, n3, n4, n5, n6, n7, n8, n9, pgs]
  refine gC (fun c3 => ?_) (fun c3 => ?_) <;> simp at c3 <;> simp
  · have hxe : x = loadE e v.tx v.page v.vals := by rw [hx, evE, if_neg c1, if_neg c2, if_pos c3]
    rw [← hxe] at h3
    refine callw_eng h3 (by omega) (by simp [HD, n1, n6, pgs]) (by simp [HM, n2, n7, pgs]) ?_
    simp [hDM, n1, n2, n3, n4, n5, n6, n7, n8, n9, pgs]
  refine gC (fun c4 => ?_) (fun c4 => ?_) <;> simp at c4 <;> simp
  · have hxe : x = doneE e v.tx := by rw [hx, evE, if_neg c1, if_neg c2, if_neg c3, if_pos c4]
    rw [← hxe] at h4
    refine callw_eng h4 (by omega) (by simp [HD, n1, n6, pgs]) (by simp [HM, n2, n7, pgs]) ?_
    simp [hDM, n1, n2, n3, n4, n5, n6, n7, n8, n9, pgs]
  refine gC (fun c5 => ?_) (fun c5 => ?_) <;> simp at c5 <;> simp
  · have hxe : x = undoE e v.tx := by rw [hx, evE, if_neg c1, if_neg c2, if_neg c3, if_neg c4, if_pos c5]
    rw [← hxe] at h5
    refine callw_eng h5 (by omega) (by simp [HD, n1, n6, pgs]) (by simp [HM, n2, n7, pgs]) ?_
    simp [hDM, n1, n2, n3, n4, n5, n6, n7, n8, n9, pgs]
  refine gC (fun c6 => ?_) (fun c6 => ?_) <;> simp at c6 <;> simp
  · have hxe : x = if e.down = false ∧ In v.page 0 4 then writeE e v.page else e := by rw [hx, evE, if_neg c1, if_neg c2, if_neg c3, if_neg c4, if_neg c5, if_pos c6]
    refine gO (fun d1 => ?_) (fun d1 => ?_) <;> simp at d1 <;> simp [d1]
    · refine gC (fun d2 => ?_) (fun d2 => ?_) <;> simp at d2 <;> simp
      · have hxe : x = writeE e v.page := by rw [hxe, if_pos ⟨d1, d2⟩]
        rw [← hxe] at h6
        simp only [d1] at h6
        refine callw_eng (h6 d2) (by omega) (by simp [HD, n1, n6, pgs]) (by simp [HM, n2, n7, pgs]) ?_
        simp [hDM, n1, n2, n3, n4, n5, n6, n7, n8, n9, pgs]
      · have hxe : x = e := by rw [hxe, if_neg fun q => d2 q.2]
        simp [hxe, d1, HD, HM, hDM, n1, n2, n3, n4, n5, n6, n7, n8, n9, pgs]
    · have hxe : x = e := by rw [hxe, if_neg fun q => by have := q.1; simp [d1] at this]
      simp [hxe, d1, HD, HM, hDM, n1, n2, n3, n4, n5, n6, n7, n8, n9, pgs]
  refine gC (fun c7 => ?_) (fun c7 => ?_) <;> simp at c7 <;> simp
  · have hxe : x = if e.down = false then { e with safe := (e.log.length : Int) } else e := by rw [hx, evE, if_neg c1, if_neg c2, if_neg c3, if_neg c4, if_neg c5, if_neg c6, if_pos c7]
    refine gC (fun d1 => ?_) (fun d1 => ?_) <;> simp at d1 <;> simp
    · have hxe : x = { e with safe := (e.log.length : Int) } := by rw [hxe, if_pos d1]
      simp [hxe, d1, HD, HM, hDM, n1, n2, n3, n4, n5, n6, n7, n8, n9, pgs]
    · have hxe : x = e := by rw [hxe, if_neg (by simp [d1])]
      simp [hxe, d1, HD, HM, hDM, n1, n2, n3, n4, n5, n6, n7, n8, n9, pgs]
  refine gC (fun c8 => ?_) (fun c8 => ?_) <;> simp at c8 <;> simp
  · have hxe : x = if 0 ≤ v.n then fallI e v.n else e := by rw [hx, evE, if_neg c1, if_neg c2, if_neg c3, if_neg c4, if_neg c5, if_neg c6, if_neg c7, if_pos c8]
    have hn0 : ¬ 0 ≤ v.n := fun q => hn (.inl ⟨c8, q⟩)
    have hxe : x = e := by rw [hxe, if_neg hn0]
    simp [hn0, hxe, HD, HM, hDM, n1, n2, n3, n4, n5, n6, n7, n8, n9, pgs]
  refine gC (fun c9 => ?_) (fun c9 => ?_) <;> simp at c9 <;> simp
  · have hxe : x = if 0 ≤ v.n ∧ e.down = true then upI e v.n else e := by rw [hx, evE, if_neg c1, if_neg c2, if_neg c3, if_neg c4, if_neg c5, if_neg c6, if_neg c7, if_neg c8, if_pos c9]
    have hn0 : ¬ (0 ≤ v.n ∧ e.down = true) := fun q => hn (.inr ⟨c9, q⟩)
    have hxe : x = e := by rw [hxe, if_neg hn0]
    refine gO (fun d1 => ?_) (fun d1 => ?_) <;> simp [-Int.not_le, -Int.not_lt] at d1 <;> simp [d1]
    · have hdn : e.down = false := by
        cases hd : e.down with
        | false => rfl
        | true => exact absurd ⟨d1, hd⟩ hn0
      simp [hdn, hxe, HD, HM, hDM, n1, n2, n3, n4, n5, n6, n7, n8, n9, pgs]
    · simp [hxe, HD, HM, hDM, n1, n2, n3, n4, n5, n6, n7, n8, n9, pgs]
  · have hxe : x = e := by rw [hx, evE, if_neg c1, if_neg c2, if_neg c3, if_neg c4, if_neg c5, if_neg c6, if_neg c7, if_neg c8, if_neg c9]
    simp [hxe, HD, HM, hDM, n1, n2, n3, n4, n5, n6, n7, n8, n9, pgs]

theorem evE_mem5 {e : Eng} (h : PlayInv e) (v : Ev) : ((evE e v).mem.map encP).length = 5 := by simp [(h.ev v).mem.1]

theorem n67 (D M : Nat) (hDM : D ≠ M) (Bm : Nat) (hD : D < Bm) (hM : M < Bm) (e : Eng) (v : Ev) (h : PlayInv e) (hn : newMem e v) :
    ∀ B, Bm ≤ B → ToldN 67 [.agg (encN D M e), .agg (encEv v)] (ebl D M e) (ebl D M e) B (.agg (encN D B (evE e v))) [pgs (evE e v).mem] := by
  have hrl := evE_mem5 h v
  have key := fun h => @mk1h_of 67 [.agg (encN D M e), .agg (encEv v)] (ebl D M e) (fun x => .agg (encG (.ref D 3 0 5) x (evE e v))) Bm 38 3 ((evE e v).mem.map encP) (fun B => ebl_keep hDM) (ebl_lt hD hM) (by rw [hrl]; exact fun B id hB hid => ren_eng (by omega) hid _) (pages_rows _) h
  rw [hrl] at key
  refine key fun B hB => ?_
  have HD := ebl_D (e := e) hDM
  have HM := ebl_M (e := e) hDM
  generalize Hp.of (ebl D M e) = H0 at HD HM ⊢
  have n1 : ¬ D = B := by omega
  have n2 : ¬ M = B := by omega
  have n6 : ¬ D = B + 1 := by omega
  have n7 : ¬ M = B + 1 := by omega
  have n8 : ¬ D = B + 2 := by omega
  have n9 : ¬ M = B + 2 := by omega
  simp only [pgs] at HD HM
  refine acallsF (M3u [5]) Tryz.func67 (by kernel_rfl) fun hlt => ?_
  simp [Tryz.f67, encN, encG, encEv, n1, n2, n6, n7]
  rcases hn with ⟨k8, h0⟩ | ⟨k9, h0, hdn⟩
  · have hxe : evE e v = fallI e v.n := by simp [evE, k8, h0]
    have h77 := c77r D M hDM Bm hD hM e v.n h h0 (B + 2) (by omega)
    simp only [encN, encG] at h77
    simp [k8, h0]
    refine callw_mkh h77 (by simp [ebl, HD, HM, n1, n2, n6, n7, pgs]) ?_
    simp
    refine ⟨B + 2, by omega, ⟨rfl, by rw [hxe], by rw [hxe], by rw [hxe]⟩, by rw [hxe]; simp [fallI, pgs], ?_⟩
    intro a b hab
    simp only [ebl, List.mem_cons, List.not_mem_nil, or_false] at hab
    rcases hab with q | q <;> cases q <;> simp [HD, HM, n1, n2, n6, n7, n8, n9, pgs]
  · have hxe : evE e v = upI e v.n := by simp [evE, k9, h0, hdn]
    have h89 := c89r D M hDM Bm hD hM e v.n h.st hdn (B + 2) (by omega)
    simp only [encN, encG, hdn] at h89
    simp [k9, h0, hdn]
    refine callw_mkh h89 (by simp [ebl, HD, HM, n1, n2, n6, n7, pgs]) ?_
    simp
    refine ⟨B + 2, by omega, ⟨rfl, by rw [hxe], by rw [hxe], by rw [hxe]⟩, by rw [hxe]; simp [pgs], ?_⟩
    intro a b hab
    simp only [ebl, List.mem_cons, List.not_mem_nil, or_false] at hab
    rcases hab with q | q <;> cases q <;> simp [HD, HM, n1, n2, n6, n7, n8, n9, pgs]

end Go.Proofs.YtnaafbdgkmlnaaaGreat

/- The library's slices.Backward, at records. -/
namespace Go.Proofs.YtnaafbdgkmlnaaaGreat
set_option linter.unusedVariables false
set_option linter.unusedSimpArgs false
open Go.RowKit Go.Shelf
attribute [local go_sem] Oper.semAt_some

def encV (r : R) : Array Value := #[.int .i64 r.kind, .int .i64 r.tx, .int .i64 r.page, .int .i64 r.slot, .int .i64 r.old, .int .i64 r.new, .int .i64 r.prev, .int .i64 r.next]
/-- What has come when k rounds are over. -/
def upBw (len : Nat) (rs : Nat → R) (k : Nat) : List (Nat × R) := (List.range k).map fun j => (len - 1 - j, rs (len - 1 - j))
theorem upBw_succ {len : Nat} {rs : Nat → R} {j : Nat} (h : j < len) : upBw len rs (len - (j + 1)) ++ [(j, rs j)] = upBw len rs (len - j) := by
  have e : len - j = (len - (j + 1)) + 1 := by omega
  have e2 : len - 1 - (len - (j + 1)) = j := by omega
  rw [e]
  simp only [upBw, List.range_succ, List.map_append, List.map_cons, List.map_nil, e2]
theorem upBw_len (len : Nat) (rs : Nat → R) (k : Nat) : (upBw len rs k).length = k := by simp [upBw]

set_option maxRecDepth 100000 in
set_option maxHeartbeats 2000000 in
theorem bw1_in (F : Fence) (n : Nat) (h211 : F.fn 211) (hro : F.round = none) (hn : 1 ≤ n) (l Bs n₀ b off len cap : Nat) (rs : Nat → R) (hreach : len ≤ 1000000) (hb : b < n₀) (J Jx : List (Nat × R) → World → Prop)
    (hY : ∀ pre x W, J pre W → pre.length < len → YieldAt F (n - 1) PP l #[.int .i64 (x.1 : Int), .agg (encV x.2)] W fun e W' =>
      (e = .returned (.bool true) ∧ J (pre ++ [x]) W' ∧ Below n₀ W W') ∨ (e = .returned (.bool false) ∧ Jx (pre ++ [x]) W'))
    (W : World) (hBs : W.cell? ⟨Bs, 0, none⟩ = some (.slice (some ⟨b, off, none⟩) len cap)) (hBs' : Bs < n₀) (hc : ∀ j, j < len → ∀ k v, (encV (rs j))[k]? = some v → W.cell? ⟨b, off + j * 8 + k, none⟩ = some v) (h0 : J [] W) :
    CallsIn F n PP 211 #[.func (.yield l) #[] #[], .pointer (some ⟨Bs, 0, none⟩)] W fun e W' => (∃ v, e = .returned v) ∧
      (J (upBw len rs len) W' ∨ (∃ k, k ≤ len ∧ Jx (upBw len rs k) W')) := by
  refine callsIn_of_wp Tryz.func211 rfl h211 ?_ hro
  simp only [Tryz.ntmps211, List.size_toArray, List.length_cons, List.length_nil, Nat.reduceAdd, Nat.reduceSub, Array.replicate_succ, Array.replicate_zero, List.push_toArray, List.append_toArray, List.nil_append, List.cons_append]
  gi_wp2
  gi_loopw [3] (fun i wr => ∃ m : Nat, m ≤ len ∧ i = .int .i64 ((m : Int) - 1) ∧ J (upBw len rs (len - m)) wr ∧ Below n₀ W wr)
    (fun i _ => (intOf i + 1).toNat)
  case atStart => exact ⟨len, Nat.le_refl _, rfl, by simpa [upBw] using h0, Below.refl _ _⟩
  case round =>
    obtain ⟨m, hm, rfl, hJs, hnx⟩ := hrel
    have hBr : wr.cell? ⟨Bs, 0, none⟩ = some (.slice (some ⟨b, off, none⟩) len cap) := (hnx.cell (p := ⟨Bs, 0, none⟩) hBs').trans hBs
    cases m with
    | zero =>
      gi_wp2
      go_end0
      exact ⟨⟨_, rfl⟩, .inl (by simpa using hJs)⟩
    | succ j =>
      have ej : (((j + 1 : Nat) : Int) - 1) = (j : Int) := by omega
      rw [ej]
      have hcj : ∀ k v, (encV (rs j))[k]? = some v → wr.cell? ⟨b, off + j * 8 + k, none⟩ = some v := fun k v hv => (hnx.cell (p := ⟨b, off + j * 8 + k, none⟩) hb).trans (hc j (by omega) k v hv)
      have k0 : wr.cell? ⟨b, off + j * 8, none⟩ = some (.int .i64 (rs j).kind) := hcj 0 _ rfl
      have k1 : wr.cell? ⟨b, off + j * 8 + 1, none⟩ = some (.int .i64 (rs j).tx) := hcj 1 _ rfl
      have k2 : wr.cell? ⟨b, off + j * 8 + 2, none⟩ = some (.int .i64 (rs j).page) := hcj 2 _ rfl
      have k3 : wr.cell? ⟨b, off + j * 8 + 3, none⟩ = some (.int .i64 (rs j).slot) := hcj 3 _ rfl
      have k4 : wr.cell? ⟨b, off + j * 8 + 4, none⟩ = some (.int .i64 (rs j).old) := hcj 4 _ rfl
      have k5 : wr.cell? ⟨b, off + j * 8 + 5, none⟩ = some (.int .i64 (rs j).new) := hcj 5 _ rfl
      have k6 : wr.cell? ⟨b, off + j * 8 + 6, none⟩ = some (.int .i64 (rs j).prev) := hcj 6 _ rfl
      have k7 : wr.cell? ⟨b, off + j * 8 + 7, none⟩ = some (.int .i64 (rs j).next) := hcj 7 _ rfl
      clear hcj
      have hjl : j < len := by omega
      obtain ⟨fn, tmps, assign, body, hy, hR⟩ := hY _ (j, rs j) wr hJs (by rw [upBw_len]; omega)
      dsimp only [encV] at hy
      gi_wp2
      refine hR.mono ?_
      rintro e W3 (⟨rfl, hJ3, hk3⟩ | ⟨rfl, hJx3⟩)
      · gi_wp2
        go_roundw
        case rel =>
          exact ⟨j, by omega, by simp, by rw [← upBw_succ hjl]; exact hJ3, hnx.trans hk3⟩
        case measure => simp [intOf]
      · gi_wp2
        refine bodyPost_ret (results_none rfl _ _ _) rfl ?_
        exact ⟨⟨_, rfl⟩, .inr ⟨len - j, by omega, by rw [← upBw_succ hjl]; exact hJx3⟩⟩

set_option maxRecDepth 100000 in
set_option maxHeartbeats 2000000 in
theorem bw0_in (F : Fence) (n : Nat) (h211 : F.fn 211) (hro : F.round = none) (l Bs : Nat) (a : Option Addr) (cap : Nat) (J : List (Nat × R) → World → Prop)
    (W : World) (hBs : W.cell? ⟨Bs, 0, none⟩ = some (.slice a 0 cap)) (h0 : J [] W) :
    CallsIn F n PP 211 #[.func (.yield l) #[] #[], .pointer (some ⟨Bs, 0, none⟩)] W fun e W' => (∃ v, e = .returned v) ∧ J [] W' := by
  refine callsIn_of_wp Tryz.func211 rfl h211 ?_ hro
  simp only [Tryz.ntmps211, List.size_toArray, List.length_cons, List.length_nil, Nat.reduceAdd, Nat.reduceSub, Array.replicate_succ, Array.replicate_zero, List.push_toArray, List.append_toArray, List.nil_append, List.cons_append]
  gi_wp2
  gi_loopw [3] (fun i wr => i = .int .i64 (-1) ∧ J [] wr) (fun _ _ => 0)
  case atStart => exact ⟨rfl, h0⟩
  case round =>
    obtain ⟨rfl, hJs⟩ := hrel
    gi_wp2
    go_end0
    exact ⟨⟨_, rfl⟩, hJs⟩

set_option maxHeartbeats 1000000 in
theorem bw_in (F : Fence) (n : Nat) (h196 : F.fn 196) (hro : F.round = none) (a : Option Addr) (len cap : Nat) (w : World) :
    CallsIn F n PP 196 #[.slice a len cap] w fun e w' => e = .returned (.func (.func 211) #[] #[.pointer (some ⟨w.heap.size, 0, none⟩)]) ∧ w' = w.alloc (.cells #[.slice a len cap] 28) := by
  refine callsIn_of_wp Tryz.func196 rfl h196 ?_ hro
  simp only [Tryz.ntmps196, List.size_toArray, List.length_cons, List.length_nil, Nat.reduceAdd, Nat.reduceSub, Array.replicate_succ, Array.replicate_zero, List.push_toArray, List.append_toArray, List.nil_append, List.cons_append]
  gi_wp2
  go_ret
  exact ⟨rfl, rfl⟩

/-- The slice value sv holds the records rs 0, .., rs (len - 1), in a block below n₀. -/
def RecsAt (n₀ : Nat) (W : World) (sv : Value) (len : Nat) (rs : Nat → R) : Prop :=
  (len = 0 ∧ ∃ a cap, sv = .slice a 0 cap) ∨ ∃ b off cap, sv = .slice (some ⟨b, off, none⟩) len cap ∧ b < n₀ ∧ ∀ j, j < len → ∀ k v, (encV (rs j))[k]? = some v → W.cell? ⟨b, off + j * 8 + k, none⟩ = some v
theorem RecsAt.below {n₀ : Nat} {A B : World} (h : Below n₀ A B) {sv : Value} {len : Nat} {rs : Nat → R} : RecsAt n₀ A sv len rs → RecsAt n₀ B sv len rs
  | .inl e => .inl e
  | .inr ⟨b, off, cap, e, hb, hc⟩ => .inr ⟨b, off, cap, e, hb, fun j hj k v hv => (h.cell (p := ⟨b, off + j * 8 + k, none⟩) hb).trans (hc j hj k v hv)⟩

theorem bw_stops (F : Fence) (n : Nat) (h211 : F.fn 211) (hro : F.round = none) (hn : 1 ≤ n) (Bs n₀ : Nat) (sv : Value) (len : Nat) (rs : Nat → R) (hreach : len ≤ 1000000) (w : World) (hBs : Bs < w.heap.size) (hB0 : Bs < n₀) (hn₀ : n₀ ≤ w.heap.size)
    (hc : w.cell? ⟨Bs, 0, none⟩ = some sv) (hI : RecsAt n₀ w sv len rs) :
    SeqStopsK F n PP 211 #[.pointer (some ⟨Bs, 0, none⟩)] (fun x : Nat × R => #[Value.int .i64 (x.1 : Int), Value.agg (encV x.2)]) (Below n₀) (fun ys => ys = upBw len rs len)
      (fun pre => ∃ k, k ≤ len ∧ pre = upBw len rs k) len w := fun l J Jx W hW _ _ hY h0 => by
  have hc' := (hW.cell (p := ⟨Bs, 0, none⟩) hBs).trans hc
  rcases hI.below (hW.mono hn₀) with ⟨rfl, a, cap, rfl⟩ | ⟨b, off, cap, rfl, hb, hcs⟩
  · exact (bw0_in F n h211 hro l Bs a cap J W hc' h0).mono fun e W' ⟨he, hj⟩ => ⟨he, .inl ⟨_, rfl, hj⟩⟩
  · refine (bw1_in F n h211 hro hn l Bs n₀ b off len cap rs hreach hb J Jx hY W hc' hB0 hcs h0).mono ?_
    rintro e W' ⟨he, hj | ⟨k, hk, hj⟩⟩
    · exact ⟨he, .inl ⟨_, rfl, hj⟩⟩
    · exact ⟨he, .inr ⟨_, ⟨k, hk, rfl⟩, hj⟩⟩

end Go.Proofs.YtnaafbdgkmlnaaaGreat

/- Functions: the program's last (a range over a function). -/
namespace Go.Proofs.YtnaafbdgkmlnaaaGreat
set_option linter.unusedVariables false
set_option linter.unusedSimpArgs false
open Go.RowKit Go.Shelf
attribute [local go_sem] Oper.semAt_some

def rAt (L : List R) (j : Nat) : R := (L[j]?).getD ⟨0, 0, 0, 0, 0, 0, 0, 0⟩

theorem RecsAt.up {n m : Nat} {W : World} {sv : Value} {len : Nat} {rs : Nat → R} (h : RecsAt n W sv len rs) (hnm : n ≤ m) : RecsAt m W sv len rs := by
  rcases h with e | ⟨b, off, cap, e, hb, hc⟩
  · exact .inl e
  · exact .inr ⟨b, off, cap, e, by omega, hc⟩

theorem lastB_skip {L : List R} {tx : Int} {m : Nat} : ∀ n, m ≤ n → n ≤ L.length → (∀ j, m ≤ j → j < n → (rAt L j).tx ≠ tx) → lastB L tx n = lastB L tx m := by
  intro n
  induction n with
  | zero => intro h _ _; obtain rfl : m = 0 := by omega
            rfl
  | succ n ih =>
    intro h hn hj
    by_cases e : m = n + 1
    · rw [e]
    · have hr : L[n]? = some (rAt L n) := by simp [rAt, List.getElem?_eq_getElem (show n < L.length by omega)]
      have h1 := hj n (by omega) (by omega)
      have : lastB L tx (n + 1) = lastB L tx n := by simp only [lastB, hr]; rw [if_neg h1]
      rw [this]
      exact ih (by omega) (by omega) fun j a b => hj j a (by omega)
theorem upBw_mem {len : Nat} {rs : Nat → R} {k j : Nat} (h1 : len - k ≤ j) (h2 : j < len) : (j, rs j) ∈ upBw len rs k := by
  simp only [upBw, List.mem_map, List.mem_range]
  exact ⟨len - 1 - j, by omega, by rw [show len - 1 - (len - 1 - j) = j by omega]⟩
theorem last_none {L : List R} {tx : Int} (h : ∀ p ∈ upBw L.length (rAt L) L.length, p.2.tx ≠ tx) : last L tx = 0 := by
  unfold last
  rw [lastB_skip (m := 0) L.length (Nat.zero_le _) (Nat.le_refl _) fun j a b => h (j, rAt L j) (upBw_mem (by omega) b)]
  rfl
theorem last_some {L : List R} {tx : Int} {k : Nat} (hk : k ≤ L.length) {ini : List (Nat × R)} {p : Nat × R} (e : upBw L.length (rAt L) k = ini ++ [p]) (hi : ∀ q ∈ ini, q.2.tx ≠ tx) (hp : p.2.tx = tx) :
    p.1 < L.length ∧ last L tx = if Ends p.2 then 0 else p.1 + 1 := by
  obtain ⟨k', rfl⟩ : ∃ k', k = k' + 1 := by
    cases k with
    | zero => simp [upBw] at e
    | succ k' => exact ⟨k', rfl⟩
  have hj : L.length - (k' + 1) < L.length := by omega
  have e2 := upBw_succ (rs := rAt L) hj
  rw [show L.length - (L.length - (k' + 1)) = k' + 1 by omega, show L.length - (L.length - (k' + 1) + 1) = k' by omega, e] at e2
  obtain ⟨e3, e4⟩ := List.append_inj' e2 rfl
  have e5 : p = (L.length - (k' + 1), rAt L (L.length - (k' + 1))) := by simpa using e4.symm
  subst e3
  subst e5
  refine ⟨hj, ?_⟩
  have hr : L[L.length - (k' + 1)]? = some (rAt L (L.length - (k' + 1))) := by simp [rAt, List.getElem?_eq_getElem hj]
  unfold last
  rw [lastB_skip (m := L.length - (k' + 1) + 1) L.length (by omega) (Nat.le_refl _) fun j a b => hi (j, rAt L j) (upBw_mem (by omega) b)]
  simp only [lastB, hr]
  rw [if_pos hp]

set_option maxRecDepth 100000 in
set_option maxHeartbeats 2000000 in
theorem ends_in (F : Fence) (n : Nat) (h134 : F.fn 134) (hro : F.round = none) (r : R) (w : World) :
    CallsIn F n PP 134 #[.agg (encV r)] w fun e w' => e = .returned (.bool (decide (Ends r))) ∧ w' = w.alloc (.cells (encV r) 71) := by
  refine callsIn_of_wp Tryz.func134 rfl h134 ?_ hro
  simp only [Tryz.ntmps134, List.size_toArray, List.length_cons, List.length_nil, Nat.reduceAdd, Nat.reduceSub, Array.replicate_succ, Array.replicate_zero, List.push_toArray, List.append_toArray, List.nil_append, List.cons_append]
  simp only [encV]
  have hE : decide (Ends r) = (r.kind == 4 || r.kind == 5) := by
    by_cases h4 : r.kind = 4 <;> by_cases h5 : r.kind = 5 <;> simp [Ends, h4, h5]
  rw [hE]
  gi_wp2
  · have h4 : r.kind = 4 := by assumption
    go_ret
    refine ⟨?_, ?_⟩
    · rw [h4]; rfl
    · rw [h4]
  · go_ret
    exact ⟨rfl, rfl⟩

set_option maxRecDepth 100000 in
set_option maxHeartbeats 2000000 in
theorem last_in (F : Fence) (n : Nat) (h135 : F.fn 135) (h134 : F.fn 134) (h196 : F.fn 196) (h211 : F.fn 211) (hro : F.round = none) (hn : 5 ≤ n) (a : Option Addr) (cap : Nat) (L : List R) (tx : Int) (hL : L.length ≤ 1000000) (w : World) (hI : RecsAt w.heap.size w (.slice a L.length cap) L.length (rAt L)) :
    CallsIn F n PP 135 #[.slice a L.length cap, .int .i64 tx] w fun e W' => e = .returned (.int .i64 (last L tx)) ∧ Below w.heap.size w W' := by
  have h1 : 1 ≤ n := by omega
  refine callsIn_of_wp_marks Tryz.func135 rfl h135 ?_ hro
  simp only [Tryz.ntmps135, List.size_toArray, List.length_cons, List.length_nil, Nat.reduceAdd, Nat.reduceSub, Array.replicate_succ, Array.replicate_zero, List.push_toArray, List.append_toArray, List.nil_append, List.cons_append]
  gi_wp2_with (gi_at_call 196; refine (bw_in F (n - 1) h196 hro _ _ _ _).mono ?_; rintro e w' ⟨rfl, rfl⟩)
  have bT := Boxed.new w 3 (.int .i64 tx)
  have bR := Boxed.new (w.alloc (.cells #[.int .i64 tx] 3)) 3 (.int .i64 0)
  have bN := Boxed.new ((w.alloc (.cells #[.int .i64 tx] 3)).alloc (.cells #[.int .i64 0] 3)) 28 (.slice a L.length cap)
  simp only [World.size_alloc] at bR bN
  have hB0 : Below w.heap.size w (((w.alloc (.cells #[.int .i64 tx] 3)).alloc (.cells #[.int .i64 0] 3)).alloc (.cells #[.slice a L.length cap] 28)) := (((Below.refl _ w).alloc (Nat.le_refl _) _).alloc (by simp) _).alloc (by simp) _
  have hT := ((bT.alloc (.cells #[.int .i64 0] 3)).alloc (.cells #[.slice a L.length cap] 28)).cell
  have hR := (bR.alloc (.cells #[.slice a L.length cap] 28)).cell
  have hF := (bR.alloc (.cells #[.slice a L.length cap] 28)).frozen
  have hN := bN.cell
  have hsz : (((w.alloc (.cells #[.int .i64 tx] 3)).alloc (.cells #[.int .i64 0] 3)).alloc (.cells #[.slice a L.length cap] 28)).heap.size = w.heap.size + 3 := by simp
  generalize hW0 : (((w.alloc (.cells #[.int .i64 tx] 3)).alloc (.cells #[.int .i64 0] 3)).alloc (.cells #[.slice a L.length cap] 28)) = W0 at *
  have hI' : RecsAt (w.heap.size + 3) W0 (.slice a L.length cap) L.length (rAt L) := (hI.below hB0).up (by omega)
  refine wpIn_rangeFunc_ownH hro h1 (gf := 211) (lb := #[.pointer (some ⟨w.heap.size + 2, 0, none⟩)]) rfl h211 (enters_of Tryz.func211 (by kernel_rfl) rfl)
    (bw_stops F (n - 1) h211 hro (by omega) (w.heap.size + 2) (w.heap.size + 3) _ L.length (rAt L) hL W0 (by omega) (by omega) (by omega) hN hI') belowK_t (belowK_b (by omega)) (Below.refl _ _) (fun _ => rfl)
    (fun pre W => ((∀ p ∈ pre, p.2.tx ≠ tx) ∧ W.cell? ⟨w.heap.size, 0, none⟩ = some (.int .i64 tx) ∧ W.cell? ⟨w.heap.size + 1, 0, none⟩ = some (.int .i64 0) ∧ W.frozen? ⟨w.heap.size + 1, 0, none⟩ = false) ∧ Below w.heap.size W0 W)
    (fun c pre W => (c = .ret ∧ ∃ ini last, pre = ini ++ [last] ∧ (∀ p ∈ ini, p.2.tx ≠ tx) ∧ last.2.tx = tx ∧ W.cell? ⟨w.heap.size + 1, 0, none⟩ = some (.int .i64 (if Ends last.2 then 0 else wrap64 ((last.1 : Int) + 1)))) ∧ Below w.heap.size W0 W)
    ?hI ?hIx ?h0
    (fun x a' W => ∃ Bx, w.heap.size + 2 < Bx ∧ (∀ k v, (encV x.2)[k]? = some v → W.cell? ⟨Bx, k, none⟩ = some v) ∧ a' = { tmps := #[.slice a L.length cap, .int .i64 tx, undef, .pointer (some ⟨w.heap.size, 0, none⟩), .pointer (some ⟨w.heap.size + 1, 0, none⟩), .int .i64 (x.1 : Int), .pointer (some ⟨Bx, 0, none⟩), .slice a L.length cap, .func (.func 211) #[] #[.pointer (some ⟨w.heap.size + 2, 0, none⟩)], .int .i64 (x.1 : Int), .agg (encV x.2), undef, undef, undef, undef, undef, undef, undef, undef], defers := [] })
    ?hAx ?assign ?body ?done ?stop
  case hI => exact OwnFrom.and (Own.from (fun s A B row hs hg hr => ⟨hs.1, cell_kept hs.2.1 hg hr, cell_kept hs.2.2.1 hg hr, (frozen_kept hs.2.2.1 hg hr).trans hs.2.2.2⟩) _) (ownFrom_below (by omega) (by omega))
  case hIx => exact fun c => OwnFrom.and (Own.from (fun s A B row hs hg hr => by obtain ⟨hc, ini, last, e1, e2, e3, e4⟩ := hs; exact ⟨hc, ini, last, e1, e2, e3, cell_kept e4 hg hr⟩) _) (ownFrom_below (by omega) (by omega))
  case h0 => exact ⟨⟨by simp, hT, hR, hF⟩, Below.refl _ _⟩
  case hAx => exact fun x a' => Own.from (fun s A B row hs hg hr => by obtain ⟨Bx, g1, g2, g3⟩ := hs; exact ⟨Bx, g1, fun k v hk => cell_kept (g2 k v hk) hg hr, g3⟩) _
  case assign =>
    rintro l pre x W K ⟨⟨p1, p2, p3, p4⟩, pB⟩ hK
    have hs3 := pB.size
    simp only [encV]
    gi_wp2
    refine hK _ _ ((KeepsOthers.alloc _ _).from _) ((Below.refl _ W).alloc (by omega) _) ⟨⟨p1, cell_kept p2 (World.grownBy_alloc W _ none) (fun r e => by cases e), cell_kept p3 (World.grownBy_alloc W _ none) (fun r e => by cases e), (frozen_kept p3 (World.grownBy_alloc W _ none) (fun r e => by cases e)).trans p4⟩, pB.alloc (by omega) _⟩ ⟨W.heap.size, by omega, ?_, rfl⟩
    intro k v hk
    rw [cell_of_blk (World.alloc_heap_new W _)]
    exact hk
  case body =>
    rintro l pre x a' W hl ⟨r, hr⟩ ⟨⟨p1, p2, p3, p4⟩, pB⟩ ⟨Bx, g1, g2, rfl⟩ hlt
    have k0 : W.cell? ⟨Bx, 0, none⟩ = some (.int .i64 x.2.kind) := g2 0 _ rfl
    have k1 : W.cell? ⟨Bx, 1, none⟩ = some (.int .i64 x.2.tx) := g2 1 _ rfl
    have k2 : W.cell? ⟨Bx, 2, none⟩ = some (.int .i64 x.2.page) := g2 2 _ rfl
    have k3 : W.cell? ⟨Bx, 3, none⟩ = some (.int .i64 x.2.slot) := g2 3 _ rfl
    have k4 : W.cell? ⟨Bx, 4, none⟩ = some (.int .i64 x.2.old) := g2 4 _ rfl
    have k5 : W.cell? ⟨Bx, 5, none⟩ = some (.int .i64 x.2.new) := g2 5 _ rfl
    have k6 : W.cell? ⟨Bx, 6, none⟩ = some (.int .i64 x.2.prev) := g2 6 _ rfl
    have k7 : W.cell? ⟨Bx, 7, none⟩ = some (.int .i64 x.2.next) := g2 7 _ rfl
    clear g2
    have hn3 : 1 ≤ n - 1 - 1 := by omega
    have hs3 := pB.size
    have hE : CallsIn (F.inRound l) (n - 1 - 1 - 1) PP 134 #[.agg (encV x.2)] W fun e w' => e = .returned (.bool (decide (Ends x.2))) ∧ w'.cell? ⟨w.heap.size + 1, 0, none⟩ = some (.int .i64 0) ∧ w'.frozen? ⟨w.heap.size + 1, 0, none⟩ = false ∧ KeepsOthers W w' ∧ Below w.heap.size W w' :=
      (CallsIn.inRound l (ends_in F (n - 1 - 1 - 1) h134 hro x.2 W)).mono (by
        rintro e w' ⟨rfl, rfl⟩
        exact ⟨rfl, cell_kept p3 (World.grownBy_alloc W _ none) (fun r e => by cases e), (frozen_kept p3 (World.grownBy_alloc W _ none) (fun r e => by cases e)).trans p4, KeepsOthers.alloc _ _, (Below.refl _ W).alloc (by omega) _⟩)
    simp only [encV] at hE
    gi_wp2_with (gi_at_call 134; refine hE.mono ?_; rintro e w' ⟨rfl, q3, q4, qK, qB⟩)
    · have hx : x.2.tx ≠ tx := by
        have h : (x.2.tx != tx) = true := by assumption
        simpa using h
      exact ⟨KeepsFrom.refl _ _, Below.refl _ _, ⟨fun p hp => by
        rcases List.mem_append.1 hp with h | h
        · exact p1 p h
        · simp at h; rw [h]; exact hx, p2, p3, p4⟩, pB⟩
    · have hx : x.2.tx = tx := by
        have h : (x.2.tx != tx) = false := by assumption
        simpa using h
      have he : Ends x.2 := by assumption
      exact ⟨(qK.trans (KeepsOthers.setCell _ _ _)).from _, ⟨rfl, pre, x, rfl, p1, hx, by rw [if_pos he]; exact World.cell?_setCell_same' _ _ _ (by rw [q3]; rfl)⟩, (pB.trans qB).setCell (p := ⟨w.heap.size + 1, 0, none⟩) (by simp) _⟩
    · have hx : x.2.tx = tx := by
        have h : (x.2.tx != tx) = false := by assumption
        simpa using h
      have he : ¬ Ends x.2 := by assumption
      exact ⟨(qK.trans (KeepsOthers.setCell _ _ _)).from _, ⟨rfl, pre, x, rfl, p1, hx, by rw [if_neg he]; exact World.cell?_setCell_same' _ _ _ (by rw [q3]; rfl)⟩, (pB.trans qB).setCell (p := ⟨w.heap.size + 1, 0, none⟩) (by simp) _⟩
  case done =>
    rintro D ys W hD rfl ⟨⟨p1, p2, p3, p4⟩, pB⟩ hK
    gi_wp2
    have hK' := (KeepsOthers.setCell W ⟨w.heap.size + 1, 0, none⟩ (.int .i64 0)).same D _ hK rfl
    refine ⟨by simp, .inl ⟨_, _, rfl, run_takeDeferred hK', ?_⟩⟩
    have hc5 := cell_kept (World.cell?_setCell_same' W ⟨w.heap.size + 1, 0, none⟩ (.int .i64 0) (by rw [p3]; rfl)) (grownBy_putObj' _ D (.deferred none)) (fun r e => by cases e; exact ⟨_, hK', rfl⟩)
    refine ⟨.int .i64 0, ?_, by rw [last_none p1]; rfl, ((hB0.trans pB).setCell (p := ⟨w.heap.size + 1, 0, none⟩) (by simp) _).trans (belowK_b (w := w) (Nat.le_refl _) _ D _ _ (by omega) hK' rfl rfl)⟩
    simp [results, Tryz.f135, go_sem, hc5]
  case stop =>
    rintro D c pre W hD ⟨k, hk, rfl⟩ ⟨⟨rfl, ini, p, e1, e2, e3, e4⟩, hB⟩ hK
    gi_wp2
    refine ⟨by simp, .inl ⟨_, _, rfl, run_takeDeferred hK, ?_⟩⟩
    have hc5 := cell_kept e4 (grownBy_putObj' _ D (.deferred none)) (fun r e => by cases e; exact ⟨_, hK, rfl⟩)
    obtain ⟨hlt, hl⟩ := last_some hk e1 e2 e3
    have hv : (if Ends p.2 then (0 : Int) else wrap64 ((p.1 : Int) + 1)) = (last L tx : Int) := by
      rw [hl]
      split
      · rfl
      · have w1 := w64 ((p.1 : Int) + 1) (by omega) (by omega)
        have : wrap64 ((p.1 : Int) + 1) = (p.1 : Int) + 1 := by unfold wrap64; omega
        rw [this]; simp
    rw [hv] at hc5
    refine ⟨.int .i64 (last L tx : Int), ?_, rfl, (hB0.trans hB).trans (belowK_b (w := w) (Nat.le_refl _) _ D _ _ (by omega) hK rfl rfl)⟩
    simp [results, Tryz.f135, go_sem, hc5]

end Go.Proofs.YtnaafbdgkmlnaaaGreat

/- Functions: the program's last, at the abstract machine. -/
namespace Go.Proofs.YtnaafbdgkmlnaaaGreat
set_option linter.unusedVariables false
set_option linter.unusedSimpArgs false
open Go.RowKit

theorem StH.below {g : G} {B : Nat} {w w' : World} (h : StC g Hp.nil B w) (hb : Below w.heap.size w w') : StH ⟨w, Hp.of [], g, B⟩ g (Hp.of []) B w' where
  blk := fun id k e => by cases e
  inj := fun id id' k k' b e => by cases e
  free := h.free
  inI := fun b hb' => Nat.lt_of_lt_of_le (h.inI b hb') hb.size
  os := hb.os
  tape := hb.tape
  output := hb.output
  size := hb.size
  same := fun b hb' _ => hb.block b hb'
  sizes := fun b cs e fz h' => ⟨cs, fz, (hb.block b (Array.getElem?_eq_some_iff.1 h').1).trans h', rfl⟩
  own := fun id k b e => by cases e
  ids := fun id k e => by cases e
  I0 := fun b hb => hb
  I1 := fun b hb => .inl hb
  m0 := fun id b h => h
  m1 := fun id h => rfl
  bound := Nat.le_refl _

theorem encV_enc (r : R) (k : Nat) (v : Value) (h : (encV r)[k]? = some v) : ∃ x, (encR r)[k]? = some x ∧ ∀ g w u, RepV g w x u → u = v := by
  have hk : k < 8 := by
    have := (Array.getElem?_eq_some_iff.1 h).1
    simpa [encV] using this
  match k, hk with
  | 0, _ => exact ⟨I64 r.kind, rfl, fun g w u hu => by cases hu; simpa [encV] using h⟩
  | 1, _ => exact ⟨I64 r.tx, rfl, fun g w u hu => by cases hu; simpa [encV] using h⟩
  | 2, _ => exact ⟨I64 r.page, rfl, fun g w u hu => by cases hu; simpa [encV] using h⟩
  | 3, _ => exact ⟨I64 r.slot, rfl, fun g w u hu => by cases hu; simpa [encV] using h⟩
  | 4, _ => exact ⟨I64 r.old, rfl, fun g w u hu => by cases hu; simpa [encV] using h⟩
  | 5, _ => exact ⟨I64 r.new, rfl, fun g w u hu => by cases hu; simpa [encV] using h⟩
  | 6, _ => exact ⟨I64 r.prev, rfl, fun g w u hu => by cases hu; simpa [encV] using h⟩
  | 7, _ => exact ⟨I64 r.next, rfl, fun g w u hu => by cases hu; simpa [encV] using h⟩

theorem recsAt_of {g : G} {B : Nat} {w : World} {H : Hp} {L : List R} {v : Value} (h : StC g H B w) (hv : RepV g w (.sl 8 (L.map encR)) v) : ∃ a cap, v = .slice a L.length cap ∧ RecsAt w.heap.size w v L.length (rAt L) := by
  generalize hx : AV.sl 8 (L.map encR) = x at hv
  cases hv with
  | sl0 sz a c =>
    simp at hx
    obtain ⟨_, rfl⟩ := hx
    exact ⟨a, c, rfl, .inl ⟨rfl, a, c, rfl⟩⟩
  | sl sz xs b o n c vs hn hb hc hs h1 h2 =>
    simp at hx
    obtain ⟨rfl, rfl⟩ := hx
    simp at hn
    subst hn
    refine ⟨_, c, rfl, .inr ⟨b, o, c, rfl, h.inI b hb, fun j hj k u hu => ?_⟩⟩
    have hr : L[j]? = some (rAt L j) := by simp [rAt, List.getElem?_eq_getElem hj]
    obtain ⟨x, hx, hxu⟩ := encV_enc _ _ _ hu
    have ha : at2 (L.map encR) j k = some x := by simp [at2, hr, hx]
    have := hxu _ _ _ (h2 j k x ha)
    rw [h1 j k x ha, this]
  | _ => cases hx

theorem told_recs {f : FuncId} {L : List R} {x v : Int} (h : ∀ (a : Option Addr) (cap : Nat) (w : World), RecsAt w.heap.size w (.slice a L.length cap) L.length (rAt L) →
    Calls PP f #[.slice a L.length cap, .int .i64 x] w fun e w' => e = .returned (.int .i64 v) ∧ Below w.heap.size w w') : Told f [.sl 8 (L.map encR), I64 x] [] [] 0 (I64 v) := by
  refine told_of (Keep.nil _) trivial fun B _ => ?_
  intro g w vs hs hv
  cases hv with
  | tup _ _ hl hvv =>
    obtain ⟨l⟩ := vs
    have h2 : l.length = 2 := by simpa using hl.symm
    match l, h2 with
    | [p, q], _ =>
      have k0 := hvv 0 _ _ rfl rfl
      have k1 := hvv 1 _ _ rfl rfl
      obtain ⟨a, cap, rfl, hr⟩ := recsAt_of hs k0
      cases k1
      refine Calls.mono (h a cap w hr) ?_
      rintro e w' ⟨rfl, hb⟩
      exact ⟨_, I64 v, g, Hp.of [], B, rfl, ⟨rfl, fun id k e => e⟩, .int _ _, StH.below hs hb⟩

theorem c135 (L : List R) (tx : Int) (hL : L.length ≤ 1000000) : Told 135 [.sl 8 (L.map encR), I64 tx] [] [] 0 (I64 (last L tx)) :=
  told_recs fun a cap w hr => callsIn_wide.1 (last_in Fence.wide 5 trivial trivial trivial trivial rfl (Nat.le_refl _) a cap L tx hL w hr)

end Go.Proofs.YtnaafbdgkmlnaaaGreat

/- A contract over an immutable slice of bytes, turned into the statement's own call. -/
namespace Go.Proofs.YtnaafbdgkmlnaaaGreat
set_option linter.unusedVariables false
set_option linter.unusedSimpArgs false
open Go.RowKit

def g00 (w : World) : G := ⟨fun _ => none, fun b => b < w.heap.size⟩
theorem stc00 (w : World) : StC (g00 w) Hp.nil 0 w where
  blk := fun id k e => by cases e
  inj := fun id id' k k' b e => by cases e
  free := fun id h => rfl
  inI := fun b h => h

def bytesAV (l : List Int) : AV := .sl 1 (l.map fun n => [AV.int .u8 n])

def RowOf (w : World) (a : Option Addr) (len cap : Nat) (zs : List Int) : Prop :=
  (a = none ∧ len = 0 ∧ cap = 0 ∧ zs = []) ∨ ∃ x, a = some x ∧ len ≤ cap ∧ zs.length = cap ∧ (∀ i, i < zs.length → w.cell? (x.add i) = some (.int .u8 (zs.getD i 0)))

theorem repBytes {w : World} {a : Option Addr} {len cap : Nat} {zs : List Int} (h : RowOf w a len cap zs) :
    RepV (g00 w) w (bytesAV (zs.take len)) (.slice a len cap) := by
  rcases h with ⟨rfl, rfl, rfl, rfl⟩ | ⟨⟨b, o, p⟩, rfl, hl, hz, hc⟩
  · exact .sl0 1 none 0
  by_cases h0 : len = 0
  · subst h0; exact .sl0 1 _ _
  have c0 := hc 0 (by omega)
  simp only [Addr.add, if_true] at c0
  have hp : p = none := by
    cases p with
    | none => rfl
    | some p => simp [World.cell?] at c0; split at c0 <;> simp at c0
  subst hp
  have hb : b < w.heap.size := by
    unfold World.cell? at c0
    split at c0
    · rename_i hh; exact (Array.getElem?_eq_some_iff.1 hh).1
    · cases c0
  have hat : ∀ j k x, at2 ((zs.take len).map fun n => [AV.int .u8 n]) j k = some x → j < len ∧ k = 0 ∧ x = AV.int .u8 (zs.getD j 0) := by
    intro j k x hx
    simp only [at2, List.getElem?_map, Option.bind_map] at hx
    by_cases hj : j < len
    · have hjz : j < zs.length := by omega
      rw [List.getElem?_take_of_lt hj, List.getElem?_eq_getElem hjz] at hx
      simp at hx
      cases k with
      | zero => simp at hx; exact ⟨hj, rfl, by simp [← hx, List.getD_eq_getElem?_getD, List.getElem?_eq_getElem hjz]⟩
      | succ k => simp at hx
    · rw [List.getElem?_eq_none (by simp; omega)] at hx
      cases hx
  refine .sl 1 _ b o len cap (fun j k => .int .u8 (zs.getD j 0)) (by simp; omega) hb hl (by intro x hx; obtain ⟨n, _, rfl⟩ := List.mem_map.1 hx; rfl) (fun j k x hx => ?_) (fun j k x hx => ?_)
  · obtain ⟨hj, rfl, rfl⟩ := hat j k x hx
    have := hc j (by omega)
    simp only [Addr.add] at this
    by_cases j0 : j = 0
    · subst j0; simpa using c0
    · simpa [j0] using this
  · obtain ⟨hj, rfl, rfl⟩ := hat j k x hx
    exact .int _ _

theorem below_of {w w' : World} {g' : G} {H' : Hp} {B' : Nat} (h : StH ⟨w, Hp.nil, g00 w, 0⟩ g' H' B' w') : Below w.heap.size w w' :=
  ⟨h.os, h.tape, h.output, h.size, fun k hk => h.same k hk (fun ⟨id, k', e, _⟩ => by cases e)⟩

theorem glue1 {f : FuncId} {v : AV} {v' : Value} (hv : ∀ g w u, RepV g w v u → u = v') {zs : List Int} {len : Nat} (h : Told f [bytesAV (zs.take len)] [] [] 0 v) {a : Option Addr} {cap : Nat} {w : World} (hw : RowOf w a len cap zs) :
    Calls PP f #[.slice a len cap] w fun e w' => e = .returned v' ∧ Below w.heap.size w w' := by
  refine Calls.mono (h.call 0 (Nat.le_refl _) (g00 w) w _ (stc00 w) (.tup _ _ rfl fun k x u hx hu => ?_)) ?_
  · match k with
    | 0 => simp at hx hu; subst hx hu; exact repBytes hw
    | k + 1 => simp at hx
  · rintro e w' ⟨cv, v1, g', H', B', rfl, ⟨rfl, _⟩, hr, hs⟩
    exact ⟨by rw [hv _ _ _ hr], below_of hs⟩

theorem glue2 {f : FuncId} {v : AV} {v' : Value} (hv : ∀ g w u, RepV g w v u → u = v') {zs zs2 : List Int} {len len2 : Nat} (h : Told f [bytesAV (zs.take len), bytesAV (zs2.take len2)] [] [] 0 v) {a a2 : Option Addr} {cap cap2 : Nat} {w : World}
    (hw : RowOf w a len cap zs) (hw2 : RowOf w a2 len2 cap2 zs2) :
    Calls PP f #[.slice a len cap, .slice a2 len2 cap2] w fun e w' => e = .returned v' ∧ Below w.heap.size w w' := by
  refine Calls.mono (h.call 0 (Nat.le_refl _) (g00 w) w _ (stc00 w) (.tup _ _ rfl fun k x u hx hu => ?_)) ?_
  · match k with
    | 0 => simp at hx hu; subst hx hu; exact repBytes hw
    | 1 => simp at hx hu; subst hx hu; exact repBytes hw2
    | k + 2 => simp at hx
  · rintro e w' ⟨cv, v1, g', H', B', rfl, ⟨rfl, _⟩, hr, hs⟩
    exact ⟨by rw [hv _ _ _ hr], below_of hs⟩

end Go.Proofs.YtnaafbdgkmlnaaaGreat
