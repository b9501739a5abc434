/- Laws about the machine's run of the program's functions, part 11, in import order. No condition. -/
import Derived.Test.YtnaafbdgkmlnaaaGreatM10

set_option linter.unusedVariables false
set_option linter.unusedSimpArgs false
set_option linter.unnecessarySimpa false
/- The abstract machine: what a piece of code needs, by computation: what simp unfolds; loops; what is read. -/
namespace Go.Proofs.YtnaafbdgkmlnaaaGreat
set_option linter.unusedVariables false
set_option linter.unusedSimpArgs false
set_option linter.unnecessarySimpa false

/-- A loop: i tells of the frame (l), the heap (Hs), the names (b). -/
theorem aloop_ind {N : Nat} {cd : Code} {F : Fr} {H : Hp} {B : Nat} {Q : QT} {ι : Type} (m : ι → Nat) (I : ι → Prop) (l : ι → List (Nat × AV)) (Hs : ι → Hp) (b : ι → Nat) (i0 : ι) (hI : I i0) (h0 : ∀ p ∈ l i0, F p.1 = p.2)
    (hH : ∀ id k, Hs i0 id = some k → H id = some k) (hb : B ≤ b i0)
    (step : ∀ (A : Fr → Hp → Nat → Prop) i, I i → (∀ j F H B', m j < m i → I j → (∀ p ∈ l j, F p.1 = p.2) → (∀ id k, Hs j id = some k → H id = some k) → B' ≤ b j → A F H B') →
      AWP PP N cd (Fr.of (l i)) (Hs i) (b i) (thenA A Q)) : ALoop PP N cd F H B Q := by
  have key : ∀ n i, m i = n → I i → ALoop PP N cd (Fr.of (l i)) (Hs i) (b i) Q := by
    intro n
    induction n using Nat.strongRecOn with
    | _ n ih =>
      intro i hn hi
      subst hn
      exact aloop (step _ i hi fun j F H B' hj hIj hl hh hb => aloop_more hb (aloop_drop hh (aloop_weaken (weaken_of hl) (ih (m j) hj j rfl hIj))))
  exact aloop_more hb (aloop_drop hH (aloop_weaken (weaken_of h0) (key _ i0 rfl hI)))

/-! ### What is read -/
/-- x is a slice of these rows, in the heap H or where nobody writes. -/
inductive Rd (H : Hp) (sz : Nat) (rows : List (List AV)) : AV → Prop
  | sl : Rd H sz rows (.sl sz rows)
  | nils : rows = [] → Rd H sz rows .nils
  | ref (id off : Nat) (k : Blk) : H id = some k → k.sz = sz → off + rows.length ≤ k.rows.length → (k.rows.drop off).take rows.length = rows → Rd H sz rows (.ref id sz off rows.length)

/-- A pointer to an element, to a field. -/
def elA : AV → Nat → AV
  | .sl _ xs, n => .qe ((xs[n]?).getD [])
  | .ref id sz off _, n => .pe id sz (off + n)
  | _, _ => .any
def fdA (f : Nat) : AV → AV
  | .pe id sz i => .pf id sz i f
  | .qe xs => .qe [(xs[f]?).getD .any]
  | _ => .any

/-- What is read of the heap, when x is. -/
def rdA : AV → List Nat
  | .ref id _ _ _ => [id]
  | _ => []

theorem Rd.len {H : Hp} {sz : Nat} {rows : List (List AV)} {x : AV} (h : Rd H sz rows x) : evLen x = some (.int .i64 rows.length) := by
  cases h with
  | sl => rfl
  | nils e => subst e; rfl
  | ref => rfl

theorem Rd.row {rows : List (List AV)} {off : Nat} {k : Blk} (h : (k.rows.drop off).take rows.length = rows) {n : Nat} {r : List AV} (hr : rows[n]? = some r) : k.rows[off + n]? = some r := by
  have hn := (List.getElem?_eq_some_iff.1 hr).1
  rw [← h] at hr
  rw [List.getElem?_take, if_pos hn, List.getElem?_drop] at hr
  exact hr

theorem Rd.index {H : Hp} {sz : Nat} {rows : List (List AV)} {x : AV} {t : TypeId} {y e : TY} {k : IntKind} {n : Int} (h : Rd H sz rows x) (hy : tt t = some y) (hk : y.kind = 2) (he : tt y.el = some e) (hsz : e.size = sz) (h0 : 0 ≤ n) (hn : n < rows.length) :
    evIndex t x (.int k n) = some (elA x n.toNat) := by
  have hlt : n.toNat < rows.length := by omega
  cases h with
  | sl => simp [evIndex, hy, hk, he, hsz, h0, elA, List.getElem?_eq_getElem hlt]
  | nils e => subst e; simp at hlt
  | ref id off b h1 h2 h3 h4 => simp [evIndex, hy, hk, he, hsz, h0, elA, hn]

theorem Rd.load {H : Hp} {sz : Nat} {rows : List (List AV)} {x : AV} {t : TypeId} {y : TY} {n : Nat} {r : List AV} (h : Rd H sz rows x) (hy : tt t = some y) (ha : y.agg = true) (hsz : y.size = sz) (hr : rows[n]? = some r) (hl : r.length = sz) :
    evLoad t (elA x n) H = some (.agg r, rdA x) := by
  cases h with
  | sl => simp [evLoad, hy, ha, elA, hr, hl, hsz, rdA]
  | nils e => subst e; simp at hr
  | ref id off b h1 h2 h3 h4 => simp [evLoad, hy, ha, elA, h1, h2, hsz, Rd.row h4 hr, rdA]

theorem Rd.field {H : Hp} {sz : Nat} {rows : List (List AV)} {x : AV} {s f : Nat} {y : TY} {n : Nat} {r : List AV} {c : AV} (h : Rd H sz rows x) (hy : tt s = some y) (hk : y.kind = 1) (hsz : y.size = sz) (hr : rows[n]? = some r) (hc : r[f]? = some c) (hf : f < y.size) :
    evField s f (elA x n) = some (fdA f (elA x n)) := by
  cases h with
  | sl => simp [evField, hy, hk, elA, hr, hf, hc, fdA]
  | nils e => subst e; simp at hr
  | ref id off b h1 h2 h3 h4 => simp [evField, hy, hk, elA, hf, fdA, hsz]; omega

theorem Rd.loadf {H : Hp} {sz : Nat} {rows : List (List AV)} {x : AV} {t f : Nat} {y : TY} {n : Nat} {r : List AV} {c : AV} (h : Rd H sz rows x) (hy : tt t = some y) (ha : y.agg = false) (hk : y.kind ≠ 3) (hr : rows[n]? = some r) (hc : r[f]? = some c) :
    evLoad t (fdA f (elA x n)) H = some (c, rdA x) := by
  cases h with
  | sl => simp [evLoad, hy, ha, hk, elA, hr, hc, fdA, rdA]
  | nils e => subst e; simp at hr
  | ref id off b h1 h2 h3 h4 => simp [evLoad, hy, ha, hk, elA, h1, h2, fdA, at2, Rd.row h4 hr, hc, rdA]

/-- An element of one cell. -/
theorem Rd.load1 {H : Hp} {rows : List (List AV)} {x : AV} {t : Nat} {y : TY} {n : Nat} {c : AV} (h : Rd H 1 rows x) (hy : tt t = some y) (ha : y.agg = false) (hk : y.kind ≠ 3) (hr : rows[n]? = some [c]) :
    evLoad t (elA x n) H = some (c, rdA x) := by
  cases h with
  | sl => simp [evLoad, hy, ha, hk, elA, hr, rdA]
  | nils e => subst e; simp at hr
  | ref id off b h1 h2 h3 h4 => simp [evLoad, hy, ha, hk, elA, h1, h2, at2, Rd.row h4 hr, rdA]

/-! ### Unfolding, where the value is known -/
section
variable {t : TypeId} {sz id off n i k f : Nat} {xs : List (List AV)} {ys : List AV} {K : IntKind} {m : Int} {H : Hp}
theorem evIndex_sl : evIndex t (.sl sz xs) (.int K m) = (match tt t with
    | some y => if 0 ≤ m then (if y.kind = 2 then (match tt y.el with
          | some e => if sz = e.size then (xs[m.toNat]?).bind fun r => some (.qe r) else none
          | none => none) else none) else none
    | none => none) := by unfold evIndex; cases tt t <;> rfl
theorem evIndex_ref : evIndex t (.ref id sz off n) (.int K m) = (match tt t with
    | some y => if 0 ≤ m then (if y.kind = 2 ∧ m < n then (match tt y.el with
          | some e => if sz = e.size then some (.pe id sz (off + m.toNat)) else none
          | none => none) else none) else none
    | none => none) := by unfold evIndex; cases tt t <;> rfl
theorem evIndex_pe : evIndex t (.pe id sz i) (.int K m) = (match tt t with
    | some y => if 0 ≤ m then (if y.kind = 3 ∧ m < y.size then some (.pf id sz i m.toNat) else none) else none
    | none => none) := by unfold evIndex; cases tt t <;> rfl
theorem evIndex_qe : evIndex t (.qe ys) (.int K m) = (match tt t with
    | some y => if 0 ≤ m then (if y.kind = 3 ∧ m < y.size then (ys[m.toNat]?).bind fun c => some (.qe [c]) else none) else none
    | none => none) := by unfold evIndex; cases tt t <;> rfl
theorem evField_pe : evField t f (.pe id sz i) = (match tt t with
    | some y => if y.kind = 1 ∧ f < y.size then (if sz = y.size then some (.pf id sz i f) else none) else none
    | none => none) := by unfold evField; cases tt t <;> rfl
theorem evField_qe : evField t f (.qe ys) = (match tt t with
    | some y => if y.kind = 1 ∧ f < y.size then ((ys[f]?).bind fun c => some (.qe [c])) else none
    | none => none) := by unfold evField; cases tt t <;> rfl
theorem evLoad_qe : evLoad t (.qe ys) H = (match tt t with
    | some y => if y.agg then (if ys.length = y.size then some (.agg ys, []) else none) else if y.kind = 3 then none else (ys[0]?).bind fun c => some (c, [])
    | none => none) := by unfold evLoad; cases tt t <;> rfl
theorem evLoad_pe : evLoad t (.pe id sz i) H = (match tt t with
    | some y => if y.agg then (match H id with
          | some b => if b.sz = sz ∧ sz = y.size then (b.rows[i]?).bind fun r => some (.agg r, [id]) else none
          | none => none)
      else if y.kind = 3 then none else (match H id with
          | some b => if b.sz = sz ∧ sz = 1 then (at2 b.rows i 0).bind fun c => some (c, [id]) else none
          | none => none)
    | none => none) := by unfold evLoad; cases tt t <;> rfl
theorem evLoad_pf : evLoad t (.pf id sz i k) H = (match tt t with
    | some y => if y.agg then none else if y.kind = 3 then none else (match H id with
          | some b => if b.sz = sz then (at2 b.rows i k).bind fun c => some (c, [id]) else none
          | none => none)
    | none => none) := by unfold evLoad; cases tt t <;> rfl
theorem evLen_sl : evLen (.sl sz xs) = some (.int .i64 xs.length) := rfl
theorem evLen_nils : evLen .nils = some (.int .i64 0) := rfl
theorem evLen_ref : evLen (.ref id sz off n) = some (.int .i64 n) := rfl
end

/-! ### Records -/
section
variable {H : Hp} {L : List R} {x : AV} {n : Nat} {r : R}
theorem Rd.recN (h : Rd H 8 (L.map encR) x) : evLen x = some (I64 L.length) := by simpa using h.len
theorem Rd.recI (h : Rd H 8 (L.map encR) x) {m : Int} (h0 : 0 ≤ m) (hm : m < L.length) : evIndex 28 x (I64 m) = some (elA x m.toNat) := h.index rfl rfl rfl rfl h0 (by simpa using hm)
theorem Rd.recA (h : Rd H 8 (L.map encR) x) (hr : L[n]? = some r) : evLoad 71 (elA x n) H = some (.agg (encR r), rdA x) := h.load rfl rfl rfl (by simp [hr]) rfl
theorem Rd.recF (h : Rd H 8 (L.map encR) x) (hr : L[n]? = some r) {f : Nat} (hf : f < 8) : evField 71 f (elA x n) = some (fdA f (elA x n)) := by
  obtain ⟨c, hc⟩ : ∃ c, (encR r)[f]? = some c := ⟨(encR r)[f]'(by simpa [encR] using hf), by simp⟩
  exact h.field (r := encR r) rfl rfl rfl (by simp [hr]) hc hf
theorem Rd.recL {f : Nat} {c : AV} (h : Rd H 8 (L.map encR) x) (hr : L[n]? = some r) (hc : (encR r)[f]? = some c) : evLoad 3 (fdA f (elA x n)) H = some (c, rdA x) := h.loadf (r := encR r) rfl rfl (by decide) (by simp [hr]) hc
theorem Rd.rec0 (h : Rd H 8 (L.map encR) x) (hr : L[n]? = some r) : evLoad 3 (fdA 0 (elA x n)) H = some (I64 r.kind, rdA x) := h.recL hr rfl
theorem Rd.rec1 (h : Rd H 8 (L.map encR) x) (hr : L[n]? = some r) : evLoad 3 (fdA 1 (elA x n)) H = some (I64 r.tx, rdA x) := h.recL hr rfl
theorem Rd.rec2 (h : Rd H 8 (L.map encR) x) (hr : L[n]? = some r) : evLoad 3 (fdA 2 (elA x n)) H = some (I64 r.page, rdA x) := h.recL hr rfl
theorem Rd.rec3 (h : Rd H 8 (L.map encR) x) (hr : L[n]? = some r) : evLoad 3 (fdA 3 (elA x n)) H = some (I64 r.slot, rdA x) := h.recL hr rfl
theorem Rd.rec4 (h : Rd H 8 (L.map encR) x) (hr : L[n]? = some r) : evLoad 3 (fdA 4 (elA x n)) H = some (I64 r.old, rdA x) := h.recL hr rfl
theorem Rd.rec5 (h : Rd H 8 (L.map encR) x) (hr : L[n]? = some r) : evLoad 3 (fdA 5 (elA x n)) H = some (I64 r.new, rdA x) := h.recL hr rfl
theorem Rd.rec6 (h : Rd H 8 (L.map encR) x) (hr : L[n]? = some r) : evLoad 3 (fdA 6 (elA x n)) H = some (I64 r.prev, rdA x) := h.recL hr rfl
theorem Rd.rec7 (h : Rd H 8 (L.map encR) x) (hr : L[n]? = some r) : evLoad 3 (fdA 7 (elA x n)) H = some (I64 r.next, rdA x) := h.recL hr rfl
end

/-! ### Branches -/
section
variable {M : Cfg} {N : Nat} {ops : Array Oper} {B0 : Nat} {o : Oper} {rest : List Oper} {F : Fr} {H : Hp} {B : Nat} {acc : List Info} {Q : QT} {b : Bool} {x y : Code}
theorem gO (h1 : b = true → GuardO true M N ops o rest F H B Q) (h0 : b = false → GuardO false M N ops o rest F H B Q) : GuardO b M N ops o rest F H B Q := by cases b; exact h0 rfl; exact h1 rfl
theorem gD (h1 : b = true → GuardD true M N ops B0 o rest F H B acc Q) (h0 : b = false → GuardD false M N ops B0 o rest F H B acc Q) : GuardD b M N ops B0 o rest F H B acc Q := by cases b; exact h0 rfl; exact h1 rfl
theorem gC (h1 : b = true → wpC M N x F H B Q) (h0 : b = false → wpC M N y F H B Q) : CondW b M N x y F H B Q := by cases b; exact h0 rfl; exact h1 rfl
end

/-! ### Unfolding, without what simp makes of List.all -/
def ones : List AV → Bool
  | [] => true
  | x :: xs => x.one && ones xs
theorem ones_eq : ∀ xs : List AV, xs.all AV.one = ones xs
  | [] => rfl
  | x :: xs => by rw [List.all_cons, ones, ones_eq xs]
def onesP : List (Nat × AV) → Bool
  | [] => true
  | x :: xs => x.2.one && onesP xs
theorem onesP_eq : ∀ xs : List (Nat × AV), (xs.all fun p => p.2.one) = onesP xs
  | [] => rfl
  | x :: xs => by rw [List.all_cons, onesP, onesP_eq xs]
theorem cells_agg {y : TY} {xs : List AV} : cellsAV y (.agg xs) = bif y.agg && ones xs && (xs.length == y.size) then some xs else none := by
  unfold cellsAV
  rw [← ones_eq]
  cases y.agg with
  | false => simp [AV.one]
  | true =>
    cases h2 : xs.all AV.one with
    | false => simp only [if_true, Bool.true_and, Bool.false_and, cond_false]; exact if_neg (fun h => by rw [h2] at h; exact absurd h.2 (by simp))
    | true =>
      by_cases h1 : xs.length = y.size
      · simp only [if_true, h1, Bool.true_and, cond_true, beq_self_eq_true]; exact if_pos ⟨trivial, h2⟩
      · have h3 : (xs.length == y.size) = false := by simpa using h1
        simp [h1, h3]
theorem cells_one {y : TY} {x : AV} (h : x.one = true) : cellsAV y x = bif !y.agg && (y.size == 1) then some [x] else none := by
  unfold cellsAV
  cases y.agg with
  | false =>
    by_cases h1 : y.size = 1
    · simp [h, h1]
    · have h3 : (y.size == 1) = false := by simpa using h1
      simp [h1, h3]
  | true => cases x <;> simp_all [AV.one]
section
variable {k : IntKind} {n : Int} {b : Bool} {s : ByteArray} {sz id off m i f : Nat} {xs : List (List AV)} {ys : List AV}
theorem one_int : AV.one (.int k n) = true := rfl
theorem one_bool : AV.one (.bool b) = true := rfl
theorem one_str : AV.one (.str s) = true := rfl
theorem one_sl : AV.one (.sl sz xs) = true := rfl
theorem one_nils : AV.one .nils = true := rfl
theorem one_ref : AV.one (.ref id sz off m) = true := rfl
theorem one_pe : AV.one (.pe id sz i) = true := rfl
theorem one_pf : AV.one (.pf id sz i f) = true := rfl
theorem one_qe : AV.one (.qe ys) = true := rfl
theorem one_nilp : AV.one .nilp = true := rfl
theorem one_fn : AV.one (.fn f ys) = true := rfl
theorem one_agg : AV.one (.agg ys) = false := rfl
end
section
variable {y : TY} {k : IntKind} {n : Int} {b : Bool} {s : ByteArray} {sz id off m i f : Nat} {xs : List (List AV)} {ys : List AV}
theorem cells_int : cellsAV y (.int k n) = bif !y.agg && (y.size == 1) then some [.int k n] else none := cells_one rfl
theorem cells_bool : cellsAV y (.bool b) = bif !y.agg && (y.size == 1) then some [.bool b] else none := cells_one rfl
theorem cells_str : cellsAV y (.str s) = bif !y.agg && (y.size == 1) then some [.str s] else none := cells_one rfl
theorem cells_sl : cellsAV y (.sl sz xs) = bif !y.agg && (y.size == 1) then some [.sl sz xs] else none := cells_one rfl
theorem cells_nils : cellsAV y .nils = bif !y.agg && (y.size == 1) then some [.nils] else none := cells_one rfl
theorem cells_ref : cellsAV y (.ref id sz off m) = bif !y.agg && (y.size == 1) then some [.ref id sz off m] else none := cells_one rfl
theorem cells_pe : cellsAV y (.pe id sz i) = bif !y.agg && (y.size == 1) then some [.pe id sz i] else none := cells_one rfl
theorem cells_pf : cellsAV y (.pf id sz i f) = bif !y.agg && (y.size == 1) then some [.pf id sz i f] else none := cells_one rfl
theorem cells_qe : cellsAV y (.qe ys) = bif !y.agg && (y.size == 1) then some [.qe ys] else none := cells_one rfl
theorem cells_nilp : cellsAV y .nilp = bif !y.agg && (y.size == 1) then some [.nilp] else none := cells_one rfl
theorem cells_fn {f : FuncId} : cellsAV y (.fn f ys) = bif !y.agg && (y.size == 1) then some [.fn f ys] else none := cells_one rfl
end
theorem p11 (n : Nat) : n + 1 + 1 = n + 2 := rfl
theorem p21 (n : Nat) : n + 2 + 1 = n + 3 := rfl
theorem p31 (n : Nat) : n + 3 + 1 = n + 4 := rfl
theorem p41 (n : Nat) : n + 4 + 1 = n + 5 := rfl
theorem p51 (n : Nat) : n + 5 + 1 = n + 6 := rfl
theorem p61 (n : Nat) : n + 6 + 1 = n + 7 := rfl
theorem p71 (n : Nat) : n + 7 + 1 = n + 8 := rfl
theorem p81 (n : Nat) : n + 8 + 1 = n + 9 := rfl
theorem p91 (n : Nat) : n + 9 + 1 = n + 10 := rfl
theorem build_eq {t : TypeId} {ps : List (Nat × AV)} : evBuild t ps = (match tt t with
  | some y => bif (y.kind == 1) && onesP ps then (evParts y.zero ps).bind fun xs => some (.agg xs) else none
  | none => none) := by
  unfold evBuild
  cases tt t with
  | none => rfl
  | some y =>
    simp only [onesP_eq]
    by_cases h1 : y.kind = 1
    · cases h2 : onesP ps <;> simp [h1]
    · have h3 : (y.kind == 1) = false := by simpa using h1
      simp [h1, h3]

attribute [simp] ones onesP cells_agg cells_int cells_bool cells_str cells_sl cells_nils cells_ref cells_pe cells_pf cells_qe cells_nilp cells_fn p11 p21 p31 p41 p51 p61 p71 p81 p91 one_int one_bool one_str one_sl one_nils one_ref one_pe one_pf one_qe one_nilp one_fn one_agg build_eq
attribute [simp] wantV_bool wantV_undef nilT xOp xBin bodyOf qacc chkW_q wpC_skip wpC_ret wpC_exit wpC_seq wpC_block wpC_loop wpC_region wpC_draw wpC_cond cond_t cond_f wpOps_nil wpOps_cons guard_true guard_false wpD_nil wpD_cons guardD_true guardD_false kCall_app kCallD_app okDst want evOp Fr.ev constAV tt evLen_sl evLen_nils evLen_ref evBin binInt evIndex_sl evIndex_ref evIndex_pe evIndex_qe evField_pe evField_qe evLoad_pe evLoad_pf evLoad_qe evSlice TY.size TY.agg tInt i0 stepM callee okF muOf  srcRows litRows inOrder evParts max2 min2 resAV resAll resOne upds newU at2 reads

end Go.Proofs.YtnaafbdgkmlnaaaGreat

/- The abstract machine: contracts; pages, engines. -/
namespace Go.Proofs.YtnaafbdgkmlnaaaGreat
set_option linter.unusedVariables false
set_option linter.unusedSimpArgs false
set_option linter.unnecessarySimpa false

/-! ### Contracts -/
/-- Blocks that a call reads. -/
structure Keep (hs : List (Nat × Blk)) (Bm : Nat) : Prop where
  nd : ∀ p ∈ hs, Hp.of hs p.1 = some p.2
  rows : ∀ p ∈ hs, AV.ltLL Bm p.2.rows

theorem Keep.nil (Bm : Nat) : Keep [] Bm := ⟨by simp, by simp⟩

theorem app_same {hs : List (Nat × Blk)} : ∀ {H : Hp}, (∀ p ∈ hs, H p.1 = some p.2) → H.app (upds hs) = H := by
  induction hs with
  | nil => intro H _; rfl
  | cons p hs ih =>
    intro H h
    have e : H.set p.1 p.2 = H := by
      funext id
      simp only [Hp.set_app]
      split
      · rename_i e; subst e; exact (h p (by simp)).symm
      · rfl
    show (H.set p.1 p.2).app (upds hs) = H
    rw [e]
    exact ih fun q hq => h q (by simp [hq])

theorem told_of {f : FuncId} {args : List AV} {hs : List (Nat × Blk)} {Bm : Nat} {v : AV} (hk : Keep hs Bm) (hv : AV.lt Bm v)
    (h : ∀ Bx, Bm ≤ Bx → ACalls PP f args (Hp.of hs) Bx (fun v' H' _ => v' = v ∧ ∀ id k, Hp.of hs id = some k → H' id = some k)) : Told f args hs hs Bm v where
  call := fun Bx hb => (h Bx hb).mono fun v' H' B' ⟨e, hh⟩ => ⟨e, fun p hp => hh _ _ (hk.nd p hp)⟩
  keys := fun p hp => ⟨_, hp⟩
  lt := hv
  rows := hk.rows
  nd := hk.nd
  all := fun p hp => ⟨_, hp⟩

theorem callw_told {f : FuncId} {args : List AV} {hs : List (Nat × Blk)} {Bm B : Nat} {v : AV} {H : Hp} {K : AV → Hp → Nat → Prop} (h : Told f args hs hs Bm v) (hB : Bm ≤ B) (hH : ∀ p ∈ hs, H p.1 = some p.2) (k : K v H B) : CallW f args H B K :=
  .inl ⟨v, hs, hs, Bm, h, hB, hH, by rw [app_same hH]; exact k⟩
theorem calld_told {f : FuncId} {args : List AV} {hs : List (Nat × Blk)} {Bm B : Nat} {v : AV} {H : Hp} {K : AV → Hp → Nat → Info → Prop} (h : Told f args hs hs Bm v) (hB : Bm ≤ B) (hH : ∀ p ∈ hs, H p.1 = some p.2) (k : K v H B ⟨hs.map (·.1), hs.map (·.1), false, false, Bm⟩) : CallD f args H B K :=
  .inl ⟨v, hs, hs, Bm, h, hB, hH, by rw [app_same hH]; exact k⟩

def M0 : Cfg := ⟨fun _ => false, fun _ _ => none, by simp⟩
@[simp] theorem M0_mu (d : Nat) : M0.mu d = false := nr rfl
@[simp] theorem M0_an (f : FuncId) (xs : List AV) : M0.an f xs = none := nr rfl

theorem w64 (x : Int) (h1 : -9223372036854775808 ≤ x) (h2 : x ≤ 9223372036854775807) : IntKind.i64.wrap x = x := IntWalk.i64_in _ (by omega)

/-! ### Numbers, pages, engines -/
def ints (l : List Int) : List (List AV) := l.map fun n => [I64 n]
@[simp] theorem ints_len (l : List Int) : (ints l).length = l.length := by simp [ints]
theorem ints_at {l : List Int} {n : Nat} {v : Int} (h : l[n]? = some v) : (ints l)[n]? = some [I64 v] := by simp [ints, h]

section
variable {H : Hp} {L : List Int} {x : AV} {n : Nat} {v : Int}
theorem Rd.intN (h : Rd H 1 (ints L) x) : evLen x = some (I64 L.length) := by simpa using h.len
theorem Rd.intI (h : Rd H 1 (ints L) x) {m : Int} (h0 : 0 ≤ m) (hm : m < L.length) : evIndex 36 x (I64 m) = some (elA x m.toNat) := h.index rfl rfl rfl rfl h0 (by simpa using hm)
theorem Rd.intL (h : Rd H 1 (ints L) x) (hr : L[n]? = some v) : evLoad 3 (elA x n) H = some (I64 v, rdA x) := h.load1 rfl rfl (by decide) (ints_at hr)
end

/-- A page, as cells; h: its values. -/
def pgRow (p : Pg) (h : AV) : List AV := [I64 p.lsn, I64 p.owner, h]
def encP (p : Pg) : List AV := pgRow p (.sl 1 (ints p.vals))

/-- A page that is read. -/
def RdP (H : Hp) (p : Pg) (row : List AV) : Prop := ∃ h, row = pgRow p h ∧ Rd H 1 (ints p.vals) h

/-- Pages that are read. -/
structure RdPs (H : Hp) (ps : List Pg) (x : AV) where
  hs : List AV
  len : hs.length = ps.length
  rd : Rd H 3 ((ps.zip hs).map fun q => pgRow q.1 q.2) x
  vals : ∀ (i : Nat) (p : Pg) (h : AV), ps[i]? = some p → hs[i]? = some h → Rd H 1 (ints p.vals) h

end Go.Proofs.YtnaafbdgkmlnaaaGreat

/- The abstract machine: what is handed back is not written any more; what stands in a value; tables of calls. -/
namespace Go.Proofs.YtnaafbdgkmlnaaaGreat
set_option linter.unusedVariables false
set_option linter.unusedSimpArgs false
set_option linter.unnecessarySimpa false

/-! ### Drawn regions that write -/
structure Sh where
  rd : Bool
  wr : Bool
  mks : Bool
  ok : Bool
def shape (x : Info) : Sh := ⟨!x.rd.isEmpty, !x.wr.isEmpty, x.mks, x.bm == 0⟩
def shConf (x y : Sh) : Bool := (x.wr && (y.rd || y.wr)) || (x.rd && y.wr) || (x.mks && y.mks)
def shRow (ops : Array Oper) (i : Nat) (x : Sh) : Nat → List Sh → Bool
  | _, [] => true
  | j, y :: l => (!shConf x y || anc ops ops.size i j) && shRow ops i x (j + 1) l
def shAll (ops : Array Oper) : Nat → List Sh → Bool
  | _, [] => true
  | i, x :: l => x.ok && shRow ops i x (i + 1) l && shAll ops (i + 1) l

theorem shConf_of {x y : Info} (h : Conf x y) : shConf (shape x) (shape y) = true := by
  rcases h with ⟨id, a, b⟩ | ⟨id, a, b⟩ | ⟨a, b⟩
  · have h1 : x.wr.isEmpty = false := by cases hx : x.wr with | nil => rw [hx] at a; cases a | cons _ _ => rfl
    rcases b with b | b
    · have h2 : y.rd.isEmpty = false := by cases hx : y.rd with | nil => rw [hx] at b; cases b | cons _ _ => rfl
      simp [shConf, shape, h1, h2]
    · have h2 : y.wr.isEmpty = false := by cases hx : y.wr with | nil => rw [hx] at b; cases b | cons _ _ => rfl
      simp [shConf, shape, h1, h2]
  · have h1 : x.rd.isEmpty = false := by cases hx : x.rd with | nil => rw [hx] at a; cases a | cons _ _ => rfl
    have h2 : y.wr.isEmpty = false := by cases hx : y.wr with | nil => rw [hx] at b; cases b | cons _ _ => rfl
    simp [shConf, shape, h1, h2]
  · simp [shConf, shape, a, b]

theorem shRow_at {ops : Array Oper} {i : Nat} {x : Sh} : ∀ (l : List Sh) (j k : Nat) (y : Sh), shRow ops i x j l = true → l[k]? = some y → shConf x y = true → anc ops ops.size i (j + k) = true
  | [], _, _, _, _, hy, _ => by simp at hy
  | z :: l, j, 0, y, h, hy, hc => by
    simp only [List.getElem?_cons_zero, Option.some.injEq] at hy
    subst hy
    simp only [shRow, Bool.and_eq_true] at h
    simpa [hc] using h.1
  | z :: l, j, k + 1, y, h, hy, hc => by
    simp only [shRow, Bool.and_eq_true] at h
    have := shRow_at l (j + 1) k y h.2 (by simpa using hy) hc
    rwa [show j + (k + 1) = j + 1 + k by omega]

theorem chk_sh {ops : Array Oper} {B0 : Nat} : ∀ (acc : List Info) (i : Nat), shAll ops i (acc.map shape) = true → chk ops B0 i acc
  | [], _, _ => trivial
  | x :: l, i, h => by
    simp only [List.map_cons, shAll, Bool.and_eq_true] at h
    obtain ⟨⟨h1, h2⟩, h3⟩ := h
    have h1' : x.bm = 0 := by simpa [shape] using h1
    refine ⟨by omega, fun j y hy hc => ?_, chk_sh l (i + 1) h3⟩
    exact shRow_at (l.map shape) (i + 1) j (shape y) h2 (by simp [hy]) (shConf_of hc)
theorem chkW_sh {ops : Array Oper} {B0 : Nat} {acc : List Info} (h : shAll ops 0 (acc.map shape) = true) : ChkW ops B0 acc := chk_sh acc 0 h

/-- The same, name by name: a row has the names (by their places in ids) that are read, that are written. -/
structure Tk where
  rd : List Nat
  wr : List Nat
  mks : Bool
def Tk.info (ids : List Nat) (t : Tk) : Info := ⟨t.rd.map (ids.getD · 0), t.wr.map (ids.getD · 0), t.mks, false, 0⟩
def meets (x y : List Nat) : Bool := x.any fun a => y.contains a
def tkConf (x y : Tk) : Bool := meets x.wr y.rd || meets x.wr y.wr || meets x.rd y.wr || (x.mks && y.mks)
def tkRow (ops : Array Oper) (i : Nat) (x : Tk) : Nat → List Tk → Bool
  | _, [] => true
  | j, y :: l => (!tkConf x y || anc ops ops.size i j) && tkRow ops i x (j + 1) l
def tkAll (ops : Array Oper) (n : Nat) : Nat → List Tk → Bool
  | _, [] => true
  | i, x :: l => x.rd.all (· < n) && x.wr.all (· < n) && tkRow ops i x (i + 1) l && tkAll ops n (i + 1) l
theorem meets_of {ids x y : List Nat} (hn : ids.Nodup) (hx : ∀ a ∈ x, a < ids.length) (hy : ∀ a ∈ y, a < ids.length) {id : Nat} (h1 : id ∈ x.map (ids.getD · 0)) (h2 : id ∈ y.map (ids.getD · 0)) : meets x y = true := by
  simp only [List.mem_map] at h1 h2
  obtain ⟨a, ha, e1⟩ := h1
  obtain ⟨b, hb, e2⟩ := h2
  have la := hx a ha
  have lb := hy b hb
  have hab : a = b := by
    have hp := List.pairwise_iff_getElem.1 hn
    have e : ids[a] = ids[b] := by
      simp [List.getD, List.getElem?_eq_getElem la] at e1
      simp [List.getD, List.getElem?_eq_getElem lb] at e2
      omega
    rcases Nat.lt_trichotomy a b with q | q | q
    · exact absurd e (hp a b la lb q)
    · exact q
    · exact absurd e.symm (hp b a lb la q)
  subst hab
  simp only [meets, List.any_eq_true, List.contains_iff_mem]
  exact ⟨a, ha, hb⟩
theorem tkRow_at {ops : Array Oper} {i : Nat} {x : Tk} : ∀ (l : List Tk) (j k : Nat) (y : Tk), tkRow ops i x j l = true → l[k]? = some y → tkConf x y = true → anc ops ops.size i (j + k) = true
  | [], _, _, _, _, hy, _ => by simp at hy
  | z :: l, j, 0, y, h, hy, hc => by
    simp only [List.getElem?_cons_zero, Option.some.injEq] at hy
    subst hy
    simp only [tkRow, Bool.and_eq_true] at h
    simpa [hc] using h.1
  | z :: l, j, k + 1, y, h, hy, hc => by
    simp only [tkRow, Bool.and_eq_true] at h
    have := tkRow_at l (j + 1) k y h.2 (by simpa using hy) hc
    rwa [show j + (k + 1) = j + 1 + k by omega]
theorem tkAll_lt {ops : Array Oper} {n : Nat} : ∀ (l : List Tk) (i : Nat), tkAll ops n i l = true → ∀ t ∈ l, (∀ a ∈ t.rd, a < n) ∧ ∀ a ∈ t.wr, a < n
  | [], _, _, t, ht => by cases ht
  | x :: l, i, h, t, ht => by
    simp only [tkAll, Bool.and_eq_true] at h
    rcases List.mem_cons.1 ht with rfl | ht
    · exact ⟨by simpa using h.1.1.1, by simpa using h.1.1.2⟩
    · exact tkAll_lt l (i + 1) h.2 t ht
theorem chk_tk {ops : Array Oper} {B0 : Nat} {ids : List Nat} (hn : ids.Nodup) : ∀ (l : List Tk) (i : Nat), tkAll ops ids.length i l = true → chk ops B0 i (l.map (Tk.info ids))
  | [], _, _ => trivial
  | x :: l, i, h => by
    have hlt := tkAll_lt _ _ h
    simp only [tkAll, Bool.and_eq_true] at h
    refine ⟨Nat.zero_le _, fun j y hy hc => ?_, chk_tk hn l (i + 1) h.2⟩
    simp only [List.getElem?_map, Option.map_eq_some_iff] at hy
    obtain ⟨t, ht, rfl⟩ := hy
    have hx := hlt x (by simp)
    have ht' := hlt t (by simp [List.mem_of_getElem? ht])
    refine tkRow_at l (i + 1) j t h.1.2 ht ?_
    rcases hc with ⟨id, a, b | b⟩ | ⟨id, a, b⟩ | ⟨a, b⟩
    · simp [tkConf, meets_of hn hx.2 ht'.1 a b]
    · simp [tkConf, meets_of hn hx.2 ht'.2 a b]
    · simp [tkConf, meets_of hn hx.1 ht'.2 a b]
    · have a' : x.mks = true := a
      have b' : t.mks = true := b
      simp [tkConf, a', b']
theorem chkW_tk {ops : Array Oper} {B0 : Nat} {acc : List Info} (ids : List Nat) (l : List Tk) (hn : ids.Nodup) (ha : acc = l.map (Tk.info ids)) (h : tkAll ops ids.length 0 l = true) : ChkW ops B0 acc := by
  rw [ha]; exact chk_tk hn l 0 h

/-! ### What is handed back is not written any more -/
def allS : Nat → Prop := fun _ => True
theorem told_fz {f : FuncId} {args : List AV} {v : AV} (hv : AV.lt 0 v) (h : ∀ B, ACalls PP f args Hp.nil B (fun v' H' _ => Fz allS H' v' v)) : Told f args [] [] 0 v where
  call := fun Bx _ => (h Bx).freeze fun v' H' B' hf => by
    refine ⟨allS, v, Hp.nil, hf, ?_, ?_⟩
    · intro id k hk; cases hk
    · exact ⟨rfl, by simp⟩
  keys := by simp
  lt := hv
  rows := by simp
  nd := by simp
  all := by simp

theorem Fz.refl {S : Nat → Prop} {H : Hp} (x : AV) : Fz S H x x := .same x
theorem Fz.slice {H : Hp} {id sz : Nat} {k : Blk} {rows : List (List AV)} {n : Nat} (h : H id = some k) (hsz : k.sz = sz) (hr : k.rows = rows) (hn : n = rows.length) : Fz allS H (.ref id sz 0 n) (.sl sz rows) := by
  subst hr hn
  refine .ref id sz 0 _ k _ trivial h hsz (by omega) rfl (fun j r r' a b => ?_) (fun j c x y hx hy => ?_)
  · rw [Nat.zero_add] at a; rw [a] at b; cases b; rfl
  · rw [Nat.zero_add] at hx; rw [hx] at hy; cases hy; exact .same _

/-! ### What stands in a value -/
def decI : List (List AV) → Option (List Int)
  | [] => some []
  | [.int .i64 n] :: l => (decI l).map (n :: ·)
  | _ => none
def decR : List (List AV) → Option (List R)
  | [] => some []
  | x :: l => (decR1 x).bind fun r => (decR l).map (r :: ·)
def decP1 : List AV → Option Pg
  | [.int .i64 a, .int .i64 b, .sl 1 rows] => (decI rows).map fun vs => ⟨a, b, vs⟩
  | _ => none
def decP : List (List AV) → Option (List Pg)
  | [] => some []
  | x :: l => (decP1 x).bind fun r => (decP l).map (r :: ·)
def encE (e : Eng) : List AV := [.sl 3 (e.disk.map encP), .sl 3 (e.mem.map encP), .sl 8 (e.log.map encR), I64 e.safe, .bool e.down]
def decE : List AV → Option Eng
  | [.sl 3 d, .sl 3 m, .sl 8 l, .int .i64 s, .bool b] => (decP d).bind fun d => (decP m).bind fun m => (decR l).map fun l => ⟨d, m, l, s, b⟩
  | _ => none

@[simp] theorem decI_enc : ∀ l : List Int, decI (ints l) = some l
  | [] => rfl
  | n :: l => by have := decI_enc l; simp only [ints] at this; simp [ints, decI, this]
@[simp] theorem decR1_enc (r : R) : decR1 (encR r) = some r := rfl
@[simp] theorem decR_enc : ∀ l : List R, decR (l.map encR) = some l
  | [] => rfl
  | r :: l => by simp [decR, decR_enc l]
@[simp] theorem decR1_lit (a b c d e f g h : Int) : decR1 [I64 a, I64 b, I64 c, I64 d, I64 e, I64 f, I64 g, I64 h] = some ⟨a, b, c, d, e, f, g, h⟩ := rfl
@[simp] theorem decP1_lit (a b : Int) (v : List Int) : decP1 [I64 a, I64 b, .sl 1 (ints v)] = some ⟨a, b, v⟩ := by simp [decP1]
@[simp] theorem decP1_enc (p : Pg) : decP1 (encP p) = some p := by simp [decP1, encP, pgRow]
@[simp] theorem decP_enc : ∀ l : List Pg, decP (l.map encP) = some l
  | [] => rfl
  | r :: l => by simp [decP, decP_enc l]
@[simp] theorem decE_lit (d m : List Pg) (l : List R) (s : Int) (b : Bool) : decE [.sl 3 (d.map encP), .sl 3 (m.map encP), .sl 8 (l.map encR), I64 s, .bool b] = some ⟨d, m, l, s, b⟩ := by simp [decE]
@[simp] theorem decE_enc (e : Eng) : decE (encE e) = some e := by simp [decE, encE]

theorem decI_inv : ∀ {x : List (List AV)} {l : List Int}, decI x = some l → x = ints l
  | [], l, h => by simp only [decI, Option.some.injEq] at h; subst h; rfl
  | x :: xs, l, h => by
    unfold decI at h
    split at h
    · cases l <;> simp_all
    · rename_i n l' hx
      cases hx
      cases hd : decI xs with
      | none => rw [hd] at h; simp at h
      | some l0 => rw [hd] at h; simp at h; subst h; rw [decI_inv hd]; rfl
    · cases h
theorem decR_inv : ∀ {x : List (List AV)} {l : List R}, decR x = some l → x = l.map encR
  | [], l, h => by simp only [decR, Option.some.injEq] at h; subst h; rfl
  | x :: xs, l, h => by
    unfold decR at h
    simp only [Option.bind_eq_some_iff, Option.map_eq_some_iff] at h
    obtain ⟨r, hr, l0, hl, rfl⟩ := h
    rw [decR1_inv hr, decR_inv hl]; rfl
theorem decP1_inv {x : List AV} {p : Pg} (h : decP1 x = some p) : x = encP p := by
  unfold decP1 at h
  split at h
  · simp only [Option.map_eq_some_iff] at h
    obtain ⟨vs, hv, rfl⟩ := h
    rw [decI_inv hv]; rfl
  · cases h
theorem decP_inv : ∀ {x : List (List AV)} {l : List Pg}, decP x = some l → x = l.map encP
  | [], l, h => by simp only [decP, Option.some.injEq] at h; subst h; rfl
  | x :: xs, l, h => by
    unfold decP at h
    simp only [Option.bind_eq_some_iff, Option.map_eq_some_iff] at h
    obtain ⟨r, hr, l0, hl, rfl⟩ := h
    rw [decP1_inv hr, decP_inv hl]; rfl
theorem decE_inv {x : List AV} {e : Eng} (h : decE x = some e) : x = encE e := by
  unfold decE at h
  split at h
  · simp only [Option.bind_eq_some_iff, Option.map_eq_some_iff] at h
    obtain ⟨d, hd, m, hm, l, hl, rfl⟩ := h
    rw [decP_inv hd, decP_inv hm, decR_inv hl]; rfl
  · cases h

theorem lt_ints (B : Nat) (l : List Int) : AV.lt B (.sl 1 (ints l)) := by
  simp only [AV.lt, ints]; exact AV.ltLL_map _ (fun n => by simp [AV.ltL, AV.lt]) l
theorem lt_recs (B : Nat) (l : List R) : AV.lt B (.sl 8 (l.map encR)) := by
  simp only [AV.lt]; exact AV.ltLL_map _ (fun n => by simp [encR, AV.ltL, AV.lt]) l
theorem lt_page (B : Nat) (p : Pg) : AV.ltL B (encP p) := by
  simp only [encP, pgRow, AV.ltL, true_and, and_true]; exact ⟨trivial, trivial, lt_ints B _⟩
theorem lt_pages (B : Nat) (l : List Pg) : AV.lt B (.sl 3 (l.map encP)) := by
  simp only [AV.lt]; exact AV.ltLL_map _ (fun p => lt_page B p) l
theorem lt_eng (B : Nat) (e : Eng) : AV.ltL B (encE e) := by
  simp only [encE, AV.ltL, and_true]; exact ⟨lt_pages B _, lt_pages B _, lt_recs B _, trivial, trivial⟩

@[simp] theorem R_eta (r : R) : R.mk r.kind r.tx r.page r.slot r.old r.new r.prev r.next = r := rfl
@[simp] theorem Pg_eta (p : Pg) : Pg.mk p.lsn p.owner p.vals = p := rfl
@[simp] theorem Eng_eta (e : Eng) : Eng.mk e.disk e.mem e.log e.safe e.down = e := rfl
theorem take_map' {α β : Type} (f : α → β) (n : Nat) (l : List α) : (l.map f).take n = (l.take n).map f := (List.map_take ..).symm
theorem drop_map' {α β : Type} (f : α → β) (n : Nat) (l : List α) : (l.map f).drop n = (l.drop n).map f := (List.map_drop ..).symm

/-! ### Tables of calls -/
theorem ite_or {α : Type} {c : Prop} [Decidable c] {a b v : α} (h : (if c then a else b) = v) : (c ∧ a = v) ∨ (¬ c ∧ b = v) := by by_cases hc : c <;> simp_all
def Cfg.with (M : Cfg) (mu : Nat → Bool) : Cfg := ⟨mu, M.an, M.ok⟩
@[simp] theorem Cfg.with_mu (M : Cfg) (mu : Nat → Bool) : (M.with mu).mu = mu := nr rfl
@[simp] theorem Cfg.with_an (M : Cfg) (mu : Nat → Bool) : (M.with mu).an = M.an := nr rfl

end Go.Proofs.YtnaafbdgkmlnaaaGreat
