/- Laws about the machine's run of the program's functions, part 3, in import order. No condition. -/
import Derived.Test.YtnaafbdgkmlnaaaGreatM02

set_option linter.unusedVariables false
set_option linter.unusedSimpArgs false
set_option linter.unnecessarySimpa false
/- The abstract machine: what an operation that changes no memory comes to. -/
namespace Go.Proofs.YtnaafbdgkmlnaaaGreat
set_option linter.unusedVariables false
set_option linter.unusedSimpArgs false

noncomputable abbrev PP : Program := Tryz.prog

def binInt (op : BinOp) (k : IntKind) (a b : Int) : Option AV := match op with
  | .add => some (.int k (k.wrap (a + b)))
  | .sub => some (.int k (k.wrap (a - b)))
  | .mul => some (.int k (k.wrap (a * b)))
  | .quo => if b = 0 then none else some (.int k (k.wrap (a.tdiv b)))
  | .rem => if b = 0 then none else some (.int k (a.tmod b))
  | .xor => some (.int k (bits .xor k a b))
  | .eql => some (.bool (decide (a = b)))
  | .neq => some (.bool (!decide (a = b)))
  | .lss => some (.bool (decide (a < b)))
  | .leq => some (.bool (decide (a ≤ b)))
  | .gtr => some (.bool (decide (b < a)))
  | .geq => some (.bool (decide (b ≤ a)))
  | _ => none

def evBin (op : BinOp) (t : TypeId) (x y : AV) : Option AV := match x, y with
  | .int k a, .int k' b => if k = k' then binInt op k a b else none
  | .bool a, .bool b => if t = 4 then (match op with | .eql => some (.bool (a == b)) | .neq => some (.bool (!(a == b))) | _ => none) else none
  | _, _ => none

def evField (s f : Nat) (x : AV) : Option AV := match tt s with
  | some y => if y.kind = 1 ∧ f < y.size then (match x with
      | .pe id sz i => if sz = y.size then some (.pf id sz i f) else none
      | .qe xs => (xs[f]?).bind fun c => some (.qe [c])
      | _ => none) else none
  | none => none

def evIndex (t : TypeId) (x ix : AV) : Option AV := match tt t, ix with
  | some y, .int k n => if 0 ≤ n then (match x with
      | .sl sz xs => if y.kind = 2 then (match tt y.el with
          | some e => if sz = e.size then (xs[n.toNat]?).bind fun r => some (.qe r) else none
          | none => none) else none
      | .ref id sz off m => if y.kind = 2 ∧ n < m then (match tt y.el with
          | some e => if sz = e.size then some (.pe id sz (off + n.toNat)) else none
          | none => none) else none
      | .pe id sz i => if y.kind = 3 ∧ n < y.size then some (.pf id sz i n.toNat) else none
      | .qe xs => if y.kind = 3 ∧ n < y.size then (xs[n.toNat]?).bind fun c => some (.qe [c]) else none
      | _ => none) else none
  | _, _ => none

def evLoad (t : TypeId) (x : AV) (H : Hp) : Option (AV × List Nat) := match tt t with
  | some y => if y.agg then (match x with
      | .pe id sz i => (match H id with
          | some b => if b.sz = sz ∧ sz = y.size then (b.rows[i]?).bind fun r => some (.agg r, [id]) else none
          | none => none)
      | .qe xs => if xs.length = y.size then some (.agg xs, []) else none
      | _ => none)
    else if y.kind = 3 then none else (match x with
      | .pf id sz i k => (match H id with
          | some b => if b.sz = sz then (at2 b.rows i k).bind fun c => some (c, [id]) else none
          | none => none)
      | .pe id sz i => (match H id with
          | some b => if b.sz = sz ∧ sz = 1 then (at2 b.rows i 0).bind fun c => some (c, [id]) else none
          | none => none)
      | .qe xs => (xs[0]?).bind fun c => some (c, [])
      | _ => none)
  | none => none

def evSlice (t : TypeId) (x : AV) (lo hi mx : Option AV) : Option AV := match tt t with
  | some y => if y.kind = 2 then (match tt y.el with
    | some e => (match x with
      | .sl sz xs => if sz = e.size then (match lo, hi, mx with
          | none, some (.int _ h), none => if 0 ≤ h ∧ h ≤ xs.length then some (.sl sz (xs.take h.toNat)) else none
          | some (.int _ l), none, none => if 0 ≤ l ∧ l ≤ xs.length then some (.sl sz (xs.drop l.toNat)) else none
          | none, some (.int _ 0), some (.int _ 0) => some .nils
          | _, _, _ => none) else none
      | .ref id sz off n => if sz = e.size then (match lo, hi, mx with
          | none, some (.int _ h), none => if 0 ≤ h ∧ h ≤ n then some (.ref id sz off h.toNat) else none
          | some (.int _ l), none, none => if 0 ≤ l ∧ l < n then some (.ref id sz (off + l.toNat) (n - l.toNat)) else none
          | _, _, _ => none) else none
      | _ => none)
    | none => none) else none
  | none => none

def evLen : AV → Option AV
  | .sl _ xs => some (.int .i64 xs.length)
  | .nils => some (.int .i64 0)
  | .ref _ _ _ n => some (.int .i64 n)
  | _ => none

def max2 : AV → AV → Option AV
  | .int k a, .int k' b => if k = k' then some (.int k (if b > a then b else a)) else none
  | _, _ => none
def min2 : AV → AV → Option AV
  | .int k a, .int k' b => if k = k' then some (.int k (if b < a then b else a)) else none
  | _, _ => none

def evParts (zs : List AV) : List (Nat × AV) → Option (List AV)
  | [] => some zs
  | (i, v) :: r => if i < zs.length then evParts (zs.set i v) r else none

/-- A value that lies in one cell. -/
def AV.one : AV → Bool
  | .int .. | .bool _ | .str _ | .sl .. | .nils | .ref .. | .pe .. | .pf .. | .qe _ | .nilp | .fn .. | .nilf => true
  | _ => false

def evBuild (t : TypeId) (ps : List (Nat × AV)) : Option AV := match tt t with
  | some y => if y.kind = 1 ∧ ps.all (fun p => p.2.one) then (evParts y.zero ps).bind fun xs => some (.agg xs) else none
  | none => none

def evOp (o : Op) (F : Fr) (H : Hp) : Option (AV × List Nat) := match o with
  | .move x => some (F.ev x, [])
  | .assign x => some (F.ev x, [])
  | .pick c a b => match F.ev c with
    | .bool t => some (bif t then F.ev a else F.ev b, [])
    | _ => none
  | .nilCheck x => match F.ev x with
    | .pe id sz i => some (.pe id sz i, [])
    | .pf id sz i k => some (.pf id sz i k, [])
    | .qe xs => some (.qe xs, [])
    | .fn f xs => some (.fn f xs, [])
    | _ => none
  | .extract t i => match F.ev t with
    | .tup xs => (xs[i]?).bind fun v => some (v, [])
    | _ => none
  | .fieldAddr s x f => (evField s f (F.ev x)).bind fun v => some (v, [])
  | .indexAddr t x ix => (evIndex t (F.ev x) (F.ev ix)).bind fun v => some (v, [])
  | .load t x => evLoad t (F.ev x) H
  | .binOp op t x y _ => (evBin op t (F.ev x) (F.ev y)).bind fun v => some (v, [])
  | .unOp op _ x => match op, F.ev x with
    | .not, .bool b => some (.bool (!b), [])
    | .neg, .int k n => some (.int k (k.wrap (0 - n)), [])
    | _, _ => none
  | .convert s t x => match tt s, F.ev x with
    | some y, .int k n => if t = 3 then some (.int .i64 (IntKind.i64.wrap n), []) else if t = 5 then some (.int .u8 (IntKind.u8.wrap n), []) else none
    | _, _ => none
  | .makeFunc (.func f) first cap => if first.size = 0 then some (.fn f (cap.toList.map F.ev), []) else none
  | .slice t x lo hi mx => (evSlice t (F.ev x) (lo.map F.ev) (hi.map F.ev) (mx.map F.ev)).bind fun v => some (v, [])
  | .build t ps => (evBuild t (ps.toList.map fun p => (p.1, F.ev p.2))).bind fun v => some (v, [])
  | .call { callee := .builtin b, args := args, argTypes := ats } => match b, args.toList, ats.toList with
    | .len, [x], [t] => match tt t with
      | some y => if y.kind = 2 then (evLen (F.ev x)).bind fun v => some (v, []) else none
      | none => none
    | .max, [x, y], _ => (max2 (F.ev x) (F.ev y)).bind fun v => some (v, [])
    | .min, [x, y], _ => (min2 (F.ev x) (F.ev y)).bind fun v => some (v, [])
    | _, _, _ => none
  | _ => none

/-! ### It is so -/
section
variable {g : G} {w : World} {H : Hp}

theorem sz_of {t : TypeId} {y : TY} (h : tt t = some y) (w : World) : (sizeOf t).run PP w = .ok y.size w := by
  obtain ⟨T⟩ := tyOk (tt_ok h)
  simp [sizeOf, typeInfo, T.hi, T.hsize]

theorem elOf {t : TypeId} {y : TY} (h : tt t = some y) (hk : y.kind = 2) : PP.underlying t = some (.slice y.el) := by
  obtain ⟨T⟩ := tyOk (tt_ok h)
  have hd := T.hdesc
  unfold descOk at hd
  split at hd <;> simp_all [T.hd]

theorem arrOf {t : TypeId} {y : TY} (h : tt t = some y) (hk : y.kind = 3) : PP.underlying t = some (.array y.size y.el) ∧ one? PP y.el = true := by
  obtain ⟨T⟩ := tyOk (tt_ok h)
  have hd := T.hdesc
  have hu := T.hd
  unfold descOk at hd
  split at hd <;> (try simp only [hk, Bool.and_eq_true, beq_iff_eq] at hd)
  all_goals try (exfalso; omega)
  · rename_i n e he
    rw [he] at hu
    obtain ⟨⟨⟨_, h1⟩, h2⟩, h3⟩ := hd
    subst h1 h2
    exact ⟨hu, h3⟩
  · cases hd

theorem one_sz {t : TypeId} (h : one? PP t = true) (w : World) : (sizeOf t).run PP w = .ok 1 w := by
  unfold one? at h
  split at h
  · rename_i j hj
    simp only [beq_iff_eq] at h
    simp [sizeOf, typeInfo, hj, h]
  · cases h

theorem fieldsOk_at {k : Nat} {fs : List Field} (h : fieldsOk PP k fs = true) : ∀ j, j < fs.length → ∃ f, fs[j]? = some f ∧ f.offset = k + j ∧ one? PP f.type = true := by
  induction fs generalizing k with
  | nil => intro j hj; simp at hj
  | cons f fs ih =>
    simp only [fieldsOk, Bool.and_eq_true, beq_iff_eq] at h
    intro j hj
    cases j with
    | zero => exact ⟨f, rfl, by simpa using h.1.1, h.1.2⟩
    | succ j =>
      obtain ⟨f', h1, h2, h3⟩ := ih h.2 j (by simpa using hj)
      exact ⟨f', by simpa using h1, by omega, h3⟩

theorem structOf {t : TypeId} {y : TY} (h : tt t = some y) (hk : y.kind = 1) : ∃ fs, PP.underlying t = some (.struct fs) ∧ fs.size = y.size ∧ ∀ j, j < y.size → ∃ f, fs[j]? = some f ∧ f.offset = j ∧ one? PP f.type = true := by
  obtain ⟨T⟩ := tyOk (tt_ok h)
  have hd := T.hdesc
  have hu := T.hd
  unfold descOk at hd
  split at hd <;> (try simp only [hk, Bool.and_eq_true, beq_iff_eq] at hd)
  all_goals try (exfalso; omega)
  · rename_i fs hfs
    rw [hfs] at hu
    refine ⟨fs, hu, hd.1.2, fun j hj => ?_⟩
    obtain ⟨f, h1, h2, h3⟩ := fieldsOk_at hd.2 j (by rw [Array.length_toList]; omega)
    exact ⟨f, by rw [← Array.getElem?_toList]; exact h1, by omega, h3⟩
  · cases hd

theorem agg_of {t : TypeId} {y : TY} (h : tt t = some y) (w : World) : (isAgg t).run PP w = .ok y.agg w := by
  obtain ⟨T⟩ := tyOk (tt_ok h)
  have hd := T.hdesc
  unfold descOk at hd
  split at hd <;> simp_all [isAgg, run_underlying T.hd, TY.agg]

theorem addr_add (b o n : Nat) : (⟨b, o, none⟩ : Addr).add n = ⟨b, o + n, none⟩ := by
  unfold Addr.add
  split
  · subst_vars; rfl
  · rfl

theorem run_field {s f : Nat} {x v : AV} {cv : Value} (h : evField s f x = some v) (hx : RepV g w x cv) : ∃ u, (Instr.fieldAt s cv f).run PP w = .ok u w ∧ RepV g w v u := by
  unfold evField at h
  split at h
  · rename_i y hy
    split at h
    · rename_i hk
      obtain ⟨hk, hf⟩ := hk
      obtain ⟨fs, hu, hl, hfs⟩ := structOf hy hk
      obtain ⟨fd, h1, h2, h3⟩ := hfs f hf
      split at h
      · rename_i id sz i
        split at h
        · cases h
          cases hx
          rename_i b hm
          refine ⟨.pointer (some ⟨b, i * sz + f, none⟩), ?_, .pf id sz i f b hm⟩
          simp [Instr.fieldAt, run_underlying hu, h1, Instr.sureAddr, fieldPlace, one_sz h3, h2, addr_add]
        · cases h
      · rename_i xs
        cases hx
        rename_i b o vs hb hv1 hv2
        cases hc : xs[f]? with
        | none => rw [hc] at h; cases h
        | some c =>
          rw [hc] at h
          cases h
          refine ⟨.pointer (some ⟨b, o + f, none⟩), ?_, .qe [c] b (o + f) (fun k => vs (f + k)) hb (fun k x hk => ?_) (fun k x hk => ?_)⟩
          · simp [Instr.fieldAt, run_underlying hu, h1, Instr.sureAddr, fieldPlace, one_sz h3, h2, addr_add]
          · cases k with
            | zero => simp only [List.getElem?_cons_zero, Option.some.injEq] at hk; subst hk; simpa using hv1 f c hc
            | succ k => simp at hk
          · cases k with
            | zero => simp only [List.getElem?_cons_zero, Option.some.injEq] at hk; subst hk; simpa using hv2 f c hc
            | succ k => simp at hk
      · cases h
    · cases h
  · cases h

theorem run_index {t : TypeId} {x ix v : AV} {cx ci : Value} (h : evIndex t x ix = some v) (hx : RepV g w x cx) (hi : RepV g w ix ci) : ∃ u, (Instr.indexAt t cx ci).run PP w = .ok u w ∧ RepV g w v u := by
  unfold evIndex at h
  split at h
  · rename_i y k n hy
    cases hi
    split at h
    · rename_i h0
      obtain ⟨m, rfl⟩ := Int.eq_ofNat_of_zero_le h0
      simp only [Int.toNat_natCast] at h
      split at h
      · rename_i sz xs
        split at h
        · rename_i hk
          split at h
          · rename_i e he
            split at h
            · rename_i hsz
              have hu := elOf hy hk
              have hs := sz_of he w
              cases hxm : xs[m]? with
              | none => rw [hxm] at h; cases h
              | some r =>
                rw [hxm] at h
                cases h
                have hm : m < xs.length := (List.getElem?_eq_some_iff.1 hxm).1
                cases hx with
                | sl0 => simp at hm
                | sl _ _ b o n c vs hn hb hc hs0 h1 h2 =>
                  refine ⟨.pointer (some ⟨b, o + m * sz, none⟩), ?_, .qe r b _ (vs m) hb (fun k x hk => ?_) (fun k x hk => ?_)⟩
                  · have : ¬ n ≤ m := by omega
                    simp [Instr.indexAt, run_underlying hu, asIntOf, this, hs, addr_add, hsz]
                  · exact h1 m k x (by simp [at2, hxm, hk])
                  · exact h2 m k x (by simp [at2, hxm, hk])
            · cases h
          · cases h
        · cases h
      · rename_i id sz off q
        split at h
        · rename_i hk
          split at h
          · rename_i e he
            split at h
            · rename_i hsz
              have hu := elOf hy hk.1
              have hs := sz_of he w
              cases h
              cases hx with
              | ref _ _ _ _ b c cs e' fz hm hc hb hs0 =>
                refine ⟨.pointer (some ⟨b, (off + m) * sz, none⟩), ?_, .pe id sz _ b hm⟩
                have : ¬ q ≤ m := by have := hk.2; omega
                simp [Instr.indexAt, run_underlying hu, asIntOf, this, hs, addr_add, hsz, Nat.add_mul]
            · cases h
          · cases h
        · cases h
      · rename_i id sz i
        split at h
        · rename_i hk
          cases h
          obtain ⟨hu, h1⟩ := arrOf hy hk.1
          cases hx
          rename_i b hm
          refine ⟨.pointer (some ⟨b, i * sz + m, none⟩), ?_, .pf id sz i m b hm⟩
          have : ¬ y.size ≤ m := by have := hk.2; omega
          simp [Instr.indexAt, run_underlying hu, asIntOf, this, one_sz h1, addr_add, Instr.sureAddr]
        · cases h
      · rename_i xs
        split at h
        · rename_i hk
          obtain ⟨hu, h1⟩ := arrOf hy hk.1
          cases hx
          rename_i b o vs hb hv1 hv2
          cases hc : xs[m]? with
          | none => rw [hc] at h; cases h
          | some c =>
            rw [hc] at h
            cases h
            refine ⟨.pointer (some ⟨b, o + m, none⟩), ?_, .qe [c] b (o + m) (fun k => vs (m + k)) hb (fun k x hk => ?_) (fun k x hk => ?_)⟩
            · have : ¬ y.size ≤ m := by have := hk.2; omega
              simp [Instr.indexAt, run_underlying hu, asIntOf, this, one_sz h1, addr_add, Instr.sureAddr]
            · cases k with
              | zero => simp only [List.getElem?_cons_zero, Option.some.injEq] at hk; subst hk; simpa using hv1 m c hc
              | succ k => simp at hk
            · cases k with
              | zero => simp only [List.getElem?_cons_zero, Option.some.injEq] at hk; subst hk; simpa using hv2 m c hc
              | succ k => simp at hk
        · cases h
      · cases h
    · cases h
  · cases h

theorem run_load_cells {b o : Nat} {n : Nat} (vs : Nat → Value) (h : ∀ k, k < n → w.cell? ⟨b, o + k, none⟩ = some (vs k)) : (loadCells ⟨b, o, none⟩ n).run PP w = .ok ((List.range n).map vs).toArray w := by
  have := run_loadCells_list (P := PP) w ⟨b, o, none⟩ ((List.range n).map vs) (fun j v hv => by
    rw [addr_add]
    simp only [List.getElem?_map] at hv
    cases hr : (List.range n)[j]? with
    | none => rw [hr] at hv; cases hv
    | some i =>
      have hi := List.getElem?_eq_some_iff.1 hr
      obtain ⟨hl, hi⟩ := hi
      simp at hi hl
      subst hi
      rw [hr] at hv
      simp only [Option.map_some, Option.some.injEq] at hv
      subst hv
      exact h j hl)
  simpa using this

theorem cell_blk {b : Nat} {cs : Array Value} {e : TypeId} {fz : Nat × Nat} (h : w.heap[b]? = some (.cells cs e fz)) (o : Nat) : w.cell? ⟨b, o, none⟩ = cs[o]? := by
  simp [World.cell?, h]

theorem run_load {t : TypeId} {x v : AV} {rd : List Nat} {cx : Value} {B : Nat} {H' : Hp} (h : evLoad t x H = some (v, rd)) (hx : RepV g w x cx) (hs : StC g H' B w) (hr : ∀ id ∈ rd, H' id = H id) :
    ∃ u, (Instr.loadAt t cx).run PP w = .ok u w ∧ RepV g w v u := by
  unfold evLoad at h
  split at h
  · rename_i y hy
    have hsz := sz_of hy w
    have hag := agg_of hy w
    split at h
    · rename_i ha
      rw [ha] at hag
      split at h
      · rename_i id sz i
        split at h
        · rename_i bk hb
          split at h
          · rename_i hk
            cases hri : bk.rows[i]? with
            | none => rw [hri] at h; cases h
            | some r =>
              rw [hri] at h
              cases h
              obtain ⟨b, cs, hm, hB⟩ := hs.blk id bk ((hr id (by simp)).trans hb)
              cases hx with
              | pe _ _ _ b' hm' =>
                have hbb : b = b' := by rw [hm] at hm'; injection hm'
                subst hbb
                have hl := hB.len r (List.mem_of_getElem? hri)
                have hrep := hB.rep i
                refine ⟨.agg ((List.range y.size).map fun k => (cs[i * sz + k]?).getD undef).toArray, ?_, .agg _ _ (by simp [hl, hk.1, hk.2]) (fun k x v hxk hvk => ?_)⟩
                · have := run_load_cells (w := w) (b := b) (o := i * sz) (n := y.size) (fun k => (cs[i * sz + k]?).getD undef) (fun k hkk => by
                    rw [cell_blk hB.heap]
                    cases hrk : r[k]? with
                    | none => simp at hrk; omega
                    | some x =>
                      obtain ⟨v, h1, _⟩ := hrep k x (by simp [at2, hri, hrk])
                      rw [hk.1] at h1
                      simp [h1])
                  simp [Instr.loadAt, Instr.sureAddr, loadVar, hag, hsz, this]
                · obtain ⟨v', h1, h2⟩ := hrep k x (by simp [at2, hri, hxk])
                  simp only [List.getElem?_toArray, List.getElem?_map] at hvk
                  have hkl : k < y.size := by have := (List.getElem?_eq_some_iff.1 hxk).1; omega
                  rw [hk.1] at h1
                  simp [List.getElem?_range hkl, h1] at hvk
                  subst hvk
                  exact h2
          · cases h
        · cases h
      · rename_i xs
        split at h
        · rename_i hl
          cases h
          cases hx with
          | qe _ b o vs hb hv1 hv2 =>
            refine ⟨.agg ((List.range y.size).map vs).toArray, ?_, .agg _ _ (by simp [hl]) (fun k x v hxk hvk => ?_)⟩
            · have := run_load_cells (w := w) (b := b) (o := o) (n := y.size) vs (fun k hkk => by
                cases hrk : xs[k]? with
                | none => simp at hrk; omega
                | some x => exact hv1 k x hrk)
              simp [Instr.loadAt, Instr.sureAddr, loadVar, hag, hsz, this]
            · simp only [List.getElem?_toArray, List.getElem?_map] at hvk
              have hkl : k < y.size := by have := (List.getElem?_eq_some_iff.1 hxk).1; omega
              simp [List.getElem?_range hkl] at hvk
              subst hvk
              exact hv2 k x hxk
        · cases h
      · cases h
    · rename_i ha
      have ha' : y.agg = false := by simpa using ha
      rw [ha'] at hag
      split at h
      · cases h
      · have run1 : ∀ (b o : Nat) (u : Value), w.cell? ⟨b, o, none⟩ = some u → (Instr.loadAt t (.pointer (some ⟨b, o, none⟩))).run PP w = .ok u w := fun b o u hu => by
          simp [Instr.loadAt, Instr.sureAddr, loadVar, hag, load, Sem.run, hu]
        split at h
        · rename_i id sz i k
          split at h
          · rename_i bk hb
            split at h
            · rename_i hk
              cases hri : at2 bk.rows i k with
              | none => rw [hri] at h; cases h
              | some c =>
                rw [hri] at h
                cases h
                obtain ⟨b, cs, hm, hB⟩ := hs.blk id bk ((hr id (by simp)).trans hb)
                cases hx with
                | pf _ _ _ _ b' hm' =>
                  have hbb : b = b' := by rw [hm] at hm'; injection hm'
                  subst hbb
                  obtain ⟨v, h1, h2⟩ := hB.rep i k _ hri
                  rw [hk] at h1
                  exact ⟨v, run1 _ _ _ (by rw [cell_blk hB.heap]; exact h1), h2⟩
            · cases h
          · cases h
        · rename_i id sz i
          split at h
          · rename_i bk hb
            split at h
            · rename_i hk
              cases hri : at2 bk.rows i 0 with
              | none => rw [hri] at h; cases h
              | some c =>
                rw [hri] at h
                cases h
                obtain ⟨b, cs, hm, hB⟩ := hs.blk id bk ((hr id (by simp)).trans hb)
                cases hx with
                | pe _ _ _ b' hm' =>
                  have hbb : b = b' := by rw [hm] at hm'; injection hm'
                  subst hbb
                  obtain ⟨v, h1, h2⟩ := hB.rep i 0 _ hri
                  rw [hk.1] at h1
                  exact ⟨v, run1 _ _ _ (by rw [cell_blk hB.heap]; simpa using h1), h2⟩
            · cases h
          · cases h
        · rename_i xs
          cases hri : xs[0]? with
          | none => rw [hri] at h; cases h
          | some c =>
            rw [hri] at h
            cases h
            cases hx with
            | qe _ b o vs hb hv1 hv2 => exact ⟨vs 0, run1 _ _ _ (by simpa using hv1 0 _ hri), hv2 0 _ hri⟩
        · cases h
  · cases h

theorem run_equal_bool {t : TypeId} (hu : PP.underlying t = some .bool) (a b : Bool) : (Op.equal t (.bool a) (.bool b)).run PP w = .ok (a == b) w := by
  have : ∀ d, (Op.equalIn (d + 1) t (.bool a) (.bool b)).run PP w = .ok (a == b) w := fun d => by
    simp only [Op.equalIn, Sem.run_bind, run_underlying hu, Result.andThen_ok, Sem.run_pure]
  exact this 9999

theorem run_bin {op : BinOp} {t : TypeId} {x y v : AV} {cx cy : Value} (h : evBin op t x y = some v) (hx : RepV g w x cx) (hy : RepV g w y cy) (ox oy : Operand) :
    ∃ u, (do eqGuard op t ox oy cx cy; binOp op t cx cy : Sem Value).run PP w = .ok u w ∧ RepV g w v u := by
  unfold evBin at h
  split at h
  · rename_i k a k' b
    cases hx
    cases hy
    split at h
    · rename_i hk
      subst hk
      have hg : eqGuard op t ox oy (.int k a) (.int k b) = pure () := by cases op <;> rfl
      rw [hg]
      unfold binInt at h
      split at h
      · cases h; exact ⟨_, by simp [binOp_add, Op.intArith], .int _ _⟩
      · cases h; exact ⟨_, by simp [binOp_sub, Op.intArith], .int _ _⟩
      · cases h; exact ⟨_, by simp [binOp_mul, Op.intArith], .int _ _⟩
      · split at h
        · cases h
        · rename_i hb; cases h; exact ⟨_, by simp [binOp_quo, Op.intDiv, hb], .int _ _⟩
      · split at h
        · cases h
        · rename_i hb; cases h; exact ⟨_, by simp [binOp_rem, Op.intDiv, hb], .int _ _⟩
      · cases h; exact ⟨_, by simp [binOp_xor, intBits_xor], .int _ _⟩
      · cases h; exact ⟨_, by simp [binOp_eql]; rfl, .bool _⟩
      · cases h; exact ⟨_, by simp [binOp_neq]; rfl, .bool _⟩
      · cases h; exact ⟨_, by simp [binOp_lss], .bool _⟩
      · cases h; exact ⟨_, by simp [binOp_leq], .bool _⟩
      · cases h; exact ⟨_, by simp [binOp_gtr], .bool _⟩
      · cases h; exact ⟨_, by simp [binOp_geq], .bool _⟩
      · cases h
    · cases h
  · rename_i a b
    cases hx
    cases hy
    split at h
    · rename_i ht
      subst ht
      have hu : PP.underlying 4 = some .bool := by kernel_rfl
      split at h
      · cases h
        have hg : eqGuard .eql 4 ox oy (.bool a) (.bool b) = pure () := rfl
        have hb : binOp .eql 4 (.bool a) (.bool b) = (do pure (.bool (← Op.equal 4 (.bool a) (.bool b)))) := rfl
        rw [hg, hb]
        exact ⟨_, by simp [run_equal_bool hu], .bool _⟩
      · cases h
        have hg : eqGuard .neq 4 ox oy (.bool a) (.bool b) = pure () := rfl
        have hb : binOp .neq 4 (.bool a) (.bool b) = (do pure (.bool (!(← Op.equal 4 (.bool a) (.bool b))))) := rfl
        rw [hg, hb]
        exact ⟨_, by simp [run_equal_bool hu], .bool _⟩
      · cases h
    · cases h
  · cases h

theorem run_slice {t : TypeId} {x v : AV} {lo hi mx : Option AV} {cx : Value} {clo chi cmx : Option Value} (h : evSlice t x lo hi mx = some v) (hx : RepV g w x cx)
    (hlo : ∀ l, lo = some l → ∃ u, clo = some u ∧ RepV g w l u) (hhi : ∀ l, hi = some l → ∃ u, chi = some u ∧ RepV g w l u) (hmx : ∀ l, mx = some l → ∃ u, cmx = some u ∧ RepV g w l u)
    (nlo : lo = none → clo = none) (nhi : hi = none → chi = none) (nmx : mx = none → cmx = none) :
    ∃ u, (Instr.sliceAt t cx clo chi cmx).run PP w = .ok u w ∧ RepV g w v u := by
  unfold evSlice at h
  split at h
  · rename_i y hy
    split at h
    · rename_i hk
      split at h
      · rename_i e he
        have hu := elOf hy hk
        have hsz := sz_of he w
        split at h
        · rename_i sz xs
          split at h
          · rename_i hs
            subst hs
            split at h
            · rename_i k q
              obtain ⟨u, rfl, hr⟩ := hhi _ rfl
              cases hr
              obtain rfl := nlo rfl
              obtain rfl := nmx rfl
              split at h
              · rename_i hq
                cases h
                obtain ⟨m, rfl⟩ := Int.eq_ofNat_of_zero_le hq.1
                have hm : m ≤ xs.length := by omega
                cases hx with
                | sl0 _ a c =>
                  simp only [List.length_nil] at hm
                  obtain rfl : m = 0 := by omega
                  refine ⟨.slice (if c = 0 then a else a.map (·.add 0)) 0 (c - 0), ?_, .sl0 _ _ _⟩
                  simp [Instr.sliceAt, run_underlying hu, Instr.slice, Instr.sliceBounds, Instr.sliceBound, asIntOf, hsz]
                | sl _ _ b o n c vs hn hb hc hs0 h1 h2 =>
                  have e1 : (Instr.sliceAt t (.slice (some ⟨b, o, none⟩) n c) none (some (.int k m)) none).run PP w = .ok (.slice (some ⟨b, o, none⟩) m c) w := by
                    have : ¬ c < m := by omega
                    simp [Instr.sliceAt, run_underlying hu, Instr.slice, Instr.sliceBounds, Instr.sliceBound, asIntOf, hsz, this, addr_add, Nat.not_lt.1 this]
                  rcases Nat.eq_zero_or_pos m with rfl | hp
                  · exact ⟨_, e1, by simp only [Int.toNat_natCast, List.take_zero]; exact .sl0 _ _ _⟩
                  · refine ⟨_, e1, .sl _ _ b o m c vs (by simp; omega) hb (by omega) (fun x hx => hs0 x (List.mem_of_mem_take hx)) (fun j k x hx => h1 j k x ?_) (fun j k x hx => h2 j k x ?_)⟩
                    all_goals
                      simp only [at2, Int.toNat_natCast, List.getElem?_take] at hx ⊢
                      split at hx
                      · exact hx
                      · cases hx
              · cases h
            · rename_i k q
              obtain ⟨u, rfl, hr⟩ := hlo _ rfl
              cases hr
              obtain rfl := nhi rfl
              obtain rfl := nmx rfl
              split at h
              · rename_i hq
                cases h
                obtain ⟨m, rfl⟩ := Int.eq_ofNat_of_zero_le hq.1
                have hm : m ≤ xs.length := by omega
                cases hx with
                | sl0 _ a c =>
                  simp only [List.length_nil] at hm
                  obtain rfl : m = 0 := by omega
                  refine ⟨.slice (if c = 0 then a else a.map (·.add 0)) 0 (c - 0), ?_, .sl0 _ _ _⟩
                  simp [Instr.sliceAt, run_underlying hu, Instr.slice, Instr.sliceBounds, Instr.sliceBound, asIntOf, hsz]
                | sl _ _ b o n c vs hn hb hc hs0 h1 h2 =>
                  have e1 : (Instr.sliceAt t (.slice (some ⟨b, o, none⟩) n c) (some (.int k m)) none none).run PP w = .ok (.slice (if c = m then some ⟨b, o, none⟩ else some ⟨b, o + m * e.size, none⟩) (n - m) (c - m)) w := by
                    have : ¬ n < m := by omega
                    simp [Instr.sliceAt, run_underlying hu, Instr.slice, Instr.sliceBounds, Instr.sliceBound, asIntOf, hsz, this, addr_add, Nat.not_lt.1 this]
                  by_cases hmn : m = n
                  · refine ⟨_, e1, ?_⟩
                    have : xs.drop m = [] := List.drop_eq_nil_of_le (by omega)
                    simp only [Int.toNat_natCast, this]
                    rw [hmn, Nat.sub_self]
                    exact .sl0 _ _ _
                  · rw [if_neg (by omega)] at e1
                    refine ⟨_, e1, .sl _ _ b _ _ _ (fun j k => vs (m + j) k) (by simp; omega) hb (by omega) (fun x hx => hs0 x (List.mem_of_mem_drop hx)) (fun j k x hx => ?_) (fun j k x hx => h2 (m + j) k x ?_)⟩
                    · have := h1 (m + j) k x (by simpa only [at2, Int.toNat_natCast, List.getElem?_drop] using hx)
                      have e2 : o + m * e.size + j * e.size + k = o + (m + j) * e.size + k := by rw [Nat.add_mul]; omega
                      rw [e2]; exact this
                    · simpa only [at2, Int.toNat_natCast, List.getElem?_drop] using hx
              · cases h
            · obtain ⟨u1, rfl, hr1⟩ := hhi _ rfl
              obtain ⟨u2, rfl, hr2⟩ := hmx _ rfl
              cases hr1
              cases hr2
              obtain rfl := nlo rfl
              cases h
              cases hx with
              | sl0 _ a c => exact ⟨.slice a 0 0, by simp [Instr.sliceAt, run_underlying hu, Instr.slice, Instr.sliceBounds, Instr.sliceBound, asIntOf, hsz], .nils _⟩
              | sl _ _ b o n c vs hn hb hc hs0 h1 h2 => exact ⟨.slice (some ⟨b, o, none⟩) 0 0, by simp [Instr.sliceAt, run_underlying hu, Instr.slice, Instr.sliceBounds, Instr.sliceBound, asIntOf, hsz], .nils _⟩
            · cases h
          · cases h
        · rename_i id sz off n
          split at h
          · rename_i hs
            subst hs
            split at h
            · rename_i k q
              obtain ⟨u, rfl, hr⟩ := hhi _ rfl
              cases hr
              obtain rfl := nlo rfl
              obtain rfl := nmx rfl
              split at h
              · rename_i hq
                cases h
                obtain ⟨m, rfl⟩ := Int.eq_ofNat_of_zero_le hq.1
                have hm : m ≤ n := by omega
                cases hx with
                | ref _ _ _ _ b c cs e' fz hm' hc hb hs0 =>
                  refine ⟨.slice (some ⟨b, off * e.size, none⟩) m c, ?_, by simp only [Int.toNat_natCast]; exact .ref id _ off m b c cs e' fz hm' (by omega) hb hs0⟩
                  have : ¬ c < m := by omega
                  simp [Instr.sliceAt, run_underlying hu, Instr.slice, Instr.sliceBounds, Instr.sliceBound, asIntOf, hsz, this, addr_add, Nat.not_lt.1 this]
              · cases h
            · rename_i k q
              obtain ⟨u, rfl, hr⟩ := hlo _ rfl
              cases hr
              obtain rfl := nhi rfl
              obtain rfl := nmx rfl
              split at h
              · rename_i hq
                cases h
                obtain ⟨m, rfl⟩ := Int.eq_ofNat_of_zero_le hq.1
                have hm : m < n := by omega
                cases hx with
                | ref _ _ _ _ b c cs e' fz hm' hc hb hs0 =>
                  have e1 : (Instr.sliceAt t (.slice (some ⟨b, off * e.size, none⟩) n c) (some (.int k m)) none none).run PP w = .ok (.slice (if c = m then some ⟨b, off * e.size, none⟩ else some ⟨b, off * e.size + m * e.size, none⟩) (n - m) (c - m)) w := by
                    have : ¬ n < m := by omega
                    simp [Instr.sliceAt, run_underlying hu, Instr.slice, Instr.sliceBounds, Instr.sliceBound, asIntOf, hsz, this, addr_add, Nat.not_lt.1 this]
                  rw [if_neg (by omega), ← Nat.add_mul] at e1
                  refine ⟨_, e1, ?_⟩
                  simp only [Int.toNat_natCast]
                  refine .ref id _ (off + m) (n - m) b (c - m) cs e' fz hm' (by omega) hb ?_
                  rw [show off + m + (c - m) = off + c by omega]
                  exact hs0
              · cases h
            · cases h
          · cases h
        · cases h
      · cases h
    · cases h
  · cases h

end

end Go.Proofs.YtnaafbdgkmlnaaaGreat
