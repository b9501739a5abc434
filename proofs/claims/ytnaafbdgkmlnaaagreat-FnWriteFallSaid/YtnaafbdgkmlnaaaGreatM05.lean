/- Laws about the machine's run of the program's functions, part 5, in import order. No condition. -/
import Derived.Test.YtnaafbdgkmlnaaaGreatM04

set_option linter.unusedVariables false
set_option linter.unusedSimpArgs false
set_option linter.unnecessarySimpa false
/- The abstract machine: slices that are made, append, stores. -/
namespace Go.Proofs.YtnaafbdgkmlnaaaGreat
set_option linter.unusedVariables false
set_option linter.unusedSimpArgs false
set_option linter.unnecessarySimpa false

section
variable {g : G} {w : World}

/-! ### A literal -/
theorem foldl_set (off : Nat) : ∀ (l : List Value) (j : Nat) (cs : Array Value), off + j + l.length ≤ cs.size →
    ((l.zipIdx j).foldl (fun cs p => cs.setIfInBounds (off + p.2) p.1) cs).size = cs.size ∧
    ∀ p, ((l.zipIdx j).foldl (fun cs p => cs.setIfInBounds (off + p.2) p.1) cs)[p]? = if off + j ≤ p ∧ p < off + j + l.length then l[p - (off + j)]? else cs[p]?
  | [], j, cs, h => ⟨rfl, fun p => by simp; intro h1 h2; omega⟩
  | v :: l, j, cs, h => by
    simp only [List.length_cons] at h
    obtain ⟨h1, h2⟩ := foldl_set off l (j + 1) (cs.setIfInBounds (off + j) v) (by simp; omega)
    simp only [List.zipIdx_cons, List.foldl_cons]
    refine ⟨by simpa using h1, fun p => ?_⟩
    rw [h2]
    by_cases hp : p = off + j
    · subst hp
      rw [if_neg (by omega), if_pos (by simp)]
      have : off + j < cs.size := by omega
      simp [this]
    · by_cases hq : off + (j + 1) ≤ p ∧ p < off + (j + 1) + l.length
      · rw [if_pos hq, if_pos (by simp only [List.length_cons]; omega), show p - (off + j) = (p - (off + (j + 1))) + 1 by omega, List.getElem?_cons_succ]
      · rw [if_neg hq, if_neg (by simp only [List.length_cons]; omega), Array.getElem?_setIfInBounds_ne (by omega)]

theorem fill_rows (sz : Nat) : ∀ (vs : List Value) (k : Nat) (cs : Array Value), (∀ v ∈ vs, v.cells.size = sz) → (k + vs.length) * sz ≤ cs.size →
    ∃ cs', Instr.fill (fun i => some (i * sz, sz)) cs ((vs.zipIdx k).map fun p => (p.2, p.1)) = some cs' ∧ cs'.size = cs.size ∧ (∀ p, p < k * sz → cs'[p]? = cs[p]?) ∧
      ∀ p, p < vs.length * sz → cs'[k * sz + p]? = (vs.flatMap fun v => v.cells.toList)[p]?
  | [], k, cs, _, _ => ⟨cs, rfl, rfl, fun _ _ => rfl, fun p hp => by simp at hp⟩
  | v :: vs, k, cs, hs, h => by
    have hv := hs v (by simp)
    have hk : (k + 1) * sz = k * sz + sz := by rw [Nat.add_mul]; omega
    have hl : (k + (v :: vs).length) * sz = k * sz + sz + vs.length * sz := by simp only [List.length_cons]; rw [Nat.add_mul, Nat.add_mul]; omega
    obtain ⟨h1, h2⟩ := foldl_set (k * sz) v.cells.toList 0 cs (by simp [hv]; omega)
    obtain ⟨cs', e1, e2, e3, e4⟩ := fill_rows sz vs (k + 1) ((v.cells.toList.zipIdx 0).foldl (fun cs p => cs.setIfInBounds (k * sz + p.2) p.1) cs) (fun u hu => hs u (by simp [hu])) (by rw [h1, Nat.add_mul]; omega)
    refine ⟨cs', ?_, e2.trans h1, fun p hp => ?_, fun p hp => ?_⟩
    · simp only [List.zipIdx_cons, List.map_cons, Instr.fill]
      rw [if_neg (by simp [hv]; omega)]
      have : v.cells.zipIdx.foldl (fun cs (x : Value × Nat) => match x with | (c, j) => cs.setIfInBounds (k * sz + j) c) cs = (v.cells.toList.zipIdx 0).foldl (fun cs p => cs.setIfInBounds (k * sz + p.2) p.1) cs := by
        rw [← Array.foldl_toList]; simp
      rw [this]
      exact e1
    · rw [e3 p (by omega), h2, if_neg (by omega)]
    · simp only [List.flatMap_cons]
      by_cases hp2 : p < sz
      · rw [e3 _ (by omega), h2, if_pos (by simp [hv]; omega), List.getElem?_append_left (by simp [hv]; omega)]
        congr 1; omega
      · have := e4 (p - sz) (by simp only [List.length_cons] at hp; rw [Nat.add_mul] at hp; omega)
        rw [show k * sz + p = (k + 1) * sz + (p - sz) by omega, this, List.getElem?_append_right (by simp [hv]; omega)]
        simp [hv]

theorem toList_of_get {cs : Array Value} {l : List Value} (hs : cs.size = l.length) (h : ∀ p, p < l.length → cs[p]? = l[p]?) : cs = l.toArray := by
  apply Array.ext'
  apply List.ext_getElem?
  intro p
  by_cases hp : p < l.length
  · simpa using h p hp
  · rw [List.getElem?_eq_none (by simp; omega), List.getElem?_eq_none (by simp; omega)]

/-- The elements of a literal. -/
def litRows (e : TY) : List AV → Option (List (List AV))
  | [] => some []
  | x :: xs => (cellsAV e x).bind fun r => (litRows e xs).map fun rs => r :: rs

theorem litRows_rep {e : TY} : ∀ (xs : List AV) (vs : List Value) (rows : List (List AV)), litRows e xs = some rows → RepL g w xs vs →
    RepRows g w e.size rows (vs.flatMap fun v => v.cells.toList) ∧ rows.length = vs.length ∧ ∀ v ∈ vs, v.cells.size = e.size
  | [], vs, rows, h, hr => by
    simp only [litRows, Option.some.injEq] at h
    subst h
    have : vs = [] := List.length_eq_zero_iff.1 (by have := hr.1; simp at this; omega)
    subst this
    exact ⟨⟨by simp, by simp, fun i j x hx => by simp [at2] at hx⟩, rfl, by simp⟩
  | x :: xs, vs, rows, h, hr => by
    cases vs with
    | nil => have := hr.1; simp at this
    | cons v vs =>
      simp only [litRows] at h
      cases hc : cellsAV e x with
      | none => rw [hc] at h; cases h
      | some r =>
        rw [hc] at h
        cases hl : litRows e xs with
        | none => rw [hl] at h; cases h
        | some rs =>
          rw [hl] at h
          cases h
          have hv : RepV g w x v := hr.2 0 x v rfl rfl
          obtain ⟨h1, h2, h3⟩ := litRows_rep xs vs rs hl ⟨by simpa using hr.1, fun k y u hy hu => hr.2 (k + 1) y u (by simpa using hy) (by simpa using hu)⟩
          have h4 := (RepRows.one hc hv).append h1
          have h5 := (cellsAV_rep hc hv)
          refine ⟨by simpa using h4, by simp [h2], fun u hu => ?_⟩
          rcases List.mem_cons.1 hu with rfl | hu
          · have := h5.2.1.1; simp at this; omega
          · exact h3 u hu

/-- The parts of a literal stand in order. -/
def inOrder (k : Nat) : List (Nat × Operand) → Bool
  | [] => true
  | p :: ps => p.1 == k && inOrder (k + 1) ps

theorem inOrder_zip {k : Nat} {ps : List (Nat × Operand)} (h : inOrder k ps = true) (f : Operand → Value) : (ps.map fun p => (p.1, f p.2)) = ((ps.map fun p => f p.2).zipIdx k).map fun p => (p.2, p.1) := by
  induction ps generalizing k with
  | nil => rfl
  | cons p ps ih =>
    simp only [inOrder, Bool.and_eq_true, beq_iff_eq] at h
    simp [h.1, ih h.2]

theorem opl_buildI {o : Oper} {F : Fr} {B : Nat} {t : TypeId} {n : Nat} {ps : Array (Nat × Operand)} {y e : TY} {rows : List (List AV)} {v : AV} (ho : o.op = .buildSlice t n ps) (hy : tt t = some y) (hk : y.kind = 2)
    (he : tt y.el = some e) (hn : ps.size = n) (hsm : n * e.size ≤ 1000) (hin : inOrder 0 ps.toList = true) (hr : litRows e (ps.toList.map fun p => F.ev p.2) = some rows) (hv : v = if n = 0 then .nils else .sl e.size rows) : OpL PP o F [] [] 0 B B v := by
  intro c g H Bx Bx' w a _ hB hs hx hR next Q hnext
  obtain ⟨hB1, rfl⟩ := hB rfl
  have hu := elOf hy hk
  obtain ⟨z, hz, hz2, _⟩ := zero_of he
  have hsz := sz_of he
  have hrl : RepL g w (ps.toList.map fun p => F.ev p.2) (ps.toList.map fun p => a.eval p.2) := ⟨by simp, fun k x v hk hv => by
    simp only [List.getElem?_map, Option.map_eq_some_iff] at hk hv
    obtain ⟨p, h1, rfl⟩ := hk
    obtain ⟨q, h2, rfl⟩ := hv
    rw [h1] at h2
    cases h2
    exact hx p.2 (by rw [ho]; simp only [Op.operands]; simp; exact ⟨p.1, by simpa using List.mem_of_getElem? h1⟩)⟩
  obtain ⟨h1, h2, h3⟩ := litRows_rep _ _ _ hr hrl
  have hlen : (ps.toList.map fun p => a.eval p.2).length = n := by simp [hn]
  obtain ⟨cs', e1, e2, e3, e4⟩ := fill_rows e.size (ps.toList.map fun p => a.eval p.2) 0 ((Array.range (n * e.size)).map (z.cells[· % z.cells.size]!)) h3 (by simp [hn])
  have hcs : cs' = ((ps.toList.map fun p => a.eval p.2).flatMap fun v => v.cells.toList).toArray := by
    have hfl := h1.1
    refine toList_of_get (by rw [e2, hfl, h2, hlen]; simp) (fun p hp => ?_)
    have := e4 p (by rw [hlen]; rw [hfl, h2, hlen] at hp; exact hp)
    simpa using this
  have erun : (execOp a.eval o).run PP w = .ok (.value (.slice (some ⟨w.heap.size, 0, none⟩) n n)) (w.alloc (.cells cs' y.el (0, 0))) := by
    have hp : (ps.map fun (i, x) => (i, a.eval x)).toList = ((ps.toList.map fun p => a.eval p.2).zipIdx 0).map fun p => (p.2, p.1) := by
      rw [← inOrder_zip hin]; simp
    simp only [execOp, ho, Instr.buildSlice, Sem.run_bind, run_underlying hu, Result.andThen_ok, hsz]
    have hb : ¬ (n * e.size > 2 ^ 24) := by omega
    by_cases h0 : n * e.size = 0
    · have hz0 : ∀ f : Nat → Value, (Array.range (n * e.size)).map f = #[] := fun f => by rw [h0]; simp
      rw [hz0] at e1
      simp only [if_neg hb, Sem.run_bind, hz0, hp]
      simp [h0, e1, newRow]
    · simp only [if_neg hb, Sem.run_bind, hp]
      simp only [h0, if_false, Sem.run_bind, hz, Result.andThen_ok, Sem.run_pure, e1]
      simp [newRow]
  unfold Oper.wp
  rw [erun]
  have hlast := rep_sl_new (rest := []) hs y.el n (by omega) h1
  rw [List.append_nil, h2, hlen, ← hcs] at hlast
  refine hnext _ _ _ ?_ (hs.allocI _) (Le.allocI hs.inI _)
  subst hv
  split
  · rename_i h0
    rw [h0]
    exact .nils _
  · exact hlast

end
end Go.Proofs.YtnaafbdgkmlnaaaGreat

/- The abstract machine: make, append, stores, calls. -/
namespace Go.Proofs.YtnaafbdgkmlnaaaGreat
set_option linter.unusedVariables false
set_option linter.unusedSimpArgs false
set_option linter.unnecessarySimpa false

section
variable {g : G} {w : World}

/-! ### make -/
theorem made_rows {e : TY} {z : Value} (hz : RepL g w e.zero z.cells.toList) (n : Nat) : RepRows g w e.size (List.replicate n e.zero) (madeCells z.cells (n * e.size)).toList := by
  have hl : z.cells.size = e.size := by have := hz.1; simp at this; simpa [TY.size] using this.symm
  refine ⟨by simp [madeCells], fun x hx => by rw [List.eq_of_mem_replicate hx]; rfl, fun i j x hx => ?_⟩
  obtain ⟨h1, r, h2, h3⟩ := at2_lt hx
  simp only [List.length_replicate] at h1
  simp only [List.getElem?_replicate, h1, if_true, Option.some.injEq] at h2
  subst h2
  have hj : j < e.size := (List.getElem?_eq_some_iff.1 h3).1
  have hb : i * e.size + j < n * e.size := by
    have : (i + 1) * e.size ≤ n * e.size := Nat.mul_le_mul_right _ h1
    rw [Nat.add_mul] at this
    omega
  have hm : (i * e.size + j) % z.cells.size = j := by rw [hl, Nat.add_comm, Nat.add_mul_mod_self_right, Nat.mod_eq_of_lt hj]
  refine ⟨z.cells[j], ?_, hz.2 j x _ h3 (by simp [hl, hj])⟩
  simp only [madeCells, Array.toList_map, Array.toList_range, List.getElem?_map]
  rw [List.getElem?_range hb]
  simp only [Option.map_some, hm]
  rw [getElem!_pos _ _ (by omega)]

theorem run_make_n {t : TypeId} {y e : TY} (hy : tt t = some y) (hk : y.kind = 2) (he : tt y.el = some e) {z : Value} (hz : ∀ w, (zeroValue y.el).run PP w = .ok z w) (k k' : IntKind) (n : Nat) (hb : n * e.bytes ≤ 281474976710656) (h63 : n ≤ 9223372036854775807) :
    (Instr.makeSlice t (.int k n) (.int k' n)).run PP w = .ok (.slice (some ⟨w.heap.size, 0, none⟩) n n) (w.alloc (.cells (madeCells z.cells (n * e.size)) y.el (0, 0))) := by
  obtain ⟨T⟩ := tyOk (tt_ok he)
  have hzz : z = T.z := by
    have := hz w
    simp [zeroValue, typeInfo, T.hi, T.hz] at this
    exact this.symm
  have hb' : (T.i.bytes : Int) * (n : Int) ≤ 281474976710656 := by
    have : ((n * e.bytes : Nat) : Int) ≤ 281474976710656 := by omega
    rw [Int.natCast_mul, Int.mul_comm] at this
    rw [T.hbytes]
    exact this
  have := run_make (P := PP) w t y.el T.i T.z (elOf hy hk) T.hi T.hz k k' n n (by omega) (by omega) hb' (by omega)
  rw [this, hzz, T.hsize]
  simp

theorem opl_makeI {o : Oper} {F : Fr} {B : Nat} {t : TypeId} {l c : Operand} {k k' : IntKind} {n : Nat} {y e : TY} (ho : o.op = .makeSlice t l c) (hy : tt t = some y) (hk : y.kind = 2) (he : tt y.el = some e)
    (hl : F.ev l = .int k n) (hc : F.ev c = .int k' n) (hb : n * e.bytes ≤ 281474976710656) (h63 : n ≤ 9223372036854775807) : OpL PP o F [] [] 0 B B (.sl e.size (List.replicate n e.zero)) := by
  intro cc g H Bx Bx' w a _ hB hs hx hR next Q hnext
  obtain ⟨hB1, rfl⟩ := hB rfl
  obtain ⟨z, hz, hz2, _⟩ := zero_of he
  have h1 := hx l (by simp [ho, Op.operands])
  have h2 := hx c (by simp [ho, Op.operands])
  rw [hl] at h1
  rw [hc] at h2
  generalize hcl : a.eval l = cl at h1
  generalize hcc : a.eval c = cd at h2
  cases h1
  cases h2
  unfold Oper.wp
  have : (execOp a.eval o).run PP w = .ok (.value (.slice (some ⟨w.heap.size, 0, none⟩) n n)) (w.alloc (.cells (madeCells z.cells (n * e.size)) y.el (0, 0))) := by
    simp only [execOp, ho, hcl, hcc, Sem.run_bind, run_make_n hy hk he hz k k' n hb h63, Result.andThen_ok, Sem.run_pure]
  rw [this]
  have hlast := rep_sl_new (rest := []) hs y.el n (by simp) (made_rows (hz2 g w) n)
  rw [List.append_nil, List.length_replicate, Array.toArray_toList] at hlast
  exact hnext _ _ _ hlast (hs.allocI _) (Le.allocI hs.inI _)

theorem opl_makeM {o : Oper} {F : Fr} {B : Nat} {t : TypeId} {l c : Operand} {k k' : IntKind} {n : Nat} {y e : TY} (ho : o.op = .makeSlice t l c) (hy : tt t = some y) (hk : y.kind = 2) (he : tt y.el = some e)
    (hl : F.ev l = .int k n) (hc : F.ev c = .int k' n) (hb : n * e.bytes ≤ 281474976710656) (h63 : n ≤ 9223372036854775807) :
    OpL PP o F [] [(B, some ⟨y.el, e.size, List.replicate n e.zero⟩)] 0 B (B + 1) (.ref B e.size 0 n) := by
  intro cc g H Bx Bx' w a hB _ hs hx hR next Q hnext
  obtain ⟨rfl, rfl⟩ := hB (by omega)
  obtain ⟨z, hz, hz2, _⟩ := zero_of he
  have h1 := hx l (by simp [ho, Op.operands])
  have h2 := hx c (by simp [ho, Op.operands])
  rw [hl] at h1
  rw [hc] at h2
  generalize hcl : a.eval l = cl at h1
  generalize hcc : a.eval c = cd at h2
  cases h1
  cases h2
  unfold Oper.wp
  have : (execOp a.eval o).run PP w = .ok (.value (.slice (some ⟨w.heap.size, 0, none⟩) n n)) (w.alloc (.cells (madeCells z.cells (n * e.size)) y.el (0, 0))) := by
    simp only [execOp, ho, hcl, hcc, Sem.run_bind, run_make_n hy hk he hz k k' n hb h63, Result.andThen_ok, Sem.run_pure]
  rw [this]
  have hr := made_rows (hz2 g w) n
  have hsz : (madeCells z.cells (n * e.size)).size = n * e.size := by simp [madeCells]
  refine hnext _ _ _ (rep_ref_new (heap_new _ _) (Nat.le_refl _) (by omega)) (hs.allocM ⟨y.el, e.size, List.replicate n e.zero⟩ _ (by simp [hsz]) hr.2.1 (fun i j x hx => ?_)) (Le.allocM (hs.free _ (Nat.le_refl _)) hs.inI _)
  obtain ⟨v, h1, h2⟩ := hr.2.2 i j x hx
  exact ⟨v, by simpa using h1, h2⟩

/-! ### What is appended -/
def srcRows (sz : Nat) (x : AV) (H : Hp) : Option (List (List AV) × List Nat) := match x with
  | .sl sz' xs => if sz' = sz then some (xs, []) else none
  | .nils => some ([], [])
  | .ref id sz' off n => match H id with
    | some b => if b.sz = sz ∧ sz' = sz ∧ off + n ≤ b.rows.length then some ((b.rows.drop off).take n, [id]) else none
    | none => none
  | _ => none

theorem div_mod_cell {sz p n : Nat} (h : p < n * sz) : p / sz < n ∧ p % sz < sz ∧ p / sz * sz + p % sz = p := by
  have hs : 0 < sz := by
    rcases Nat.eq_zero_or_pos sz with h0 | h0
    · rw [h0] at h; omega
    · exact h0
  exact ⟨(Nat.div_lt_iff_lt_mul hs).2 h, Nat.mod_lt _ hs, by rw [Nat.mul_comm]; exact Nat.div_add_mod p sz⟩

/-- Rows out of cells that read. -/
theorem rows_of_cells {sz b o : Nat} {rows : List (List AV)} (vs : Nat → Value) (hl : ∀ x ∈ rows, x.length = sz) (hc : ∀ p, p < rows.length * sz → w.cell? ⟨b, o + p, none⟩ = some (vs p))
    (hr : ∀ i j x, at2 rows i j = some x → RepV g w x (vs (i * sz + j))) :
    RepRows g w sz rows ((List.range (rows.length * sz)).map vs) ∧ ∀ w1 : World, w1.heap = w.heap → (loadCells ⟨b, o, none⟩ (rows.length * sz)).run PP w1 = .ok ((List.range (rows.length * sz)).map vs).toArray w1 := by
  refine ⟨⟨by simp, hl, fun i j x hx => ⟨vs (i * sz + j), ?_, hr i j x hx⟩⟩, fun w1 h1 => run_load_cells vs (fun k hk => by have := hc k hk; simp only [World.cell?, h1] at this ⊢; exact this)⟩
  rw [List.getElem?_map, List.getElem?_range (row_bound hl hx).2]
  rfl

theorem src_sound {sz : Nat} {x : AV} {H H' : Hp} {rows : List (List AV)} {rd : List Nat} {cv : Value} {B : Nat} (h : srcRows sz x H = some (rows, rd)) (hx : RepV g w x cv) (hs : StC g H' B w) (hr : ∀ id ∈ rd, H' id = H id) :
    ∃ A n c vals, cv = .slice A n c ∧ rows.length = n ∧ RepRows g w sz rows vals ∧ ∀ w1 : World, w1.heap = w.heap → (Builtin.firstCells sz n cv).run PP w1 = .ok vals.toArray w1 := by
  unfold srcRows at h
  split at h
  · rename_i sz' xs
    split at h
    · rename_i e
      subst e
      cases h
      cases hx with
      | sl0 _ a c =>
        refine ⟨a, 0, c, [], rfl, rfl, ⟨by simp, by simp, fun i j x hx => (by simp [at2] at hx)⟩, ?_⟩
        intro w1 _
        cases a <;> simp [Builtin.firstCells, loadCells, loadCellsFrom]
      | sl _ _ b o n c vs hn hb hc hs0 h1 h2 =>
        have hcell : ∀ p, p < rows.length * sz' → w.cell? ⟨b, o + p, none⟩ = some (vs (p / sz') (p % sz')) := fun p hp => by
          obtain ⟨a1, a2, a3⟩ := div_mod_cell hp
          have hrl := hs0 _ (List.getElem_mem a1)
          have : at2 rows (p / sz') (p % sz') = some (rows[p / sz'][p % sz']'(by omega)) := by simp [at2, a1]
          have := h1 _ _ _ this
          rw [Nat.add_assoc, a3] at this
          exact this
        obtain ⟨r1, r2⟩ := rows_of_cells (g := g) (fun p => vs (p / sz') (p % sz')) hs0 hcell (fun i j x hx => by
          have hj := (row_bound hs0 hx).1
          rw [Nat.mul_comm i, Nat.mul_add_div (by omega), Nat.mul_add_mod, Nat.div_eq_of_lt hj, Nat.mod_eq_of_lt hj]
          exact h2 i j x hx)
        exact ⟨_, n, c, _, rfl, hn, r1, by subst hn; intro w1 h1; simp only [Builtin.firstCells]; exact r2 w1 h1⟩
    · cases h
  · cases h
    cases hx with
    | nils a =>
      refine ⟨a, 0, 0, [], rfl, rfl, ⟨by simp, by simp, fun i j x hx => by simp [at2] at hx⟩, ?_⟩
      intro w1 _
      cases a <;> simp [Builtin.firstCells, loadCells, loadCellsFrom]
  · rename_i id sz' off n
    split at h
    · rename_i bk hb
      split at h
      · rename_i hk
        obtain ⟨k1, k2, k3⟩ := hk
        cases h
        obtain ⟨b, cs, hm, hB⟩ := hs.blk id bk ((hr id (by simp)).trans hb)
        cases hx with
        | ref _ _ _ _ b' c cs' e' fz hm' hc hb' hs0 =>
          have hbb : b = b' := by rw [hm] at hm'; injection hm'
          subst hbb
          subst k2
          have hl : ((bk.rows.drop off).take n).length = n := by simp; omega
          have hat : ∀ i j x, at2 ((bk.rows.drop off).take n) i j = some x → at2 bk.rows (off + i) j = some x := fun i j x hx => by
            simp only [at2, List.getElem?_take, List.getElem?_drop] at hx ⊢
            split at hx
            · exact hx
            · cases hx
          have hlen : ∀ x ∈ (bk.rows.drop off).take n, x.length = sz' := fun x hx => (hB.len x (List.mem_of_mem_drop (List.mem_of_mem_take hx))).trans k1
          obtain ⟨r1, r2⟩ := rows_of_cells (g := g) (w := w) (b := b) (o := off * sz') (fun p => (cs[off * sz' + p]?).getD undef) hlen (fun p hp => by
            rw [hl] at hp
            rw [cell_blk hB.heap]
            have h1 := hB.size
            rw [k1] at h1
            have h2 : (off + n) * sz' ≤ bk.rows.length * sz' := Nat.mul_le_mul_right _ k3
            rw [Nat.add_mul] at h2
            have : off * sz' + p < cs.size := by omega
            simp [this]) (fun i j x hx => by
            obtain ⟨v, h1, h2⟩ := hB.rep _ _ _ (hat i j x hx)
            rw [k1, Nat.add_mul] at h1
            rw [← Nat.add_assoc, h1]
            exact h2)
          refine ⟨_, n, c, _, rfl, hl, r1, ?_⟩
          rw [hl] at r2 ⊢
          intro w1 h1
          simp only [Builtin.firstCells]
          exact r2 w1 h1
      · cases h
    · cases h
  · cases h

end
end Go.Proofs.YtnaafbdgkmlnaaaGreat

/- The abstract machine: append and stores. -/
namespace Go.Proofs.YtnaafbdgkmlnaaaGreat
set_option linter.unusedVariables false
set_option linter.unusedSimpArgs false
set_option linter.unnecessarySimpa false

section
variable {g : G} {w : World}

/-- append that makes a new block. -/
theorem run_grow {t ty : TypeId} {y e : TY} (hy : tt t = some y) (hk : y.kind = 2) (he : tt y.el = some e) {A A2 : Option Addr} {sLen sCap n c2 : Nat} {olds news : List Value}
    (ho : ∀ w1 : World, w1.heap = w.heap → (Builtin.firstCells e.size sLen (.slice A sLen sCap)).run PP w1 = .ok olds.toArray w1)
    (hn : ∀ w1 : World, w1.heap = w.heap → (Builtin.firstCells e.size n (.slice A2 n c2)).run PP w1 = .ok news.toArray w1) (hg : sCap < sLen + n) (hb : (sLen + n) * e.bytes ≤ 140737488355328) (hb0 : e.bytes ≠ 0) :
    ∃ (cap : Nat) (rest : List Value), sLen + n ≤ cap ∧ rest.length = (cap - (sLen + n)) * e.size ∧
      (Builtin.append_ #[t, t] ty #[.slice A sLen sCap, .slice A2 n c2]).run PP w = .ok (.slice (some ⟨w.heap.size, 0, none⟩) (sLen + n) cap) (w.drew.alloc (.cells (olds ++ news ++ rest).toArray y.el (0, 0))) := by
  obtain ⟨⟨d, i, z, _, hi, hsize, hbytes, hz, hz0, _⟩⟩ := tyOk (tt_ok he)
  have hu := elOf hy hk
  obtain ⟨z', hz', hz2, _⟩ := zero_of he
  have hzz : z' = z := by
    have := hz' w
    simp [zeroValue, typeInfo, hi, hz] at this
    exact this.symm
  subst hzz
  have hzl : z'.cells.size = e.size := by have := (hz2 ⟨fun _ => none, fun _ => False⟩ w).1; simp at this; simpa [TY.size] using this.symm
  refine ⟨grownCap w (sLen + n) sCap y.el, (Builtin.zeroCells z'.cells (grownCap w (sLen + n) sCap y.el - (sLen + n))).toList, ?_, ?_, ?_⟩
  · simp [grownCap, Question.cut]
  · simp [Builtin.zeroCells, hzl]
  · rw [← hsize] at ho hn
    rw [← hbytes] at hb hb0
    have h1 : ¬ (sLen + n ≤ sCap) := by omega
    have h2 : ¬ (281474976710656 < Builtin.nextslicecap (sLen + n) sCap * i.bytes) := by
      have := growslice_fits (bytes := i.bytes) hg hb
      omega
    have hfo := ho w.drew rfl
    have hfn := hn w.drew rfl
    generalize hq : Builtin.firstCells i.size sLen (.slice A sLen sCap) = q1 at hfo
    generalize hq2 : Builtin.firstCells i.size n (.slice A2 n c2) = q2 at hfn
    simp [Builtin.append_, run_underlying hu, sizeOf, typeInfo, zeroValue, hi, hz, Builtin.lenOf, h1, h2, hb0, Question.forced, hq, hq2, hfo, hfn, newRow, grownCap]
    generalize Builtin.zeroCells z'.cells _ = Z
    have hZ : olds.toArray ++ (news.toArray ++ Z) = (olds ++ (news ++ Z.toList)).toArray := by
      apply Array.ext'
      simp
    rw [hZ]

/-- append within the room that there is. -/
theorem run_room {t ty : TypeId} {y e : TY} (hy : tt t = some y) (hk : y.kind = 2) (he : tt y.el = some e) {b : Nat} {A2 : Option Addr} {sLen sCap n c2 : Nat} {news : List Value} {cs : Array Value}
    (hn : (Builtin.firstCells e.size n (.slice A2 n c2)).run PP w = .ok news.toArray w) (h1 : ∀ u ∈ news, u.oneCell' = true) (hb : w.heap[b]? = some (.cells cs y.el (0, 0))) (hl : news.length = n * e.size)
    (hg : sLen + n ≤ sCap) (hs : sCap * e.size ≤ cs.size) :
    (Builtin.append_ #[t, t] ty #[.slice (some ⟨b, 0, none⟩) sLen sCap, .slice A2 n c2]).run PP w =
      .ok (.slice (some ⟨b, 0, none⟩) (sLen + n) sCap) (w.setRow b (cs.toList.take (sLen * e.size) ++ news ++ cs.toList.drop (sLen * e.size + news.length)).toArray) := by
  obtain ⟨⟨d, i, z, _, hi, hsize, hbytes, hz, hz0, _⟩⟩ := tyOk (tt_ok he)
  have hu := elOf hy hk
  have hfit : sLen * e.size + 0 + news.length ≤ cs.size := by
    have : (sLen + n) * e.size ≤ sCap * e.size := Nat.mul_le_mul_right _ hg
    rw [Nat.add_mul] at this
    omega
  have hst := run_storeCells_at PP b (sLen * e.size) y.el news 0 cs w hb hfit h1
  simp only [Nat.add_zero] at hst
  rw [← hsize] at hn hst ⊢
  generalize hq2 : Builtin.firstCells i.size n (.slice A2 n c2) = q2 at hn
  simp [Builtin.append_, run_underlying hu, sizeOf, typeInfo, hi, Builtin.lenOf, hg, hq2, hn, addr_add]
  rw [hst]
  simp

/-- A block gets another name. -/
theorem Le.name {B b : Nat} (hf : g.m B = none) : Le g w (g.name B b) w :=
  ⟨fun id b' h => by
    simp only [G.name]
    rw [if_neg (fun e => by rw [e, hf] at h; cases h)]
    exact h, fun _ h => h, fun _ _ => rfl, fun _ cs _ fz h => ⟨cs, fz, h, rfl⟩⟩
theorem StH.rename {c : Ctx} {H : Hp} {B id b : Nat} {k : Blk} (h : StH c g H B w) (hid : H id = some k) (hm : g.m id = some b) : StH c (g.name B b) ((H.del id).set B k) (B + 1) w where
  blk := fun id' k' e => by
    have hle := Le.name (w := w) (b := b) (h.free B (Nat.le_refl _))
    simp only [Hp.set_app, Hp.del_app] at e
    split at e
    · rename_i h1
      cases e
      obtain ⟨b', cs, h2, h3⟩ := h.blk id k hid
      rw [hm] at h2
      cases h2
      exact ⟨b, cs, by simp [G.name, h1], h3.mono hle h3.free rfl⟩
    · split at e
      · cases e
      · obtain ⟨b', cs, h2, h3⟩ := h.blk id' k' e
        exact ⟨b', cs, hle.m _ _ h2, h3.mono hle h3.free rfl⟩
  inj := fun id1 id2 k1 k2 b' e1 e2 m1 m2 => by
    simp only [Hp.set_app, Hp.del_app] at e1 e2
    simp only [G.name] at m1 m2
    split at e1 <;> split at e2
    · omega
    · rename_i h1 h2
      rw [if_pos h1] at m1
      rw [if_neg h2] at m2
      split at e2
      · cases e2
      · rename_i h3
        cases m1
        exact absurd (h.inj id2 id k2 k _ e2 hid m2 hm) h3
    · rename_i h1 h2
      rw [if_neg h1] at m1
      rw [if_pos h2] at m2
      split at e1
      · cases e1
      · rename_i h3
        cases m2
        exact absurd (h.inj id1 id k1 k _ e1 hid m1 hm) h3
    · rename_i h1 h2
      rw [if_neg h1] at m1
      rw [if_neg h2] at m2
      split at e1
      · cases e1
      · split at e2
        · cases e2
        · exact h.inj id1 id2 k1 k2 b' e1 e2 m1 m2
  free := fun id' hid' => by
    simp only [G.name]
    rw [if_neg (by omega)]
    exact h.free id' (by omega)
  inI := h.inI
  os := h.os
  tape := h.tape
  output := h.output
  size := h.size
  same := h.same
  sizes := h.sizes
  own := fun id' k' b' e m => by
    simp only [Hp.set_app, Hp.del_app] at e
    simp only [G.name] at m
    split at e
    · rename_i h1
      rw [if_pos h1] at m
      cases m
      exact h.own id k _ hid hm
    · rename_i h1
      rw [if_neg h1] at m
      split at e
      · cases e
      · exact h.own id' k' b' e m
  ids := fun id' k' e => by
    simp only [Hp.set_app, Hp.del_app] at e
    split at e
    · have := h.bound; right; omega
    · split at e
      · cases e
      · exact h.ids id' k' e
  I0 := h.I0
  I1 := h.I1
  m0 := fun id' b' hm' => by
    simp only [G.name]
    have := h.m0 id' b' hm'
    rw [if_neg (fun e => by rw [e, h.free B (Nat.le_refl _)] at this; cases this)]
    exact this
  m1 := fun id' hid' => by
    simp only [G.name]
    have := h.bound
    rw [if_neg (by omega)]
    exact h.m1 id' hid'
  bound := by have := h.bound; omega

theorem oneCells {sz : Nat} {rows : List (List AV)} {vals : List Value} (h : RepRows g w sz rows vals) (h1 : ∀ r ∈ rows, r.all AV.one = true) : ∀ u ∈ vals, u.oneCell' = true := by
  intro u hu
  obtain ⟨p, hp⟩ := List.mem_iff_getElem?.1 hu
  have hlt := (List.getElem?_eq_some_iff.1 hp).1
  rw [h.1] at hlt
  obtain ⟨a1, a2, a3⟩ := div_mod_cell hlt
  have hrl := h.2.1 _ (List.getElem_mem a1)
  obtain ⟨v, h3, h4⟩ := h.2.2 (p / sz) (p % sz) (rows[p / sz][p % sz]'(by omega)) (by simp [at2, a1])
  rw [a3, hp] at h3
  cases h3
  exact (one_cells h4 (List.all_eq_true.1 (h1 _ (List.getElem_mem a1)) _ (List.getElem_mem _))).2

theorem evalc {o : Oper} {a : Act} {x : Operand} {F : Fr} {v : AV} (hx : ∀ x ∈ o.op.operands, RepV g w (F.ev x) (a.eval x)) (hm : x ∈ o.op.operands) (hv : F.ev x = v) : ∃ cv, a.eval x = cv ∧ RepV g w v cv := ⟨_, rfl, hv ▸ hx x hm⟩

theorem run_app_call {o : Oper} {a : Act} {t : TypeId} {x z : Operand} (ho : o.op = .call { callee := .builtin .append, args := #[x, z], argTypes := #[t, t] }) {v : Value} {w w' : World}
    (h : (Builtin.append_ #[t, t] o.type #[a.eval x, a.eval z]).run PP w = .ok v w') : (execOp a.eval o).run PP w = .ok (.value v) w' := by
  simp [execOp, ho, resolve, invoke, builtin, h]

/-- 'append(nothing, xs...)', not to be written any more. -/
theorem opl_appI {o : Oper} {F : Fr} {H : Hp} {B : Nat} {t : TypeId} {x z : Operand} {y e : TY} {rows : List (List AV)} {rd : List Nat} (ho : o.op = .call { callee := .builtin .append, args := #[x, z], argTypes := #[t, t] })
    (hy : tt t = some y) (hk : y.kind = 2) (he : tt y.el = some e) (hx0 : F.ev x = .nils) (hz : srcRows e.size (F.ev z) H = some (rows, rd)) (hrd : ∀ id ∈ rd, ∃ k, H id = some k) (hb : rows.length * e.bytes ≤ 140737488355328) (hb0 : e.bytes ≠ 0) :
    OpL PP o F (reads H rd) [] 0 B B (.sl e.size rows) := by
  intro c g Hx Bx Bx' w a _ hB hs hx hR next Q hnext
  obtain ⟨hB1, rfl⟩ := hB rfl
  obtain ⟨cx, ex, hrx⟩ := evalc hx (by simp [ho, Op.operands, Call.operands]) hx0
  have hrz := hx z (by simp [ho, Op.operands, Call.operands])
  obtain ⟨A, n, cc, vals, ez, hn, hrows, hf⟩ := src_sound hz hrz hs.toStC (fun id hid => by
    obtain ⟨k, hk⟩ := hrd id hid
    rw [hk]
    exact hR (id, k) (reads_mem.2 ⟨hid, hk⟩))
  cases hrx with
  | nils A0 =>
    unfold Oper.wp
    rcases Nat.eq_zero_or_pos n with h0 | h0
    · subst h0
      have hr0 : rows = [] := List.length_eq_zero_iff.1 hn
      subst hr0
      have hv : vals = [] := List.length_eq_zero_iff.1 (by simpa using hrows.1)
      subst hv
      have hfw := hf w rfl
      rw [ez] at hfw
      obtain ⟨⟨d, i, zz, _, hi, hsize, _, _, _, _⟩⟩ := tyOk (tt_ok he)
      have hu := elOf hy hk
      have hrun : (Builtin.append_ #[t, t] o.type #[a.eval x, a.eval z]).run PP w = .ok (.slice A0 0 0) w := by
        rw [ex, ez]
        rw [← hsize] at hfw
        generalize hq2 : Builtin.firstCells i.size 0 (.slice A 0 cc) = q2 at hfw
        cases A0 <;> simp [Builtin.append_, run_underlying hu, sizeOf, typeInfo, hi, Builtin.lenOf, hq2, hfw, storeCells]
      rw [run_app_call ho hrun]
      exact hnext _ _ _ (.sl0 _ _ _) hs (Le.refl _ _)
    · have hfo : ∀ w1 : World, w1.heap = w.heap → (Builtin.firstCells e.size 0 (.slice A0 0 0)).run PP w1 = .ok ([] : List Value).toArray w1 := fun w1 _ => by cases A0 <;> simp [Builtin.firstCells, loadCells, loadCellsFrom]
      rw [ez] at hf
      obtain ⟨cap, rest, h1, h2, h3⟩ := run_grow (w := w) (ty := o.type) hy hk he hfo hf (by omega) (by rw [Nat.zero_add, ← hn]; exact hb) hb0
      rw [run_app_call (v := .slice (some ⟨w.heap.size, 0, none⟩) (0 + n) cap) ho (by rw [ex, ez]; exact h3)]
      have hd : StH c g Hx Bx' w.drew := hs.drew
      have hlast := rep_sl_new (rest := rest) hd y.el cap (by omega) (hrows.mono (Le.drew g w))
      rw [hn] at hlast
      simp only [Nat.zero_add, List.nil_append]
      exact hnext _ _ _ hlast (hd.allocI _) ((Le.drew g w).trans (Le.allocI hd.inI _))

end
end Go.Proofs.YtnaafbdgkmlnaaaGreat

/- The abstract machine: append to what is written, stores. -/
namespace Go.Proofs.YtnaafbdgkmlnaaaGreat
set_option linter.unusedVariables false
set_option linter.unusedSimpArgs false
set_option linter.unnecessarySimpa false

section
variable {g : G} {w : World}

/-- 'append(nothing, xs...)', to be written on. -/
theorem opl_appN {o : Oper} {F : Fr} {H : Hp} {B : Nat} {t : TypeId} {x z : Operand} {y e : TY} {rows : List (List AV)} {rd : List Nat} (ho : o.op = .call { callee := .builtin .append, args := #[x, z], argTypes := #[t, t] })
    (hy : tt t = some y) (hk : y.kind = 2) (he : tt y.el = some e) (hx0 : F.ev x = .nils) (hz : srcRows e.size (F.ev z) H = some (rows, rd)) (hrd : ∀ id ∈ rd, ∃ k, H id = some k) (hb : rows.length * e.bytes ≤ 140737488355328) (hb0 : e.bytes ≠ 0)
    (hne : rows ≠ []) : OpL PP o F (reads H rd) [(B, some ⟨y.el, e.size, rows⟩)] 0 B (B + 1) (.ref B e.size 0 rows.length) := by
  intro c g Hx Bx Bx' w a hB _ hs hx hR next Q hnext
  obtain ⟨rfl, rfl⟩ := hB (by omega)
  obtain ⟨cx, ex, hrx⟩ := evalc hx (by simp [ho, Op.operands, Call.operands]) hx0
  have hrz := hx z (by simp [ho, Op.operands, Call.operands])
  obtain ⟨A, n, cc, vals, ez, hn, hrows, hf⟩ := src_sound hz hrz hs.toStC (fun id hid => by
    obtain ⟨k, hk⟩ := hrd id hid
    rw [hk]
    exact hR (id, k) (reads_mem.2 ⟨hid, hk⟩))
  cases hrx with
  | nils A0 =>
    unfold Oper.wp
    subst hn
    have h0 : 0 < rows.length := by exact List.length_pos_iff.2 hne
    have hfo : ∀ w1 : World, w1.heap = w.heap → (Builtin.firstCells e.size 0 (.slice A0 0 0)).run PP w1 = .ok ([] : List Value).toArray w1 := fun w1 _ => by cases A0 <;> simp [Builtin.firstCells, loadCells, loadCellsFrom]
    rw [ez] at hf
    obtain ⟨cap, rest, h1, h2, h3⟩ := run_grow (w := w) (ty := o.type) hy hk he hfo hf (by omega) (by rw [Nat.zero_add]; exact hb) hb0
    rw [run_app_call (v := .slice (some ⟨w.heap.size, 0, none⟩) (0 + rows.length) cap) ho (by rw [ex, ez]; exact h3)]
    have hd : StH c g Hx _ w.drew := hs.drew
    simp only [Nat.zero_add, List.nil_append] at h1 h2 ⊢
    have hsz : (vals ++ rest).toArray.size = cap * e.size := by
      have := hrows.1
      simp only [List.size_toArray, List.length_append]
      rw [this, h2, ← Nat.add_mul, show rows.length + (cap - rows.length) = cap by omega]
    have hle : rows.length * e.size ≤ cap * e.size := Nat.mul_le_mul_right _ (by omega)
    exact hnext _ _ _ (rep_ref_new (heap_new _ _) h1 (by omega)) (hd.allocM ⟨y.el, e.size, rows⟩ _ (by simp only; omega) hrows.2.1 (hrows.mono (Le.drew g w)).heap) ((Le.drew g w).trans (Le.allocM (hd.free _ (Nat.le_refl _)) hd.inI _))

/-- 'append(own, xs...)'. -/
theorem opl_appR {o : Oper} {F : Fr} {H : Hp} {B id n : Nat} {k : Blk} {t : TypeId} {x z : Operand} {y e : TY} {rows : List (List AV)} {rd : List Nat} (ho : o.op = .call { callee := .builtin .append, args := #[x, z], argTypes := #[t, t] })
    (hy : tt t = some y) (hk : y.kind = 2) (he : tt y.el = some e) (hx0 : F.ev x = .ref id e.size 0 n) (hid : H id = some k) (hke : k.e = y.el) (hks : k.sz = e.size) (hkn : k.rows.length = n)
    (hz : srcRows e.size (F.ev z) H = some (rows, rd)) (hrd : ∀ id ∈ rd, ∃ k, H id = some k) (h1c : ∀ r ∈ rows, r.all AV.one = true) (hb : (n + rows.length) * e.bytes ≤ 140737488355328) (hb0 : e.bytes ≠ 0) :
    OpL PP o F ((id, k) :: reads H rd) [(id, none), (B, some ⟨y.el, e.size, k.rows ++ rows⟩)] 0 B (B + 1) (.ref B e.size 0 (n + rows.length)) := by
  intro c g Hx Bx Bx' w a hBB _ hs hx hR next Q hnext
  obtain ⟨rfl, rfl⟩ := hBB (by omega)
  clear hBB
  obtain ⟨cx, ex, hrx⟩ := evalc hx (by simp [ho, Op.operands, Call.operands]) hx0
  have hrz := hx z (by simp [ho, Op.operands, Call.operands])
  obtain ⟨A, m, cc, vals, ez, hn, hrows, hf⟩ := src_sound hz hrz hs.toStC (fun id' hid' => by
    obtain ⟨k', hk'⟩ := hrd id' hid'
    rw [hk']
    exact hR (id', k') (List.mem_cons_of_mem _ (reads_mem.2 ⟨hid', hk'⟩)))
  have hidx : Hx id = some k := hR (id, k) (by simp)
  obtain ⟨b, cs, hm, hB⟩ := hs.blk id k hidx
  subst hkn
  obtain ⟨ke, ksz, krows⟩ := k
  simp only at hke hks
  subst hke hks
  cases hrx with
  | ref _ _ _ _ b' cap cs' e' fz hm' hc hb' hs0 =>
    have hbb : b = b' := by rw [hm] at hm'; injection hm'
    subst hbb
    have hcs : cs' = cs := by have := hB.heap; rw [hb'] at this; injection this with this; injection this
    subst hcs
    simp only [Nat.zero_add] at hs0
    unfold Oper.wp
    subst hn
    rw [ez] at hf
    have hheap := hB.heap
    simp only at hheap
    have hvl := hrows.1
    have hsz0 := hB.size
    simp only at hsz0
    by_cases hg : krows.length + rows.length ≤ cap
    · have hrun := run_room (w := w) (ty := o.type) hy hk he (hf w rfl) (oneCells hrows h1c) hheap hvl hg hs0
      rw [run_app_call ho (by rw [ex, ez, Nat.zero_mul]; exact hrun)]
      have hfit : krows.length * e.size + vals.length ≤ cs'.size := by
        have : (krows.length + rows.length) * e.size ≤ cap * e.size := Nat.mul_le_mul_right _ hg
        rw [Nat.add_mul] at this
        rw [hvl]
        omega
      have hold : RepRows g w e.size krows (cs'.toList.take (krows.length * e.size)) := by
        refine ⟨by simp; omega, hB.len, fun i j x hx => ?_⟩
        obtain ⟨v, h1, h2⟩ := hB.rep i j x hx
        simp only at h1
        refine ⟨v, ?_, h2⟩
        rw [List.getElem?_take, if_pos (row_bound hB.len hx).2]
        simpa using h1
      have hall := hold.append hrows
      have hnew : (cs'.toList.take (krows.length * e.size) ++ vals ++ cs'.toList.drop (krows.length * e.size + vals.length)).toArray.size = cs'.size := by simp; omega
      have hset := hs.setRow (k' := ⟨y.el, e.size, krows ++ rows⟩) hidx hm hB rfl (by rw [hnew]; simp only [List.length_append, Nat.add_mul]; omega) hnew hall.2.1 hall.heap
      have hren := hset.rename (id := id) (b := b) (k := ⟨y.el, e.size, krows ++ rows⟩) (by simp) hm
      have heq : ((Hx.set id ⟨y.el, e.size, krows ++ rows⟩).del id) = Hx.del id := by
        funext q
        simp only [Hp.del_app, Hp.set_app]
        split <;> rfl
      rw [heq] at hren
      exact hnext _ _ _ (rep_ref_new (setRow_same hheap) hg (by rw [hnew]; exact hs0)) hren ((Le.setRow (id := id) hB hnew).trans (Le.name (hs.free _ (Nat.le_refl _))))
    · have hfo : ∀ w1 : World, w1.heap = w.heap → (Builtin.firstCells e.size krows.length (.slice (some ⟨b, 0, none⟩) krows.length cap)).run PP w1 = .ok (cs'.toList.take (krows.length * e.size)).toArray w1 := fun w1 h1 => by
        simp only [Builtin.firstCells]
        have := run_load_cells (w := w1) (b := b) (o := 0) (n := krows.length * e.size) (fun p => (cs'[p]?).getD undef) (fun p hp => by
          have hw1 : w1.heap[b]? = some (.cells cs' y.el (0, 0)) := by rw [h1]; exact hheap
          rw [cell_blk hw1]
          have : p < cs'.size := by omega
          simp [this])
        rw [this]
        congr 1
        apply Array.ext'
        apply List.ext_getElem?
        intro p
        simp only [List.getElem?_map, List.getElem?_take]
        by_cases hp : p < krows.length * e.size
        · rw [List.getElem?_range hp, if_pos hp]
          have : p < cs'.size := by omega
          simp [this]
        · rw [if_neg hp, List.getElem?_eq_none (by simp; omega)]
          rfl
      obtain ⟨cap', rest, h1, h2, h3⟩ := run_grow (w := w) (ty := o.type) hy hk he hfo hf (by omega) hb hb0
      rw [run_app_call (v := .slice (some ⟨w.heap.size, 0, none⟩) (krows.length + rows.length) cap') ho (by rw [ex, ez, Nat.zero_mul]; exact h3)]
      have hd : StH c g Hx _ w.drew := hs.drew
      have hold : RepRows g w e.size krows (cs'.toList.take (krows.length * e.size)) := by
        refine ⟨by simp; omega, hB.len, fun i j x hx => ?_⟩
        obtain ⟨v, h1, h2⟩ := hB.rep i j x hx
        simp only at h1
        refine ⟨v, ?_, h2⟩
        rw [List.getElem?_take, if_pos (row_bound hB.len hx).2]
        simpa using h1
      have hall := (hold.append hrows).mono (Le.drew g w)
      have hsz : (cs'.toList.take (krows.length * e.size) ++ vals ++ rest).toArray.size = cap' * e.size := by
        simp only [List.size_toArray, List.length_append]
        have := hall.1
        simp only [List.length_append] at this
        rw [this, h2, ← Nat.add_mul, show krows.length + rows.length + (cap' - (krows.length + rows.length)) = cap' by omega]
      have hle : (krows ++ rows).length * e.size ≤ cap' * e.size := Nat.mul_le_mul_right _ (by simp; omega)
      have hst := (hd.allocM ⟨y.el, e.size, krows ++ rows⟩ _ (by simp only; omega) hall.2.1 (hall.heap (rest := rest)))
      have hst' := hst.drop (H' := (Hx.del id).set _ ⟨y.el, e.size, krows ++ rows⟩) (fun q kq hq => by
        simp only [Hp.set_app, Hp.del_app] at hq ⊢
        split
        · rename_i h; rw [if_pos h] at hq; exact hq
        · rename_i h
          rw [if_neg h] at hq
          split at hq
          · cases hq
          · exact hq)
      exact hnext _ _ _ (rep_ref_new (heap_new _ _) h1 (by omega)) hst' ((Le.drew g w).trans (Le.allocM (hd.free _ (Nat.le_refl _)) hd.inI _))

end
end Go.Proofs.YtnaafbdgkmlnaaaGreat
