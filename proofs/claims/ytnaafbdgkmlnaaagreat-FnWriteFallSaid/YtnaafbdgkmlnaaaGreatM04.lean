/- Laws about the machine's run of the program's functions, part 4, in import order. No condition. -/
import Derived.Laws.MakeOwn
import Derived.Laws.CopyRow
import Derived.Test.YtnaafbdgkmlnaaaGreatM03

set_option linter.unusedVariables false
set_option linter.unusedSimpArgs false
set_option linter.unnecessarySimpa false
/- The abstract machine: operations that change no memory, told as one. -/
namespace Go.Proofs.YtnaafbdgkmlnaaaGreat
set_option linter.unusedVariables false
set_option linter.unusedSimpArgs false

section
variable {g : G} {w : World} {H : Hp}

theorem one_cells {x : AV} {v : Value} (h : RepV g w x v) (h1 : x.one = true) : v.cells = #[v] ∧ v.oneCell' = true := by
  cases h <;> first | (simp [AV.one] at h1; done) | exact ⟨rfl, rfl⟩

def RepL (g : G) (w : World) (xs : List AV) (vs : List Value) : Prop := xs.length = vs.length ∧ ∀ (k : Nat) (x : AV) (v : Value), xs[k]? = some x → vs[k]? = some v → RepV g w x v

theorem zsOk_rep {vs : List Value} {xs : List AV} (h : zsOk vs xs = true) : RepL g w xs vs := by
  induction vs generalizing xs with
  | nil => cases xs with
    | nil => exact ⟨rfl, by simp⟩
    | cons x xs => simp [zsOk] at h
  | cons v vs ih => cases xs with
    | nil => simp [zsOk] at h
    | cons x xs =>
      simp only [zsOk, Bool.and_eq_true] at h
      obtain ⟨h1, h2⟩ := ih h.2
      refine ⟨by simp [h1], fun k y u hy hu => ?_⟩
      cases k with
      | zero => simp only [List.getElem?_cons_zero, Option.some.injEq] at hy hu; subst hy hu; exact zOk_rep h.1
      | succ k => simp only [List.getElem?_cons_succ] at hy hu; exact h2 k y u hy hu

theorem zero_of {t : TypeId} {y : TY} (h : tt t = some y) : ∃ z, (∀ w, (zeroValue t).run PP w = .ok z w) ∧ (∀ g w, RepL g w y.zero z.cells.toList) ∧ (y.agg = true → ∃ cs, z = .agg cs) := by
  obtain ⟨T⟩ := tyOk (tt_ok h)
  refine ⟨T.z, fun w => by simp [zeroValue, typeInfo, T.hi, T.hz], fun g w => ?_, fun ha => ?_⟩
  · have h0 := T.hz0
    unfold zeroOk at h0
    split at h0
    · rename_i cs hc
      injection hc with hc
      rw [hc]
      simp only [Bool.and_eq_true] at h0
      exact zsOk_rep h0.2
    · rename_i v hv hc
      injection hc with hc
      rw [hc]
      simp only [Bool.and_eq_true] at h0
      have : v.cells = #[v] := by cases v <;> first | rfl | (exfalso; exact hv _ rfl)
      rw [this]
      exact zsOk_rep h0.2
    · cases h0
  · have h0 := T.hz0
    unfold zeroOk at h0
    split at h0
    · rename_i cs hc
      injection hc with hc
      exact ⟨cs, hc⟩
    · simp [ha] at h0
    · cases h0

theorem fill_rep {places : Array (Nat × Nat)} (n : Nat) (hp : ∀ i, i < n → places[i]? = some (i, 1)) : ∀ (ps : List (Nat × AV)) (vs : List (Nat × Value)) (xs zs : List AV) (cs : Array Value),
    zs.length = n → RepL g w zs cs.toList → ps.all (fun p => p.2.one) = true → evParts zs ps = some xs →
    ps.length = vs.length → (∀ (k : Nat) (p : Nat × AV) (q : Nat × Value), ps[k]? = some p → vs[k]? = some q → p.1 = q.1 ∧ RepV g w p.2 q.2) →
    ∃ cs', Instr.fill (places[·]?) cs vs = some cs' ∧ RepL g w xs cs'.toList := by
  intro ps
  induction ps with
  | nil =>
    intro vs xs zs cs hn hz ha h hl hv
    cases vs with
    | nil => simp only [evParts, Option.some.injEq] at h; subst h; exact ⟨cs, rfl, hz⟩
    | cons v vs => simp at hl
  | cons p ps ih =>
    intro vs xs zs cs hn hz ha h hl hv
    cases vs with
    | nil => simp at hl
    | cons q vs =>
      obtain ⟨i, x⟩ := p
      obtain ⟨j, v⟩ := q
      obtain ⟨e, hr⟩ := hv 0 (i, x) (j, v) rfl rfl
      simp only at e hr
      subst e
      simp only [evParts] at h
      split at h
      · rename_i hi
        simp only [List.all_cons, Bool.and_eq_true] at ha
        obtain ⟨hc, _⟩ := one_cells hr ha.1
        have hcs : cs.size = n := by have := hz.1; simp at this; omega
        have hstep : RepL g w (zs.set i x) (cs.setIfInBounds i v).toList := by
          refine ⟨by simp [hz.1], fun k y u hy hu => ?_⟩
          rw [Array.toList_setIfInBounds] at hu
          rw [List.getElem?_set] at hy hu
          split at hy
          · rename_i e; subst e
            rw [if_pos rfl] at hu
            split at hu
            · simp only [Option.some.injEq] at hy hu
              subst hy hu
              exact hr
            · cases hu
          · rename_i e; rw [if_neg e] at hu; exact hz.2 k y u hy hu
        obtain ⟨cs', h1, h2⟩ := ih vs xs (zs.set i x) (cs.setIfInBounds i v) (by simp [hn]) hstep ha.2 h (by simpa using hl) (fun k p q hp hq => hv (k + 1) p q (by simpa using hp) (by simpa using hq))
        refine ⟨cs', ?_, h2⟩
        unfold Instr.fill
        simp only [hp i (by omega), hc]
        have : ¬ (cs.size < i + 1) := by omega
        simp [this, h1]
      · cases h

theorem run_build {t : TypeId} {ps : List (Nat × AV)} {v : AV} {vs : List (Nat × Value)} (h : evBuild t ps = some v) (hl : ps.length = vs.length)
    (hv : ∀ (k : Nat) (p : Nat × AV) (q : Nat × Value), ps[k]? = some p → vs[k]? = some q → p.1 = q.1 ∧ RepV g w p.2 q.2) : ∃ u, (Instr.build t vs.toArray).run PP w = .ok u w ∧ RepV g w v u := by
  unfold evBuild at h
  split at h
  · rename_i y hy
    split at h
    · rename_i hk
      obtain ⟨fs, hu, hfs, hf⟩ := structOf hy hk.1
      obtain ⟨z, hz, hz2, _⟩ := zero_of hy
      cases hx : evParts y.zero ps with
      | none => rw [hx] at h; cases h
      | some xs =>
        rw [hx] at h
        cases h
        have hpl : fs.toList.mapM (fun f => (PP.info? f.type).map fun i => (f.offset, i.size)) = some ((List.range y.size).map fun i => (i, 1)) := by
          have : ∀ (l : List Field) (k : Nat), (∀ j, j < l.length → ∃ f, l[j]? = some f ∧ f.offset = k + j ∧ one? PP f.type = true) →
              l.mapM (fun f => (PP.info? f.type).map fun i => (f.offset, i.size)) = some ((List.range' k l.length).map fun i => (i, 1)) := by
            intro l
            induction l with
            | nil => intro k _; rfl
            | cons f l ih =>
              intro k hl
              obtain ⟨f', h1, h2, h3⟩ := hl 0 (by simp)
              simp only [List.getElem?_cons_zero, Option.some.injEq] at h1
              subst h1
              have hr := ih (k + 1) (fun j hj => by
                obtain ⟨f', h1, h2, h3⟩ := hl (j + 1) (by simpa using hj)
                exact ⟨f', by simpa using h1, by omega, h3⟩)
              unfold one? at h3
              split at h3
              · rename_i i hi
                simp only [beq_iff_eq] at h3
                simp only [List.mapM_cons, hi, Option.map_some, hr]
                simp [h2, h3, List.range'_succ]
              · cases h3
          have h0 := this fs.toList 0 (fun j hj => by
            obtain ⟨f, h1, h2, h3⟩ := hf j (by simpa [hfs] using hj)
            exact ⟨f, by simpa using h1, by omega, h3⟩)
          rw [h0, List.range_eq_range']
          simp [hfs]
        obtain ⟨cs', h1, h2⟩ := fill_rep (g := g) (w := w) (places := ((List.range y.size).map fun i => ((i, 1) : Nat × Nat)).toArray) y.size (fun i hi => by simp [hi]) ps vs xs y.zero z.cells rfl (hz2 g w) hk.2 hx hl hv
        have hpr := run_places (P := PP) w _ _ hpl
        refine ⟨.agg cs', ?_, .agg _ _ (by simpa using h2.1) (fun k x v hxk hvk => h2.2 k x v hxk (by simpa using hvk))⟩
        simp only [List.getElem?_toArray, List.getElem?_map] at h1
        simp [Instr.build, run_underlying hu, hz, Array.mapM_eq_mapM_toList, hpr, h1]
    · cases h
  · cases h

theorem run_len {t ty : TypeId} {y : TY} {x v : AV} {cx : Value} (hy : tt t = some y) (hk : y.kind = 2) (h : evLen x = some v) (hx : RepV g w x cx) : ∃ u, (Builtin.len_ #[t] ty #[cx]).run PP w = .ok u w ∧ RepV g w v u := by
  have hu := elOf hy hk
  have e : ∀ (b : Option Addr) (n c : Nat), (Builtin.len_ #[t] ty #[.slice b n c]).run PP w = .ok (goInt n) w := fun b n c => by simp [Builtin.len_, run_underlying hu]
  unfold evLen at h
  split at h <;> cases h
  · cases hx with
    | sl0 => exact ⟨_, e _ _ _, .int _ _⟩
    | sl _ _ b o n c vs hn hb hc hs h1 h2 => subst hn; exact ⟨_, e _ _ _, .int _ _⟩
  · cases hx; exact ⟨_, e _ _ _, .int _ _⟩
  · cases hx; exact ⟨_, e _ _ _, .int _ _⟩

theorem run_max2 {ty : TypeId} {ats : Array TypeId} {x y v : AV} {cx cy : Value} (h : max2 x y = some v) (hx : RepV g w x cx) (hy : RepV g w y cy) : ∃ u, (Builtin.max_ ats ty #[cx, cy]).run PP w = .ok u w ∧ RepV g w v u := by
  unfold max2 at h
  split at h
  · split at h
    · rename_i hk; subst hk; cases h; cases hx; cases hy; exact ⟨_, by simp [Builtin.max_, Builtin.max2], .int _ _⟩
    · cases h
  · cases h
theorem run_min2 {ty : TypeId} {ats : Array TypeId} {x y v : AV} {cx cy : Value} (h : min2 x y = some v) (hx : RepV g w x cx) (hy : RepV g w y cy) : ∃ u, (Builtin.min_ ats ty #[cx, cy]).run PP w = .ok u w ∧ RepV g w v u := by
  unfold min2 at h
  split at h
  · split at h
    · rename_i hk; subst hk; cases h; cases hx; cases hy; exact ⟨_, by simp [Builtin.min_, Builtin.min2], .int _ _⟩
    · cases h
  · cases h

end

theorem evOp_sound {o : Oper} {F : Fr} {H H' : Hp} {v : AV} {rd : List Nat} {g : G} {w : World} {a : Act} {B : Nat} (h : evOp o.op F H = some (v, rd)) (hs : StC g H' B w) (hr : ∀ id ∈ rd, H' id = H id)
    (hx : ∀ x ∈ o.op.operands, RepV g w (F.ev x) (a.eval x)) : ∃ cv, (execOp a.eval o).run PP w = .ok (.value cv) w ∧ RepV g w v cv := by
  obtain ⟨dst, op, ty, pos, aft, gd⟩ := o
  simp only at h hx
  cases op <;> simp only [evOp] at h <;> try (cases h; done)
  case move x => cases h; exact ⟨_, by simp [execOp], hx x (by simp [Op.operands])⟩
  case assign x => cases h; exact ⟨_, by simp [execOp], hx x (by simp [Op.operands])⟩
  case pick c x y =>
    split at h
    · rename_i t ht
      cases h
      have hc := hx c (by simp [Op.operands])
      rw [ht] at hc
      generalize hcv : a.eval c = cc at hc
      cases hc
      cases t
      · exact ⟨_, by simp [execOp, hcv, asBool], hx y (by simp [Op.operands])⟩
      · exact ⟨_, by simp [execOp, hcv, asBool], hx x (by simp [Op.operands])⟩
    · cases h
  case nilCheck x =>
    have hc := hx x (by simp [Op.operands])
    split at h <;> rename_i ht <;> (try (cases h; done)) <;> cases h <;> rw [ht] at hc <;> generalize hcv : a.eval x = cc at hc <;> have hc' := hc <;> cases hc <;> exact ⟨_, by simp [execOp, hcv], hc'⟩
  case extract t i =>
    have hc := hx t (by simp [Op.operands])
    split at h
    · rename_i xs ht
      rw [ht] at hc
      generalize hcv : a.eval t = cc at hc
      cases hxi : xs[i]? with
      | none => rw [hxi] at h; cases h
      | some u =>
        rw [hxi] at h
        cases h
        cases hc with
        | tup _ vs hl hh =>
          have hlt := (List.getElem?_eq_some_iff.1 hxi).1
          refine ⟨vs[i], ?_, hh i _ _ hxi (by simp)⟩
          have hvi : vs[i]? = some vs[i] := by simp
          simp [execOp, hcv, Instr.extract, hvi]
    · cases h
  case fieldAddr s x f =>
    cases he : evField s f (F.ev x) with
    | none => rw [he] at h; cases h
    | some u =>
      rw [he] at h; cases h
      obtain ⟨cv, h1, h2⟩ := run_field he (hx x (by simp [Op.operands]))
      exact ⟨cv, by simp [execOp, h1], h2⟩
  case indexAddr t x ix =>
    cases he : evIndex t (F.ev x) (F.ev ix) with
    | none => rw [he] at h; cases h
    | some u =>
      rw [he] at h; cases h
      obtain ⟨cv, h1, h2⟩ := run_index he (hx x (by simp [Op.operands])) (hx ix (by simp [Op.operands]))
      exact ⟨cv, by simp [execOp, h1], h2⟩
  case load t x =>
    obtain ⟨cv, h1, h2⟩ := run_load h (hx x (by simp [Op.operands])) hs hr
    exact ⟨cv, by simp [execOp, h1], h2⟩
  case binOp op t x y t' =>
    cases he : evBin op t (F.ev x) (F.ev y) with
    | none => rw [he] at h; cases h
    | some u =>
      rw [he] at h; cases h
      obtain ⟨cv, h1, h2⟩ := run_bin he (hx x (by simp [Op.operands])) (hx y (by simp [Op.operands])) x y
      exact ⟨cv, by simp only [execOp, Sem.run_bind, h1, Result.andThen_ok, Sem.run_pure], h2⟩
  case unOp op t x =>
    have hc := hx x (by simp [Op.operands])
    split at h
    · rename_i b hb
      cases h; rw [hb] at hc; generalize hcv : a.eval x = cc at hc; cases hc
      exact ⟨_, by simp [execOp, hcv, Op.unary], .bool _⟩
    · rename_i k n hb
      cases h; rw [hb] at hc; generalize hcv : a.eval x = cc at hc; cases hc
      exact ⟨_, by simp [execOp, hcv, Op.unary, Op.intArith], .int _ _⟩
    · cases h
  case convert s t x =>
    have hc := hx x (by simp [Op.operands])
    split at h
    · rename_i y k n hy hn
      obtain ⟨S⟩ := tyOk (tt_ok hy)
      rw [hn] at hc
      generalize hcv : a.eval x = cc at hc
      cases hc
      have hS : (PP.underlying s).isSome = true := by rw [S.hd]; rfl
      split at h
      · rename_i ht
        subst ht
        cases h
        have hk : PP.intKind 3 = .i64 := by kernel_rfl
        have hu : PP.underlying 3 = some (.int (PP.intKind 3)) := by kernel_rfl
        have := run_convert_int w s 3 k n hS hu
        rw [hk] at this
        exact ⟨_, by simp [execOp, hcv, this], .int _ _⟩
      · split at h
        · rename_i ht
          subst ht
          cases h
          have hk : PP.intKind 5 = .u8 := by kernel_rfl
          have hu : PP.underlying 5 = some (.int (PP.intKind 5)) := by kernel_rfl
          have := run_convert_int w s 5 k n hS hu
          rw [hk] at this
          exact ⟨_, by simp [execOp, hcv, this], .int _ _⟩
        · cases h
    · cases h
  case makeFunc f first cap =>
    cases f <;> simp only [] at h <;> try (cases h; done)
    rename_i f
    split at h
    · rename_i h0
      cases h
      have : first = #[] := Array.eq_empty_of_size_eq_zero h0
      subst this
      refine ⟨.func (.func f) #[] (cap.map a.eval), by simp [execOp, Instr.makeFunc], .fn f _ _ (by simp) (fun k x v hk hv => ?_)⟩
      simp only [List.getElem?_map, Array.getElem?_toList, Option.map_eq_some_iff] at hk
      obtain ⟨p, hp, rfl⟩ := hk
      simp only [Array.getElem?_map, hp, Option.map_some, Option.some.injEq] at hv
      subst hv
      exact hx p (by simp [Op.operands]; exact Array.mem_of_getElem? hp)
    · cases h
  case slice t x lo hi mx =>
    cases he : evSlice t (F.ev x) (lo.map F.ev) (hi.map F.ev) (mx.map F.ev) with
    | none => rw [he] at h; cases h
    | some u =>
      rw [he] at h; cases h
      obtain ⟨cv, h1, h2⟩ := run_slice (clo := lo.map a.eval) (chi := hi.map a.eval) (cmx := mx.map a.eval) he (hx x (by simp [Op.operands]))
        (by intro l hl; cases lo with | none => cases hl | some q => simp only [Option.map_some, Option.some.injEq] at hl; subst hl; exact ⟨_, rfl, hx q (by simp [Op.operands])⟩)
        (by intro l hl; cases hi with | none => cases hl | some q => simp only [Option.map_some, Option.some.injEq] at hl; subst hl; exact ⟨_, rfl, hx q (by simp [Op.operands])⟩)
        (by intro l hl; cases mx with | none => cases hl | some q => simp only [Option.map_some, Option.some.injEq] at hl; subst hl; exact ⟨_, rfl, hx q (by simp [Op.operands])⟩)
        (by cases lo <;> simp) (by cases hi <;> simp) (by cases mx <;> simp)
      exact ⟨cv, by simp [execOp, h1], h2⟩
  case build t ps =>
    cases he : evBuild t (ps.toList.map fun p => (p.1, F.ev p.2)) with
    | none => rw [he] at h; cases h
    | some u =>
      rw [he] at h; cases h
      obtain ⟨cv, h1, h2⟩ := run_build (g := g) (w := w) (vs := ps.toList.map fun p => (p.1, a.eval p.2)) he (by simp) (fun k p q hp hq => by
        simp only [List.getElem?_map, Option.map_eq_some_iff] at hp hq
        obtain ⟨p', h1, rfl⟩ := hp
        obtain ⟨q', h2, rfl⟩ := hq
        rw [h1] at h2
        cases h2
        exact ⟨rfl, hx p'.2 (by
          have := List.mem_of_getElem? h1
          simp only [Op.operands]
          simp
          exact ⟨p'.1, by simpa using this⟩)⟩)
      refine ⟨cv, ?_, h2⟩
      have : (ps.map fun (i, x) => (i, a.eval x)) = (ps.toList.map fun p => (p.1, a.eval p.2)).toArray := by apply Array.ext'; simp
      simp [execOp, this, h1]
  case call c =>
    obtain ⟨callee, args, ats⟩ := c
    cases callee <;> simp only [] at h <;> try (cases h; done)
    rename_i b
    split at h
    · rename_i x t hargs hats
      split at h
      · rename_i y hy
        split at h
        · rename_i hk
          cases he : evLen (F.ev x) with
          | none => rw [he] at h; cases h
          | some u =>
            rw [he] at h; cases h
            have ha : args = #[x] := by apply Array.ext'; simpa using hargs
            have ht : ats = #[t] := by apply Array.ext'; simpa using hats
            subst ha ht
            obtain ⟨cv, h1, h2⟩ := run_len (ty := ty) hy hk he (hx x (by simp [Op.operands, Call.operands]))
            exact ⟨cv, by simp [execOp, resolve, invoke, builtin, h1], h2⟩
        · cases h
      · cases h
    · rename_i x y hargs
      cases he : max2 (F.ev x) (F.ev y) with
      | none => rw [he] at h; cases h
      | some u =>
        rw [he] at h; cases h
        have ha : args = #[x, y] := by apply Array.ext'; simpa using hargs
        subst ha
        obtain ⟨cv, h1, h2⟩ := run_max2 (ty := ty) (ats := ats) he (hx x (by simp [Op.operands, Call.operands])) (hx y (by simp [Op.operands, Call.operands]))
        exact ⟨cv, by simp [execOp, resolve, invoke, builtin, h1], h2⟩
    · rename_i x y hargs
      cases he : min2 (F.ev x) (F.ev y) with
      | none => rw [he] at h; cases h
      | some u =>
        rw [he] at h; cases h
        have ha : args = #[x, y] := by apply Array.ext'; simpa using hargs
        subst ha
        obtain ⟨cv, h1, h2⟩ := run_min2 (ty := ty) (ats := ats) he (hx x (by simp [Op.operands, Call.operands])) (hx y (by simp [Op.operands, Call.operands]))
        exact ⟨cv, by simp [execOp, resolve, invoke, builtin, h1], h2⟩
    · cases h

theorem evLoad_rd {t : TypeId} {x : AV} {H : Hp} {v : AV} {rd : List Nat} (h : evLoad t x H = some (v, rd)) : ∀ id ∈ rd, ∃ k, H id = some k := by
  unfold evLoad at h
  intro id hid
  split at h
  · split at h
    · split at h
      · split at h
        · rename_i b hb
          split at h
          · simp only [Option.bind_eq_some_iff, Option.some.injEq, Prod.mk.injEq] at h
            obtain ⟨_, _, _, rfl⟩ := h
            simp at hid; subst hid; exact ⟨b, hb⟩
          · cases h
        · cases h
      · split at h
        · cases h; cases hid
        · cases h
      · cases h
    · split at h
      · cases h
      · split at h
        · split at h
          · rename_i b hb
            split at h
            · simp only [Option.bind_eq_some_iff, Option.some.injEq, Prod.mk.injEq] at h
              obtain ⟨_, _, _, rfl⟩ := h
              simp at hid; subst hid; exact ⟨b, hb⟩
            · cases h
          · cases h
        · split at h
          · rename_i b hb
            split at h
            · simp only [Option.bind_eq_some_iff, Option.some.injEq, Prod.mk.injEq] at h
              obtain ⟨_, _, _, rfl⟩ := h
              simp at hid; subst hid; exact ⟨b, hb⟩
            · cases h
          · cases h
        · simp only [Option.bind_eq_some_iff, Option.some.injEq, Prod.mk.injEq] at h
          obtain ⟨_, _, _, rfl⟩ := h
          cases hid
        · cases h
  · cases h

theorem evOp_rd {o : Op} {F : Fr} {H : Hp} {v : AV} {rd : List Nat} (h : evOp o F H = some (v, rd)) : ∀ id ∈ rd, ∃ k, H id = some k := by
  intro id hid
  have nil : ∀ {x : Option AV}, (x.bind fun v => some (v, ([] : List Nat))) = some (v, rd) → False := fun h => by
    simp only [Option.bind_eq_some_iff, Option.some.injEq, Prod.mk.injEq] at h
    obtain ⟨_, _, _, rfl⟩ := h
    cases hid
  cases o
  case load => exact evLoad_rd h id hid
  all_goals
    simp only [evOp] at h
    first
      | (cases h; cases hid; done)
      | exact (nil h).elim
      | (exfalso; repeat' split at h
         all_goals first | (cases h; done) | (cases h; cases hid; done) | exact nil h | (rename_i e; cases e; done) | exact (by assumption : False) | contradiction)

/-- What is read, with what it holds. -/
def reads (H : Hp) (rd : List Nat) : List (Nat × Blk) := rd.filterMap fun id => (H id).map fun k => (id, k)
theorem reads_mem {H : Hp} {rd : List Nat} {p : Nat × Blk} : p ∈ reads H rd ↔ p.1 ∈ rd ∧ H p.1 = some p.2 := by
  unfold reads
  rw [List.mem_filterMap]
  constructor
  · rintro ⟨id, h1, h2⟩
    cases hk : H id with
    | none => rw [hk] at h2; cases h2
    | some k => rw [hk] at h2; cases h2; exact ⟨h1, hk⟩
  · rintro ⟨h1, h2⟩
    exact ⟨p.1, h1, by rw [h2]; rfl⟩

/-- Such an operation, in a region. -/
theorem opl_pure {o : Oper} {F : Fr} {H : Hp} {B : Nat} {v : AV} {rd : List Nat} (h : evOp o.op F H = some (v, rd)) : OpL PP o F (reads H rd) [] 0 B B v := by
  intro c g Hx Bx Bx' w a _ hB hs hx hR next Q hn
  obtain ⟨hB1, rfl⟩ := hB rfl
  obtain ⟨cv, h1, h2⟩ := evOp_sound h hs.toStC (fun id hid => by
    obtain ⟨k, hk⟩ := evOp_rd h id hid
    rw [hk]
    exact hR (id, k) (reads_mem.2 ⟨hid, hk⟩)) hx
  unfold Oper.wp
  rw [h1]
  exact hn g w cv h2 hs (Le.refl _ _)

end Go.Proofs.YtnaafbdgkmlnaaaGreat

/- The abstract machine: how the memory changes. -/
namespace Go.Proofs.YtnaafbdgkmlnaaaGreat
set_option linter.unusedVariables false
set_option linter.unusedSimpArgs false

theorem RepB.mono {g g' : G} {w w' : World} {k : Blk} {b : Nat} {cs : Array Value} (hle : Le g w g' w') (h : RepB g w k b cs) (hf : ¬ g'.I b) (hh : w'.heap[b]? = w.heap[b]?) : RepB g' w' k b cs :=
  ⟨hf, hh.trans h.heap, h.size, h.len, fun i j x e => let ⟨v, h1, h2⟩ := h.rep i j x e; ⟨v, h1, h2.mono hle⟩⟩

theorem lt_of_heap {w : World} {b : Nat} {o : Obj} (h : w.heap[b]? = some o) : b < w.heap.size := (Array.getElem?_eq_some_iff.1 h).1

section
variable {c : Ctx} {g : G} {H : Hp} {B : Nat} {w : World}

/-- A draw. -/
theorem Le.drew (g : G) (w : World) : Le g w g w.drew := ⟨fun _ _ h => h, fun _ h => h, fun _ _ => rfl, fun _ cs _ fz h => ⟨cs, fz, h, rfl⟩⟩
theorem StH.drew (h : StH c g H B w) : StH c g H B w.drew where
  blk := fun id k e => let ⟨b, cs, h1, h2⟩ := h.blk id k e; ⟨b, cs, h1, h2.mono (Le.drew g w) h2.free rfl⟩
  inj := h.inj
  free := h.free
  inI := h.inI
  os := h.os
  tape := h.tape
  output := h.output
  size := h.size
  same := h.same
  sizes := h.sizes
  own := h.own
  ids := h.ids
  I0 := h.I0
  I1 := h.I1
  m0 := h.m0
  m1 := h.m1
  bound := h.bound

theorem heap_old (w : World) (o : Obj) (b : Nat) (h : b < w.heap.size) : (w.alloc o).heap[b]? = w.heap[b]? := by
  show (w.heap.push o)[b]? = w.heap[b]?
  rw [Array.getElem?_push, if_neg (Nat.ne_of_lt h)]
theorem heap_new (w : World) (o : Obj) : (w.alloc o).heap[w.heap.size]? = some o := by
  show (w.heap.push o)[w.heap.size]? = some o
  simp
theorem heap_alloc_size (w : World) (o : Obj) : (w.alloc o).heap.size = w.heap.size + 1 := by
  show (w.heap.push o).size = _
  simp

def G.imm (g : G) (b : Nat) : G := ⟨g.m, fun x => g.I x ∨ x = b⟩
def G.name (g : G) (id b : Nat) : G := ⟨fun x => if x = id then some b else g.m x, g.I⟩

/-- A new block that nobody will write. -/
theorem Le.allocI (hI : ∀ b, g.I b → b < w.heap.size) (o : Obj) : Le g w (g.imm w.heap.size) (w.alloc o) :=
  ⟨fun _ _ h => h, fun _ h => .inl h, fun b h => heap_old w o b (hI b h), fun b cs e fz h => ⟨cs, fz, (heap_old w o b (lt_of_heap h)).trans h, rfl⟩⟩
theorem StH.allocI (h : StH c g H B w) (o : Obj) : StH c (g.imm w.heap.size) H B (w.alloc o) where
  blk := fun id k e => by
    obtain ⟨b, cs, h1, h2⟩ := h.blk id k e
    have hb := lt_of_heap h2.heap
    exact ⟨b, cs, h1, h2.mono (Le.allocI h.inI o) (fun x => x.elim h2.free (fun x => by omega)) (heap_old w o b hb)⟩
  inj := h.inj
  free := h.free
  inI := fun b hb => by
    rw [heap_alloc_size]
    rcases hb with hb | hb
    · have := h.inI b hb; omega
    · omega
  os := h.os
  tape := h.tape
  output := h.output
  size := by rw [heap_alloc_size]; have := h.size; omega
  same := fun b hb hw => (heap_old w o b (Nat.lt_of_lt_of_le hb h.size)).trans (h.same b hb hw)
  sizes := fun b cs e fz hb => by
    obtain ⟨cs', fz', h1, h2⟩ := h.sizes b cs e fz hb
    exact ⟨cs', fz', (heap_old w o b (lt_of_heap h1)).trans h1, h2⟩
  own := h.own
  ids := h.ids
  I0 := fun b hb => .inl (h.I0 b hb)
  I1 := fun b hb => by
    rcases hb with hb | hb
    · exact h.I1 b hb
    · have := h.size; right; right; omega
  m0 := h.m0
  m1 := h.m1
  bound := h.bound

/-- A new block that will be written: it gets the name B. -/
theorem Le.allocM (hf : g.m B = none) (hI : ∀ b, g.I b → b < w.heap.size) (o : Obj) : Le g w (g.name B w.heap.size) (w.alloc o) :=
  ⟨fun id b h => by
    simp only [G.name]
    rw [if_neg (fun e => by rw [e, hf] at h; cases h)]
    exact h, fun _ h => h, fun b h => heap_old w o b (hI b h), fun b cs e fz h => ⟨cs, fz, (heap_old w o b (lt_of_heap h)).trans h, rfl⟩⟩
theorem StH.allocM (h : StH c g H B w) (k : Blk) (cs : Array Value) (hsz : k.rows.length * k.sz ≤ cs.size) (hlen : ∀ x ∈ k.rows, x.length = k.sz)
    (hrep : ∀ i j x, at2 k.rows i j = some x → ∃ v, cs[i * k.sz + j]? = some v ∧ RepV g w x v) : StH c (g.name B w.heap.size) (H.set B k) (B + 1) (w.alloc (.cells cs k.e (0, 0))) where
  blk := fun id k' e => by
    have hle := Le.allocM (h.free B (Nat.le_refl _)) h.inI (.cells cs k.e (0, 0))
    simp only [Hp.set_app] at e
    split at e
    · rename_i hid
      cases e
      refine ⟨w.heap.size, cs, by simp [G.name, hid], fun hi => Nat.lt_irrefl _ (h.inI _ hi), heap_new _ _, hsz, hlen, fun i j x hx => ?_⟩
      obtain ⟨v, h1, h2⟩ := hrep i j x hx
      exact ⟨v, h1, h2.mono hle⟩
    · obtain ⟨b, cs', h1, h2⟩ := h.blk id k' e
      exact ⟨b, cs', hle.m _ _ h1, h2.mono hle h2.free (heap_old _ _ _ (lt_of_heap h2.heap))⟩
  inj := fun id id' k1 k2 b e1 e2 m1 m2 => by
    simp only [Hp.set_app] at e1 e2
    simp only [G.name] at m1 m2
    split at e1 <;> split at e2
    · omega
    · rename_i h1 h2
      rw [if_pos h1] at m1
      rw [if_neg h2] at m2
      obtain ⟨b', cs', h3, h4⟩ := h.blk id' k2 e2
      have := lt_of_heap h4.heap
      rw [h3] at m2
      cases m1; cases m2
      omega
    · rename_i h1 h2
      rw [if_neg h1] at m1
      rw [if_pos h2] at m2
      obtain ⟨b', cs', h3, h4⟩ := h.blk id k1 e1
      have := lt_of_heap h4.heap
      rw [h3] at m1
      cases m1; cases m2
      omega
    · rename_i h1 h2
      rw [if_neg h1] at m1
      rw [if_neg h2] at m2
      exact h.inj id id' k1 k2 b e1 e2 m1 m2
  free := fun id hid => by
    simp only [G.name]
    rw [if_neg (by omega)]
    exact h.free id (by omega)
  inI := fun b hb => by rw [heap_alloc_size]; have := h.inI b hb; omega
  os := h.os
  tape := h.tape
  output := h.output
  size := by rw [heap_alloc_size]; have := h.size; omega
  same := fun b hb hw => (heap_old w _ b (Nat.lt_of_lt_of_le hb h.size)).trans (h.same b hb hw)
  sizes := fun b cs e fz hb => by
    obtain ⟨cs', fz', h1, h2⟩ := h.sizes b cs e fz hb
    exact ⟨cs', fz', (heap_old w _ b (lt_of_heap h1)).trans h1, h2⟩
  own := fun id k' b e m => by
    simp only [Hp.set_app] at e
    simp only [G.name] at m
    split at e
    · rename_i h1
      rw [if_pos h1] at m
      cases m
      exact .inr h.size
    · rename_i h1
      rw [if_neg h1] at m
      exact h.own id k' b e m
  ids := fun id k' e => by
    simp only [Hp.set_app] at e
    split at e
    · rename_i h1
      right
      have := h.bound
      omega
    · exact h.ids id k' e
  I0 := h.I0
  I1 := h.I1
  m0 := fun id b hm => by
    simp only [G.name]
    have := h.m0 id b hm
    rw [if_neg (fun e => by rw [e, h.free B (Nat.le_refl _)] at this; cases this)]
    exact this
  m1 := fun id hid => by
    simp only [G.name]
    have := h.bound
    rw [if_neg (by omega)]
    exact h.m1 id hid
  bound := by have := h.bound; omega

theorem setRow_same {w : World} {b : Nat} {cs old : Array Value} {e : TypeId} {fz : Nat × Nat} (h : w.heap[b]? = some (.cells old e fz)) : (w.setRow b cs).heap[b]? = some (.cells cs e fz) := setRow_heap w b old cs e fz h
theorem setRow_ne {w : World} {b b' : Nat} {cs : Array Value} (h : b' ≠ b) : (w.setRow b cs).heap[b']? = w.heap[b']? := by
  simp only [World.setRow, Array.getElem?_modify]
  rw [if_neg (fun e => h e.symm)]
theorem setRow_size {w : World} {b : Nat} {cs : Array Value} : (w.setRow b cs).heap.size = w.heap.size := by simp [World.setRow]

/-- A block that has a name is written. -/
theorem Le.setRow {k : Blk} {id b : Nat} {cs cs' : Array Value} (h : RepB g w k b cs) (hsz : cs'.size = cs.size) : Le g w g (w.setRow b cs') :=
  ⟨fun _ _ h => h, fun _ h => h, fun b' hb => setRow_ne (fun e => h.free (e ▸ hb)), fun b' cs1 e fz hb => by
    by_cases he : b' = b
    · subst he
      have := h.heap
      rw [hb] at this
      cases this
      exact ⟨cs', _, setRow_same hb, hsz⟩
    · exact ⟨cs1, fz, (setRow_ne he).trans hb, rfl⟩⟩
theorem StH.setRow {k k' : Blk} {id b : Nat} {cs cs' : Array Value} (h : StH c g H B w) (hid : H id = some k) (hm : g.m id = some b) (hb : RepB g w k b cs) (he : k'.e = k.e)
    (hsz : k'.rows.length * k'.sz ≤ cs'.size) (hss : cs'.size = cs.size) (hlen : ∀ x ∈ k'.rows, x.length = k'.sz)
    (hrep : ∀ i j x, at2 k'.rows i j = some x → ∃ v, cs'[i * k'.sz + j]? = some v ∧ RepV g w x v) : StH c g (H.set id k') B (w.setRow b cs') where
  blk := fun id' k1 e => by
    have hle := Le.setRow (id := id) hb hss
    simp only [Hp.set_app] at e
    split at e
    · rename_i h1
      cases e
      subst h1
      refine ⟨b, cs', hm, hb.free, he ▸ setRow_same hb.heap, hsz, hlen, fun i j x hx => ?_⟩
      obtain ⟨v, h1, h2⟩ := hrep i j x hx
      exact ⟨v, h1, h2.mono hle⟩
    · rename_i h1
      obtain ⟨b', cs1, h2, h3⟩ := h.blk id' k1 e
      refine ⟨b', cs1, h2, h3.mono hle h3.free (setRow_ne (fun e' => h1 ?_))⟩
      subst e'
      exact h.inj id' id k1 k b' e hid h2 hm
  inj := fun id1 id2 k1 k2 b' e1 e2 m1 m2 => by
    simp only [Hp.set_app] at e1 e2
    split at e1 <;> split at e2
    · omega
    · rename_i h1 h2; subst h1; exact h.inj _ id2 k k2 b' hid e2 m1 m2
    · rename_i h1 h2; subst h2; exact h.inj id1 _ k1 k b' e1 hid m1 m2
    · exact h.inj id1 id2 k1 k2 b' e1 e2 m1 m2
  free := h.free
  inI := fun b' hb' => by rw [setRow_size]; exact h.inI b' hb'
  os := h.os
  tape := h.tape
  output := h.output
  size := by rw [setRow_size]; exact h.size
  same := fun b' hb' hw => by
    rw [setRow_ne]
    · exact h.same b' hb' hw
    · intro e
      subst e
      rcases h.own id k b' hid hm with h1 | h1
      · exact hw h1
      · omega
  sizes := fun b' cs1 e fz hb' => by
    obtain ⟨cs2, fz2, h1, h2⟩ := h.sizes b' cs1 e fz hb'
    obtain ⟨cs3, fz3, h3, h4⟩ := (Le.setRow (id := id) hb hss).sizes b' cs2 e fz2 h1
    exact ⟨cs3, fz3, h3, h4.trans h2⟩
  own := fun id' k1 b' e m => by
    simp only [Hp.set_app] at e
    split at e
    · rename_i h1; subst h1; exact h.own _ k b' hid m
    · exact h.own id' k1 b' e m
  ids := fun id' k1 e => by
    simp only [Hp.set_app] at e
    split at e
    · rename_i h1; subst h1; exact h.ids _ k hid
    · exact h.ids id' k1 e
  I0 := h.I0
  I1 := h.I1
  m0 := h.m0
  m1 := h.m1
  bound := h.bound

end
end Go.Proofs.YtnaafbdgkmlnaaaGreat

/- The abstract machine: operations that make memory, and stores. -/
namespace Go.Proofs.YtnaafbdgkmlnaaaGreat
set_option linter.unusedVariables false
set_option linter.unusedSimpArgs false

/-- A value's cells, as a variable of this type holds them. -/
def cellsAV (y : TY) (x : AV) : Option (List AV) :=
  if y.agg then (match x with | .agg xs => if xs.length = y.size ∧ xs.all AV.one = true then some xs else none | _ => none)
  else if x.one = true ∧ y.size = 1 then some [x] else none

section
variable {g : G} {w : World}

theorem cellsAV_rep {y : TY} {x : AV} {v : Value} {xs : List AV} (h : cellsAV y x = some xs) (hx : RepV g w x v) : xs.length = y.size ∧ RepL g w xs v.cells.toList ∧ (∀ u ∈ v.cells.toList, u.oneCell' = true) := by
  unfold cellsAV at h
  split at h
  · split at h
    · rename_i xs'
      split at h
      · rename_i hk
        cases h
        cases hx with
        | agg _ vs hl hh =>
          refine ⟨hk.1, ⟨by simp [Value.cells, hl], fun k x v hk hv => hh k x v hk (by simpa [Value.cells] using hv)⟩, fun u hu => ?_⟩
          obtain ⟨k, hk'⟩ := List.mem_iff_getElem?.1 hu
          simp only [Value.cells] at hk'
          have hlt : k < xs.length := by have := (List.getElem?_eq_some_iff.1 hk').1; simp at this; omega
          have hx := hh k xs[k] u (by simp) (by simpa using hk')
          exact (one_cells hx (List.all_eq_true.1 hk.2 _ (List.getElem_mem hlt))).2
      · cases h
    · cases h
  · split at h
    · rename_i hk
      cases h
      obtain ⟨h1, h2⟩ := one_cells hx hk.1
      rw [h1]
      refine ⟨by simp [hk.2], ⟨rfl, fun k x' v' hk hv => ?_⟩, by simp [h2]⟩
      cases k with
      | zero => simp only [List.getElem?_cons_zero, Option.some.injEq] at hk hv; subst hk hv; exact hx
      | succ k => simp at hk
    · cases h

theorem RepL.mono {g' : G} {w' : World} (hle : Le g w g' w') {xs : List AV} {vs : List Value} (h : RepL g w xs vs) : RepL g' w' xs vs := ⟨h.1, fun k x v a b => (h.2 k x v a b).mono hle⟩

/-- A pointer to a new block that nobody writes. -/
theorem rep_qe_new {c : Ctx} {H : Hp} {B : Nat} (hs : StH c g H B w) {xs : List AV} {vs : Array Value} (e : TypeId) (h : RepL g w xs vs.toList) :
    RepV (g.imm w.heap.size) (w.alloc (.cells vs e (0, 0))) (.qe xs) (.pointer (some ⟨w.heap.size, 0, none⟩)) := by
  have hle := Le.allocI hs.inI (.cells vs e (0, 0))
  refine .qe xs _ 0 (fun k => (vs[k]?).getD undef) (.inr rfl) (fun k x hx => ?_) (fun k x hx => ?_)
  all_goals
    have hk : k < vs.size := by have := (List.getElem?_eq_some_iff.1 hx).1; have := h.1; simp at this; omega
    have hv : vs[k]? = some vs[k] := by simp [hk]
  · rw [cell_blk (heap_new _ _)]; simp [hv]
  · rw [hv]; exact (h.2 k x vs[k] hx (by simpa using hv)).mono hle

theorem opl_boxI {o : Oper} {F : Fr} {B : Nat} {t : TypeId} {x : Operand} {y : TY} {xs : List AV} (ho : o.op = .box t x) (hy : tt t = some y) (hc : cellsAV y (F.ev x) = some xs) : OpL PP o F [] [] 0 B B (.qe xs) := by
  intro c g H Bx Bx' w a _ hB hs hx hR next Q hn
  obtain ⟨hB1, rfl⟩ := hB rfl
  obtain ⟨h1, h2, h3⟩ := cellsAV_rep hc (hx x (by simp [ho, Op.operands]))
  unfold Oper.wp
  have e : (execOp a.eval o).run PP w = .ok (.value (.pointer (some ⟨w.heap.size, 0, none⟩))) (w.alloc (.cells (a.eval x).cells t (0, 0))) := by
    simp [execOp, ho, Instr.box, newVar, newRow]
  rw [e]
  exact hn _ _ _ (rep_qe_new hs t h2) (hs.allocI _) (Le.allocI hs.inI _)

theorem at2_one {α : Type} {xs : List α} {i j : Nat} {x : α} (h : at2 [xs] i j = some x) : i = 0 ∧ xs[j]? = some x := by
  cases i with
  | zero => exact ⟨rfl, by simpa [at2] using h⟩
  | succ i => simp [at2] at h

theorem rep_pe_new {id sz : Nat} {b : Nat} : RepV (g.name id b) w (.pe id sz 0) (.pointer (some ⟨b, 0, none⟩)) := by
  have := RepV.pe (g := g.name id b) (w := w) id sz 0 b (by simp [G.name])
  simpa using this

theorem opl_newM {o : Oper} {F : Fr} {B : Nat} {t : TypeId} {n : Nat} {xs : List AV} {vs : Act → Array Value}
    (hrun : ∀ (a : Act) (w : World), (execOp a.eval o).run PP w = .ok (.value (.pointer (some ⟨w.heap.size, 0, none⟩))) (w.alloc (.cells (vs a) t (0, 0))))
    (hv : ∀ (g : G) (w : World) (a : Act), (∀ x ∈ o.op.operands, RepV g w (F.ev x) (a.eval x)) → RepL g w xs (vs a).toList) (hl : xs.length = n) :
    OpL PP o F [] [(B, some ⟨t, n, [xs]⟩)] 0 B (B + 1) (.pe B n 0) := by
  intro c g H Bx Bx' w a hB _ hs hx hR next Q hn
  obtain ⟨rfl, rfl⟩ := hB (by omega)
  have h2 := hv g w a hx
  unfold Oper.wp
  rw [hrun]
  refine hn _ _ _ rep_pe_new (hs.allocM ⟨t, n, [xs]⟩ (vs a) (by have := h2.1; simp at this; simp; omega) (by simp [hl]) (fun i j x hx => ?_)) (Le.allocM (hs.free _ (Nat.le_refl _)) hs.inI _)
  obtain ⟨rfl, hj⟩ := at2_one hx
  have hlt : j < (vs a).size := by have := (List.getElem?_eq_some_iff.1 hj).1; have := h2.1; simp at this; omega
  refine ⟨(vs a)[j], by simp [hlt], h2.2 j x _ hj (by simp [hlt])⟩

theorem opl_boxM {o : Oper} {F : Fr} {B : Nat} {t : TypeId} {x : Operand} {y : TY} {xs : List AV} (ho : o.op = .box t x) (hy : tt t = some y) (hc : cellsAV y (F.ev x) = some xs) :
    OpL PP o F [] [(B, some ⟨t, y.size, [xs]⟩)] 0 B (B + 1) (.pe B y.size 0) := by
  refine opl_newM (vs := fun a => (a.eval x).cells) (fun a w => by simp [execOp, ho, Instr.box, newVar, newRow]) (fun g w a hx => (cellsAV_rep hc (hx x (by simp [ho, Op.operands]))).2.1) ?_
  unfold cellsAV at hc
  split at hc
  · split at hc
    · split at hc
      · rename_i hk; cases hc; exact hk.1
      · cases hc
    · cases hc
  · split at hc
    · rename_i hk; cases hc; simp [hk.2]
    · cases hc

theorem opl_allocM {o : Oper} {F : Fr} {B : Nat} {t : TypeId} {y : TY} (ho : o.op = .alloc t) (hy : tt t = some y) : OpL PP o F [] [(B, some ⟨t, y.size, [y.zero]⟩)] 0 B (B + 1) (.pe B y.size 0) := by
  obtain ⟨z, hz, hz2, _⟩ := zero_of hy
  exact opl_newM (vs := fun a => z.cells) (fun a w => by simp [execOp, ho, Instr.alloc, hz, newVar, newRow]) (fun g w a hx => hz2 g w) rfl

/-! ### Rows -/
def RepRows (g : G) (w : World) (sz : Nat) (rows : List (List AV)) (vs : List Value) : Prop :=
  vs.length = rows.length * sz ∧ (∀ x ∈ rows, x.length = sz) ∧ ∀ i j x, at2 rows i j = some x → ∃ v, vs[i * sz + j]? = some v ∧ RepV g w x v

theorem RepRows.mono {g' : G} {w' : World} (hle : Le g w g' w') {sz : Nat} {rows : List (List AV)} {vs : List Value} (h : RepRows g w sz rows vs) : RepRows g' w' sz rows vs :=
  ⟨h.1, h.2.1, fun i j x e => let ⟨v, h1, h2⟩ := h.2.2 i j x e; ⟨v, h1, h2.mono hle⟩⟩

theorem at2_lt {rows : List (List AV)} {i j : Nat} {x : AV} (h : at2 rows i j = some x) : i < rows.length ∧ ∃ r, rows[i]? = some r ∧ r[j]? = some x := by
  unfold at2 at h
  cases hr : rows[i]? with
  | none => rw [hr] at h; cases h
  | some r => rw [hr] at h; exact ⟨(List.getElem?_eq_some_iff.1 hr).1, r, rfl, h⟩

theorem row_bound {rows : List (List AV)} {sz i j : Nat} {x : AV} (hl : ∀ x ∈ rows, x.length = sz) (h : at2 rows i j = some x) : j < sz ∧ i * sz + j < rows.length * sz := by
  obtain ⟨h1, r, h2, h3⟩ := at2_lt h
  have := hl r (List.mem_of_getElem? h2)
  have hj := (List.getElem?_eq_some_iff.1 h3).1
  refine ⟨by omega, ?_⟩
  have : (i + 1) * sz ≤ rows.length * sz := Nat.mul_le_mul_right _ h1
  rw [Nat.add_mul] at this
  omega

theorem RepRows.append {sz : Nat} {r1 r2 : List (List AV)} {v1 v2 : List Value} (h1 : RepRows g w sz r1 v1) (h2 : RepRows g w sz r2 v2) : RepRows g w sz (r1 ++ r2) (v1 ++ v2) := by
  refine ⟨by simp [h1.1, h2.1, Nat.add_mul], fun x hx => ?_, fun i j x hx => ?_⟩
  · rcases List.mem_append.1 hx with h | h
    · exact h1.2.1 x h
    · exact h2.2.1 x h
  · by_cases hi : i < r1.length
    · have : at2 r1 i j = some x := by simpa [at2, List.getElem?_append_left hi] using hx
      obtain ⟨v, e, hr⟩ := h1.2.2 i j x this
      exact ⟨v, by rw [List.getElem?_append_left (by have := (row_bound h1.2.1 this).2; have := h1.1; omega)]; exact e, hr⟩
    · have : at2 r2 (i - r1.length) j = some x := by simpa [at2, List.getElem?_append_right (Nat.not_lt.1 hi)] using hx
      obtain ⟨v, e, hr⟩ := h2.2.2 _ j x this
      have e2 : i * sz = r1.length * sz + (i - r1.length) * sz := by rw [← Nat.add_mul]; congr 1; omega
      refine ⟨v, ?_, hr⟩
      rw [List.getElem?_append_right (by have := h1.1; omega), show i * sz + j - v1.length = (i - r1.length) * sz + j by have := h1.1; omega]
      exact e

theorem RepRows.one {y : TY} {x : AV} {v : Value} {xs : List AV} (h : cellsAV y x = some xs) (hx : RepV g w x v) : RepRows g w y.size [xs] v.cells.toList := by
  obtain ⟨h1, h2, h3⟩ := cellsAV_rep h hx
  refine ⟨by have := h2.1; simp only [List.length_singleton, Nat.one_mul]; omega, by simp [h1], fun i j x hx => ?_⟩
  obtain ⟨rfl, hj⟩ := at2_one hx
  have hlt : j < v.cells.toList.length := by have := (List.getElem?_eq_some_iff.1 hj).1; have := h2.1; omega
  exact ⟨v.cells.toList[j], by simp [hlt], h2.2 j x _ hj (by simp [hlt])⟩

/-- A slice over a new block that nobody writes. -/
theorem rep_sl_new {c : Ctx} {H : Hp} {B : Nat} (hs : StH c g H B w) {sz : Nat} {rows : List (List AV)} {vs : List Value} {rest : List Value} (e : TypeId) (cap : Nat) (hc : rows.length ≤ cap) (h : RepRows g w sz rows vs) :
    RepV (g.imm w.heap.size) (w.alloc (.cells (vs ++ rest).toArray e (0, 0))) (.sl sz rows) (.slice (some ⟨w.heap.size, 0, none⟩) rows.length cap) := by
  have hle := Le.allocI hs.inI (.cells (vs ++ rest).toArray e (0, 0))
  refine .sl sz rows _ 0 _ _ (fun i j => (vs[i * sz + j]?).getD undef) rfl (.inr rfl) hc h.2.1 (fun i j x hx => ?_) (fun i j x hx => ?_)
  all_goals
    obtain ⟨v, hv, hr⟩ := h.2.2 i j x hx
    rw [hv]
  · rw [cell_blk (heap_new _ _)]
    simp only [Nat.zero_add, List.getElem?_toArray]
    rw [List.getElem?_append_left (List.getElem?_eq_some_iff.1 hv).1]
    exact hv
  · exact hr.mono hle

theorem RepRows.heap {sz : Nat} {rows : List (List AV)} {vs rest : List Value} (h : RepRows g w sz rows vs) : ∀ i j x, at2 rows i j = some x → ∃ v, (vs ++ rest).toArray[i * sz + j]? = some v ∧ RepV g w x v := fun i j x hx => by
  obtain ⟨v, hv, hr⟩ := h.2.2 i j x hx
  refine ⟨v, ?_, hr⟩
  simp only [List.getElem?_toArray]
  rw [List.getElem?_append_left (List.getElem?_eq_some_iff.1 hv).1]
  exact hv

theorem rep_ref_new {id sz n b cap : Nat} {cs : Array Value} {e : TypeId} {w' : World} (hh : w'.heap[b]? = some (.cells cs e (0, 0))) (hc : n ≤ cap) (hs : cap * sz ≤ cs.size) :
    RepV (g.name id b) w' (.ref id sz 0 n) (.slice (some ⟨b, 0, none⟩) n cap) := by
  have := RepV.ref (g := g.name id b) (w := w') id sz 0 n b cap cs e (0, 0) (by simp [G.name]) hc hh (by simpa using hs)
  simpa using this

end
end Go.Proofs.YtnaafbdgkmlnaaaGreat
