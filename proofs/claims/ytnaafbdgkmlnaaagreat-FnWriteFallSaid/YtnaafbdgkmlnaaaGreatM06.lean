/- Laws about the machine's run of the program's functions, part 6, in import order. No condition. -/
import Derived.Test.YtnaafbdgkmlnaaaGreatM01
import Derived.Test.YtnaafbdgkmlnaaaGreatM02
import Derived.Test.YtnaafbdgkmlnaaaGreatM05

set_option linter.unusedVariables false
set_option linter.unusedSimpArgs false
set_option linter.unnecessarySimpa false
/- The abstract machine: stores, and where a call begins and ends. -/
namespace Go.Proofs.YtnaafbdgkmlnaaaGreat
set_option linter.unusedVariables false
set_option linter.unusedSimpArgs false
set_option linter.unnecessarySimpa false

section
variable {g : G} {w : World}

theorem flat_inj {sz i j i' j' : Nat} (hj : j < sz) (hj' : j' < sz) (h : i * sz + j = i' * sz + j') : i = i' ∧ j = j' := by
  have h1 : (i * sz + j) / sz = i := by rw [Nat.mul_comm, Nat.mul_add_div (by omega), Nat.div_eq_of_lt hj]; rfl
  have h2 : (i' * sz + j') / sz = i' := by rw [Nat.mul_comm, Nat.mul_add_div (by omega), Nat.div_eq_of_lt hj']; rfl
  rw [h] at h1
  have : i = i' := h1.symm.trans h2
  subst this
  exact ⟨rfl, by omega⟩

/-- A store at a place of a block that has a name. -/
theorem store_flat {o : Oper} {F : Fr} {H : Hp} {B id off : Nat} {k : Blk} {rows' : List (List AV)} {t : TypeId} {p x : Operand} {y : TY} {xs : List AV} (ho : o.op = .store t p x) (hy : tt t = some y)
    (hp : ∀ (g : G) (w : World) (cv : Value), RepV g w (F.ev p) cv → ∃ b, g.m id = some b ∧ cv = .pointer (some ⟨b, off, none⟩)) (hc : cellsAV y (F.ev x) = some xs) (hid : H id = some k)
    (hfit : off + xs.length ≤ k.rows.length * k.sz) (hlen : ∀ x ∈ rows', x.length = k.sz) (hl : rows'.length = k.rows.length)
    (hin : ∀ i j x, at2 rows' i j = some x → (off ≤ i * k.sz + j ∧ i * k.sz + j < off + xs.length ∧ xs[i * k.sz + j - off]? = some x) ∨ ((i * k.sz + j < off ∨ off + xs.length ≤ i * k.sz + j) ∧ at2 k.rows i j = some x)) :
    OpL PP o F [(id, k)] [(id, some ⟨k.e, k.sz, rows'⟩)] 0 B B .any := by
  intro c g Hx Bx Bx' w a _ hBB hs hx hR next Q hnext
  obtain ⟨_, rfl⟩ := hBB rfl
  have hidx : Hx id = some k := hR (id, k) (by simp)
  obtain ⟨b, cs, hm, hB⟩ := hs.blk id k hidx
  obtain ⟨b', hm', ep⟩ := hp g w _ (hx p (by simp [ho, Op.operands]))
  have hbb : b = b' := by rw [hm] at hm'; injection hm'
  subst hbb
  obtain ⟨h1, h2, h3⟩ := cellsAV_rep hc (hx x (by simp [ho, Op.operands]))
  have hvl : (a.eval x).cells.toList.length = xs.length := h2.1.symm
  have hsz := hB.size
  have hst := run_storeCells_at PP b off k.e (a.eval x).cells.toList 0 cs w hB.heap (by omega) h3
  simp only [Nat.add_zero] at hst
  have hrun : (execOp a.eval o).run PP w = .ok .skip (w.setRow b (cs.toList.take off ++ (a.eval x).cells.toList ++ cs.toList.drop (off + (a.eval x).cells.toList.length)).toArray) := by
    have hcz : (a.eval x).cells.size = y.size := by have := hvl; simp at this; omega
    simp [execOp, ho, ep, Instr.storeAt, Instr.sureAddr, storeVar, sz_of hy, hcz]
    have := hst
    simp only [Array.length_toList, hcz, List.append_assoc] at this
    rw [this]
    simp
  unfold Oper.wp
  rw [hrun]
  have hnew : (cs.toList.take off ++ (a.eval x).cells.toList ++ cs.toList.drop (off + (a.eval x).cells.toList.length)).toArray.size = cs.size := by
    simp only [List.size_toArray, List.length_append, List.length_take, List.length_drop, Array.length_toList]
    have : (a.eval x).cells.size = xs.length := by have := hvl; simpa using this
    omega
  refine hnext g _ undef (.any _) (hs.setRow (k' := ⟨k.e, k.sz, rows'⟩) hidx hm hB rfl (by rw [hnew]; simp only [hl]; exact hsz) hnew hlen (fun i j u hu => ?_)) (Le.setRow (id := id) hB hnew)
  simp only at hu ⊢
  have hcs : (a.eval x).cells.size = xs.length := by have := hvl; simpa using this
  rcases hin i j u hu with ⟨a1, a2, a3⟩ | ⟨a1, a2⟩
  · have hlt : i * k.sz + j - off < (a.eval x).cells.toList.length := by omega
    refine ⟨(a.eval x).cells.toList[i * k.sz + j - off], ?_, h2.2 _ u _ a3 (by simp [hlt])⟩
    simp only [List.getElem?_toArray]
    rw [List.append_assoc, List.getElem?_append_right (by simp; omega), List.getElem?_append_left (by simp only [List.length_take, Array.length_toList]; omega)]
    have : min off cs.size = off := by omega
    simp [this]
  · obtain ⟨v, e1, e2⟩ := hB.rep i j u a2
    refine ⟨v, ?_, e2⟩
    simp only [List.getElem?_toArray]
    rcases a1 with a1 | a1
    · rw [List.append_assoc, List.getElem?_append_left (by simp; omega), List.getElem?_take, if_pos a1]
      simpa using e1
    · rw [List.getElem?_append_right (by simp; omega)]
      simp only [List.length_append, List.length_take, Array.length_toList, List.getElem?_drop]
      rw [show off + (a.eval x).cells.size + (i * k.sz + j - (min off cs.size + (a.eval x).cells.size)) = i * k.sz + j by
        have : (a.eval x).cells.size = xs.length := by have := hvl; simpa using this
        omega]
      simpa using e1

theorem at2_set {rows : List (List AV)} {i : Nat} {r : List AV} {i' j : Nat} {x : AV} (h : at2 (rows.set i r) i' j = some x) : (i' = i ∧ r[j]? = some x) ∨ (i' ≠ i ∧ at2 rows i' j = some x) := by
  unfold at2 at h ⊢
  rw [List.getElem?_set] at h
  split at h
  · rename_i e
    split at h
    · exact .inl ⟨e.symm, h⟩
    · cases h
  · rename_i e
    exact .inr ⟨fun q => e q.symm, h⟩

theorem mem_set_len {rows : List (List AV)} {sz i : Nat} {r : List AV} (h : ∀ x ∈ rows, x.length = sz) (hr : r.length = sz) : ∀ x ∈ rows.set i r, x.length = sz := fun x hx => by
  rcases List.mem_or_eq_of_mem_set hx with h1 | h1
  · exact h x h1
  · rw [h1]; exact hr

/-- '*p = v', p leading to an element. -/
theorem opl_storeE {o : Oper} {F : Fr} {H : Hp} {B id i : Nat} {k : Blk} {t : TypeId} {p x : Operand} {y : TY} {xs : List AV} (ho : o.op = .store t p x) (hy : tt t = some y) (hp : F.ev p = .pe id y.size i) (hc : cellsAV y (F.ev x) = some xs)
    (hid : H id = some k) (hk : k.sz = y.size) (hi : i < k.rows.length) (hlen : ∀ x ∈ k.rows, x.length = k.sz) : OpL PP o F [(id, k)] [(id, some ⟨k.e, k.sz, k.rows.set i xs⟩)] 0 B B .any := by
  have hxl : xs.length = y.size := by
    unfold cellsAV at hc
    split at hc
    · split at hc
      · split at hc
        · rename_i h; cases hc; exact h.1
        · cases hc
      · cases hc
    · split at hc
      · rename_i h; cases hc; simp [h.2]
      · cases hc
  have hbd : (i + 1) * k.sz ≤ k.rows.length * k.sz := Nat.mul_le_mul_right _ hi
  rw [Nat.add_mul] at hbd
  refine store_flat (off := i * k.sz) ho hy (fun g w cv h => ?_) hc hid (by omega) (mem_set_len hlen (by omega)) (by simp) (fun i' j x' hx' => ?_)
  · rw [hp] at h
    cases h
    rename_i b hm
    exact ⟨b, hm, by rw [hk]⟩
  · rcases at2_set hx' with ⟨rfl, h⟩ | ⟨h1, h⟩
    · have := (List.getElem?_eq_some_iff.1 h).1
      exact .inl ⟨by omega, by omega, by rw [show i' * k.sz + j - i' * k.sz = j by omega]; exact h⟩
    · refine .inr ⟨?_, h⟩
      have hj := (row_bound hlen h).1
      rcases Nat.lt_or_ge i' i with h2 | h2
      · left
        have : (i' + 1) * k.sz ≤ i * k.sz := Nat.mul_le_mul_right _ h2
        rw [Nat.add_mul] at this
        omega
      · right
        have : (i + 1) * k.sz ≤ i' * k.sz := Nat.mul_le_mul_right _ (by omega)
        rw [Nat.add_mul] at this
        omega

/-- '*p = v', p leading to a cell of an element. -/
theorem opl_storeF {o : Oper} {F : Fr} {H : Hp} {B id i q sz : Nat} {k : Blk} {t : TypeId} {p x : Operand} {y : TY} {r : List AV} (ho : o.op = .store t p x) (hy : tt t = some y) (hp : F.ev p = .pf id sz i q) (hc : cellsAV y (F.ev x) = some [F.ev x])
    (hid : H id = some k) (hk : k.sz = sz) (hi : k.rows[i]? = some r) (hq : q < k.sz) (hlen : ∀ x ∈ k.rows, x.length = k.sz) : OpL PP o F [(id, k)] [(id, some ⟨k.e, k.sz, k.rows.set i (r.set q (F.ev x))⟩)] 0 B B .any := by
  have hil := (List.getElem?_eq_some_iff.1 hi).1
  have hrl := hlen r (List.mem_of_getElem? hi)
  have hbd : (i + 1) * k.sz ≤ k.rows.length * k.sz := Nat.mul_le_mul_right _ hil
  rw [Nat.add_mul] at hbd
  refine store_flat (off := i * k.sz + q) ho hy (fun g w cv h => ?_) hc hid (by simp; omega) (mem_set_len hlen (by simp; omega)) (by simp) (fun i' j x' hx' => ?_)
  · rw [hp] at h
    cases h
    rename_i b hm
    exact ⟨b, hm, by rw [hk]⟩
  · rcases at2_set hx' with ⟨rfl, h⟩ | ⟨h1, h⟩
    · have hj := (List.getElem?_eq_some_iff.1 h).1
      rw [List.getElem?_set] at h
      split at h
      · rename_i e
        subst e
        rw [if_pos (by omega)] at h
        exact .inl ⟨by omega, by simp, by simpa using h⟩
      · rename_i e
        exact .inr ⟨by simp; omega, by simp [at2, hi, h]⟩
    · refine .inr ⟨?_, h⟩
      have hj := (row_bound hlen h).1
      simp only [List.length_singleton]
      rcases Nat.lt_or_ge i' i with h2 | h2
      · left
        have : (i' + 1) * k.sz ≤ i * k.sz := Nat.mul_le_mul_right _ h2
        rw [Nat.add_mul] at this
        omega
      · right
        have : (i + 1) * k.sz ≤ i' * k.sz := Nat.mul_le_mul_right _ (by omega)
        rw [Nat.add_mul] at this
        omega

end
end Go.Proofs.YtnaafbdgkmlnaaaGreat

/- The abstract machine: where a call begins and ends. -/
namespace Go.Proofs.YtnaafbdgkmlnaaaGreat
set_option linter.unusedVariables false
set_option linter.unusedSimpArgs false
set_option linter.unnecessarySimpa false

/-! ### The call -/
def callB (P : Program) (f : FuncId) : Bool := match P.funcs[f]? with
  | some fn => fn.name != "runtime.NumGoroutine" && fn.body.isSome
  | none => false

theorem callOf {o : Oper} {F : Fr} {f : FuncId} {x : Operand} {ops : Array Operand} {ats : Array TypeId} {caps args : List AV} (ho : o.op = .call { callee := .value x, args := ops, argTypes := ats }) (hx : F.ev x = .fn f caps)
    (ha : args = ops.toList.map F.ev ++ caps) (hf : callB PP f = true) : CallOf PP o F f args := by
  intro g w a hr
  have h1 := hr x (by simp [ho, Op.operands, Call.operands])
  rw [hx] at h1
  generalize hcx : a.eval x = cx at h1
  cases h1 with
  | fn _ _ vs hl hh =>
    refine ⟨ops.map a.eval ++ vs, ?_, .tup _ _ (by simp [ha, hl]) (fun k u v hk hv => ?_)⟩
    · unfold callB at hf
      split at hf
      · rename_i fn hfn
        simp only [Bool.and_eq_true, bne_iff_ne, ne_eq] at hf
        have hb : ¬ fn.body = none := by intro hz; rw [hz] at hf; simp at hf
        simp [execOp, ho, resolve, Deferred.ofValue, hcx, invoke, callFunc, hfn, hf.1, hb]
      · cases hf
    · rw [ha] at hk
      by_cases hlt : k < ops.size
      · rw [List.getElem?_append_left (by simpa using hlt)] at hk
        rw [Array.getElem?_append_left (by simpa using hlt)] at hv
        simp only [List.getElem?_map, Array.getElem?_toList, Option.map_eq_some_iff] at hk
        obtain ⟨p, hp, rfl⟩ := hk
        simp only [Array.getElem?_map, hp, Option.map_some, Option.some.injEq] at hv
        subst hv
        exact hr p (by simp [ho, Op.operands, Call.operands]; exact .inr (Array.mem_of_getElem? hp))
      · rw [List.getElem?_append_right (by simpa using hlt)] at hk
        rw [Array.getElem?_append_right (by simpa using hlt)] at hv
        exact hh _ u v (by simpa using hk) (by simpa using hv)

/-! ### The end -/
def resOne (F : Fr) (H : Hp) : ResultVar → Option AV
  | .tmp t => some (F t)
  | .cell a t => (evLoad t (F a) H).map (·.1)

def resAll (F : Fr) (H : Hp) : List ResultVar → Option (List AV)
  | [] => some []
  | r :: rs => (resOne F H r).bind fun v => (resAll F H rs).map fun vs => v :: vs

def resAV (rs : Array ResultVar) (F : Fr) (H : Hp) : Option AV := match resAll F H rs.toList with
  | some [v] => some v
  | some vs => some (.tup vs)
  | none => none

theorem evLoad_ptr {t : TypeId} {x : AV} {H : Hp} {v : AV} {rd : List Nat} {g : G} {w : World} {cv : Value} (h : evLoad t x H = some (v, rd)) (hx : RepV g w x cv) : ∃ a, cv = .pointer (some a) := by
  have : (∃ id sz i, x = .pe id sz i) ∨ (∃ id sz i k, x = .pf id sz i k) ∨ ∃ xs, x = .qe xs := by
    cases x with
    | pe id sz i => exact .inl ⟨_, _, _, rfl⟩
    | pf id sz i k => exact .inr (.inl ⟨_, _, _, _, rfl⟩)
    | qe xs => exact .inr (.inr ⟨_, rfl⟩)
    | _ =>
      exfalso
      unfold evLoad at h
      (repeat' split at h) <;> simp_all
  rcases this with ⟨id, sz, i, rfl⟩ | ⟨id, sz, i, k, rfl⟩ | ⟨xs, rfl⟩ <;> cases hx <;> exact ⟨_, rfl⟩

def resSem (tmps : Array Value) : ResultVar → Sem Value
  | .tmp t => pure (tmps.getD t undef)
  | .cell p t => do loadVar t (← asAddr (tmps.getD p undef))

theorem resAll_sound {F : Fr} {H : Hp} {g : G} {w : World} {N B : Nat} {a : Act} (hs : StC g H B w) (hf : RepF g w N F a) : ∀ (rs : List ResultVar) (vs : List AV), resAll F H rs = some vs →
    ∃ cs : List Value, (rs.mapM (resSem a.tmps)).run PP w = .ok cs w ∧ RepL g w vs cs := by
  intro rs
  induction rs with
  | nil => intro vs h; simp only [resAll, Option.some.injEq] at h; subst h; exact ⟨[], rfl, rfl, by simp⟩
  | cons r rs ih =>
    intro vs h
    simp only [resAll] at h
    cases h1 : resOne F H r with
    | none => rw [h1] at h; cases h
    | some v =>
      rw [h1] at h
      cases h2 : resAll F H rs with
      | none => rw [h2] at h; cases h
      | some vs' =>
        rw [h2] at h
        cases h
        obtain ⟨cs, h3, h4⟩ := ih vs' h2
        have h5 : ∃ cv, (resSem a.tmps r).run PP w = .ok cv w ∧ RepV g w v cv := by
          cases r with
          | tmp t => simp only [resOne, Option.some.injEq] at h1; subst h1; exact ⟨_, rfl, hf.rep t⟩
          | cell p t =>
            simp only [resOne, Option.map_eq_some_iff] at h1
            obtain ⟨⟨v', rd⟩, h1, rfl⟩ := h1
            obtain ⟨u, e1, e2⟩ := run_load h1 (hf.rep p) hs (fun _ _ => rfl)
            obtain ⟨ad, ha⟩ := evLoad_ptr h1 (hf.rep p)
            refine ⟨u, ?_, e2⟩
            simp only [resSem]
            rw [ha] at e1 ⊢
            simpa [Instr.loadAt, Instr.sureAddr, asAddr] using e1
        obtain ⟨cv, h6, h7⟩ := h5
        refine ⟨cv :: cs, ?_, by simp [h4.1], fun k x u hx hu => ?_⟩
        · simp only [List.mapM_cons, Sem.run_bind, h6, Result.andThen_ok, h3, Sem.run_pure]
        · cases k with
          | zero => simp only [List.getElem?_cons_zero, Option.some.injEq] at hx hu; subst hx hu; exact h7
          | succ k => exact h4.2 k x u (by simpa using hx) (by simpa using hu)

theorem resAV_sound {fn : Func} {F : Fr} {H : Hp} {g : G} {w : World} {N B : Nat} {a : Act} {v : AV} (hs : StC g H B w) (hf : RepF g w N F a) (h : resAV fn.results F H = some v) :
    ∃ cv, (results fn a.tmps).run PP w = .ok cv w ∧ RepV g w v cv := by
  unfold resAV at h
  cases hr : resAll F H fn.results.toList with
  | none => rw [hr] at h; cases h
  | some vs =>
    obtain ⟨cs, h1, h2⟩ := resAll_sound hs hf _ _ hr
    have h3 : (fn.results.mapM (resSem a.tmps)).run PP w = .ok cs.toArray w := by
      rw [Array.mapM_eq_mapM_toList]
      simp [h1]
    rw [hr] at h
    have h4 : (results fn a.tmps).run PP w = .ok (if h : cs.toArray.size = 1 then cs.toArray[0] else .tuple cs.toArray) w := by
      have : results fn a.tmps = (do let vs ← fn.results.mapM (resSem a.tmps); pure (if h : vs.size = 1 then vs[0] else .tuple vs)) := by
        unfold results
        congr 1
      rw [this]
      simp only [Sem.run_bind, h3, Result.andThen_ok, Sem.run_pure]
    refine ⟨_, h4, ?_⟩
    split at h
    · rename_i v' hv
      injection hv with hv
      subst hv
      cases h
      have hl := h2.1
      simp only [List.length_singleton] at hl
      rw [dif_pos (by simpa using hl.symm)]
      exact h2.2 0 v _ rfl (by simp)
    · rename_i vs' hne hv
      injection hv with hv
      subst hv
      cases h
      have hl := h2.1
      rw [dif_neg]
      · exact .tup _ _ (by simpa using hl) (fun k x u hx hu => h2.2 k x u hx (by simpa using hu))
      · intro h
        have : vs.length = 1 := by simpa using hl.trans (by simpa using h)
        match vs, this with
        | [v], _ => exact hne v rfl
    · cases h

/-- How a frame begins. -/
def Fr.args (xs : List AV) : Fr := fun t => (xs[t]?).getD .any
@[simp] theorem Fr.args_app (xs : List AV) (t : Nat) : Fr.args xs t = (xs[t]?).getD .any := rfl

theorem acalls_of {f : FuncId} {fn : Func} {cd : Code} {args : List AV} {H : Hp} {B : Nat} {Q : AV → Hp → Nat → Prop} (hf : PP.funcs[f]? = some fn) (hb : fn.body = some cd) (hl : args.length ≤ fn.ntmps)
    (h : AWP PP fn.ntmps cd (Fr.args args) H B (fun e F H B => (e = .normal ∨ e = .ret) ∧ ∃ v, resAV fn.results F H = some v ∧ Q v H B)) : ACalls PP f args H B Q := by
  intro g w vs hs hv
  cases hv with
  | tup _ _ hlv hvv =>
    have hs0 : StH ⟨w, H, g, B⟩ g H B w := { toStC := hs, toBase := Base.start g H B w }
    refine calls_of_wp hf hb (wp_mono (h ⟨w, H, g, B⟩ g ⟨vs ++ Array.replicate (fn.ntmps - vs.size) undef, []⟩ w hs0 ⟨by simp; omega, rfl, fun t => ?_⟩) ?_)
    · simp only [Fr.args_app]
      by_cases ht : t < vs.size
      · have e1 : args[t]? = some (args[t]'(by omega)) := by simp
        have e2 : vs[t]? = some vs[t] := by simp [ht]
        rw [Array.getD_eq_getD_getElem?, Array.getElem?_append_left ht, e1, e2]
        exact hvv t _ _ e1 e2
      · have e1 : args[t]? = none := List.getElem?_eq_none (by omega)
        rw [e1]
        exact .any _
    · rintro e a w' ⟨g', F, H', B', ⟨he, v, hr, hq⟩, hs', hf'⟩
      obtain ⟨cv, h1, h2⟩ := resAV_sound hs'.toStC hf' hr
      rcases he with rfl | rfl
      · exact ⟨hf'.defers, cv, h1, cv, v, g', H', B', rfl, hq, h2, hs'⟩
      · exact ⟨hf'.defers, cv, h1, cv, v, g', H', B', rfl, hq, h2, hs'⟩

theorem ACalls.mono {f : FuncId} {args : List AV} {H : Hp} {B : Nat} {Q Q' : AV → Hp → Nat → Prop} (h : ACalls PP f args H B Q) (hq : ∀ v H B, Q v H B → Q' v H B) : ACalls PP f args H B Q' :=
  fun g w vs hs hv => Calls.mono (h g w vs hs hv) fun e w' ⟨cv, v, g', H', B', e1, q, r, s⟩ => ⟨cv, v, g', H', B', e1, hq _ _ _ q, r, s⟩

/-- A function that hands back this, whatever the heap. -/
def Quiet (f : FuncId) (args : List AV) (v : AV) : Prop := ∀ B, ACalls PP f args Hp.nil B (fun v' _ _ => v' = v)

end Go.Proofs.YtnaafbdgkmlnaaaGreat

/- The abstract machine: named blocks may be taken for blocks that nobody writes any more; what is lent. -/
namespace Go.Proofs.YtnaafbdgkmlnaaaGreat
set_option linter.unusedVariables false
set_option linter.unusedSimpArgs false

theorem cell_of_blk {w : World} {b : Nat} {cs : Array Value} {e : TypeId} {fz : Nat × Nat} (h : w.heap[b]? = some (.cells cs e fz)) (o : Nat) : w.cell? ⟨b, o, none⟩ = cs[o]? := by
  simp [World.cell?, h]

/-- y tells of x's value when the blocks S of the heap are not written any more. -/
inductive Fz (S : Nat → Prop) (H : Hp) : AV → AV → Prop
  | same (x : AV) : Fz S H x x
  | any (x : AV) : Fz S H x .any
  | nils (sz : Nat) : Fz S H .nils (.sl sz [])
  | ref (id sz off n : Nat) (k : Blk) (rows : List (List AV)) : S id → H id = some k → k.sz = sz → off + n ≤ k.rows.length → rows.length = n → (∀ (j : Nat) (r r' : List AV), k.rows[off + j]? = some r → rows[j]? = some r' → r'.length = r.length) →
      (∀ (j c : Nat) (x y : AV), at2 k.rows (off + j) c = some x → at2 rows j c = some y → Fz S H x y) → Fz S H (.ref id sz off n) (.sl sz rows)
  | pe (id sz i : Nat) (k : Blk) (r ys : List AV) : S id → H id = some k → k.sz = sz → k.rows[i]? = some r → ys.length = r.length → (∀ (c : Nat) (x y : AV), r[c]? = some x → ys[c]? = some y → Fz S H x y) → Fz S H (.pe id sz i) (.qe ys)
  | pf (id sz i q : Nat) (k : Blk) (x y : AV) : S id → H id = some k → k.sz = sz → at2 k.rows i q = some x → Fz S H x y → Fz S H (.pf id sz i q) (.qe [y])
  | agg (xs ys : List AV) : ys.length = xs.length → (∀ (k : Nat) (x y : AV), xs[k]? = some x → ys[k]? = some y → Fz S H x y) → Fz S H (.agg xs) (.agg ys)
  | tup (xs ys : List AV) : ys.length = xs.length → (∀ (k : Nat) (x y : AV), xs[k]? = some x → ys[k]? = some y → Fz S H x y) → Fz S H (.tup xs) (.tup ys)
  | fn (f : FuncId) (xs ys : List AV) : ys.length = xs.length → (∀ (k : Nat) (x y : AV), xs[k]? = some x → ys[k]? = some y → Fz S H x y) → Fz S H (.fn f xs) (.fn f ys)

def G.fz (g : G) (S : Nat → Prop) (H : Hp) : G := ⟨g.m, fun b => g.I b ∨ ∃ id k, S id ∧ H id = some k ∧ g.m id = some b⟩

section
variable {c : Ctx} {g : G} {H H' : Hp} {B : Nat} {w : World} {S : Nat → Prop}

theorem Le.fz : Le g w (g.fz S H) w := ⟨fun _ _ h => h, fun _ h => .inl h, fun _ _ => rfl, fun _ cs _ fz h => ⟨cs, fz, h, rfl⟩⟩

theorem at_of {α : Type} {l l' : List α} (h : l'.length = l.length) {k : Nat} {y : α} (hy : l'[k]? = some y) : ∃ x, l[k]? = some x := by
  have := (List.getElem?_eq_some_iff.1 hy).1
  exact ⟨l[k]'(by omega), List.getElem?_eq_getElem _⟩

theorem Fz.rep (h : StC g H B w) {x y : AV} (hf : Fz S H x y) : ∀ v, RepV g w x v → RepV (g.fz S H) w y v := by
  induction hf with
  | same x => exact fun v hv => hv.mono Le.fz
  | any x => exact fun v _ => .any v
  | nils sz => intro v hv; cases hv; exact .sl0 _ _ _
  | ref id sz off n k rows hS hH hsz hb hn hl hr ih =>
    intro v hv
    cases hv with
    | ref _ _ _ _ b cp cs e fz hm hc hb' hs =>
      obtain ⟨b1, cs1, h1, h2⟩ := h.blk id k hH
      rw [hm] at h1; cases h1
      have hlen : ∀ j c y, at2 rows j c = some y → c < sz ∧ ∃ x, at2 k.rows (off + j) c = some x := by
        intro j c y hy
        unfold at2 at hy
        cases hrj : rows[j]? with
        | none => rw [hrj] at hy; cases hy
        | some r =>
          rw [hrj] at hy
          have hj := (List.getElem?_eq_some_iff.1 hrj).1
          have hc : c < r.length := (List.getElem?_eq_some_iff.1 hy).1
          have hk : off + j < k.rows.length := by omega
          have hkl := h2.len _ (List.getElem_mem hk)
          rw [hl j _ r (List.getElem?_eq_getElem hk) hrj] at hc
          refine ⟨by omega, (k.rows[off + j])[c]'(by omega), ?_⟩
          simp only [at2, List.getElem?_eq_getElem hk, Option.bind_some]
          exact List.getElem?_eq_getElem _
      refine .sl sz rows b (off * sz) n cp (fun j c => (cs1[(off + j) * sz + c]?).getD undef) hn (.inr ⟨id, k, hS, hH, hm⟩) hc ?_ ?_ ?_
      · intro r' hr'
        obtain ⟨j, hj, rfl⟩ := List.mem_iff_getElem.1 hr'
        have hk : off + j < k.rows.length := by omega
        rw [hl j _ _ (List.getElem?_eq_getElem hk) (List.getElem?_eq_getElem hj), h2.len _ (List.getElem_mem hk), hsz]
      · intro j c y hy
        obtain ⟨hc, x, hx⟩ := hlen j c y hy
        obtain ⟨u, hu, _⟩ := h2.rep _ _ _ hx
        rw [hsz] at hu
        rw [cell_of_blk h2.heap, show off * sz + j * sz + c = (off + j) * sz + c by rw [Nat.add_mul], hu]
        rfl
      · intro j c y hy
        obtain ⟨hc, x, hx⟩ := hlen j c y hy
        obtain ⟨u, hu, hr⟩ := h2.rep _ _ _ hx
        rw [hsz] at hu
        rw [hu]
        exact ih _ _ _ _ hx hy _ hr
  | pe id sz i k r ys hS hH hsz hr hl hx ih =>
    intro v hv
    cases hv with
    | pe _ _ _ b hm =>
      obtain ⟨b1, cs1, h1, h2⟩ := h.blk id k hH
      rw [hm] at h1; cases h1
      refine .qe ys b (i * sz) (fun c => (cs1[i * sz + c]?).getD undef) (.inr ⟨id, k, hS, hH, hm⟩) ?_ ?_
      · intro c y hy
        obtain ⟨x, hx'⟩ := at_of hl hy
        have ha : at2 k.rows i c = some x := by simp [at2, hr, hx']
        obtain ⟨u, hu, _⟩ := h2.rep _ _ _ ha
        rw [hsz] at hu
        rw [cell_of_blk h2.heap, hu]; rfl
      · intro c y hy
        obtain ⟨x, hx'⟩ := at_of hl hy
        have ha : at2 k.rows i c = some x := by simp [at2, hr, hx']
        obtain ⟨u, hu, hr'⟩ := h2.rep _ _ _ ha
        rw [hsz] at hu
        rw [hu]
        exact ih _ _ _ hx' hy _ hr'
  | pf id sz i q k x y hS hH hsz hx hf ih =>
    intro v hv
    cases hv with
    | pf _ _ _ _ b hm =>
      obtain ⟨b1, cs1, h1, h2⟩ := h.blk id k hH
      rw [hm] at h1; cases h1
      obtain ⟨u, hu, hr'⟩ := h2.rep _ _ _ hx
      rw [hsz] at hu
      refine .qe [y] b (i * sz + q) (fun _ => u) (.inr ⟨id, k, hS, hH, hm⟩) ?_ ?_
      · intro c z hz
        have : c = 0 ∧ y = z := by cases c <;> simp_all
        obtain ⟨rfl, rfl⟩ := this
        rw [cell_of_blk h2.heap]; exact hu
      · intro c z hz
        have : c = 0 ∧ y = z := by cases c <;> simp_all
        obtain ⟨rfl, rfl⟩ := this
        exact ih _ hr'
  | agg xs ys hl hx ih =>
    intro v hv
    cases hv with
    | agg _ vs hl' h' =>
      refine .agg ys vs (by omega) fun k y v hy hv => ?_
      obtain ⟨x, hx'⟩ := at_of hl hy
      exact ih k x y hx' hy v (h' k x v hx' hv)
  | tup xs ys hl hx ih =>
    intro v hv
    cases hv with
    | tup _ vs hl' h' =>
      refine .tup ys vs (by omega) fun k y v hy hv => ?_
      obtain ⟨x, hx'⟩ := at_of hl hy
      exact ih k x y hx' hy v (h' k x v hx' hv)
  | fn f xs ys hl hx ih =>
    intro v hv
    cases hv with
    | fn _ _ vs hl' h' =>
      refine .fn f ys vs (by omega) fun k y v hy hv => ?_
      obtain ⟨x, hx'⟩ := at_of hl hy
      exact ih k x y hx' hy v (h' k x v hx' hv)

/-- What is left of a heap when the blocks S are not written any more. -/
def FzH (S : Nat → Prop) (H H' : Hp) : Prop := ∀ id k', H' id = some k' → ¬ S id ∧ ∃ k, H id = some k ∧ k'.e = k.e ∧ k'.sz = k.sz ∧ k'.rows.length = k.rows.length ∧
  (∀ (j : Nat) (r r' : List AV), k.rows[j]? = some r → k'.rows[j]? = some r' → r'.length = r.length) ∧
  ∀ (i j : Nat) (x y : AV), at2 k.rows i j = some x → at2 k'.rows i j = some y → Fz S H x y

theorem FzH.sub (h : ∀ id k, H' id = some k → ¬ S id ∧ H id = some k) : FzH S H H' := by
  intro id k' hk
  refine ⟨(h id k' hk).1, k', (h id k' hk).2, rfl, rfl, rfl, fun j r r' a b => ?_, fun i j x y hx hy => ?_⟩
  · rw [a] at b; cases b; rfl
  · rw [hx] at hy; cases hy; exact .same _

theorem at2_row {rows : List (List AV)} {i j : Nat} {x : AV} (h : at2 rows i j = some x) : ∃ r, rows[i]? = some r ∧ r[j]? = some x := by
  unfold at2 at h
  cases hr : rows[i]? with
  | none => rw [hr] at h; cases h
  | some r => rw [hr] at h; exact ⟨r, rfl, h⟩

theorem StH.freeze (h : StH c g H B w) (hH : FzH S H H') : StH c (g.fz S H) H' B w where
  blk := fun id k' hk => by
    obtain ⟨hS, k, h1, he, hsz, hlen, hrl, hx⟩ := hH id k' hk
    obtain ⟨b, cs, hm, hb⟩ := h.blk id k h1
    refine ⟨b, cs, hm, ?_, by rw [he]; exact hb.heap, by rw [hlen, hsz]; exact hb.size, ?_, ?_⟩
    · rintro (hi | ⟨id', k1, a1, a2, a3⟩)
      · exact hb.free hi
      · exact hS (h.inj id id' k k1 b h1 a2 hm a3 ▸ a1)
    · intro r hr
      obtain ⟨j, hj, rfl⟩ := List.mem_iff_getElem.1 hr
      have hk : j < k.rows.length := by omega
      rw [hrl j _ _ (List.getElem?_eq_getElem hk) (List.getElem?_eq_getElem hj), hb.len _ (List.getElem_mem hk), hsz]
    · intro i j y hy
      obtain ⟨r', hr', hy'⟩ := at2_row hy
      have hi := (List.getElem?_eq_some_iff.1 hr').1
      have hk : i < k.rows.length := by omega
      have hl := hrl i _ r' (List.getElem?_eq_getElem hk) hr'
      obtain ⟨x, hx'⟩ := at_of hl hy'
      have ha : at2 k.rows i j = some x := by simp [at2, List.getElem?_eq_getElem hk, hx']
      obtain ⟨v, hv, hr⟩ := hb.rep i j x ha
      exact ⟨v, by rw [hsz]; exact hv, (hx i j x y ha hy).rep h.toStC v hr⟩
  inj := fun id id' k k' b e e' => by
    obtain ⟨_, k1, h1, _⟩ := hH id k e
    obtain ⟨_, k2, h2, _⟩ := hH id' k' e'
    exact h.inj id id' k1 k2 b h1 h2
  free := h.free
  inI := by
    rintro b (hi | ⟨id, k, a1, a2, a3⟩)
    · exact h.inI b hi
    · obtain ⟨b', cs, hm, hb⟩ := h.blk id k a2
      rw [a3] at hm; cases hm
      exact (Array.getElem?_eq_some_iff.1 hb.heap).1
  os := h.os
  tape := h.tape
  output := h.output
  size := h.size
  same := h.same
  sizes := h.sizes
  own := fun id k b e => by
    obtain ⟨_, k1, h1, _⟩ := hH id k e
    exact h.own id k1 b h1
  ids := fun id k e => by
    obtain ⟨_, k1, h1, _⟩ := hH id k e
    exact h.ids id k1 h1
  I0 := fun b hb => .inl (h.I0 b hb)
  I1 := by
    rintro b (hi | ⟨id, k, a1, a2, a3⟩)
    · exact h.I1 b hi
    · rcases h.own id k b a2 a3 with q | q
      · exact .inr (.inl q)
      · exact .inr (.inr q)
  m0 := h.m0
  m1 := h.m1
  bound := h.bound

theorem ACalls.freeze {P : Program} {f : FuncId} {args : List AV} {Q Q' : AV → Hp → Nat → Prop} (h : ACalls P f args H B Q)
    (hq : ∀ v H1 B1, Q v H1 B1 → ∃ S v' H2, Fz S H1 v v' ∧ FzH S H1 H2 ∧ Q' v' H2 B1) : ACalls P f args H B Q' := by
  intro g w vs hs hv
  refine Calls.mono (h g w vs hs hv) fun e w' ⟨cv, v, g', H', B', e1, q, r, s⟩ => ?_
  obtain ⟨S, v', H2, h1, h2, h3⟩ := hq v H' B' q
  exact ⟨cv, v', g'.fz S H', H2, B', e1, h3, h1.rep s.toStC cv r, s.freeze h2⟩

theorem RepF.freeze {N : Nat} {F F' : Fr} {a : Act} (hs : StC g H B w) (h : RepF g w N F a) (hF : ∀ t, Fz S H (F t) (F' t)) : RepF (g.fz S H) w N F' a :=
  ⟨h.size, h.defers, fun t => (hF t).rep hs _ (h.rep t)⟩

section
variable {P : Program} {N : Nat} {cd : Code} {F F' : Fr} {Q : Exit → Fr → Hp → Nat → Prop}
theorem awp_freeze (hF : ∀ t, Fz S H (F t) (F' t)) (hH : FzH S H H') (h : AWP P N cd F' H' B Q) : AWP P N cd F H B Q :=
  fun c g a w hs hf => h c _ a w (hs.freeze hH) (hf.freeze hs.toStC hF)
theorem aloop_freeze (hF : ∀ t, Fz S H (F t) (F' t)) (hH : FzH S H H') (h : ALoop P N cd F' H' B Q) : ALoop P N cd F H B Q :=
  fun c g a w hs hf => h c _ a w (hs.freeze hH) (hf.freeze hs.toStC hF)
end

/-! ### What is lent -/
/-- Nothing in it tells of what nobody writes. -/
inductive Own : AV → Prop
  | any : Own .any
  | int (k : IntKind) (n : Int) : Own (.int k n)
  | bool (b : Bool) : Own (.bool b)
  | str (s : ByteArray) : Own (.str s)
  | sl0 (sz : Nat) : Own (.sl sz [])
  | nils : Own .nils
  | ref (id sz off n : Nat) : Own (.ref id sz off n)
  | agg (xs : List AV) : (∀ x ∈ xs, Own x) → Own (.agg xs)
  | tup (xs : List AV) : (∀ x ∈ xs, Own x) → Own (.tup xs)
  | pe (id sz i : Nat) : Own (.pe id sz i)
  | pf (id sz i k : Nat) : Own (.pf id sz i k)
  | nilp : Own .nilp
  | fn (f : FuncId) (xs : List AV) : (∀ x ∈ xs, Own x) → Own (.fn f xs)
  | nilf : Own .nilf

theorem Own.rep {g' : G} (hm : g'.m = g.m) {x : AV} (ho : Own x) : ∀ v, RepV g w x v → RepV g' w x v := by
  induction ho with
  | any => exact fun v _ => .any v
  | int k n => intro v h; cases h; exact .int _ _
  | bool b => intro v h; cases h; exact .bool _
  | str s => intro v h; cases h; exact .str _
  | sl0 sz =>
    intro v h
    cases h with
    | sl0 _ a c => exact .sl0 _ _ _
    | sl _ _ b o n c vs hn => exact hn ▸ .sl0 _ _ _
  | nils => intro v h; cases h; exact .nils _
  | ref id sz off n => intro v h; cases h with | ref _ _ _ _ b c cs e fz h1 h2 h3 h4 => exact .ref _ _ _ _ b c cs e fz (by rw [hm]; exact h1) h2 h3 h4
  | agg xs _ ih => intro v h; cases h with | agg _ vs hl h => exact .agg xs vs hl fun k x v hx hv => ih x (List.mem_of_getElem? hx) v (h k x v hx hv)
  | tup xs _ ih => intro v h; cases h with | tup _ vs hl h => exact .tup xs vs hl fun k x v hx hv => ih x (List.mem_of_getElem? hx) v (h k x v hx hv)
  | pe id sz i => intro v h; cases h with | pe _ _ _ b h1 => exact .pe _ _ _ b (by rw [hm]; exact h1)
  | pf id sz i k => intro v h; cases h with | pf _ _ _ _ b h1 => exact .pf _ _ _ _ b (by rw [hm]; exact h1)
  | nilp => intro v h; cases h; exact .nilp
  | fn f xs _ ih => intro v h; cases h with | fn _ _ vs hl h => exact .fn f xs vs hl fun k x v hx hv => ih x (List.mem_of_getElem? hx) v (h k x v hx hv)
  | nilf => intro v h; cases h; exact .nilf

def Hp.plus (H H' : Hp) : Hp := fun id => match H' id with | some k => some k | none => H id

/-- A call that is shown of blocks that nobody writes does as much where they are named, and leaves them, if what it hands back does not hold on to any such block. -/
theorem ACalls.borrow {P : Program} {f : FuncId} {args args' : List AV} {Q : AV → Hp → Nat → Prop} (h : ACalls P f args' Hp.nil B Q) (hargs : Fz (fun _ => True) H (.tup args) (.tup args'))
    (hq : ∀ v H1 B1, Q v H1 B1 → Own v ∧ ∀ id k, H1 id = some k → ∀ r ∈ k.rows, ∀ x ∈ r, Own x) :
    ACalls P f args H B (fun v H2 B1 => ∃ H1, Q v H1 B1 ∧ H2 = H.plus H1 ∧ ∀ id k, H1 id = some k → H id = none) := by
  intro g w vs hs hv
  have hs0 : StH ⟨w, H, g, B⟩ g H B w := { toStC := hs, toBase := Base.start g H B w }
  have hs1 : StC (g.fz (fun _ => True) H) Hp.nil B w := (hs0.freeze (H' := Hp.nil) (by intro id k h; cases h)).toStC
  refine Calls.mono (h _ w vs hs1 (hargs.rep hs _ hv)) fun e w' ⟨cv, v, g', H1, B1, e1, q, r, s⟩ => ?_
  obtain ⟨hov, hoH⟩ := hq v H1 B1 q
  have hW : ∀ b, ¬ (Ctx.mk w Hp.nil (g.fz (fun _ => True) H) B).W b := fun b ⟨id, k, h1, _⟩ => by cases h1
  have hfresh : ∀ id k, H1 id = some k → B ≤ id := fun id k e => by
    rcases s.ids id k e with ⟨k', h1⟩ | h1
    · cases h1
    · exact h1
  have hHlt : ∀ id k, H id = some k → id < B := fun id k e => by
    rcases Nat.lt_or_ge id B with q | q
    · exact q
    · obtain ⟨b, cs, e1, e2⟩ := hs.blk id k e
      rw [hs.free id q] at e1
      cases e1
  have hdis : ∀ id k, H1 id = some k → H id = none := fun id k e => by
    cases hh : H id with
    | none => rfl
    | some k' => exact absurd (hHlt id k' hh) (Nat.not_lt.2 (hfresh id k e))
  have hnew : ∀ id k b, H1 id = some k → g'.m id = some b → w.heap.size ≤ b := fun id k b e m => by
    rcases s.own id k b e m with q | q
    · exact absurd q (hW b)
    · exact q
  have hold : ∀ id k, H id = some k → ∃ b cs, g.m id = some b ∧ g'.m id = some b ∧ b < w.heap.size ∧ RepB g w k b cs ∧ w'.heap[b]? = w.heap[b]? := fun id k e => by
    obtain ⟨b, cs, h1, h2⟩ := hs.blk id k e
    have hb := (Array.getElem?_eq_some_iff.1 h2.heap).1
    exact ⟨b, cs, h1, s.m0 id b h1, hb, h2, s.same b hb (hW b)⟩
  have hle : Le g w ⟨g'.m, g.I⟩ w' := ⟨fun id b e => s.m0 id b e, fun b e => e, fun b e => s.same b (hs.inI b e) (hW b), s.sizes⟩
  refine ⟨cv, v, ⟨g'.m, g.I⟩, H.plus H1, B1, e1, ⟨H1, q, rfl, hdis⟩, hov.rep (g := g') (g' := ⟨g'.m, g.I⟩) rfl cv r, ?_⟩
  have hsplit : ∀ id k, H.plus H1 id = some k → H1 id = some k ∨ (H1 id = none ∧ H id = some k) := fun id k e => by
    unfold Hp.plus at e
    split at e
    · rename_i h1; exact .inl (h1.trans e)
    · rename_i h1; exact .inr ⟨h1, e⟩
  constructor
  · constructor
    · intro id k e
      rcases hsplit id k e with e | ⟨_, e⟩
      · obtain ⟨b, cs, h1, h2⟩ := s.blk id k e
        refine ⟨b, cs, h1, fun hi => h2.free (s.I0 b (.inl hi)), h2.heap, h2.size, h2.len, fun i j x hx => ?_⟩
        obtain ⟨u, hu, hr⟩ := h2.rep i j x hx
        obtain ⟨row, hrow, hxr⟩ := at2_row hx
        exact ⟨u, hu, (hoH id k e row (List.mem_of_getElem? hrow) x (List.mem_of_getElem? hxr)).rep (g := g') (g' := ⟨g'.m, g.I⟩) rfl u hr⟩
      · obtain ⟨b, cs, h1, h2, h3, h4, h5⟩ := hold id k e
        exact ⟨b, cs, h2, h4.free, h5.trans h4.heap, h4.size, h4.len, fun i j x hx => let ⟨u, a1, a2⟩ := h4.rep i j x hx; ⟨u, a1, a2.mono hle⟩⟩
    · intro id id' k k' b e e' m m'
      rcases hsplit id k e with e | ⟨_, e⟩ <;> rcases hsplit id' k' e' with e' | ⟨_, e'⟩
      · exact s.inj id id' k k' b e e' m m'
      · obtain ⟨b', cs, h1, h2, h3, _⟩ := hold id' k' e'
        have m'' : g'.m id' = some b := m'
        rw [h2] at m''; cases m''
        exact absurd h3 (Nat.not_lt.2 (hnew id k _ e m))
      · obtain ⟨b', cs, h1, h2, h3, _⟩ := hold id k e
        have m'' : g'.m id = some b := m
        rw [h2] at m''; cases m''
        exact absurd h3 (Nat.not_lt.2 (hnew id' k' _ e' m'))
      · obtain ⟨b1, cs, h1, h2, _⟩ := hold id k e
        obtain ⟨b2, cs', h1', h2', _⟩ := hold id' k' e'
        have m1 : g'.m id = some b := m
        have m2 : g'.m id' = some b := m'
        rw [h2] at m1; cases m1
        rw [h2'] at m2; cases m2
        exact hs.inj id id' k k' _ e e' h1 h1'
    · exact s.free
    · exact fun b hb => s.inI b (s.I0 b (.inl hb))
  · constructor
    · exact s.os
    · exact s.tape
    · exact s.output
    · exact s.size
    · exact fun b hb _ => s.same b hb (hW b)
    · exact s.sizes
    · intro id k b e m
      rcases hsplit id k e with e | ⟨_, e⟩
      · exact .inr (hnew id k b e m)
      · obtain ⟨b', cs, h1, h2, _⟩ := hold id k e
        have m1 : g'.m id = some b := m
        rw [h2] at m1; cases m1
        exact .inl ⟨id, k, e, h1⟩
    · intro id k e
      rcases hsplit id k e with e | ⟨_, e⟩
      · exact .inr (hfresh id k e)
      · exact .inl ⟨k, e⟩
    · exact fun b hb => hb
    · exact fun b hb => .inl hb
    · exact s.m0
    · exact s.m1
    · exact s.bound

end
end Go.Proofs.YtnaafbdgkmlnaaaGreat

/- The abstract machine: steps for a walk. -/
namespace Go.Proofs.YtnaafbdgkmlnaaaGreat
set_option linter.unusedVariables false
set_option linter.unusedSimpArgs false
set_option linter.unnecessarySimpa false

section
variable {N : Nat} {ops : Array Oper} {dr : Bool} {o : Oper} {rest : List Oper} {F : Fr} {H : Hp} {B : Nat} {acc : List Info} {K : Fr → Hp → Nat → List Info → Prop}

theorem alc_nil (h : K F H B acc) : ALc PP N ops dr [] F H B acc K := h

theorem reads_keys {rd : List Nat} (h : ∀ id ∈ rd, ∃ k, H id = some k) : (reads H rd).map (·.1) = rd := by
  induction rd with
  | nil => rfl
  | cons a rd ih =>
    obtain ⟨k, hk⟩ := h a (by simp)
    have := ih (fun id hid => h id (by simp [hid]))
    simp only [reads] at this ⊢
    simp [hk, this]

theorem alc_pure {v : AV} {rd : List Nat} (hd : okDst N o = true) (hw : want ops F o = some true) (he : evOp o.op F H = some (v, rd))
    (h : ALc PP N ops dr rest (F.put o.dst v) H B (acc ++ [⟨rd, [], false, false, 0⟩]) K) : ALc PP N ops dr (o :: rest) F H B acc K :=
  ⟨hd, .inr (.inl ⟨hw, _, _, 0, B, v, opl_pure he, Nat.zero_le _, fun p hp => (reads_mem.1 hp).2, Nat.le_refl _, by simp, by simpa [reads_keys (evOp_rd he)] using h⟩)⟩

theorem alc_skip (hd : okDst N o = true) (hw : want ops F o = some false) (h : ALc PP N ops dr rest (F.put o.dst (.tup [])) H B (acc ++ [⟨[], [], false, false, 0⟩]) K) : ALc PP N ops dr (o :: rest) F H B acc K :=
  ⟨hd, .inl ⟨hw, h⟩⟩

/-- As far as the operations change no memory. -/
def runP (N : Nat) (ops : Array Oper) (H : Hp) : List Oper → Fr → List Info → Fr × List Info × List Oper
  | [], F, acc => (F, acc, [])
  | o :: rest, F, acc => bif okDst N o then (match want ops F o with
      | some false => runP N ops H rest (F.put o.dst (.tup [])) (acc ++ [⟨[], [], false, false, 0⟩])
      | some true => (match evOp o.op F H with
        | some (v, rd) => runP N ops H rest (F.put o.dst v) (acc ++ [⟨rd, [], false, false, 0⟩])
        | none => (F, acc, o :: rest))
      | none => (F, acc, o :: rest)) else (F, acc, o :: rest)

theorem alc_run {l : List Oper} : ∀ {F : Fr} {acc : List Info}, ALc PP N ops dr (runP N ops H l F acc).2.2 (runP N ops H l F acc).1 H B (runP N ops H l F acc).2.1 K → ALc PP N ops dr l F H B acc K := by
  induction l with
  | nil => intro F acc h; exact h
  | cons o rest ih =>
    intro F acc h
    unfold runP at h
    cases hd : okDst N o with
    | false => rw [hd] at h; exact h
    | true =>
      rw [hd] at h
      simp only [cond_true] at h
      split at h
      · rename_i hw; exact alc_skip hd hw (ih h)
      · rename_i hw
        split at h
        · rename_i v rd he; exact alc_pure hd hw he (ih h)
        · exact h
      · exact h

theorem alc_run' {l l' : List Oper} {F F' : Fr} {acc acc' : List Info} (hr : runP N ops H l F acc = (F', acc', l')) (h : ALc PP N ops dr l' F' H B acc' K) : ALc PP N ops dr l F H B acc K := alc_run (by rw [hr]; exact h)

end

section
variable {N : Nat} {F : Fr} {H : Hp} {B : Nat} {Q : Exit → Fr → Hp → Nat → Prop}
theorem awp_region_k {id : Nat} {ops : Array Oper} (h : ∀ K : Fr → Hp → Nat → List Info → Prop, (∀ F H B acc, Q .normal F H B → K F H B acc) → ALc PP N ops false ops.toList F H B [] K) : AWP PP N (.region id ops false) F H B Q :=
  awp_region (h _ fun _ _ _ _ q => q)
theorem awp_seq_k {x y : Code} (h : ∀ K : Fr → Hp → Nat → Prop, (∀ F H B, AWP PP N y F H B Q → K F H B) → AWP PP N x F H B (thenA K Q)) : AWP PP N (.seq x y) F H B Q :=
  awp_seq (h _ fun _ _ _ q => q)
/-- A region, then more. -/
theorem awp_rs {id : Nat} {ops : Array Oper} {y : Code} (h : ∀ K : Fr → Hp → Nat → List Info → Prop, (∀ F H B acc, AWP PP N y F H B Q → K F H B acc) → ALc PP N ops false ops.toList F H B [] K) : AWP PP N (.seq (.region id ops false) y) F H B Q :=
  awp_seq (awp_region (h _ fun _ _ _ _ q => q))
end

/-! ### Loops -/
/-- A frame, told slot by slot. -/
def Fr.of : List (Nat × AV) → Fr
  | [] => Fr.nil
  | p :: l => (Fr.of l).set p.1 p.2
@[simp] theorem Fr.of_nil (t : Nat) : Fr.of [] t = .any := rfl
@[simp] theorem Fr.of_cons (p : Nat × AV) (l : List (Nat × AV)) (t : Nat) : Fr.of (p :: l) t = if t = p.1 then p.2 else Fr.of l t := rfl
theorem weaken_of {F : Fr} {l : List (Nat × AV)} (h : ∀ p ∈ l, F p.1 = p.2) : ∀ t, Fr.of l t = .any ∨ Fr.of l t = F t := by
  intro t
  induction l with
  | nil => exact .inl rfl
  | cons p l ih =>
    simp only [Fr.of_cons]
    split
    · rename_i e; subst e; exact .inr (h p (by simp)).symm
    · exact ih (fun q hq => h q (by simp [hq]))

theorem aloop_inv {N : Nat} {cd : Code} {F : Fr} {H : Hp} {B : Nat} {Q : Exit → Fr → Hp → Nat → Prop} {ι : Type} (m : ι → Nat) (I : ι → Prop) (l : ι → List (Nat × AV)) (Hs : ι → Hp) (i0 : ι) (hI : I i0) (h0 : ∀ p ∈ l i0, F p.1 = p.2)
    (hH : ∀ id k, Hs i0 id = some k → H id = some k)
    (step : ∀ i B, I i → (∀ j F H B', m j < m i → I j → (∀ p ∈ l j, F p.1 = p.2) → (∀ id k, Hs j id = some k → H id = some k) → ALoop PP N cd F H B' Q) →
      AWP PP N cd (Fr.of (l i)) (Hs i) B (thenA (fun F H B => ALoop PP N cd F H B Q) Q)) : ALoop PP N cd F H B Q := by
  have key : ∀ n i B, m i = n → I i → ALoop PP N cd (Fr.of (l i)) (Hs i) B Q := by
    intro n
    induction n using Nat.strongRecOn with
    | _ n ih =>
      intro i B hn hi
      subst hn
      exact aloop (step i B hi fun j F H B' hj hIj hl hh => aloop_drop hh (aloop_weaken (weaken_of hl) (ih (m j) hj j B' rfl hIj)))
  exact aloop_drop hH (aloop_weaken (weaken_of h0) (key _ i0 B rfl hI))

abbrev KT := Fr → Hp → Nat → List Info → Prop
abbrev QT := Exit → Fr → Hp → Nat → Prop

abbrev I64 (n : Int) : AV := .int .i64 n
def encR (r : R) : List AV := [I64 r.kind, I64 r.tx, I64 r.page, I64 r.slot, I64 r.old, I64 r.new, I64 r.prev, I64 r.next]

end Go.Proofs.YtnaafbdgkmlnaaaGreat
