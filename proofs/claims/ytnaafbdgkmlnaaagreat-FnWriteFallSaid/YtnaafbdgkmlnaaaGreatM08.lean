/- Laws about the machine's run of the program's functions, part 8, in import order. No condition. -/
import Derived.Test.YtnaafbdgkmlnaaaGreatM06
import Derived.Test.YtnaafbdgkmlnaaaGreatM07

set_option linter.unusedVariables false
set_option linter.unusedSimpArgs false
set_option linter.unnecessarySimpa false
/- The abstract machine: a region that draws its order. -/
namespace Go.Proofs.YtnaafbdgkmlnaaaGreat
set_option linter.unusedVariables false
set_option linter.unusedSimpArgs false
set_option linter.unnecessarySimpa false

/-- j waits for i by an edge of its own. -/
def direct (o : Oper) (i : Nat) : Bool := o.after.any fun e => Region.binds .any e && e.on == i
/-- The operation that lies at the place j waits for i, by a way of at most so many edges. -/
def anc (ops : Array Oper) : Nat → Nat → Nat → Bool
  | 0, _, _ => false
  | n + 1, i, j => match ops[j]? with
    | some o => o.after.any fun e => Region.binds .any e && (e.on == i || anc ops n i e.on)
    | none => false

def clash (ops : Array Oper) (x y : Oper) : Bool := match x.dst with
  | some d => (y.looksAt ops).contains d
  | none => false
def sameDst (x y : Oper) : Bool := match x.dst, y.dst with
  | some d, some e => d == e
  | _, _ => false

def pairOk (ops : Array Oper) (i : Nat) (x : Oper) (y : Oper) : Bool := !(clash ops x y || clash ops y x || sameDst x y) || direct y i
/-- The temporaries: who writes and who reads one waits for the other, as the text has it. -/
def dstOk (ops : Array Oper) : Bool :=
  (List.range ops.size).all fun j => match ops[j]? with
    | some y => (y.after.all fun e => !Region.binds .any e || decide (e.on < j)) && !(clash ops y y) && (List.range j).all fun i => match ops[i]? with
      | some x => pairOk ops i x y
      | none => true
    | none => true

def Conf (x y : Info) : Prop := (∃ id ∈ x.wr, id ∈ y.rd ∨ id ∈ y.wr) ∨ (∃ id ∈ x.rd, id ∈ y.wr) ∨ (x.mks = true ∧ y.mks = true)

/-- Who touches the same memory, waits. -/
def chk (ops : Array Oper) (B0 : Nat) : Nat → List Info → Prop
  | _, [] => True
  | i, x :: l => x.bm ≤ B0 ∧ (∀ j y, l[j]? = some y → Conf x y → anc ops ops.size i (i + 1 + j) = true) ∧ chk ops B0 (i + 1) l

theorem chk_at {ops : Array Oper} {B0 : Nat} : ∀ (l : List Info) (k : Nat), chk ops B0 k l → ∀ (i j : Nat) (x y : Info), l[i]? = some x → l[j]? = some y → i < j → Conf x y → anc ops ops.size (k + i) (k + j) = true
  | [], k, _, i, j, x, y, hx, _, _, _ => by simp at hx
  | z :: l, k, ⟨_, h1, h2⟩, 0, j, x, y, hx, hy, hij, hc => by
    simp only [List.getElem?_cons_zero, Option.some.injEq] at hx
    subst hx
    obtain ⟨j, rfl⟩ : ∃ m, j = m + 1 := ⟨j - 1, by omega⟩
    have := h1 j y (by simpa using hy) hc
    rw [show k + 1 + j = k + (j + 1) by omega] at this
    simpa using this
  | z :: l, k, ⟨_, h1, h2⟩, i + 1, j, x, y, hx, hy, hij, hc => by
    obtain ⟨j, rfl⟩ : ∃ m, j = m + 1 := ⟨j - 1, by omega⟩
    have := chk_at l (k + 1) h2 i j x y (by simpa using hx) (by simpa using hy) (by omega) hc
    rw [show k + 1 + i = k + (i + 1) by omega, show k + 1 + j = k + (j + 1) by omega] at this
    exact this
theorem chk_bm {ops : Array Oper} {B0 : Nat} : ∀ (l : List Info) (k : Nat), chk ops B0 k l → ∀ x ∈ l, x.bm ≤ B0
  | [], _, _, x, hx => by cases hx
  | z :: l, k, ⟨h0, _, h2⟩, x, hx => by
    rcases List.mem_cons.1 hx with rfl | hx
    · exact h0
    · exact chk_bm l (k + 1) h2 x hx

def Down (ops : Array Oper) (S : Nat → Bool) : Prop := ∀ j o, S j = true → ops[j]? = some o → ∀ e ∈ o.after, Region.binds .any e = true → S e.on = true

theorem anc_down {ops : Array Oper} {S : Nat → Bool} (hD : Down ops S) : ∀ (n i j : Nat), anc ops n i j = true → (∀ o, ops[j]? = some o → ∀ e ∈ o.after, Region.binds .any e = true → S e.on = true) → S i = true
  | 0, i, j, h, _ => by simp [anc] at h
  | n + 1, i, j, h, hj => by
    unfold anc at h
    split at h
    · rename_i o ho
      obtain ⟨e, he, h1⟩ := Array.any_eq_true'.1 h
      simp only [Bool.and_eq_true, Bool.or_eq_true, beq_iff_eq] at h1
      have hs := hj o ho e he h1.1
      rcases h1.2 with h2 | h2
      · rw [← h2]; exact hs
      · exact anc_down hD n i e.on h2 (fun o' ho' e' he' hb' => hD e.on o' hs ho' e' he' hb')
    · cases h

theorem direct_mem {o : Oper} {i : Nat} (h : direct o i = true) : ∃ e ∈ o.after, Region.binds .any e = true ∧ e.on = i := by
  obtain ⟨e, he, h1⟩ := Array.any_eq_true'.1 h
  simp only [Bool.and_eq_true, beq_iff_eq] at h1
  exact ⟨e, he, h1⟩

section
variable {ops : Array Oper} (hok : dstOk ops = true)
include hok

theorem dst_row {j : Nat} {y : Oper} (hy : ops[j]? = some y) : (∀ e ∈ y.after, Region.binds .any e = true → e.on < j) ∧ clash ops y y = false ∧ ∀ i x, i < j → ops[i]? = some x → pairOk ops i x y = true := by
  have hj : j < ops.size := (Array.getElem?_eq_some_iff.1 hy).1
  have h := List.all_eq_true.1 hok j (List.mem_range.2 hj)
  rw [hy] at h
  simp only [Bool.and_eq_true, Bool.not_eq_true'] at h
  refine ⟨fun e he hb => ?_, h.1.2, fun i x hi hx => ?_⟩
  · have := (Array.all_eq_true_iff_forall_mem.1 h.1.1) e he
    simpa [hb] using this
  · have := List.all_eq_true.1 h.2 i (List.mem_range.2 hi)
    rw [hx] at this
    exact this

/-- What an operation looks at has been written by just those that stand ahead of it. -/
theorem look_iff {S : Nat → Bool} (hD : Down ops S) {i : Nat} {o : Oper} (ho : ops[i]? = some o) (hS : S i = false) (hr : ∀ e ∈ o.after, Region.binds .any e = true → S e.on = true) {j : Nat} {x : Oper} (hx : ops[j]? = some x) {t : Nat} (hd : x.dst = some t)
    (ht : t ∈ o.looksAt ops) : S j = decide (j < i) := by
  have hc : clash ops x o = true := by unfold clash; rw [hd]; simpa using ht
  rcases Nat.lt_trichotomy j i with h | h | h
  · have := (dst_row hok ho).2.2 j x h hx
    unfold pairOk at this
    rw [hc] at this
    simp only [Bool.true_or, Bool.not_true, Bool.false_or] at this
    obtain ⟨e, he, hb, rfl⟩ := direct_mem this
    rw [hr e he hb]
    simp [h]
  · subst h
    rw [hx] at ho
    cases ho
    rw [(dst_row hok hx).2.1] at hc
    cases hc
  · have := (dst_row hok hx).2.2 i o h ho
    unfold pairOk at this
    rw [hc] at this
    simp only [Bool.or_true, Bool.true_or, Bool.not_true, Bool.false_or] at this
    obtain ⟨e, he, hb, rfl⟩ := direct_mem this
    cases hq : S j with
    | false => simp; omega
    | true => rw [hD j x hq hx e he hb] at hS; cases hS

theorem dst_lt {S : Nat → Bool} (hD : Down ops S) {i : Nat} {o : Oper} (ho : ops[i]? = some o) (hS : S i = false) {j : Nat} {x : Oper} (hx : ops[j]? = some x) {t : Nat} (hd : x.dst = some t) (ht : o.dst = some t) (hq : S j = true) : j < i := by
  rcases Nat.lt_trichotomy j i with h | h | h
  · exact h
  · subst h; rw [hS] at hq; cases hq
  · have := (dst_row hok hx).2.2 i o h ho
    have hsd : sameDst o x = true := by simp [sameDst, hd, ht]
    unfold pairOk at this
    rw [hsd] at this
    simp only [Bool.or_true, Bool.not_true, Bool.false_or] at this
    obtain ⟨e, he, hb, rfl⟩ := direct_mem this
    rw [hD j x hq hx e he hb] at hS
    cases hS

end

theorem want_congr {ops : Array Oper} {o : Oper} {F F' : Fr} (h : ∀ t ∈ o.looksAt ops, F t = F' t) : want ops F o = want ops F' o := by
  unfold want
  cases hg : o.guard with
  | none => rfl
  | some p =>
    obtain ⟨j, b⟩ := p
    cases ht : (ops[j]?).bind (·.dst) with
    | none => simp [ht]
    | some t => simp only [ht]; rw [h t (by simp [Oper.looksAt, hg, ht])]

theorem ev_congr {ops : Array Oper} {o : Oper} {F F' : Fr} (h : ∀ t ∈ o.looksAt ops, F t = F' t) : ∀ x ∈ o.op.operands, F.ev x = F'.ev x := by
  intro x hx
  cases x with
  | tmp t => exact h t (List.mem_append_left _ (List.mem_filterMap.2 ⟨.tmp t, by simpa using hx, rfl⟩))
  | const v => rfl
  | global g => rfl
  | func f => rfl

theorem chain_ge {N : Nat} {ops : Array Oper} : ∀ (ss : List OS) (F : Fr) (H : Hp) (B : Nat), Chain N ops ss F H B → ∀ x ∈ ss, B ≤ x.2.B
  | [], _, _, _, _, x, hx => by cases hx
  | y :: ss, F, H, B, ⟨_, h1, _, h2, h3⟩, x, hx => by
    rcases List.mem_cons.1 hx with rfl | hx
    · exact Nat.le_of_eq h1.symm
    · have := chain_ge ss _ _ _ h3 x hx
      refine Nat.le_trans ?_ this
      split <;> omega
theorem bAll_ge {B : Nat} : ∀ (l : List OS) (B1 : Nat), B ≤ B1 → (∀ x ∈ l, B ≤ x.2.B) → B ≤ bAll l B1
  | [], _, h, _ => h
  | x :: l, B1, h, hl => by
    simp only [bAll]
    refine bAll_ge l _ ?_ (fun y hy => hl y (by simp [hy]))
    have := hl x (by simp)
    split <;> omega
theorem sel_mem {α : Type} {S : Nat → Bool} : ∀ (l : List α) (k : Nat) (x : α), x ∈ sel S k l → x ∈ l
  | [], _, x, h => h
  | y :: l, k, x, h => by
    simp only [sel] at h
    cases hq : S k with
    | false => rw [hq] at h; exact List.mem_cons_of_mem _ (sel_mem l _ x h)
    | true =>
      rw [hq] at h
      rcases List.mem_cons.1 h with rfl | h
      · simp
      · exact List.mem_cons_of_mem _ (sel_mem l _ x h)

/-- Whatever order is drawn. -/
def AnyW (N : Nat) (ops : Array Oper) (F : Fr) (H : Hp) (B : Nat) (Q : QT) : Prop :=
  ∀ (c : Ctx) (g : G) (a : Act) (w : World), StH c g H B w → RepF g w N F a → wpAny PP .any ops (Post c N Q) ops.size (Array.replicate ops.size false) a w
theorem awp_any {N : Nat} {id : Nat} {ops : Array Oper} {F : Fr} {H : Hp} {B : Nat} {Q : QT} (hm : PP.follows .mixedOrders = true) (h : AnyW N ops F H B Q) : AWP PP N (.region id ops true) F H B Q := fun c g a w hs hf =>
  wp_region_any hm (h c g a _ hs.drew (hf.mono (Le.drew g w)))

/-- **A region that draws its order.** -/
theorem any_draw {N : Nat} {ops : Array Oper} {F : Fr} {H : Hp} {B : Nat} {Q : QT} (hok : dstOk ops = true)
    (h : ALc PP N ops true ops.toList F H B [] (fun F H B' acc => chk ops B 0 acc ∧ Q .normal F H B')) : AnyW N ops F H B Q := by
  intro c g a w1 hs0 hf0
  obtain ⟨ss, hss, hch, hchk, hQ⟩ := alc_chain _ _ _ _ _ h
  simp only [List.nil_append] at hchk
  have hops : ∀ (i : Nat) (o : Oper), ops[i]? = some o → ∃ s, ss[i]? = some (o, s) := fun i o ho => by
    have : (ss.map (·.1))[i]? = some o := by rw [hss]; simpa using ho
    simp only [List.getElem?_map, Option.map_eq_some_iff] at this
    obtain ⟨⟨o', s⟩, h1, rfl⟩ := this
    exact ⟨s, h1⟩
  have hops' : ∀ (i : Nat) (o : Oper) (s : Stp), ss[i]? = some (o, s) → ops[i]? = some o := fun i o s h1 => by
    have : (ss.map (·.1))[i]? = some o := by simp [h1]
    rw [hss] at this
    simpa using this
  have hsz : ss.length = ops.size := by have := congrArg List.length hss; simpa using this
  have hinfo : ∀ (i : Nat) (x : OS), ss[i]? = some x → (ss.map infoOf)[i]? = some (infoOf x) := fun i x hx => by simp [hx]
  have key : ∀ (fuel : Nat) (listed : Array Bool) (a : Act) (w : World), Down ops (fun j => listed.getD j false) → listed.size = ops.size →
      (∃ g, StH c g (hpAll (sel (fun j => listed.getD j false) 0 ss) H) (bAll (sel (fun j => listed.getD j false) 0 ss) B) w ∧ RepF g w N (frAll (sel (fun j => listed.getD j false) 0 ss) F) a) →
      (listed.toList.filter (· == false)).length ≤ fuel → wpAny PP .any ops (Post c N Q) fuel listed a w := by
    intro fuel
    have done : ∀ (listed : Array Bool) (a : Act) (w : World), listed.size = ops.size →
        (∃ g, StH c g (hpAll (sel (fun j => listed.getD j false) 0 ss) H) (bAll (sel (fun j => listed.getD j false) 0 ss) B) w ∧ RepF g w N (frAll (sel (fun j => listed.getD j false) 0 ss) F) a) →
        (∀ j, j < ops.size → listed.getD j false = true) → Post c N Q .normal a w := by
      rintro listed a w hl ⟨g, h1, h2⟩ hall
      have e : sel (fun j => listed.getD j false) 0 ss = ss := sel_all ss 0 (fun j hj => by simpa using hall j (by omega))
      rw [e] at h1 h2
      exact ⟨g, _, _, _, hQ, h1, h2⟩
    have allL : ∀ (listed : Array Bool), Down ops (fun j => listed.getD j false) → listed.size = ops.size → Region.ready .any ops listed = [] → ∀ j, j < ops.size → listed.getD j false = true := by
      intro listed hD hl hr j
      induction j using Nat.strongRecOn with
      | _ j ih =>
        intro hj
        cases hq : listed.getD j false with
        | true => rfl
        | false =>
          exfalso
          have ho : ops[j]? = some ops[j] := by simp [hj]
          have : j ∈ Region.ready .any ops listed := mem_ready.2 ⟨by simpa [hl, hj] using hq, ops[j], ho, fun e he hb => by
            have hlt := (dst_row hok ho).1 e he hb
            exact ih e.on hlt (by omega)⟩
          rw [hr] at this
          cases this
    induction fuel with
    | zero =>
      intro listed a w hD hl hinv hcnt
      have hall : ∀ j, j < ops.size → listed.getD j false = true := fun j hj => by
        cases hq : listed.getD j false with
        | true => rfl
        | false =>
          exfalso
          have hm : false ∈ listed.toList.filter (· == false) := List.mem_filter.2 ⟨by
            have : listed[j]'(by omega) = false := by simpa [hl, hj] using hq
            rw [← this]; simp, rfl⟩
          have := List.length_pos_of_mem hm
          omega
      refine ⟨?_, done listed a w hl hinv hall⟩
      apply List.eq_nil_iff_forall_not_mem.2
      intro j hj
      obtain ⟨h0, o, ho, _⟩ := mem_ready.1 hj
      have hjl := (Array.getElem?_eq_some_iff.1 ho).1
      have := hall j hjl
      simp [hl, hjl] at h0 this
      rw [h0] at this
      cases this
    | succ fuel ih =>
      intro listed a w hD hl hinv hcnt
      refine ⟨fun hr => done listed a w hl hinv (allL listed hD hl hr), fun i hi => ?_⟩
      obtain ⟨h0, o, ho, hre⟩ := mem_ready.1 hi
      have hil := (Array.getElem?_eq_some_iff.1 ho).1
      obtain ⟨s, hsi⟩ := hops i o ho
      obtain ⟨hd, hB, hBm, hcase⟩ := chain_at ss F H B i o s hch hsi
      obtain ⟨g, hst, hfr⟩ := hinv
      have hSi : listed.getD i false = false := by simpa [hl, hil] using h0
      have hlook : ∀ t ∈ o.looksAt ops, frAll (ss.take i) F t = frAll (sel (fun j => listed.getD j false) 0 ss) F t := fun t ht => by
        rw [← sel_lt i ss 0]
        refine frAll_congr ss 0 F F rfl (fun j x hx hdx => ?_)
        have := look_iff hok hD ho hSi hre (hops' j x.1 x.2 hx) hdx ht
        simp only [Nat.zero_add]
        exact this.symm
      have conf_lt : ∀ (j : Nat) (x : OS), ss[j]? = some x → listed.getD j false = true → (Conf (infoOf (o, s)) (infoOf x)) → j < i := fun j x hx hq hc => by
        rcases Nat.lt_trichotomy j i with h | h | h
        · exact h
        · subst h; rw [hSi] at hq; cases hq
        · have := chk_at _ 0 hchk i j _ _ (hinfo i _ hsi) (hinfo j x hx) h hc
          simp only [Nat.zero_add] at this
          have := anc_down hD _ i j this (fun o' ho' e he hb => hD j o' hq ho' e he hb)
          rw [hSi] at this
          cases this
      have conf_in : ∀ (j : Nat) (x : OS), ss[j]? = some x → j < i → Conf (infoOf x) (infoOf (o, s)) → listed.getD j false = true := fun j x hx h hc => by
        have := chk_at _ 0 hchk j i _ _ (hinfo j x hx) (hinfo i _ hsi) h hc
        simp only [Nat.zero_add] at this
        refine anc_down hD _ j i this (fun o' ho' e he hb => ?_)
        rw [ho] at ho'
        cases ho'
        exact hre e he hb
      -- the next listing
      have hD' : Down ops (fun j => (listed.setIfInBounds i true).getD j false) := fun j o' hq ho' e he hb => by
        by_cases hji : i = j
        · subst hji
          rw [ho] at ho'
          cases ho'
          exact getD_set_true (hre e he hb)
        · simp only at hq ⊢
          rw [getD_set_ne false hji] at hq
          exact getD_set_true (hD j o' hq ho' e he hb)
      have hS' : ∀ j, (listed.setIfInBounds i true).getD j false = if j = i then true else listed.getD j false := fun j => by
        split
        · rename_i e; subst e; simp [hl, hil]
        · rename_i e; exact getD_set_ne false (fun q => e q.symm)
      have hcnt' : ((listed.setIfInBounds i true).toList.filter (· == false)).length ≤ fuel := by
        have : ∀ (l : List Bool) (i : Nat), l[i]? = some false → ((l.set i true).filter (· == false)).length + 1 = (l.filter (· == false)).length := by
          intro l
          induction l with
          | nil => intro i h; simp at h
          | cons b l ih2 =>
            intro i h
            cases i with
            | zero => simp only [List.getElem?_cons_zero, Option.some.injEq] at h; subst h; simp
            | succ i =>
              have := ih2 i (by simpa using h)
              cases b <;> simp [List.filter_cons] at this ⊢ <;> omega
        have h3 := this listed.toList i (by
          have : listed[i]'(by omega) = false := by simpa [hl, hil] using hSi
          rw [Array.getElem?_toList, Array.getElem?_eq_getElem (by omega), this])
        rw [Array.toList_setIfInBounds]
        omega
      have hfr' : ∀ (F' : Fr), (∀ t, F' t = ((frAll (sel (fun j => listed.getD j false) 0 ss) F).put o.dst s.v) t) → F' = frAll (sel (fun j => (listed.setIfInBounds i true).getD j false) 0 ss) F := fun F' hF' => by
        funext t
        rw [hF']
        by_cases ht : o.dst = some t
        · rw [frAll_last (i := i) (x := (o, s)) ss 0 F hsi ht (by rw [Nat.zero_add, hS', if_pos rfl]) (fun j y hy hyd hq => by
            rw [Nat.zero_add, hS'] at hq
            split at hq
            · omega
            · exact Nat.le_of_lt (dst_lt hok hD ho hSi (hops' j y.1 y.2 hy) hyd ht hq))]
          simp [ht]
        · have hput : ((frAll (sel (fun j => listed.getD j false) 0 ss) F).put o.dst s.v) t = frAll (sel (fun j => listed.getD j false) 0 ss) F t := by
            cases hdd : o.dst with
            | none => rfl
            | some d => simp only [Fr.put_some, Fr.set_app]; rw [if_neg (fun e => ht (by rw [hdd, e]))]
          rw [hput]
          refine frAll_congr ss 0 F F rfl (fun j x hx hdx => ?_)
          simp only [Nat.zero_add]
          rw [hS', if_neg]
          intro e
          subst e
          rw [hsi] at hx
          cases hx
          exact ht hdx
      have hhp' : (hpAll (sel (fun j => listed.getD j false) 0 ss) H).app s.U = hpAll (sel (fun j => (listed.setIfInBounds i true).getD j false) 0 ss) H := by
        funext q
        by_cases hq : inU q (o, s)
        · rw [hpAll_last (i := i) (x := (o, s)) ss 0 H (hpAll (sel (fun j => listed.getD j false) 0 ss) H) hsi hq (by rw [Nat.zero_add, hS', if_pos rfl]) (fun j y hy hyd hqq => by
            rw [Nat.zero_add, hS'] at hqq
            split at hqq
            · omega
            · obtain ⟨p1, hp1, e1⟩ := hq
              obtain ⟨p2, hp2, e2⟩ := hyd
              exact Nat.le_of_lt (conf_lt j y hy hqq (.inl ⟨q, by simp [infoOf]; exact ⟨_, by rw [← e1]; exact hp1⟩, .inr (by simp [infoOf]; exact ⟨_, by rw [← e2]; exact hp2⟩)⟩)))]
        · rw [app_out (fun p hp e => hq ⟨p, hp, e⟩)]
          refine hpAll_congr ss 0 H H rfl (fun j x hx hdx => ?_)
          simp only [Nat.zero_add]
          rw [hS', if_neg]
          intro e
          subst e
          rw [hsi] at hx
          cases hx
          exact hq hdx
      have hb' : (if s.B < s.B' then s.B' else bAll (sel (fun j => listed.getD j false) 0 ss) B) = bAll (sel (fun j => (listed.setIfInBounds i true).getD j false) 0 ss) B := by
        split
        · rename_i hmk
          rw [bAll_last (i := i) (x := (o, s)) ss 0 B hsi hmk (by rw [Nat.zero_add, hS', if_pos rfl]) (fun j y hy hyd hqq => by
            rw [Nat.zero_add, hS'] at hqq
            split at hqq
            · omega
            · exact Nat.le_of_lt (conf_lt j y hy hqq (.inr (.inr ⟨by simp [infoOf, hmk], by simp [infoOf, hyd]⟩))))]
        · rename_i hmk
          refine bAll_congr ss 0 B (fun j x hx hdx => ?_)
          simp only [Nat.zero_add]
          rw [hS', if_neg]
          intro e
          subst e
          rw [hsi] at hx
          cases hx
          exact hmk hdx
      have hnext : ∀ (g' : G) (w' : World) (a' : Act), StH c g' ((hpAll (sel (fun j => listed.getD j false) 0 ss) H).app s.U) (if s.B < s.B' then s.B' else bAll (sel (fun j => listed.getD j false) 0 ss) B) w' →
          RepF g' w' N ((frAll (sel (fun j => listed.getD j false) 0 ss) F).put o.dst s.v) a' → wpAny PP .any ops (Post c N Q) fuel (listed.setIfInBounds i true) a' w' := fun g' w' a' h1 h2 => by
        refine ih _ a' w' hD' (by simp [hl]) ⟨g', ?_, ?_⟩ hcnt'
        · rw [← hhp', ← hb']; exact h1
        · rw [← hfr' _ (fun t => rfl)]; exact h2
      unfold wpOp
      rw [ho]
      simp only
      rcases hcase with ⟨hw, hv, hU, hR, hB'⟩ | ⟨hw, hop, hR, hB'⟩
      · rw [want_congr hlook] at hw
        rw [if_neg (by rw [want_sound hfr hw]; simp)]
        refine hnext g w _ ?_ ?_
        · rw [hU, if_neg (by omega)]; exact hst
        · rw [hv]; exact hfr.put rep_undef (okDst_lt hd)
      · rw [want_congr hlook] at hw
        rw [if_pos (want_sound hfr hw)]
        refine .inl ?_
        have hBx : s.B < s.B' → bAll (sel (fun j => listed.getD j false) 0 ss) B = s.B := fun hmk => by
          rw [hB, ← sel_lt i ss 0]
          refine bAll_congr ss 0 B (fun j x hx hdx => ?_)
          simp only [Nat.zero_add]
          have hc1 : Conf (infoOf (o, s)) (infoOf x) := .inr (.inr ⟨by simp [infoOf, hmk], by simp [infoOf, hdx]⟩)
          have hc2 : Conf (infoOf x) (infoOf (o, s)) := .inr (.inr ⟨by simp [infoOf, hdx], by simp [infoOf, hmk]⟩)
          cases hq : listed.getD j false with
          | true => have := conf_lt j x hx hq hc1; simp [this]
          | false =>
            have : ¬ j < i := fun h => by rw [conf_in j x hx h hc2] at hq; cases hq
            simp; omega
        have hBm0 : s.Bm ≤ B := chk_bm _ 0 hchk (infoOf (o, s)) (List.mem_of_getElem? (hinfo i _ hsi))
        have hBB : B ≤ bAll (sel (fun j => listed.getD j false) 0 ss) B := bAll_ge _ _ (Nat.le_refl _) (fun x hx => chain_ge _ _ _ _ hch x (sel_mem _ _ x hx))
        refine hop c g _ _ (if s.B < s.B' then s.B' else bAll (sel (fun j => listed.getD j false) 0 ss) B) w a (fun hmk => ⟨hBx hmk, by rw [if_pos hmk]⟩) (fun e => ⟨Nat.le_trans hBm0 hBB, by rw [if_neg (by omega)]⟩) hst (fun x hx => by rw [ev_congr hlook x hx]; exact hfr.ev x) (fun p hp => ?_) _ _ ?_
        · have h1 := hR p hp
          rw [← h1, ← sel_lt i ss 0]
          refine (hpAll_congr ss 0 H H rfl (fun j x hx hdx => ?_)).symm
          simp only [Nat.zero_add]
          obtain ⟨p2, hp2, e2⟩ := hdx
          have hc1 : Conf (infoOf (o, s)) (infoOf x) := .inr (.inl ⟨p.1, by simp [infoOf]; exact ⟨_, hp⟩, by simp [infoOf]; exact ⟨_, by rw [← e2]; exact hp2⟩⟩)
          have hc2 : Conf (infoOf x) (infoOf (o, s)) := .inl ⟨p.1, by simp [infoOf]; exact ⟨_, by rw [← e2]; exact hp2⟩, .inl (by simp [infoOf]; exact ⟨_, hp⟩)⟩
          cases hq : listed.getD j false with
          | true => have := conf_lt j x hx hq hc1; simp [this]
          | false =>
            have : ¬ j < i := fun h => by rw [conf_in j x hx h hc2] at hq; cases hq
            simp; omega
        · intro g' w' cv hv hst' hle
          exact hnext g' w' _ hst' ((hfr.mono hle).put hv (okDst_lt hd))
  have hrep : ∀ k, (Array.replicate ops.size false).getD k false = false := fun k => by
    rw [Array.getD_eq_getD_getElem?, Array.getElem?_replicate]
    split <;> rfl
  refine key ops.size (Array.replicate ops.size false) a w1 (fun j o hq _ => by have h : (Array.replicate ops.size false).getD j false = true := hq; rw [hrep] at h; cases h) (by simp) ⟨g, ?_, ?_⟩ ?_
  · have e : sel (fun j => (Array.replicate ops.size false).getD j false) 0 ss = [] := by
      have : ∀ (l : List OS) (k : Nat), sel (fun j => (Array.replicate ops.size false).getD j false) k l = [] := by
        intro l
        induction l with
        | nil => intro k; rfl
        | cons x l ih => intro k; simp only [sel]; rw [hrep]; exact ih _
      exact this ss 0
    rw [e]; exact hs0
  · have e : sel (fun j => (Array.replicate ops.size false).getD j false) 0 ss = [] := by
      have : ∀ (l : List OS) (k : Nat), sel (fun j => (Array.replicate ops.size false).getD j false) k l = [] := by
        intro l
        induction l with
        | nil => intro k; rfl
        | cons x l ih => intro k; simp only [sel]; rw [hrep]; exact ih _
      exact this ss 0
    rw [e]; exact hf0
  · have := List.length_filter_le (· == false) (Array.replicate ops.size false).toList
    simpa using this

theorem awp_draw {N : Nat} {id : Nat} {ops : Array Oper} {F : Fr} {H : Hp} {B : Nat} {Q : QT} (hm : PP.follows .mixedOrders = true) (hok : dstOk ops = true)
    (h : ALc PP N ops true ops.toList F H B [] (fun F H B' acc => chk ops B 0 acc ∧ Q .normal F H B')) : AWP PP N (.region id ops true) F H B Q := awp_any hm (any_draw hok h)

end Go.Proofs.YtnaafbdgkmlnaaaGreat

/- The abstract machine: what a piece of code needs, by computation. -/
namespace Go.Proofs.YtnaafbdgkmlnaaaGreat
set_option linter.unusedVariables false
set_option linter.unusedSimpArgs false
set_option linter.unnecessarySimpa false

/-! ### An operation that changes memory -/
structure MRes where
  R : List (Nat × Blk)
  U : List (Nat × Option Blk)
  B' : Nat
  v : AV

/-- 'mu': whether what is made will be written. -/
def stepM (mu : Bool) (o : Op) (F : Fr) (H : Hp) (B : Nat) : Option MRes := match o with
  | .box t x => (tt t).bind fun y => (cellsAV y (F.ev x)).bind fun xs => some (bif mu then ⟨[], [(B, some ⟨t, y.size, [xs]⟩)], B + 1, .pe B y.size 0⟩ else ⟨[], [], B, .qe xs⟩)
  | .alloc t => (tt t).bind fun y => some ⟨[], [(B, some ⟨t, y.size, [y.zero]⟩)], B + 1, .pe B y.size 0⟩
  | .buildSlice t n ps => (tt t).bind fun y => (tt y.el).bind fun e => if y.kind = 2 ∧ ps.size = n ∧ n * e.size ≤ 1000 ∧ inOrder 0 ps.toList = true then
      (litRows e (ps.toList.map fun p => F.ev p.2)).bind fun rows => some ⟨[], [], B, if n = 0 then .nils else .sl e.size rows⟩ else none
  | .makeSlice t l c => (tt t).bind fun y => (tt y.el).bind fun e => match F.ev l, F.ev c with
    | .int _ a, .int _ b => if y.kind = 2 ∧ 0 ≤ a ∧ a = b ∧ a.toNat * e.bytes ≤ 281474976710656 ∧ a ≤ 9223372036854775807 then
        some (bif mu then ⟨[], [(B, some ⟨y.el, e.size, List.replicate a.toNat e.zero⟩)], B + 1, .ref B e.size 0 a.toNat⟩ else ⟨[], [], B, .sl e.size (List.replicate a.toNat e.zero)⟩) else none
    | _, _ => none
  | .call { callee := .builtin .append, args := args, argTypes := ats } => match args.toList, ats.toList with
    | [x, z], [t, t'] => if t = t' then (tt t).bind fun y => (tt y.el).bind fun e => if y.kind = 2 ∧ e.bytes ≠ 0 then (srcRows e.size (F.ev z) H).bind fun q => match F.ev x with
      | .nils => if q.1.length * e.bytes ≤ 140737488355328 then (bif mu then (if q.1 ≠ [] then some ⟨reads H q.2, [(B, some ⟨y.el, e.size, q.1⟩)], B + 1, .ref B e.size 0 q.1.length⟩ else some ⟨reads H q.2, [], B, .nils⟩) else some ⟨reads H q.2, [], B, .sl e.size q.1⟩) else none
      | .ref id sz 0 n => (match H id with
        | some k => if sz = e.size ∧ k.e = y.el ∧ k.sz = e.size ∧ k.rows.length = n ∧ (∀ r ∈ q.1, r.all AV.one = true) ∧ (n + q.1.length) * e.bytes ≤ 140737488355328 then
            some (bif mu then ⟨(id, k) :: reads H q.2, [(id, none), (B, some ⟨y.el, e.size, k.rows ++ q.1⟩)], B + 1, .ref B e.size 0 (n + q.1.length)⟩ else ⟨(id, k) :: reads H q.2, [(id, none)], B + 1, .sl e.size (k.rows ++ q.1)⟩) else none
        | none => none)
      | _ => none else none else none
    | _, _ => none
  | .store t p x => (tt t).bind fun y => (cellsAV y (F.ev x)).bind fun xs => match F.ev p with
    | .pe id sz i => (match H id with
      | some k => if sz = y.size ∧ k.sz = y.size ∧ i < k.rows.length then some ⟨[(id, k)], [(id, some ⟨k.e, k.sz, k.rows.set i xs⟩)], B, .any⟩ else none
      | none => none)
    | .pf id sz i q => (match H id with
      | some k => if k.sz = sz ∧ q < k.sz ∧ y.agg = false then (k.rows[i]?).bind fun r => some ⟨[(id, k)], [(id, some ⟨k.e, k.sz, k.rows.set i (r.set q (F.ev x))⟩)], B, .any⟩ else none
      | none => none)
    | _ => none
  | _ => none

/-- What is appended to is not written any more. -/
theorem opl_appF {o : Oper} {F : Fr} {R : List (Nat × Blk)} {id B e sz : Nat} {rows : List (List AV)} (h : OpL PP o F R [(id, none), (B, some ⟨e, sz, rows⟩)] 0 B (B + 1) (.ref B sz 0 rows.length)) : OpL PP o F R [(id, none)] 0 B (B + 1) (.sl sz rows) := by
  intro c g H Bx Bx' w a h1 h2 hs hx hR next Q hnext
  refine h c g H Bx Bx' w a h1 h2 hs hx hR next Q fun g' w' cv hv hst hle => ?_
  obtain ⟨rfl, rfl⟩ := h1 (by omega)
  have hn : H Bx = none := by
    cases hh : H Bx with
    | none => rfl
    | some k' =>
      obtain ⟨b, _, hm, _⟩ := hs.blk Bx _ hh
      rw [hs.free Bx (Nat.le_refl _)] at hm
      cases hm
  have hB : (H.app [(id, none), (Bx, some ⟨e, sz, rows⟩)]) Bx = some ⟨e, sz, rows⟩ := by simp
  have hF : FzH (fun i => i = Bx) (H.app [(id, none), (Bx, some ⟨e, sz, rows⟩)]) (H.app [(id, none)]) := FzH.sub fun i k' hk => by
    simp only [Hp.app_none, Hp.app_nil, Hp.del_app] at hk
    have hi : i ≠ Bx := fun q => by
      subst q
      split at hk
      · cases hk
      · rw [hn] at hk; cases hk
    refine ⟨hi, ?_⟩
    simp only [Hp.app_none, Hp.app_some, Hp.app_nil, Hp.set_app, Hp.del_app]
    rw [if_neg hi]
    exact hk
  refine hnext _ w' cv ((Fz.ref (S := fun i => i = Bx) Bx sz 0 rows.length ⟨e, sz, rows⟩ rows rfl hB rfl (by simp) rfl (fun j r r' a b => ?_) (fun j k x y a b => ?_)).rep hst.toStC cv hv) (hst.freeze hF) (hle.trans Le.fz)
  · simp only [Nat.zero_add] at a; rw [a] at b; cases b; rfl
  · simp only [Nat.zero_add] at a; rw [a] at b; cases b; exact .same _

/-- 'append(nothing, nothing...)'. -/
theorem opl_appN0 {o : Oper} {F : Fr} {H : Hp} {B : Nat} {t : TypeId} {x z : Operand} {y e : TY} {rows : List (List AV)} {rd : List Nat} (ho : o.op = .call { callee := .builtin .append, args := #[x, z], argTypes := #[t, t] })
    (hy : tt t = some y) (hk : y.kind = 2) (he : tt y.el = some e) (hx0 : F.ev x = .nils) (hz : srcRows e.size (F.ev z) H = some (rows, rd)) (hrd : ∀ id ∈ rd, ∃ k, H id = some k) (h0 : rows = []) :
    OpL PP o F (reads H rd) [] 0 B B .nils := by
  subst h0
  intro c g Hx Bx Bx' w a _ hB hs hx hR next Q hnext
  obtain ⟨hB1, rfl⟩ := hB rfl
  obtain ⟨cx, ex, hrx⟩ := evalc hx (by simp [ho, Op.operands, Call.operands]) hx0
  have hrz := hx z (by simp [ho, Op.operands, Call.operands])
  obtain ⟨A, n, cc, vals, ez, hn, hrows, hf⟩ := src_sound hz hrz hs.toStC (fun id hid => by
    obtain ⟨k, hk⟩ := hrd id hid
    rw [hk]
    exact hR (id, k) (reads_mem.2 ⟨hid, hk⟩))
  cases hrx with
  | nils A0 =>
    unfold Oper.wp
    obtain rfl : n = 0 := hn.symm
    have hv : vals = [] := List.length_eq_zero_iff.1 (by simpa using hrows.1)
    subst hv
    have hfw := hf w rfl
    rw [ez] at hfw
    obtain ⟨⟨d, i, zz, _, hi, hsize, _, _, _, _⟩⟩ := tyOk (tt_ok he)
    have hu := elOf hy hk
    have hrun : (Builtin.append_ #[t, t] o.type #[a.eval x, a.eval z]).run PP w = .ok (.slice A0 0 0) w := by
      rw [ex, ez]
      rw [← hsize] at hfw
      generalize hq2 : Builtin.firstCells i.size 0 (.slice A 0 cc) = q2 at hfw
      cases A0 <;> simp [Builtin.append_, run_underlying hu, sizeOf, typeInfo, hi, Builtin.lenOf, hq2, hfw, storeCells]
    rw [run_app_call ho hrun]
    exact hnext _ _ _ (.nils _) hs (Le.refl _ _)

theorem srcRows_rd {sz : Nat} {x : AV} {H : Hp} {q : List (List AV) × List Nat} (h : srcRows sz x H = some q) : ∀ id ∈ q.2, ∃ k, H id = some k := by
  unfold srcRows at h
  split at h
  · split at h
    · cases h; simp
    · cases h
  · cases h; simp
  · split at h
    · rename_i b hb
      split at h
      · cases h; intro id hid; simp at hid; subst hid; exact ⟨b, hb⟩
      · cases h
    · cases h
  · cases h

/-- A rule that may use that the elements have their size. -/
theorem opl_len {o : Oper} {F : Fr} {R : List (Nat × Blk)} {U : List (Nat × Option Blk)} {B B' : Nat} {v : AV} {id : Nat} {k : Blk} (hm : (id, k) ∈ R) (h : (∀ x ∈ k.rows, x.length = k.sz) → OpL PP o F R U 0 B B' v) : OpL PP o F R U 0 B B' v := by
  intro c g H Bx Bx' w a h1 h2 hs hx hR
  obtain ⟨b, cs, e1, e2⟩ := hs.blk id k (hR _ hm)
  exact h e2.len c g H Bx Bx' w a h1 h2 hs hx hR

theorem stepM_sound {mu : Bool} {o : Oper} {F : Fr} {H : Hp} {B : Nat} {m : MRes} (h : stepM mu o.op F H B = some m) :
    OpL PP o F m.R m.U 0 B m.B' m.v ∧ (∀ p ∈ m.R, H p.1 = some p.2) ∧ B ≤ m.B' ∧ (∀ p ∈ m.U, (∃ k, (p.1, k) ∈ m.R) ∨ (B ≤ p.1 ∧ p.1 < m.B')) := by
  unfold stepM at h
  split at h
  · rename_i t x ho
    simp only [Option.bind_eq_some_iff] at h
    obtain ⟨y, hy, xs, hc, h⟩ := h
    cases mu <;> simp only [cond_true, cond_false, Option.some.injEq] at h <;> subst h
    · exact ⟨opl_boxI ho hy hc, by simp, Nat.le_refl _, by simp⟩
    · exact ⟨opl_boxM ho hy hc, by simp, Nat.le_succ _, by simp⟩
  · rename_i t ho
    simp only [Option.bind_eq_some_iff] at h
    obtain ⟨y, hy, h⟩ := h
    simp only [Option.some.injEq] at h
    subst h
    exact ⟨opl_allocM ho hy, by simp, Nat.le_succ _, by simp⟩
  · rename_i t n ps ho
    simp only [Option.bind_eq_some_iff] at h
    obtain ⟨y, hy, e, he, h⟩ := h
    split at h
    · rename_i hc
      obtain ⟨h1, h2, h3, h4⟩ := hc
      simp only [Option.bind_eq_some_iff] at h
      obtain ⟨rows, hr, h⟩ := h
      simp only [Option.some.injEq] at h
      subst h
      exact ⟨opl_buildI ho hy h1 he h2 h3 h4 hr rfl, by simp, Nat.le_refl _, by simp⟩
    · cases h
  · rename_i t l c ho
    simp only [Option.bind_eq_some_iff] at h
    obtain ⟨y, hy, e, he, h⟩ := h
    split at h
    · rename_i k1 a k2 b hl hc
      split at h
      · rename_i hh
        obtain ⟨h1, h2, h3, h4, h5⟩ := hh
        subst h3
        have ha : a = (a.toNat : Int) := by omega
        rw [ha] at hl hc
        cases mu <;> simp only [cond_true, cond_false, Option.some.injEq] at h <;> subst h
        · exact ⟨opl_makeI ho hy h1 he hl hc h4 (by omega), by simp, Nat.le_refl _, by simp⟩
        · exact ⟨opl_makeM ho hy h1 he hl hc h4 (by omega), by simp, Nat.le_succ _, by simp⟩
      · cases h
    · cases h
  · rename_i args ats ho
    split at h
    · rename_i x z t t' ha hat
      split at h
      · rename_i htt
        subst htt
        have ho' : o.op = .call { callee := .builtin .append, args := #[x, z], argTypes := #[t, t] } := by
          have e1 : args = #[x, z] := by rw [← Array.toArray_toList (xs := args), ha]
          have e2 : ats = #[t, t] := by rw [← Array.toArray_toList (xs := ats), hat]
          rw [ho, e1, e2]
        simp only [Option.bind_eq_some_iff] at h
        obtain ⟨y, hy, e, he, h⟩ := h
        split at h
        · rename_i hk
          obtain ⟨hk, hb0⟩ := hk
          simp only [Option.bind_eq_some_iff] at h
          obtain ⟨q, hq, h⟩ := h
          have hrd := srcRows_rd hq
          have hreads : ∀ p ∈ reads H q.2, H p.1 = some p.2 := fun p hp => (reads_mem.1 hp).2
          split at h
          · rename_i hx0
            split at h
            · rename_i hb
              cases mu <;> simp only [cond_true, cond_false] at h
              · simp only [Option.some.injEq] at h
                subst h
                exact ⟨opl_appI ho' hy hk he hx0 hq hrd hb hb0, hreads, Nat.le_refl _, by simp⟩
              · split at h
                · rename_i hne
                  simp only [Option.some.injEq] at h
                  subst h
                  exact ⟨opl_appN ho' hy hk he hx0 hq hrd hb hb0 hne, hreads, Nat.le_succ _, by simp⟩
                · rename_i hne
                  have hq0 : q.1 = [] := Classical.byContradiction hne
                  simp only [Option.some.injEq] at h
                  subst h
                  exact ⟨opl_appN0 ho' hy hk he hx0 hq hrd hq0, hreads, Nat.le_refl _, by simp⟩
            · cases h
          · rename_i id sz n hx0
            split at h
            · rename_i k hid
              split at h
              · rename_i hc
                obtain ⟨rfl, h2, h3, h4, h5, h6⟩ := hc
                have hR := opl_appR (B := B) ho' hy hk he hx0 hid h2 h3 h4 hq hrd h5 h6 hb0
                cases mu <;> simp only [cond_true, cond_false, Option.some.injEq] at h <;> subst h
                · refine ⟨opl_appF (by rw [List.length_append, h4]; exact hR), ?_, Nat.le_succ _, ?_⟩
                  · intro p hp
                    rcases List.mem_cons.1 hp with rfl | hp
                    · exact hid
                    · exact hreads p hp
                  · intro p hp
                    simp at hp
                    subst hp
                    exact .inl ⟨k, by simp⟩
                refine ⟨hR, ?_, Nat.le_succ _, ?_⟩
                · intro p hp
                  rcases List.mem_cons.1 hp with rfl | hp
                  · exact hid
                  · exact hreads p hp
                · intro p hp
                  simp at hp
                  rcases hp with rfl | rfl
                  · exact .inl ⟨k, by simp⟩
                  · exact .inr ⟨Nat.le_refl _, Nat.lt_succ_self _⟩
              · cases h
            · cases h
          · cases h
        · cases h
      · cases h
    · cases h
  · rename_i t p x ho
    simp only [Option.bind_eq_some_iff] at h
    obtain ⟨y, hy, xs, hc, h⟩ := h
    split at h
    · rename_i id sz i hp
      split at h
      · rename_i k hid
        split at h
        · rename_i hh
          obtain ⟨rfl, h2, h3⟩ := hh
          simp only [Option.some.injEq] at h
          subst h
          exact ⟨opl_len (id := id) (k := k) (by simp) fun hl => opl_storeE ho hy hp hc hid h2 h3 hl, by simp [hid], Nat.le_refl _, by simp⟩
        · cases h
      · cases h
    · rename_i id sz i q hp
      split at h
      · rename_i k hid
        split at h
        · rename_i hh
          obtain ⟨h2, h3, h4⟩ := hh
          have hxs : xs = [F.ev x] := by
            unfold cellsAV at hc
            rw [h4] at hc
            simp only [Bool.false_eq_true, if_false] at hc
            split at hc
            · cases hc; rfl
            · cases hc
          subst hxs
          simp only [Option.bind_eq_some_iff] at h
          obtain ⟨r, hr, h⟩ := h
          simp only [Option.some.injEq] at h
          subst h
          exact ⟨opl_len (id := id) (k := k) (by simp) fun hl => opl_storeF ho hy hp hc hid h2 hr h3 hl, by simp [hid], Nat.le_refl _, by simp⟩
        · cases h
      · cases h
    · cases h
  · cases h

end Go.Proofs.YtnaafbdgkmlnaaaGreat
