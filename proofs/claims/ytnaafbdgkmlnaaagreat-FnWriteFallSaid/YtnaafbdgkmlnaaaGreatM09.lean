/- Laws about the machine's run of the program's functions, part 9, in import order. No condition. -/
import Derived.Laws.StructEq
import Derived.Laws.BytesArg
import Derived.Test.YtnaafbdgkmlnaaaGreatM06
import Derived.Test.YtnaafbdgkmlnaaaGreatM08

set_option linter.unusedVariables false
set_option linter.unusedSimpArgs false
set_option linter.unnecessarySimpa false
/- The abstract machine: calls that give out names: names turned, calls told of. -/
namespace Go.Proofs.YtnaafbdgkmlnaaaGreat
set_option linter.unusedVariables false
set_option linter.unusedSimpArgs false

/-! ### Names turned: what is called ids is called B, B + 1, .. now -/
def nmOf (B : Nat) (ids : List Nat) (a i : Nat) : Prop := (a = i ∧ i < B) ∨ ∃ j, ids[j]? = some a ∧ i = B + j
inductive Ren (B : Nat) (ids : List Nat) : AV → AV → Prop
  | same (x : AV) : AV.lt B x → Ren B ids x x
  | ref (a i sz off n : Nat) : nmOf B ids a i → Ren B ids (.ref a sz off n) (.ref i sz off n)
  | agg (xs ys : List AV) : ys.length = xs.length → (∀ (k : Nat) (x y : AV), xs[k]? = some x → ys[k]? = some y → Ren B ids x y) → Ren B ids (.agg xs) (.agg ys)
  | tup (xs ys : List AV) : ys.length = xs.length → (∀ (k : Nat) (x y : AV), xs[k]? = some x → ys[k]? = some y → Ren B ids x y) → Ren B ids (.tup xs) (.tup ys)
def G.ren (g : G) (B : Nat) (ids : List Nat) : G := ⟨fun i => if i < B then g.m i else (ids[i - B]?).bind g.m, g.I⟩

theorem ren_m {g : G} {B : Nat} {ids : List Nat} {a i : Nat} (h : nmOf B ids a i) : (g.ren B ids).m i = g.m a := by
  rcases h with ⟨rfl, h⟩ | ⟨j, hj, rfl⟩
  · simp [G.ren, h]
  · simp only [G.ren]; rw [if_neg (by omega), show B + j - B = j by omega, hj]; rfl
theorem ren_inv {g : G} {B : Nat} {ids : List Nat} {i b : Nat} (h : (g.ren B ids).m i = some b) : ∃ a, nmOf B ids a i ∧ g.m a = some b := by
  simp only [G.ren] at h
  split at h
  · rename_i hi; exact ⟨i, .inl ⟨rfl, hi⟩, h⟩
  · rename_i hi
    cases hj : ids[i - B]? with
    | none => rw [hj] at h; cases h
    | some a => rw [hj] at h; exact ⟨a, .inr ⟨i - B, hj, by omega⟩, h⟩
theorem nm_inj {B : Nat} {ids : List Nat} (hn : ids.Nodup) (hB : ∀ a ∈ ids, B ≤ a) {a i i' : Nat} (h : nmOf B ids a i) (h' : nmOf B ids a i') : i = i' := by
  rcases h with ⟨rfl, h⟩ | ⟨j, hj, rfl⟩ <;> rcases h' with ⟨rfl, h'⟩ | ⟨j', hj', rfl⟩
  · rfl
  · have := hB _ (List.mem_of_getElem? hj'); omega
  · have := hB _ (List.mem_of_getElem? hj); omega
  · obtain ⟨h1, e1⟩ := List.getElem?_eq_some_iff.1 hj
    obtain ⟨h2, e2⟩ := List.getElem?_eq_some_iff.1 hj'
    have hp := List.pairwise_iff_getElem.1 hn
    rcases Nat.lt_trichotomy j j' with q | q | q
    · exact absurd (e1.trans e2.symm) (hp j j' h1 h2 q)
    · rw [q]
    · exact absurd (e2.trans e1.symm) (hp j' j h2 h1 q)

theorem Ren.rep {g : G} {w : World} {B : Nat} {ids : List Nat} {x y : AV} (h : Ren B ids x y) : ∀ v, RepV g w x v → RepV (g.ren B ids) w y v := by
  induction h with
  | same x hx =>
    intro v hv
    have hle : Le (g.below B) w (g.ren B ids) w := ⟨fun id b e => (by
      simp only [G.below] at e
      split at e
      · rename_i hi; simp [G.ren, hi, e]
      · cases e), fun b e => e, fun _ _ => rfl, fun _ cs _ fz h => ⟨cs, fz, h, rfl⟩⟩
    exact (hv.cut (Nat.le_refl _) hx).mono hle
  | ref a i sz off n hn =>
    intro v hv
    cases hv with
    | ref _ _ _ _ b c cs e fz h1 h2 h3 h4 => exact .ref _ _ _ _ b c cs e fz (by rw [ren_m hn]; exact h1) h2 h3 h4
  | agg xs ys hl hx ih =>
    intro v hv
    cases hv with
    | agg _ vs hl' h' =>
      refine .agg ys vs (by omega) fun k y v hy hv => ?_
      obtain ⟨x, hx'⟩ := at_of hl hy
      exact ih k x y hx' hy v (h' k x v hx' hv)
  | tup xs ys hl hx ih =>
    intro v hv
    cases hv with
    | tup _ vs hl' h' =>
      refine .tup ys vs (by omega) fun k y v hy hv => ?_
      obtain ⟨x, hx'⟩ := at_of hl hy
      exact ih k x y hx' hy v (h' k x v hx' hv)

def RenH (B : Nat) (ids : List Nat) (H H' : Hp) : Prop := ∀ i k', H' i = some k' → ∃ a k, nmOf B ids a i ∧ H a = some k ∧ k'.e = k.e ∧ k'.sz = k.sz ∧ k'.rows.length = k.rows.length ∧
  (∀ (j : Nat) (r r' : List AV), k.rows[j]? = some r → k'.rows[j]? = some r' → r'.length = r.length) ∧
  ∀ (i j : Nat) (x y : AV), at2 k.rows i j = some x → at2 k'.rows i j = some y → Ren B ids x y

theorem StH.turn {c : Ctx} {g : G} {H H' : Hp} {B B' : Nat} {w : World} {ids : List Nat} (h : StH c g H B' w) (hB : c.B0 = B) (h0 : ∀ id, B ≤ id → c.g0.m id = none) (hn : ids.Nodup) (hi : ∀ a ∈ ids, B ≤ a) (hH : RenH B ids H H') :
    StH c (g.ren B ids) H' (B + ids.length) w where
  blk := fun i k' hk => by
    obtain ⟨a, k, ha, h1, he, hsz, hlen, hrl, hx⟩ := hH i k' hk
    obtain ⟨b, cs, hm, hb⟩ := h.blk a k h1
    refine ⟨b, cs, by rw [ren_m ha]; exact hm, hb.free, by rw [he]; exact hb.heap, by rw [hlen, hsz]; exact hb.size, ?_, ?_⟩
    · intro r hr
      obtain ⟨j, hj, rfl⟩ := List.mem_iff_getElem.1 hr
      have hk : j < k.rows.length := by omega
      rw [hrl j _ _ (List.getElem?_eq_getElem hk) (List.getElem?_eq_getElem hj), hb.len _ (List.getElem_mem hk), hsz]
    · intro i j y hy
      obtain ⟨r', hr', hy'⟩ := at2_row hy
      have hi := (List.getElem?_eq_some_iff.1 hr').1
      have hk : i < k.rows.length := by omega
      have hl := hrl i _ r' (List.getElem?_eq_getElem hk) hr'
      obtain ⟨x, hx'⟩ := at_of hl hy'
      have ha : at2 k.rows i j = some x := by simp [at2, List.getElem?_eq_getElem hk, hx']
      obtain ⟨v, hv, hr⟩ := hb.rep i j x ha
      exact ⟨v, by rw [hsz]; exact hv, (hx i j x y ha hy).rep v hr⟩
  inj := fun i i' k k' b e e' m m' => by
    obtain ⟨a, k1, ha, h1, _⟩ := hH i k e
    obtain ⟨a', k2, ha', h2, _⟩ := hH i' k' e'
    rw [ren_m ha] at m
    rw [ren_m ha'] at m'
    obtain rfl := h.inj a a' k1 k2 b h1 h2 m m'
    exact nm_inj hn hi ha ha'
  free := fun i hid => by
    simp only [G.ren]
    rw [if_neg (by omega), List.getElem?_eq_none (by omega)]
    rfl
  inI := h.inI
  os := h.os
  tape := h.tape
  output := h.output
  size := h.size
  same := h.same
  sizes := h.sizes
  own := fun i k b e m => by
    obtain ⟨a, k1, ha, h1, _⟩ := hH i k e
    rw [ren_m ha] at m
    exact h.own a k1 b h1 m
  ids := fun i k e => by
    obtain ⟨a, k1, ha, h1, _⟩ := hH i k e
    rcases ha with ⟨rfl, ha⟩ | ⟨j, hj, rfl⟩
    · exact h.ids a k1 h1
    · exact .inr (by omega)
  I0 := h.I0
  I1 := h.I1
  m0 := fun i b m => by
    have hlt : i < B := by
      rcases Nat.lt_or_ge i B with q | q
      · exact q
      · rw [h0 i q] at m; cases m
    simp only [G.ren]
    rw [if_pos hlt]
    exact h.m0 i b m
  m1 := fun i hid => by
    simp only [G.ren]
    rw [if_pos (by omega)]
    exact h.m1 i hid
  bound := by omega

theorem ACalls.rename {P : Program} {f : FuncId} {args : List AV} {H : Hp} {B : Nat} {Q Q' : AV → Hp → Nat → Prop} (h : ACalls P f args H B Q)
    (hq : ∀ v H1 B1, Q v H1 B1 → ∃ ids v' H2, List.Nodup ids ∧ (∀ a ∈ ids, B ≤ a) ∧ Ren B ids v v' ∧ RenH B ids H1 H2 ∧ Q' v' H2 (B + ids.length)) : ACalls P f args H B Q' := by
  intro g w vs hs hv
  refine Calls.mono (h g w vs hs hv) fun e w' ⟨cv, v, g', H', B', e1, q, r, s⟩ => ?_
  obtain ⟨ids, v', H2, h1, h2, h3, h4, h5⟩ := hq v H' B' q
  exact ⟨cv, v', g'.ren B ids, H2, _, e1, h5, h3.rep cv r, s.turn rfl hs.free h1 h2 h4⟩

/-! ### Calls that give out names -/
structure ToldN (f : FuncId) (args : List AV) (hs us : List (Nat × Blk)) (B : Nat) (v : AV) (new : List Blk) : Prop where
  call : ACalls PP f args (Hp.of hs) B (fun v' H' B' => v' = v ∧ B' = B + new.length ∧ (∀ p ∈ us, H' p.1 = some p.2) ∧ ∀ (j : Nat) (k : Blk), new[j]? = some k → H' (B + j) = some k)
  keys : ∀ p ∈ us, ∃ k, (p.1, k) ∈ hs
  nd : ∀ p ∈ hs, Hp.of hs p.1 = some p.2
  all : ∀ p ∈ hs, ∃ k, (p.1, k) ∈ us
  pos : 0 < new.length

def newU : Nat → List Blk → List (Nat × Option Blk)
  | _, [] => []
  | b, k :: l => (b, some k) :: newU (b + 1) l
theorem newU_mem : ∀ {l : List Blk} {b : Nat} {p : Nat × Option Blk}, p ∈ newU b l → ∃ j k, l[j]? = some k ∧ p = (b + j, some k)
  | [], _, _, h => by cases h
  | k :: l, b, p, h => by
    rcases List.mem_cons.1 h with rfl | h
    · exact ⟨0, k, rfl, rfl⟩
    · obtain ⟨j, k', h1, rfl⟩ := newU_mem h
      exact ⟨j + 1, k', h1, by simp; omega⟩
theorem newU_app : ∀ {l : List Blk} {b : Nat} {H : Hp} {id : Nat} {k : Blk}, H.app (newU b l) id = some k → (∃ j, l[j]? = some k ∧ id = b + j) ∨ ((∀ j, j < l.length → id ≠ b + j) ∧ H id = some k)
  | [], b, H, id, k, h => .inr ⟨by simp, h⟩
  | k0 :: l, b, H, id, k, h => by
    simp only [newU, Hp.app_some] at h
    rcases newU_app h with ⟨j, h1, rfl⟩ | ⟨h1, h2⟩
    · exact .inl ⟨j + 1, h1, by omega⟩
    · simp only [Hp.set_app] at h2
      split at h2
      · rename_i e; subst e; cases h2; exact .inl ⟨0, rfl, rfl⟩
      · rename_i e
        refine .inr ⟨fun j hj => ?_, h2⟩
        cases j with
        | zero => exact e
        | succ j => have := h1 j (by simpa using hj); omega
theorem Hp.app_append (H : Hp) (U V : List (Nat × Option Blk)) : H.app (U ++ V) = (H.app U).app V := by simp [Hp.app, List.foldl_append]

theorem opl_callN {o : Oper} {F : Fr} {B : Nat} {f : FuncId} {args : List AV} {v : AV} {hs us : List (Nat × Blk)} {new : List Blk} (hco : CallOf PP o F f args) (ht : ToldN f args hs us B v new) :
    OpL PP o F hs (upds us ++ newU B new) 0 B (B + new.length) v := by
  intro c g H Bx Bx' w a hBB _ hst hx hR next Q hnext
  obtain ⟨rfl, rfl⟩ := hBB (by have := ht.pos; omega)
  obtain ⟨vs, hrun, hvs⟩ := hco g w a hx
  have hsub : ∀ id k, Hp.of hs id = some k → H id = some k := fun id k h => hR (id, k) (Hp.of_mem h)
  unfold Oper.wp
  rw [hrun]
  refine Calls.mono (ht.call g w vs (hst.drop hsub).toStC hvs) ?_
  rintro e w' ⟨cv, v', g', H', B', rfl, ⟨rfl, rfl, hq, hnew⟩, hv', hs'⟩
  obtain ⟨h1, hle⟩ := call_step hst hsub hs'
  have hid : ∀ id k, H id = some k → id < Bx := fun id k h => by
    rcases Nat.lt_or_ge id Bx with q | q
    · exact q
    · obtain ⟨b, cs, e1, e2⟩ := hst.blk id k h
      rw [hst.free id q] at e1
      cases e1
  refine hnext g' w' cv hv' (h1.drop fun id k h => ?_) hle
  rw [Hp.app_append] at h
  have hof : ∀ j, Hp.of hs (Bx + j) = none := fun j => by
    cases hz : Hp.of hs (Bx + j) with
    | none => rfl
    | some k1 => exact absurd (hid _ _ (hsub _ _ hz)) (by omega)
  rcases newU_app h with ⟨j, hj, rfl⟩ | ⟨hne, h⟩
  · unfold Hp.after
    rw [hof j, hnew j k hj]
  · rcases Hp.app_upds h with h | ⟨h, h2⟩
    · obtain ⟨k0, hk0⟩ := ht.keys _ h
      have e1 := ht.nd _ hk0
      have e2 := hq _ h
      simp only at e1 e2
      unfold Hp.after
      rw [e1]
      exact e2
    · have hn : Hp.of hs id = none := by
        cases hz : Hp.of hs id with
        | none => rfl
        | some k1 =>
          obtain ⟨k2, hk2⟩ := ht.all _ (Hp.of_mem hz)
          exact absurd rfl (h _ hk2)
      have hn' : H' id = none := by
        cases hz : H' id with
        | none => rfl
        | some k1 =>
          rcases hs'.ids id k1 hz with ⟨k2, q⟩ | q
          · have : Hp.of hs id = some k2 := q
            rw [hn] at this
            cases this
          · have h3 : Bx ≤ id := q
            have := hid id k h2
            omega
      unfold Hp.after
      rw [hn]
      simp only [hn']
      exact h2

end Go.Proofs.YtnaafbdgkmlnaaaGreat

/- The abstract machine: texts, and records that are compared. -/
namespace Go.Proofs.YtnaafbdgkmlnaaaGreat
set_option linter.unusedVariables false
set_option linter.unusedSimpArgs false

def decR1 : List AV → Option R
  | [.int .i64 a, .int .i64 b, .int .i64 c, .int .i64 d, .int .i64 e, .int .i64 f, .int .i64 g, .int .i64 h] => some ⟨a, b, c, d, e, f, g, h⟩
  | _ => none
theorem decR1_inv {x : List AV} {r : R} (h : decR1 x = some r) : x = encR r := by
  unfold decR1 at h
  split at h
  · cases h; rfl
  · cases h

def xBin (op : BinOp) (t : TypeId) (x y : AV) : Option AV := match op, x, y with
  | .add, .str a, .str b => if t = 9 ∧ a.size + b.size ≤ 1000 then some (.str (a ++ b)) else none
  | .eql, .str a, .str b => if t = 9 then some (.bool (a.toList == b.toList)) else none
  | .neq, .agg xs, .agg ys => if t = 71 then (decR1 xs).bind fun r => (decR1 ys).bind fun s => some (.bool (!decide (r = s))) else none
  | _, _, _ => none
def byteStr (k : Int) : ByteArray := ⟨#[UInt8.ofNat k.toNat]⟩
def xOp (o : Op) (F : Fr) : Option AV := match o with
  | .binOp op t x y _ => xBin op t (F.ev x) (F.ev y)
  | .convert s t x => if s = 22 ∧ t = 9 then (match F.ev x with | .sl 1 [[.int .u8 k]] => some (.str (byteStr k)) | _ => none) else none
  | _ => none

theorem opl_run {o : Oper} {F : Fr} {B : Nat} {v : AV} (h : ∀ g w (a : Act), (∀ x ∈ o.op.operands, RepV g w (F.ev x) (a.eval x)) → ∃ cv, (execOp a.eval o).run PP w = .ok (.value cv) w ∧ RepV g w v cv) : OpL PP o F [] [] 0 B B v := by
  intro c g H Bx Bx' w a _ hBB hst hx hR next Q hnext
  obtain ⟨_, rfl⟩ := hBB rfl
  obtain ⟨cv, h1, h2⟩ := h g w a hx
  unfold Oper.wp
  rw [h1]
  exact hnext g w cv h2 hst (Le.refl _ _)

theorem rec_cells {g : G} {w : World} {r : R} {cv : Value} (h : RepV g w (.agg (encR r)) cv) : cv = .agg #[.int .i64 r.kind, .int .i64 r.tx, .int .i64 r.page, .int .i64 r.slot, .int .i64 r.old, .int .i64 r.new, .int .i64 r.prev, .int .i64 r.next] := by
  cases h with
  | agg _ vs hl hv =>
    obtain ⟨l⟩ := vs
    have h8 : l.length = 8 := by simpa [encR] using hl.symm
    match l, h8 with
    | [a, b, c, d, e, f, p, q], _ =>
      have k0 := hv 0 _ _ rfl rfl; have k1 := hv 1 _ _ rfl rfl; have k2 := hv 2 _ _ rfl rfl; have k3 := hv 3 _ _ rfl rfl
      have k4 := hv 4 _ _ rfl rfl; have k5 := hv 5 _ _ rfl rfl; have k6 := hv 6 _ _ rfl rfl; have k7 := hv 7 _ _ rfl rfl
      cases k0; cases k1; cases k2; cases k3; cases k4; cases k5; cases k6; cases k7
      rfl

theorem run_neq_rec (r s : R) (ox oy : Operand) (w : World) :
    (do eqGuard .neq 71 ox oy (.agg #[.int .i64 r.kind, .int .i64 r.tx, .int .i64 r.page, .int .i64 r.slot, .int .i64 r.old, .int .i64 r.new, .int .i64 r.prev, .int .i64 r.next]) (.agg #[.int .i64 s.kind, .int .i64 s.tx, .int .i64 s.page, .int .i64 s.slot, .int .i64 s.old, .int .i64 s.new, .int .i64 s.prev, .int .i64 s.next]); binOp .neq 71 (.agg #[.int .i64 r.kind, .int .i64 r.tx, .int .i64 r.page, .int .i64 r.slot, .int .i64 r.old, .int .i64 r.new, .int .i64 r.prev, .int .i64 r.next]) (.agg #[.int .i64 s.kind, .int .i64 s.tx, .int .i64 s.page, .int .i64 s.slot, .int .i64 s.old, .int .i64 s.new, .int .i64 s.prev, .int .i64 s.next]) : Sem Value).run PP w = .ok (.bool (!decide (r = s))) w := by
  have hm : PP.eqGuardType PP.depth 71 = false := by kernel_rfl
  have hS : PP.underlying 71 = some (.struct (PP.fieldsOf 71)) := by kernel_rfl
  have hp : PP.stoodInHeld 71 = false := by kernel_rfl
  have u3 : PP.underlying 3 = some (.int .i64) := by kernel_rfl
  have a3 : ∀ w, (isAgg 3).run PP w = .ok false w := agg_of (t := 3) (y := tInt) rfl
  have z3 : ∀ w, (sizeOf 3).run PP w = .ok 1 w := sz_of (t := 3) (y := tInt) rfl
  rw [Sem.run_bind, run_eqGuard_agg w _ _ _ _ _ _ hm, Result.andThen_ok, run_neq_struct, show (10000 : Nat) = 9999 + 1 from rfl, run_equalIn_agg w 9999 71 _ _ hS hp]
  obtain ⟨r0, r1, r2, r3, r4, r5, r6, r7⟩ := r
  obtain ⟨s0, s1, s2, s3, s4, s5, s6, s7⟩ := s
  have e71 : PP.underlying 71 = _ := Tryz.underlying71
  simp only [Program.fieldsOf, e71]
  clear e71 hS hp hm
  go_simp
  by_cases h0 : r0 = s0
  case neg => simp [h0]
  by_cases h1 : r1 = s1
  case neg => simp [h0, h1]
  by_cases h2 : r2 = s2
  case neg => simp [h0, h1, h2]
  by_cases h3 : r3 = s3
  case neg => simp [h0, h1, h2, h3]
  by_cases h4 : r4 = s4
  case neg => simp [h0, h1, h2, h3, h4]
  by_cases h5 : r5 = s5
  case neg => simp [h0, h1, h2, h3, h4, h5]
  by_cases h6 : r6 = s6
  case neg => simp [h0, h1, h2, h3, h4, h5, h6]
  by_cases h7 : r7 = s7
  case neg => simp [h0, h1, h2, h3, h4, h5, h6, h7]
  simp [h0, h1, h2, h3, h4, h5, h6, h7]

theorem xOp_run {o : Oper} {F : Fr} {v : AV} (h : xOp o.op F = some v) (g : G) (w : World) (a : Act) (hx : ∀ x ∈ o.op.operands, RepV g w (F.ev x) (a.eval x)) : ∃ cv, (execOp a.eval o).run PP w = .ok (.value cv) w ∧ RepV g w v cv := by
  obtain ⟨dst, op, ty, pos, aft, gd⟩ := o
  simp only at h hx
  cases op <;> simp only [xOp] at h <;> try (cases h; done)
  case binOp op t x y t' =>
    have h1 := hx x (by simp [Op.operands])
    have h2 := hx y (by simp [Op.operands])
    generalize hcx : a.eval x = cx at h1
    generalize hcy : a.eval y = cy at h2
    unfold xBin at h
    split at h
    · rename_i sa sb hxa hyb
      rw [hxa] at h1; rw [hyb] at h2
      cases h1; cases h2
      split at h
      · rename_i hc
        obtain ⟨rfl, hs⟩ := hc
        cases h
        have hg : eqGuard .add 9 x y (.string sa) (.string sb) = pure () := rfl
        have hb : binOp .add 9 (.string sa) (.string sb) = Op.stringOp .add sa sb := rfl
        have hi : ¬ (((sa.size + sb.size : Nat) : Int) > IntKind.i64.max) := by simp [IntKind.max, IntKind.bits]; omega
        refine ⟨.string (sa ++ sb), ?_, .str _⟩
        simp only [execOp, hcx, hcy, hg, hb, Op.stringOp, if_neg hi, Sem.run_bind, Sem.run_pure, Result.andThen_ok]
      · cases h
    · rename_i sa sb hxa hyb
      rw [hxa] at h1; rw [hyb] at h2
      cases h1; cases h2
      split at h
      · rename_i hc
        subst hc
        cases h
        have hg : eqGuard .eql 9 x y (.string sa) (.string sb) = pure () := rfl
        have hb : binOp .eql 9 (.string sa) (.string sb) = Op.stringOp .eql sa sb := rfl
        refine ⟨.bool (sa.toList == sb.toList), ?_, .bool _⟩
        simp only [execOp, hcx, hcy, hg, hb, Op.stringOp, Sem.run_bind, Sem.run_pure, Result.andThen_ok]
      · cases h
    · rename_i xs ys hxa hyb
      rw [hxa] at h1; rw [hyb] at h2
      split at h
      · rename_i hc
        subst hc
        simp only [Option.bind_eq_some_iff] at h
        obtain ⟨r, hr, s, hs, h⟩ := h
        cases h
        rw [decR1_inv hr] at h1; rw [decR1_inv hs] at h2
        have e1 := rec_cells h1
        have e2 := rec_cells h2
        refine ⟨_, ?_, .bool _⟩
        have := run_neq_rec r s x y w
        simp only [execOp, hcx, hcy, e1, e2]
        rw [Sem.run_bind, this]
        rfl
      · cases h
    · cases h
  case convert s t x =>
    have h1 := hx x (by simp [Op.operands])
    generalize hcx : a.eval x = cx at h1
    split at h
    · rename_i hc
      obtain ⟨rfl, rfl⟩ := hc
      split at h
      · rename_i k hv
        cases h
        rw [hv] at h1
        have hs : PP.underlying 22 = some (.slice 5) := by kernel_rfl
        have he : PP.underlying 5 = some (.int .u8) := by kernel_rfl
        have hd : PP.underlying 9 = some .string := by kernel_rfl
        cases h1 with
        | sl _ _ b o n c vs hn hb hc hs' hv1 hv2 =>
          simp only [List.length_cons, List.length_nil, Nat.zero_add] at hn
          subst hn
          have g1 := hv1 0 0 _ rfl
          have g2 := hv2 0 0 _ rfl
          generalize vs 0 0 = u at g1 g2
          cases g2
          have hcell : ∀ i, i < 1 → w.cell? ⟨b, o + i, none⟩ = some (.int .u8 ([k].getD i 0)) := fun i hi => by
            obtain rfl : i = 0 := by omega
            simpa using g1
          have hr := run_convert_bytes_arg (P := PP) w 22 5 hs he b o 1 c [k] rfl hcell 9 hd
          refine ⟨.string (byteStr k), ?_, .str _⟩
          simp only [execOp, hcx, Sem.run_bind, hr]
          rfl
      · cases h
    · cases h

end Go.Proofs.YtnaafbdgkmlnaaaGreat
