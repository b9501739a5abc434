/- Laws about the machine's run of the program's functions, part 21, in import order. No condition. -/
import Derived.Ground.NamesProg
import Derived.Ground.Names2Prog
import Derived.Test.YtnaafbdgkmlnaaaGreatProg
import Derived.Shelf.Lay
import Derived.Shelf.Sort.Plain
import Derived.Shelf.Slices.CompactI
import Derived.Shelf.Slices.In.SortNone
import Derived.Lib.RowBridge
import Derived.Test.YtnaafbdgkmlnaaaGreatM12
import Derived.Test.YtnaafbdgkmlnaaaGreatM19
import Derived.Test.YtnaafbdgkmlnaaaGreatM20

set_option linter.unusedVariables false
set_option linter.unusedSimpArgs false
set_option linter.unnecessarySimpa false
/- Functions: the program's lastOf (a range over a function). -/
namespace Go.Proofs.YtnaafbdgkmlnaaaGreat
set_option linter.unusedVariables false
set_option linter.unusedSimpArgs false
open Go.RowKit Go.Shelf
attribute [local go_sem] Oper.semAt_some

/-- It is a record that turned the page. -/
def Hit (page : Int) (r : R) : Prop := r.page = page ∧ (Changes r.kind ∨ r.kind = 3)
instance (page : Int) (r : R) : Decidable (Hit page r) := inferInstanceAs (Decidable (_ ∧ _))

theorem lastPB_skip {L : List R} {page : Int} {m : Nat} : ∀ n, m ≤ n → n ≤ L.length → (∀ j, m ≤ j → j < n → ¬ Hit page (rAt L j)) → lastPB L page n = lastPB L page m := by
  intro n
  induction n with
  | zero => intro h _ _; obtain rfl : m = 0 := by omega
            rfl
  | succ n ih =>
    intro h hn hj
    by_cases e : m = n + 1
    · rw [e]
    · have hr : L[n]? = some (rAt L n) := by simp [rAt, List.getElem?_eq_getElem (show n < L.length by omega)]
      have h1 := hj n (by omega) (by omega)
      have : lastPB L page (n + 1) = lastPB L page n := by simp only [lastPB, hr]; exact if_neg h1
      rw [this]
      exact ih (by omega) (by omega) fun j a b => hj j a (by omega)
theorem lastP_none {L : List R} {page : Int} (h : ∀ p ∈ upBw L.length (rAt L) L.length, ¬ Hit page p.2) : lastP L page = 0 := by
  unfold lastP
  rw [lastPB_skip (m := 0) L.length (Nat.zero_le _) (Nat.le_refl _) fun j a b => h (j, rAt L j) (upBw_mem (by omega) b)]
  rfl
theorem lastP_some {L : List R} {page : Int} {k : Nat} (hk : k ≤ L.length) {ini : List (Nat × R)} {p : Nat × R} (e : upBw L.length (rAt L) k = ini ++ [p]) (hi : ∀ q ∈ ini, ¬ Hit page q.2) (hp : Hit page p.2) :
    p.1 < L.length ∧ lastP L page = p.1 + 1 := by
  obtain ⟨k', rfl⟩ : ∃ k', k = k' + 1 := by
    cases k with
    | zero => simp [upBw] at e
    | succ k' => exact ⟨k', rfl⟩
  have hj : L.length - (k' + 1) < L.length := by omega
  have e2 := upBw_succ (rs := rAt L) hj
  rw [show L.length - (L.length - (k' + 1)) = k' + 1 by omega, show L.length - (L.length - (k' + 1) + 1) = k' by omega, e] at e2
  obtain ⟨e3, e4⟩ := List.append_inj' e2 rfl
  have e5 : p = (L.length - (k' + 1), rAt L (L.length - (k' + 1))) := by simpa using e4.symm
  subst e3
  subst e5
  refine ⟨hj, ?_⟩
  have hr : L[L.length - (k' + 1)]? = some (rAt L (L.length - (k' + 1))) := by simp [rAt, List.getElem?_eq_getElem hj]
  unfold lastP
  rw [lastPB_skip (m := L.length - (k' + 1) + 1) L.length (by omega) (Nat.le_refl _) fun j a b => hi (j, rAt L j) (upBw_mem (by omega) b)]
  simp only [lastPB, hr]
  exact if_pos hp

set_option maxRecDepth 100000 in
set_option maxHeartbeats 2000000 in
theorem changes_in (F : Fence) (n : Nat) (h143 : F.fn 143) (hro : F.round = none) (r : R) (w : World) :
    CallsIn F n PP 143 #[.agg (encV r)] w fun e w' => e = .returned (.bool (decide (Changes r.kind))) ∧ w' = w.alloc (.cells (encV r) 71) := by
  refine callsIn_of_wp Tryz.func143 rfl h143 ?_ hro
  simp only [Tryz.ntmps143, List.size_toArray, List.length_cons, List.length_nil, Nat.reduceAdd, Nat.reduceSub, Array.replicate_succ, Array.replicate_zero, List.push_toArray, List.append_toArray, List.nil_append, List.cons_append]
  simp only [encV]
  by_cases h1 : r.kind = 1
  · have hE : decide (Changes r.kind) = true := by simp [Changes, h1]
    rw [hE]
    gi_wp2
    all_goals (go_ret; exact ⟨by simp_all, by simp_all⟩)
  · by_cases h2 : r.kind = 2
    · have hE : decide (Changes r.kind) = true := by simp [Changes, h2]
      rw [hE]
      gi_wp2
      all_goals (go_ret; exact ⟨by simp_all, by simp_all⟩)
    · have hE : decide (Changes r.kind) = (r.kind == 6) := by by_cases h6 : r.kind = 6 <;> simp [Changes, h1, h2, h6]
      rw [hE]
      gi_wp2
      all_goals (go_ret; exact ⟨by simp_all, by simp_all⟩)

set_option maxRecDepth 100000 in
set_option maxHeartbeats 2000000 in
theorem lastOf_in (F : Fence) (n : Nat) (h147 : F.fn 147) (h143 : F.fn 143) (h196 : F.fn 196) (h211 : F.fn 211) (hro : F.round = none) (hn : 5 ≤ n) (a : Option Addr) (cap : Nat) (L : List R) (page : Int) (hL : L.length ≤ 1000000) (w : World) (hI : RecsAt w.heap.size w (.slice a L.length cap) L.length (rAt L)) :
    CallsIn F n PP 147 #[.slice a L.length cap, .int .i64 page] w fun e W' => e = .returned (.int .i64 (lastP L page)) ∧ Below w.heap.size w W' := by
  have h1 : 1 ≤ n := by omega
  refine callsIn_of_wp_marks Tryz.func147 rfl h147 ?_ hro
  simp only [Tryz.ntmps147, List.size_toArray, List.length_cons, List.length_nil, Nat.reduceAdd, Nat.reduceSub, Array.replicate_succ, Array.replicate_zero, List.push_toArray, List.append_toArray, List.nil_append, List.cons_append]
  gi_wp2_with (gi_at_call 196; refine (bw_in F (n - 1) h196 hro _ _ _ _).mono ?_; rintro e w' ⟨rfl, rfl⟩)
  have bT := Boxed.new w 3 (.int .i64 page)
  have bR := Boxed.new (w.alloc (.cells #[.int .i64 page] 3)) 3 (.int .i64 0)
  have bN := Boxed.new ((w.alloc (.cells #[.int .i64 page] 3)).alloc (.cells #[.int .i64 0] 3)) 28 (.slice a L.length cap)
  simp only [World.size_alloc] at bR bN
  have hB0 : Below w.heap.size w (((w.alloc (.cells #[.int .i64 page] 3)).alloc (.cells #[.int .i64 0] 3)).alloc (.cells #[.slice a L.length cap] 28)) := (((Below.refl _ w).alloc (Nat.le_refl _) _).alloc (by simp) _).alloc (by simp) _
  have hT := ((bT.alloc (.cells #[.int .i64 0] 3)).alloc (.cells #[.slice a L.length cap] 28)).cell
  have hR := (bR.alloc (.cells #[.slice a L.length cap] 28)).cell
  have hF := (bR.alloc (.cells #[.slice a L.length cap] 28)).frozen
  have hN := bN.cell
  have hsz : (((w.alloc (.cells #[.int .i64 page] 3)).alloc (.cells #[.int .i64 0] 3)).alloc (.cells #[.slice a L.length cap] 28)).heap.size = w.heap.size + 3 := by simp
  generalize hW0 : (((w.alloc (.cells #[.int .i64 page] 3)).alloc (.cells #[.int .i64 0] 3)).alloc (.cells #[.slice a L.length cap] 28)) = W0 at *
  have hI' : RecsAt (w.heap.size + 3) W0 (.slice a L.length cap) L.length (rAt L) := (hI.below hB0).up (by omega)
  refine wpIn_rangeFunc_ownH hro h1 (gf := 211) (lb := #[.pointer (some ⟨w.heap.size + 2, 0, none⟩)]) rfl h211 (enters_of Tryz.func211 (by kernel_rfl) rfl)
    (bw_stops F (n - 1) h211 hro (by omega) (w.heap.size + 2) (w.heap.size + 3) _ L.length (rAt L) hL W0 (by omega) (by omega) (by omega) hN hI') belowK_t (belowK_b (by omega)) (Below.refl _ _) (fun _ => rfl)
    (fun pre W => ((∀ p ∈ pre, ¬ Hit page p.2) ∧ W.cell? ⟨w.heap.size, 0, none⟩ = some (.int .i64 page) ∧ W.cell? ⟨w.heap.size + 1, 0, none⟩ = some (.int .i64 0) ∧ W.frozen? ⟨w.heap.size + 1, 0, none⟩ = false) ∧ Below w.heap.size W0 W)
    (fun c pre W => (c = .ret ∧ ∃ ini last, pre = ini ++ [last] ∧ (∀ p ∈ ini, ¬ Hit page p.2) ∧ Hit page last.2 ∧ W.cell? ⟨w.heap.size + 1, 0, none⟩ = some (.int .i64 (wrap64 ((last.1 : Int) + 1)))) ∧ Below w.heap.size W0 W)
    ?hI ?hIx ?h0
    (fun x a' W => ∃ Bx, w.heap.size + 2 < Bx ∧ (∀ k v, (encV x.2)[k]? = some v → W.cell? ⟨Bx, k, none⟩ = some v) ∧ a' = { tmps := #[.slice a L.length cap, .int .i64 page, undef, .pointer (some ⟨w.heap.size, 0, none⟩), .pointer (some ⟨w.heap.size + 1, 0, none⟩), .int .i64 (x.1 : Int), .pointer (some ⟨Bx, 0, none⟩), .slice a L.length cap, .func (.func 211) #[] #[.pointer (some ⟨w.heap.size + 2, 0, none⟩)], .int .i64 (x.1 : Int), .agg (encV x.2), undef, undef, undef, undef, undef, undef, undef, undef, undef, undef, undef, undef, undef, undef, undef], defers := [] })
    ?hAx ?assign ?body ?done ?stop
  case hI => exact OwnFrom.and (Own.from (fun s A B row hs hg hr => ⟨hs.1, cell_kept hs.2.1 hg hr, cell_kept hs.2.2.1 hg hr, (frozen_kept hs.2.2.1 hg hr).trans hs.2.2.2⟩) _) (ownFrom_below (by omega) (by omega))
  case hIx => exact fun c => OwnFrom.and (Own.from (fun s A B row hs hg hr => by obtain ⟨hc, ini, last, e1, e2, e3, e4⟩ := hs; exact ⟨hc, ini, last, e1, e2, e3, cell_kept e4 hg hr⟩) _) (ownFrom_below (by omega) (by omega))
  case h0 => exact ⟨⟨by simp, hT, hR, hF⟩, Below.refl _ _⟩
  case hAx => exact fun x a' => Own.from (fun s A B row hs hg hr => by obtain ⟨Bx, g1, g2, g3⟩ := hs; exact ⟨Bx, g1, fun k v hk => cell_kept (g2 k v hk) hg hr, g3⟩) _
  case assign =>
    rintro l pre x W K ⟨⟨p1, p2, p3, p4⟩, pB⟩ hK
    have hs3 := pB.size
    simp only [encV]
    gi_wp2
    refine hK _ _ ((KeepsOthers.alloc _ _).from _) ((Below.refl _ W).alloc (by omega) _) ⟨⟨p1, cell_kept p2 (World.grownBy_alloc W _ none) (fun r e => by cases e), cell_kept p3 (World.grownBy_alloc W _ none) (fun r e => by cases e), (frozen_kept p3 (World.grownBy_alloc W _ none) (fun r e => by cases e)).trans p4⟩, pB.alloc (by omega) _⟩ ⟨W.heap.size, by omega, ?_, rfl⟩
    intro k v hk
    rw [cell_of_blk (World.alloc_heap_new W _)]
    exact hk
  case body =>
    rintro l pre x a' W hl ⟨r, hr⟩ ⟨⟨p1, p2, p3, p4⟩, pB⟩ ⟨Bx, g1, g2, rfl⟩ hlt
    have k0 : W.cell? ⟨Bx, 0, none⟩ = some (.int .i64 x.2.kind) := g2 0 _ rfl
    have k1 : W.cell? ⟨Bx, 1, none⟩ = some (.int .i64 x.2.tx) := g2 1 _ rfl
    have k2 : W.cell? ⟨Bx, 2, none⟩ = some (.int .i64 x.2.page) := g2 2 _ rfl
    have k3 : W.cell? ⟨Bx, 3, none⟩ = some (.int .i64 x.2.slot) := g2 3 _ rfl
    have k4 : W.cell? ⟨Bx, 4, none⟩ = some (.int .i64 x.2.old) := g2 4 _ rfl
    have k5 : W.cell? ⟨Bx, 5, none⟩ = some (.int .i64 x.2.new) := g2 5 _ rfl
    have k6 : W.cell? ⟨Bx, 6, none⟩ = some (.int .i64 x.2.prev) := g2 6 _ rfl
    have k7 : W.cell? ⟨Bx, 7, none⟩ = some (.int .i64 x.2.next) := g2 7 _ rfl
    clear g2
    by_cases hpg : x.2.page = page
    · subst hpg
      have hn3 : 1 ≤ n - 1 - 1 := by omega
      have hs3 := pB.size
      have hE : CallsIn (F.inRound l) (n - 1 - 1 - 1) PP 143 #[.agg (encV x.2)] W fun e w' => e = .returned (.bool (decide (Changes x.2.kind))) ∧ w'.cell? ⟨Bx, 0, none⟩ = some (.int .i64 x.2.kind) ∧ w'.cell? ⟨w.heap.size + 1, 0, none⟩ = some (.int .i64 0) ∧ w'.frozen? ⟨w.heap.size + 1, 0, none⟩ = false ∧ KeepsOthers W w' ∧ Below w.heap.size W w' ∧ Below (w.heap.size + 3) W w' ∧ w'.cell? ⟨w.heap.size, 0, none⟩ = some (.int .i64 x.2.page) :=
        (CallsIn.inRound l (changes_in F (n - 1 - 1 - 1) h143 hro x.2 W)).mono (by
          rintro e w' ⟨rfl, rfl⟩
          exact ⟨rfl, cell_kept k0 (World.grownBy_alloc W _ none) (fun r e => by cases e), cell_kept p3 (World.grownBy_alloc W _ none) (fun r e => by cases e), (frozen_kept p3 (World.grownBy_alloc W _ none) (fun r e => by cases e)).trans p4, KeepsOthers.alloc _ _, (Below.refl _ W).alloc (by omega) _, (Below.refl _ W).alloc (by omega) _, cell_kept p2 (World.grownBy_alloc W _ none) (fun r e => by cases e)⟩)
      simp only [encV] at hE
      gi_wp2_with (gi_at_call 143; refine hE.mono ?_; rintro e w' ⟨rfl, q0, q3, q4, qK, qB, qB3, q2⟩)
      · have hc : Changes x.2.kind := by assumption
        exact ⟨(qK.trans (KeepsOthers.setCell _ _ _)).from _, ⟨rfl, pre, x, rfl, p1, ⟨rfl, .inl hc⟩, World.cell?_setCell_same' _ _ _ (by rw [q3]; rfl)⟩, (pB.trans qB).setCell (p := ⟨w.heap.size + 1, 0, none⟩) (by simp) _⟩
      · have h3 : x.2.kind = 3 := by
          have h : (x.2.kind == 3) = true := by assumption
          simpa using h
        exact ⟨(qK.trans (KeepsOthers.setCell _ _ _)).from _, ⟨rfl, pre, x, rfl, p1, ⟨rfl, .inr h3⟩, World.cell?_setCell_same' _ _ _ (by rw [q3]; rfl)⟩, (pB.trans qB).setCell (p := ⟨w.heap.size + 1, 0, none⟩) (by simp) _⟩
      · have hc : ¬ Changes x.2.kind := by assumption
        have h3 : ¬ x.2.kind = 3 := by
          have h : (x.2.kind == 3) = false := by assumption
          simpa using h
        exact ⟨qK.from _, qB3, ⟨fun p hp => by
          rcases List.mem_append.1 hp with h | h
          · exact p1 p h
          · simp at h; rw [h]; exact fun hh => hh.2.elim hc h3, q2, q3, q4⟩, pB.trans qB⟩
    · gi_wp2
      exact ⟨KeepsFrom.refl _ _, Below.refl _ _, ⟨fun p hp => by
        rcases List.mem_append.1 hp with h | h
        · exact p1 p h
        · simp at h; rw [h]; exact fun hh => hpg hh.1, p2, p3, p4⟩, pB⟩
  case done =>
    rintro D ys W hD rfl ⟨⟨p1, p2, p3, p4⟩, pB⟩ hK
    gi_wp2
    have hK' := (KeepsOthers.setCell W ⟨w.heap.size + 1, 0, none⟩ (.int .i64 0)).same D _ hK rfl
    refine ⟨by simp, .inl ⟨_, _, rfl, run_takeDeferred hK', ?_⟩⟩
    have hc5 := cell_kept (World.cell?_setCell_same' W ⟨w.heap.size + 1, 0, none⟩ (.int .i64 0) (by rw [p3]; rfl)) (grownBy_putObj' _ D (.deferred none)) (fun r e => by cases e; exact ⟨_, hK', rfl⟩)
    refine ⟨.int .i64 0, ?_, by rw [lastP_none p1]; rfl, ((hB0.trans pB).setCell (p := ⟨w.heap.size + 1, 0, none⟩) (by simp) _).trans (belowK_b (w := w) (Nat.le_refl _) _ D _ _ (by omega) hK' rfl rfl)⟩
    simp [results, Tryz.f147, go_sem, hc5]
  case stop =>
    rintro D c pre W hD ⟨k, hk, rfl⟩ ⟨⟨rfl, ini, p, e1, e2, e3, e4⟩, hB⟩ hK
    gi_wp2
    refine ⟨by simp, .inl ⟨_, _, rfl, run_takeDeferred hK, ?_⟩⟩
    have hc5 := cell_kept e4 (grownBy_putObj' _ D (.deferred none)) (fun r e => by cases e; exact ⟨_, hK, rfl⟩)
    obtain ⟨hlt, hl⟩ := lastP_some hk e1 e2 e3
    have hv : wrap64 ((p.1 : Int) + 1) = (lastP L page : Int) := by
      rw [hl]
      have : wrap64 ((p.1 : Int) + 1) = (p.1 : Int) + 1 := by unfold wrap64; omega
      rw [this]; simp
    rw [hv] at hc5
    refine ⟨.int .i64 (lastP L page : Int), ?_, rfl, (hB0.trans hB).trans (belowK_b (w := w) (Nat.le_refl _) _ D _ _ (by omega) hK rfl rfl)⟩
    simp [results, Tryz.f147, go_sem, hc5]


theorem c147 (L : List R) (page : Int) (hL : L.length ≤ 1000000) : Told 147 [.sl 8 (L.map encR), I64 page] [] [] 0 (I64 (lastP L page)) :=
  told_recs fun a cap w hr => callsIn_wide.1 (lastOf_in Fence.wide 5 trivial trivial trivial trivial rfl (Nat.le_refl _) a cap L page hL w hr)

end Go.Proofs.YtnaafbdgkmlnaaaGreat

/- A region that draws its order, in which two operations that wait for one another in no way give out a name each: each order by itself. -/
namespace Go.Proofs.YtnaafbdgkmlnaaaGreat
set_option linter.unusedVariables false
set_option linter.unusedSimpArgs false
set_option linter.unnecessarySimpa false

def plainOp (o : Oper) : Bool := match o.op with
  | .move _ | .assign _ | .alloc _ | .load _ _ | .store _ _ _ | .fieldAddr _ _ _ | .indexAddr _ _ _ => true
  | _ => false

theorem upon_and {P : Program} {o : Oper} {a : Act} {K K' : Act → World → Prop} {Q : Exit → Act → World → Prop} {r : Result Next} (hr : ∀ f args w, r ≠ .ok (.enter f args) w) (hr' : ∀ f args w, r ≠ .ok (.row f args) w)
    (h : o.upon P a K Q r) (h' : o.upon P a K' Q r) : o.upon P a (fun a w => K a w ∧ K' a w) Q r := by
  cases r with
  | ok n w =>
    cases n with
    | enter f args => exact absurd rfl (hr _ _ _)
    | row f args => exact absurd rfl (hr' _ _ _)
    | value v => exact ⟨h, h'⟩
    | skip => exact ⟨h, h'⟩
    | defer d => exact ⟨h, h'⟩
    | _ => exact h.elim
  | halt x w => cases x <;> exact h

theorem bind_value {α : Type} {P : Program} {s : Sem α} {f : α → Sem Next} {w : World} (hf : ∀ v w', (∃ n w2, (f v).run P w' = .ok n w2 ∧ (∀ g xs, n ≠ .enter g xs) ∧ (∀ g xs, n ≠ .row g xs)) ) (n : Next) (w1 : World) (h : (s >>= f).run P w = .ok n w1) : (∀ g xs, n ≠ .enter g xs) ∧ (∀ g xs, n ≠ .row g xs) := by
  rw [Sem.run_bind] at h
  generalize s.run P w = r at h
  cases r with
  | ok v w' =>
    obtain ⟨n', w2, h1, h2⟩ := hf v w'
    have h : (f v).run P w' = .ok n w1 := h
    rw [h1] at h
    cases h
    exact h2
  | halt x w' => cases h

theorem plain_run {P : Program} {o : Oper} (h : plainOp o = true) (ρ : Operand → Value) (w : World) (n : Next) (w1 : World) (hr : (execOp ρ o).run P w = .ok n w1) : (∀ g xs, n ≠ .enter g xs) ∧ (∀ g xs, n ≠ .row g xs) := by
  unfold plainOp at h
  unfold execOp at hr
  cases ho : o.op <;> rw [ho] at h hr <;> simp only at h hr <;> first | cases h | skip
  all_goals first
    | (cases hr; exact ⟨by simp, by simp⟩)
    | (refine bind_value (fun v w' => ⟨_, _, rfl, by simp, by simp⟩) n w1 hr)

theorem wp_and {P : Program} {o : Oper} {a : Act} {w : World} {K K' : Act → World → Prop} {Q : Exit → Act → World → Prop} (h : plainOp o = true) (h1 : o.wp P a w K Q) (h2 : o.wp P a w K' Q) : o.wp P a w (fun a w => K a w ∧ K' a w) Q :=
  upon_and (fun f xs w' e => (plain_run h _ _ _ _ e).1 _ _ rfl) (fun f xs w' e => (plain_run h _ _ _ _ e).2 _ _ rfl) h1 h2


/-- E: the same operations; the one at j waits for the one at i besides. -/
structure Ext (ops E : Array Oper) (i j : Nat) : Prop where
  size : E.size = ops.size
  same : ∀ k, k ≠ j → E[k]? = ops[k]?
  at_j : ∃ o e, ops[j]? = some o ∧ E[j]? = some { o with after := o.after.push e } ∧ e.on = i ∧ Region.binds .any e = true
  ne : i ≠ j

theorem Ext.dst {ops E : Array Oper} {i j : Nat} (h : Ext ops E i j) (k : Nat) : (E[k]?).bind (·.dst) = (ops[k]?).bind (·.dst) := by
  by_cases hk : k = j
  · subst hk
    obtain ⟨o, e, h1, h2, _⟩ := h.at_j
    rw [h1, h2]; rfl
  · rw [h.same k hk]
theorem Ext.yield {ops E : Array Oper} {i j : Nat} (h : Ext ops E i j) (t : Array Value) : yielded E t = yielded ops t := by
  funext k; unfold yielded; rw [h.dst]

theorem Ext.op {ops E : Array Oper} {i j : Nat} (h : Ext ops E i j) {Q : Exit → Act → World → Prop} {k : Nat} {K : Act → World → Prop} {a : Act} {w : World} : wpOp PP E Q k K a w ↔ wpOp PP ops Q k K a w := by
  unfold wpOp
  rw [h.yield]
  by_cases hk : k = j
  · subst hk
    obtain ⟨o, e, h1, h2, _⟩ := h.at_j
    rw [h1, h2]
    exact Iff.rfl
  · rw [h.same k hk]

theorem mem_ready {ops : Array Oper} {L : Array Bool} {k : Nat} : k ∈ Region.ready .any ops L ↔ ∃ o, ops[k]? = some o ∧ L.getD k true = false ∧ ∀ e ∈ o.after, Region.binds .any e = true → L.getD e.on false = true := by
  unfold Region.ready
  simp only [List.mem_filter, List.mem_range]
  constructor
  · rintro ⟨h1, h2⟩
    refine ⟨ops[k], by simp [h1], ?_⟩
    simp [h1] at h2
    simp only [← Array.getD_eq_getD_getElem?] at h2
    refine ⟨h2.1, fun e he hb => ?_⟩
    obtain ⟨i, hi, rfl⟩ := Array.mem_iff_getElem.1 he
    rcases h2.2 i hi with q | q
    · rw [q] at hb; cases hb
    · exact q
  · rintro ⟨o, h1, h2, h3⟩
    obtain ⟨hk, rfl⟩ := Array.getElem?_eq_some_iff.1 h1
    refine ⟨hk, ?_⟩
    simp [hk]
    simp only [← Array.getD_eq_getD_getElem?]
    refine ⟨h2, ?_⟩
    intro i hi
    cases hb : Region.binds .any ops[k].after[i] with
    | false => exact .inl rfl
    | true => exact .inr (h3 _ (Array.getElem_mem hi) hb)

theorem Ext.ready {ops E : Array Oper} {i j : Nat} (h : Ext ops E i j) {L : Array Bool} {k : Nat} : k ∈ Region.ready .any E L ↔ k ∈ Region.ready .any ops L ∧ (k = j → L.getD i false = true) := by
  rw [mem_ready, mem_ready]
  by_cases hk : k = j
  · subst hk
    obtain ⟨o, e, h1, h2, h3, h4⟩ := h.at_j
    rw [h1, h2]
    simp only [Option.some.injEq, exists_eq_left', Array.mem_push, true_implies]
    constructor
    · rintro ⟨a, b⟩
      exact ⟨⟨a, fun e' he hb => b e' (.inl he) hb⟩, by rw [← h3]; exact b e (.inr rfl) h4⟩
    · rintro ⟨⟨a, b⟩, c⟩
      refine ⟨a, fun e' he hb => ?_⟩
      rcases he with he | rfl
      · exact b e' he hb
      · rw [h3]; exact c
  · rw [h.same k hk]
    exact ⟨fun q => ⟨q, fun e => absurd e hk⟩, fun q => q.1⟩

theorem getD_set (L : Array Bool) (k m : Nat) (d : Bool) (hk : L.getD k true = false) : (L.setIfInBounds k true).getD m d = if m = k then true else L.getD m d := by
  by_cases e : m = k
  · subst e
    have : m < L.size := by
      by_cases h : m < L.size
      · exact h
      · simp [Array.getD_eq_getD_getElem?, Array.getElem?_eq_none (Nat.le_of_not_lt h)] at hk
    simp [Array.getD_eq_getD_getElem?, this]
  · rw [if_neg e, Array.getD_eq_getD_getElem?, Array.getD_eq_getD_getElem?, Array.getElem?_setIfInBounds_ne (fun q => e q.symm)]

/-- Once i is done, j's edge says nothing. -/
theorem Ext.done {ops E : Array Oper} {i j : Nat} (h : Ext ops E i j) {Q : Exit → Act → World → Prop} : ∀ (n : Nat) (L : Array Bool) (a : Act) (w : World), L.getD i false = true → wpAny PP .any E Q n L a w → wpAny PP .any ops Q n L a w
  | 0, L, a, w, hi, hh => by
    refine ⟨?_, hh.2⟩
    refine List.eq_nil_iff_forall_not_mem.2 fun k hk => ?_
    have := h.ready.2 ⟨hk, fun _ => hi⟩
    rw [hh.1] at this; cases this
  | n + 1, L, a, w, hi, hh => by
    refine ⟨fun e => hh.1 (List.eq_nil_iff_forall_not_mem.2 fun k hk => ?_), fun k hk => ?_⟩
    · have := (h.ready.1 hk).1
      rw [e] at this; cases this
    · refine wpOp_mono (fun a' w' q => Ext.done h n _ a' w' ?_ q) (h.op.1 (hh.2 k (h.ready.2 ⟨hk, fun _ => hi⟩)))
      obtain ⟨o, _, hl, _⟩ := mem_ready.1 hk
      rw [getD_set _ _ _ _ hl]
      split <;> first | rfl | exact hi

theorem wpOp_and {ops : Array Oper} {Q : Exit → Act → World → Prop} {k : Nat} {K K' : Act → World → Prop} {a : Act} {w : World} (hp : ops.all plainOp = true) (h1 : wpOp PP ops Q k K a w) (h2 : wpOp PP ops Q k K' a w) : wpOp PP ops Q k (fun a w => K a w ∧ K' a w) a w := by
  unfold wpOp at *
  split
  · rename_i e; rw [e] at h1 h2; exact ⟨h1, h2⟩
  · rename_i o e
    rw [e] at h1 h2
    simp only at h1 h2
    split
    · rename_i hw
      rw [if_pos hw] at h1 h2
      rcases h1 with h1 | h1
      · rcases h2 with h2 | h2
        · exact .inl (wp_and ((Array.all_eq_true'.1 hp) o (Array.mem_of_getElem? e)) h1 h2)
        · exact .inr h2
      · exact .inr h1
    · rename_i hw
      rw [if_neg hw] at h1 h2
      exact ⟨h1, h2⟩

theorem any_split {ops E1 E2 : Array Oper} {i j : Nat} (h1 : Ext ops E1 i j) (h2 : Ext ops E2 j i) (hp : ops.all plainOp = true) {Q : Exit → Act → World → Prop} : ∀ (n : Nat) (L : Array Bool) (a : Act) (w : World), L.getD i false = false → L.getD j false = false →
    wpAny PP .any E1 Q n L a w → wpAny PP .any E2 Q n L a w → wpAny PP .any ops Q n L a w
  | 0, L, a, w, hi, hj, k1, k2 => by
    refine ⟨?_, k1.2⟩
    refine List.eq_nil_iff_forall_not_mem.2 fun k hk => ?_
    by_cases e : k = j
    · have := h2.ready.2 ⟨hk, fun q => absurd (q.symm.trans e) h1.ne⟩
      rw [k2.1] at this; cases this
    · have := h1.ready.2 ⟨hk, fun q => absurd q e⟩
      rw [k1.1] at this; cases this
  | n + 1, L, a, w, hi, hj, k1, k2 => by
    refine ⟨fun e => k1.1 (List.eq_nil_iff_forall_not_mem.2 fun k hk => ?_), fun k hk => ?_⟩
    · have := (h1.ready.1 hk).1
      rw [e] at this; cases this
    · obtain ⟨o, _, hl, _⟩ := mem_ready.1 hk
      by_cases ei : k = i
      · subst ei
        refine wpOp_mono (fun a' w' q => h1.done n _ a' w' ?_ q) (h1.op.1 (k1.2 k (h1.ready.2 ⟨hk, fun q => absurd q h1.ne⟩)))
        rw [getD_set _ _ _ _ hl, if_pos rfl]
      · by_cases ej : k = j
        · subst ej
          refine wpOp_mono (fun a' w' q => h2.done n _ a' w' ?_ q) (h2.op.1 (k2.2 k (h2.ready.2 ⟨hk, fun q => absurd q h2.ne⟩)))
          rw [getD_set _ _ _ _ hl, if_pos rfl]
        · refine wpOp_mono (fun a' w' q => any_split h1 h2 hp n _ a' w' ?_ ?_ q.1 q.2) (wpOp_and hp (h1.op.1 (k1.2 k (h1.ready.2 ⟨hk, fun q => absurd q ej⟩))) (h2.op.1 (k2.2 k (h2.ready.2 ⟨hk, fun q => absurd q ei⟩))))
          · rw [getD_set _ _ _ _ hl, if_neg (fun q => ei q.symm)]; exact hi
          · rw [getD_set _ _ _ _ hl, if_neg (fun q => ej q.symm)]; exact hj


/-! ### Two operations' places are changed -/
def sw (i j k : Nat) : Nat := if k = i then j else if k = j then i else k
theorem sw_sw (i j k : Nat) : sw i j (sw i j k) = k := by unfold sw; split <;> split <;> (try split) <;> omega
def rnOp (i j : Nat) (o : Oper) : Oper := { o with after := o.after.map fun e => { e with on := sw i j e.on }, guard := o.guard.map fun p => (sw i j p.1, p.2) }

structure Swp (E E' : Array Oper) (i j : Nat) : Prop where
  size : E'.size = E.size
  at_k : ∀ k, E'[sw i j k]? = (E[k]?).map (rnOp i j)

theorem Swp.yield {E E' : Array Oper} {i j : Nat} (h : Swp E E' i j) (t : Array Value) (k : Nat) : yielded E' t (sw i j k) = yielded E t k := by
  unfold yielded
  rw [h.at_k]
  cases E[k]? <;> rfl

theorem Swp.op {E E' : Array Oper} {i j : Nat} (h : Swp E E' i j) {Q : Exit → Act → World → Prop} {k : Nat} {K : Act → World → Prop} {a : Act} {w : World} : wpOp PP E' Q (sw i j k) K a w ↔ wpOp PP E Q k K a w := by
  unfold wpOp
  rw [h.at_k]
  cases hk : E[k]? with
  | none => exact Iff.rfl
  | some o =>
    have hw : Region.wanted (rnOp i j o) (yielded E' a.tmps) = Region.wanted o (yielded E a.tmps) := by
      unfold Region.wanted rnOp
      cases hg : o.guard with
      | none => rfl
      | some p => simp only [Option.map_some]; rw [h.yield]
    simp only [Option.map_some]
    rw [hw]
    exact Iff.rfl

theorem Swp.ready {E E' : Array Oper} {i j : Nat} (h : Swp E E' i j) {L L' : Array Bool} (hl : ∀ k d, L'.getD (sw i j k) d = L.getD k d) {k : Nat} : sw i j k ∈ Region.ready .any E' L' ↔ k ∈ Region.ready .any E L := by
  rw [mem_ready, mem_ready, h.at_k, hl]
  cases hk : E[k]? with
  | none => simp
  | some o =>
    simp only [Option.map_some, Option.some.injEq, exists_eq_left', rnOp]
    refine and_congr_right fun _ => ?_
    constructor
    · intro q e he hb
      rw [← hl]
      exact q { e with on := sw i j e.on } (Array.mem_map.2 ⟨e, he, rfl⟩) hb
    · intro q e he hb
      obtain ⟨e', he', rfl⟩ := Array.mem_map.1 he
      rw [hl]
      exact q e' he' hb

theorem Swp.any {E E' : Array Oper} {i j : Nat} (h : Swp E E' i j) {Q : Exit → Act → World → Prop} : ∀ (n : Nat) (L L' : Array Bool) (a : Act) (w : World), (∀ k d, L'.getD (sw i j k) d = L.getD k d) →
    wpAny PP .any E' Q n L' a w → wpAny PP .any E Q n L a w
  | 0, L, L', a, w, hl, hh => by
    refine ⟨?_, hh.2⟩
    refine List.eq_nil_iff_forall_not_mem.2 fun k hk => ?_
    have := (h.ready hl).2 hk
    rw [hh.1] at this; cases this
  | n + 1, L, L', a, w, hl, hh => by
    refine ⟨fun e => hh.1 (List.eq_nil_iff_forall_not_mem.2 fun k hk => ?_), fun k hk => ?_⟩
    · have := (h.ready hl (k := sw i j k)).1 (by rw [sw_sw]; exact hk)
      rw [e] at this; cases this
    · obtain ⟨o, _, hlk, _⟩ := mem_ready.1 hk
      refine h.op.1 (wpOp_mono (fun a' w' q => Swp.any h n _ _ a' w' (fun m d => ?_) q) (hh.2 (sw i j k) ((h.ready hl).2 hk)))
      rw [getD_set _ _ _ _ hlk, getD_set _ _ _ _ (by rw [hl]; exact hlk), hl]
      by_cases e : m = k
      · subst e; simp
      · rw [if_neg e, if_neg (fun q => e (by rw [← sw_sw i j m, q, sw_sw]))]

theorem repl_getD (n k : Nat) (d : Bool) : (Array.replicate n false).getD k d = if k < n then false else d := by
  rw [Array.getD_eq_getD_getElem?, Array.getElem?_replicate]
  split <;> rfl

theorem any_two {N : Nat} {ops E1 E2 E3 : Array Oper} {i j : Nat} (hi : i < ops.size) (hj : j < ops.size) (h1 : Ext ops E1 i j) (h2 : Ext ops E2 j i) (h3 : Swp E2 E3 i j) (hp : ops.all plainOp = true) {F : Fr} {H : Hp} {B : Nat} {Q : QT}
    (k1 : AnyW N E1 F H B Q) (k3 : AnyW N E3 F H B Q) : AnyW N ops F H B Q := fun c g a w hs hf => by
  have q1 := k1 c g a w hs hf
  have q3 := k3 c g a w hs hf
  rw [h1.size] at q1
  rw [h3.size, h2.size] at q3
  refine any_split h1 h2 hp _ _ a w (by rw [repl_getD, if_pos hi]) (by rw [repl_getD, if_pos hj]) q1 (h3.any _ _ _ a w (fun k d => ?_) q3)
  rw [repl_getD, repl_getD]
  unfold sw
  split
  · rename_i e; subst e; simp [hi, hj]
  · split
    · rename_i e; subst e; simp [hi, hj]
    · rfl


def edgeA (ops : Array Oper) (j i : Nat) : Array Oper := ops.modify j fun o => { o with after := o.after.push ⟨i, .data⟩ }
def swapE (ops : Array Oper) (i j : Nat) : Array Oper := ((List.range ops.size).map fun k => rnOp i j ((ops[sw i j k]?).getD default)).toArray

theorem ext_add {ops : Array Oper} {i j : Nat} (hij : i ≠ j) (hj : j < ops.size) : Ext ops (edgeA ops j i) i j where
  size := by simp [edgeA]
  same := fun k hk => by rw [edgeA, Array.getElem?_modify, if_neg (fun e => hk e.symm)]
  at_j := ⟨ops[j], ⟨i, .data⟩, by simp [hj], by rw [edgeA, Array.getElem?_modify, if_pos rfl, Array.getElem?_eq_getElem hj]; rfl, rfl, rfl⟩
  ne := hij

theorem swp_swap {ops : Array Oper} {i j : Nat} (hi : i < ops.size) (hj : j < ops.size) : Swp ops (swapE ops i j) i j where
  size := by simp [swapE]
  at_k := fun k => by
    simp only [swapE, List.getElem?_toArray, List.getElem?_map]
    by_cases hk : k < ops.size
    · have : sw i j k < ops.size := by unfold sw; split <;> (try split) <;> omega
      rw [List.getElem?_range this]
      simp [sw_sw, hk]
    · have : ¬ sw i j k < ops.size := by unfold sw; split <;> (try split) <;> omega
      rw [List.getElem?_eq_none (by simpa using this)]
      simp [hk]

end Go.Proofs.YtnaafbdgkmlnaaaGreat

/- The library's slices.Sort and slices.Compact, at this program. -/
namespace Go.Proofs
set_option linter.unusedVariables false
open Go.Shelf Go.Lib Go.Sort Go.RowKit

shelf_lay Lays.n189 Nm 189 at Tryz as Tryz.laysSort
shelf_lay Lays2.n20 Nm2 20 at Tryz as Tryz.laysCompact
end Go.Proofs

/- The library's slices.Sort and slices.Compact, at the abstract machine. -/
namespace Go.Proofs.YtnaafbdgkmlnaaaGreat
set_option linter.unusedVariables false
set_option linter.unusedSimpArgs false
set_option linter.unnecessarySimpa false
open Go.Shelf Go.Lib Go.Sort Go.RowKit

section
variable {c : Ctx} {g : G} {H : Hp} {B : Nat} {w : World}
theorem StH.ahead (h : StH c g H B w) : ∀ n, StH c g H B (Sort.ahead w n)
  | 0 => h
  | n + 1 => (StH.ahead h n).drew

theorem Le.grow (h : StC g H B w) (os : Array Obj) : Le g w g (grow w os) :=
  ⟨fun _ _ h => h, fun _ h => h, fun b hb => Array.getElem?_append_left (h.inI b hb), fun b cs e fz hb => ⟨cs, fz, (Array.getElem?_append_left (lt_of_heap hb)).trans hb, rfl⟩⟩

theorem StH.grow (h : StH c g H B w) (os : Array Obj) : StH c g H B (grow w os) where
  blk := fun id k e => let ⟨b, cs, h1, h2⟩ := h.blk id k e; ⟨b, cs, h1, h2.mono (Le.grow h.toStC os) h2.free (Array.getElem?_append_left (lt_of_heap h2.heap))⟩
  inj := h.inj
  free := h.free
  inI := fun b hb => Nat.lt_of_lt_of_le (h.inI b hb) (by simp [Sort.grow])
  os := h.os
  tape := h.tape
  output := h.output
  size := Nat.le_trans h.size (by simp [Sort.grow])
  same := fun b hb hw => (Array.getElem?_append_left (Nat.lt_of_lt_of_le hb h.size)).trans (h.same b hb hw)
  sizes := fun b cs e fz hb => by
    obtain ⟨cs2, fz2, h1, h2⟩ := h.sizes b cs e fz hb
    exact ⟨cs2, fz2, (Array.getElem?_append_left (lt_of_heap h1)).trans h1, h2⟩
  own := h.own
  ids := h.ids
  I0 := h.I0
  I1 := h.I1
  m0 := h.m0
  m1 := h.m1
  bound := h.bound

theorem at2_ints {L : List Int} {i j : Nat} {x : AV} (h : at2 (ints L) i j = some x) : ∃ hi : i < L.length, j = 0 ∧ x = I64 L[i] := by
  simp only [at2, ints, List.getElem?_map, Option.bind_map] at h
  by_cases hi : i < L.length
  · rw [List.getElem?_eq_getElem hi] at h
    cases j with
    | zero => simp at h; exact ⟨hi, rfl, h.symm⟩
    | succ j => simp at h
  · rw [List.getElem?_eq_none (by omega)] at h; cases h

theorem rep_int {g : G} {w : World} {n : Int} {v : Value} (h : RepV g w (I64 n) v) : v = .int .i64 n := by cases h; rfl

/-- What the library's contracts ask of a block of integers. -/
theorem holds_of {k : Blk} {b e : Nat} {cs : Array Value} {L : List Int} (hb : RepB g w ⟨e, 1, ints L⟩ b cs) : Holds (Value.int IntKind.i64) w b 0 L.toArray := by
  intro j hj
  have hj' : j < L.length := by simpa using hj
  obtain ⟨v, h1, h2⟩ := hb.rep j 0 (I64 L[j]) (by simp [at2, ints, hj'])
  have := rep_int h2
  subst this
  have hh := hb.heap
  refine ⟨?_, ?_⟩
  · simp only [World.cell?, hh]
    simp at h1
    simp [h1, hj', getElem!_def]
  · simp [World.frozen?, hh]

theorem putRow_setRow {b e : Nat} {cs : Array Value} {fz : Nat × Nat} {d : Array Int} (hb : w.heap[b]? = some (.cells cs e fz)) : putRow (Value.int IntKind.i64) w b 0 d = w.setRow b (putCells (Value.int IntKind.i64) 0 d cs) := by
  unfold putRow mapBlock World.setRow
  congr 1
  apply Array.ext_getElem?
  intro i
  simp only [Array.getElem?_modify]
  split
  · rename_i e; subst e; rw [hb]; rfl
  · rfl

theorem rep_put {b id e : Nat} {cs : Array Value} {L L' : List Int} {n : Nat} {os : Array Obj} (hs : StH c g H B w) (hid : H id = some ⟨e, 1, ints L⟩) (hm : g.m id = some b) (hb : RepB g w ⟨e, 1, ints L⟩ b cs) (hl : L'.length = L.length) :
    StH c g (H.set id ⟨e, 1, ints L'⟩) B (grow (putRow (Value.int IntKind.i64) (Sort.ahead w n) b 0 L'.toArray) os) := by
  refine StH.grow ?_ _
  have hs1 := hs.ahead n
  have hh : (Sort.ahead w n).heap[b]? = some (.cells cs e (0, 0)) := hb.heap
  have hb1 : RepB g (Sort.ahead w n) ⟨e, 1, ints L⟩ b cs := by
    obtain ⟨b', cs', h1, h2⟩ := hs1.blk id _ hid
    rw [hm] at h1
    cases h1
    have := h2.heap
    rw [hh] at this
    cases this
    exact h2
  rw [putRow_setRow hh]
  have hsz := hb.size
  simp at hsz
  refine hs1.setRow hid hm hb1 rfl (by simp [putCells]; omega) (by simp [putCells]) (by intro x hx; simp [ints] at hx; obtain ⟨n, _, rfl⟩ := hx; rfl) fun i j x hx => ?_
  obtain ⟨hi, rfl, rfl⟩ := at2_ints hx
  refine ⟨.int .i64 L'[i], ?_, .int _ _⟩
  have : i < cs.size := by omega
  simp [putCells, hi, this, getElem!_def]
end

theorem ints_lt {Bm : Nat} (L : List Int) : AV.ltLL Bm (ints L) := by
  induction L with
  | nil => exact trivial
  | cons n L ih => exact ⟨⟨trivial, trivial⟩, ih⟩

theorem ref_inv {g : G} {H : Hp} {B : Nat} {w : World} {id e : Nat} {L : List Int} {v : Value} (hs : StC g H B w) (hid : H id = some ⟨e, 1, ints L⟩) (hv : RepV g w (.ref id 1 0 L.length) v) :
    ∃ b cs cc, g.m id = some b ∧ RepB g w ⟨e, 1, ints L⟩ b cs ∧ v = .slice (some ⟨b, 0, none⟩) L.length cc ∧ L.length ≤ cc ∧ cc ≤ cs.size := by
  obtain ⟨b, cs, h1, h2⟩ := hs.blk id _ hid
  cases hv with
  | ref _ _ _ _ b' cc cs' e' fz hm hc hb hz =>
    rw [h1] at hm
    cases hm
    rw [h2.heap] at hb
    cases hb
    exact ⟨b, cs, cc, h1, h2, by simp, hc, by simpa using hz⟩

theorem told_ref {f id e Bm : Nat} {L L' : List Int} {v : AV} (hid : id < Bm) (hv : AV.lt Bm v)
    (h : ∀ (c : Ctx) (g : G) (B : Nat) (w : World) (b cc : Nat) (cs : Array Value), StH c g (Hp.of [(id, ⟨e, 1, ints L⟩)]) B w → g.m id = some b → RepB g w ⟨e, 1, ints L⟩ b cs → L.length ≤ cc → cc ≤ cs.size →
      Calls PP f #[.slice (some ⟨b, 0, none⟩) L.length cc] w fun x w' => ∃ cv, x = .returned cv ∧ RepV g w' v cv ∧ StH c g ((Hp.of [(id, ⟨e, 1, ints L⟩)]).set id ⟨e, 1, ints L'⟩) B w') :
    Told f [.ref id 1 0 L.length] [(id, ⟨e, 1, ints L⟩)] [(id, ⟨e, 1, ints L'⟩)] Bm v where
  call := fun Bx hb => by
    intro g w vs hs hvs
    cases hvs with
    | tup _ _ hl hvv =>
      obtain ⟨l⟩ := vs
      have h1 : l.length = 1 := by simpa using hl.symm
      match l, h1 with
      | [p], _ =>
        obtain ⟨b, cs, cc, e1, e2, rfl, e3, e4⟩ := ref_inv hs (e := e) (L := L) (by simp [Hp.of]) (hvv 0 _ _ rfl rfl)
        have hs0 : StH ⟨w, Hp.of [(id, ⟨e, 1, ints L⟩)], g, Bx⟩ g (Hp.of [(id, ⟨e, 1, ints L⟩)]) Bx w := { toStC := hs, toBase := Base.start _ _ _ _ }
        refine Calls.mono (h _ g Bx w b cc cs hs0 e1 e2 e3 e4) ?_
        rintro x w' ⟨cv, rfl, h2, h3⟩
        exact ⟨cv, v, g, _, Bx, rfl, ⟨rfl, by simp⟩, h2, h3⟩
  keys := by simp
  lt := hv
  rows := by simp [ints_lt]
  nd := by simp [Hp.of]
  all := by simp

theorem c173 (id e Bm : Nat) (hid : id < Bm) (L : List Int) (hL : L.length ≤ 1000000) : Told 173 [.ref id 1 0 L.length] [(id, ⟨e, 1, ints L⟩)] [(id, ⟨e, 1, ints (L.mergeSort fun x y => decide (x ≤ y))⟩)] Bm (.tup []) :=
  told_ref hid trivial fun c g B w b cc cs hs hm hb hc hz => by
    refine Calls.mono (Any.slices_Sort_int Tryz.laysSort b 0 cc L w (holds_of (k := ⟨e, 1, ints L⟩) hb) (lt_of_heap hb.heap) (by omega)) ?_
    rintro x w' ⟨rfl, n, os, rfl⟩
    exact ⟨_, rfl, .tup _ _ rfl (by simp), rep_put hs (by simp [Hp.of]) hm hb (by simp)⟩

theorem compact_len (L : List Int) : (Lib.compact L).length ≤ L.length := by
  exact Lib.compact_length_le L

theorem mem_compact (L : List Int) (p : Int) : p ∈ Lib.compact L ↔ p ∈ L := by
  unfold Lib.compact Lib.compactUpTo
  simp only [List.mem_map, List.mem_filter, List.mem_range]
  constructor
  · rintro ⟨j, ⟨hj, _⟩, rfl⟩
    have : L.toArray[j]! = L[j] := by simp [getElem!_def, hj]
    rw [this]; exact List.getElem_mem hj
  · intro hp
    obtain ⟨j, hj, rfl⟩ := List.getElem_of_mem hp
    have key : ∀ j, j < L.length → ∃ i, (i < L.length ∧ Lib.keeps L.toArray i = true) ∧ L.toArray[i]! = L.toArray[j]! := by
      intro j
      induction j with
      | zero => intro h; exact ⟨0, ⟨h, by simp [Lib.keeps]⟩, rfl⟩
      | succ j ih =>
        intro h
        by_cases hk : L.toArray[j + 1]! = L.toArray[j]!
        · obtain ⟨i, h1, h2⟩ := ih (by omega)
          exact ⟨i, h1, h2.trans hk.symm⟩
        · exact ⟨j + 1, ⟨h, Lib.keeps_pos (by simpa using hk)⟩, rfl⟩
    obtain ⟨i, h1, h2⟩ := key j hj
    refine ⟨i, h1, h2.trans (by simp [getElem!_def, hj])⟩

theorem c175 (id e Bm : Nat) (hid : id < Bm) (L : List Int) (hL : L.length ≤ 1000000) : Told 175 [.ref id 1 0 L.length] [(id, ⟨e, 1, ints L⟩)] [(id, ⟨e, 1, ints (Lib.compact L ++ List.replicate (L.length - (Lib.compact L).length) 0)⟩)] Bm (.ref id 1 0 (Lib.compact L).length) :=
  told_ref hid hid fun c g B w b cc cs hs hm hb hc hz => by
    refine Calls.mono (Any.slices_Compact_int Tryz.laysCompact b 0 cc L w (holds_of (k := ⟨e, 1, ints L⟩) hb) (by omega) hc) ?_
    have hcl := compact_len L
    rintro x w' ⟨rfl, n, rfl⟩
    have hs' := rep_put (n := n) (os := #[]) (L' := Lib.compact L ++ List.replicate (L.length - (Lib.compact L).length) 0) hs (by simp [Hp.of]) hm hb (by simp; omega)
    have e1 : ∀ w : World, grow w #[] = w := fun w => by simp [grow]
    rw [e1] at hs'
    have hh : (putRow (Value.int IntKind.i64) (Sort.ahead w n) b 0 (Lib.compact L ++ List.replicate (L.length - (Lib.compact L).length) 0).toArray).heap[b]? = some (.cells (putCells (Value.int IntKind.i64) 0 (Lib.compact L ++ List.replicate (L.length - (Lib.compact L).length) 0).toArray cs) e (0, 0)) := by
      rw [putRow_setRow (show (Sort.ahead w n).heap[b]? = _ from hb.heap)]
      exact setRow_same (show (Sort.ahead w n).heap[b]? = _ from hb.heap)
    refine ⟨_, rfl, ?_, hs'⟩
    have := RepV.ref (g := g) id 1 0 (Lib.compact L).length b cc _ e (0, 0) hm (by omega) hh (by simp [putCells]; omega)
    simpa using this

theorem clip_walk (a : Option Addr) (n c : Nat) (w : World) (h : n ≤ c) : Calls PP 174 #[.slice a n c] w fun e w' => e = .returned (.slice a n n) ∧ w' = w := by
  go_enter Tryz.func174, Tryz.ntmps174
  go_wp2
  go_ret
  exact ⟨rfl, rfl⟩

theorem told_ref1 {f id Bm m : Nat} {k : Blk} (hid : id < Bm) (hr : AV.ltLL Bm k.rows)
    (h : ∀ (a : Option Addr) (n c : Nat) (w : World), n ≤ c → Calls PP f #[.slice a n c] w fun e w' => e = .returned (.slice a n n) ∧ w' = w) : Told f [.ref id 1 0 m] [(id, k)] [(id, k)] Bm (.ref id 1 0 m) where
  call := fun Bx hb => by
    intro g w vs hs hvs
    cases hvs with
    | tup _ _ hl hvv =>
      obtain ⟨l⟩ := vs
      have h1 : l.length = 1 := by simpa using hl.symm
      match l, h1 with
      | [p], _ =>
        have k0 := hvv 0 _ _ rfl rfl
        cases k0 with
        | ref _ _ _ _ b cc cs' e' fz hm hc hb hz =>
          refine Calls.mono (h _ _ _ w hc) ?_
          rintro x w' ⟨rfl, rfl⟩
          exact ⟨_, .ref id 1 0 m, g, _, Bx, rfl, ⟨rfl, by simp [Hp.of]⟩, .ref id 1 0 m b m cs' e' fz hm (Nat.le_refl _) hb (by omega), { toStC := hs, toBase := Base.start _ _ _ _ }⟩
  keys := by simp
  lt := hid
  rows := by simpa using hr
  nd := by simp [Hp.of]
  all := by simp

theorem told_nils {f : Nat} {v : AV} (hv : AV.lt 0 v) (h : ∀ (a : Option Addr) (w : World), Calls PP f #[.slice a 0 0] w fun e w' => ∃ cv, e = .returned cv ∧ w' = w ∧ ∀ g, RepV g w v cv) : Told f [.nils] [] [] 0 v := by
  refine told_of (Keep.nil _) hv fun B _ => ?_
  intro g w vs hs hvs
  cases hvs with
  | tup _ _ hl hvv =>
    obtain ⟨l⟩ := vs
    have h1 : l.length = 1 := by simpa using hl.symm
    match l, h1 with
    | [p], _ =>
      have k0 := hvv 0 _ _ rfl rfl
      cases k0 with
      | nils a =>
        refine Calls.mono (h a w) ?_
        rintro x w' ⟨cv, rfl, rfl, hr⟩
        exact ⟨_, v, g, _, B, rfl, ⟨rfl, fun id k e => e⟩, hr g, { toStC := hs, toBase := Base.start _ _ _ _ }⟩

theorem c174 {id Bm m : Nat} {k : Blk} (hid : id < Bm) (hr : AV.ltLL Bm k.rows) : Told 174 [.ref id 1 0 m] [(id, k)] [(id, k)] Bm (.ref id 1 0 m) := told_ref1 hid hr clip_walk
theorem n174 : Told 174 [.nils] [] [] 0 .nils := told_nils trivial fun a w => Calls.mono (clip_walk a 0 0 w (Nat.le_refl _)) (by rintro x w' ⟨rfl, rfl⟩; exact ⟨_, rfl, rfl, fun g => .nils a⟩)
theorem n173 : Told 173 [.nils] [] [] 0 (.tup []) := told_nils trivial fun a w => Calls.mono (Any.slices_Sort_int_none Tryz.laysSort a 0 w) (by rintro x w' ⟨rfl, rfl⟩; exact ⟨_, rfl, rfl, fun g => .tup _ _ rfl (by simp)⟩)
theorem n175 : Told 175 [.nils] [] [] 0 .nils := told_nils trivial fun a w => Calls.mono (Any.slices_Compact_int_empty Tryz.laysCompact a 0 w) (by rintro x w' ⟨rfl, rfl⟩; exact ⟨_, rfl, rfl, fun g => .nils a⟩)

theorem callw_upd {f : FuncId} {args : List AV} {hs us : List (Nat × Blk)} {Bm B : Nat} {v : AV} {H : Hp} {K : AV → Hp → Nat → Prop} (h : Told f args hs us Bm v) (hB : Bm ≤ B) (hH : ∀ p ∈ hs, H p.1 = some p.2) (k : K v (H.app (upds us)) B) : CallW f args H B K :=
  .inl ⟨v, hs, us, Bm, h, hB, hH, k⟩

end Go.Proofs.YtnaafbdgkmlnaaaGreat

/- The pages of a chain, in order, each once. -/
namespace Go.Proofs.YtnaafbdgkmlnaaaGreat
set_option linter.unusedVariables false

/-- In order, each once. -/
def sortD (l : List Int) : List Int := Lib.compact (l.mergeSort fun x y => decide (x ≤ y))
theorem mem_sortD {p : Int} {l : List Int} : p ∈ sortD l ↔ p ∈ l := by rw [sortD, mem_compact, List.mem_mergeSort]
theorem sortD_len (l : List Int) : (sortD l).length ≤ l.length := by
  have := compact_len (l.mergeSort fun x y => decide (x ≤ y))
  rw [List.length_mergeSort] at this
  exact this

/-- The pages of the records of a chain of which p holds. -/
def chPages (L : List R) (tx : Int) (p : R → Bool) : List Int := ((chain L tx).filter fun n => p (recAt L n)).map fun n => (recAt L n).page

end Go.Proofs.YtnaafbdgkmlnaaaGreat
