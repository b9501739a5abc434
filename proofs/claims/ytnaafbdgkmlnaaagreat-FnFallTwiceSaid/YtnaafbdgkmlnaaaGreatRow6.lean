/- The row of FnFallTwice: for every code and more, FnFallTwice returns true and what it was given reads as it read before. No condition. -/
import Derived.Test.YtnaafbdgkmlnaaaGreatM28

set_option linter.unusedVariables false
set_option linter.unusedSimpArgs false
set_option linter.unnecessarySimpa false
namespace Go.Proofs.YtnaafbdgkmlnaaaGreat
set_option linter.unusedVariables false
set_option linter.unusedSimpArgs false
open Go.ChangeShapes Go.WideShapes Go.ChangeAt Go.RowKit

theorem fnFallTwice_own : ownKnob Tryz.prog.godebug = none := by kernel_rfl
theorem fnFallTwice_laid : laidOutB Tryz.prog = true := by kernel_rfl
theorem fnFallTwice_cell : Tryz.prog.cellsOf 5 = 1 := by kernel_rfl

set_option maxHeartbeats 800000 in
set_option maxRecDepth 100000 in
theorem fnFallTwice_lifted (os : Os) (started : os.Started) (H : Type) (enc : TypeId × Value → H) :
    ReturnsInHanded {} Tryz.checked os 6 .any (Rows.fnFallTwiceSpec.pre6 enc Tryz.prog Tryz.f6 Rows.fnFallTwiceRow.domain false) (Rows.fnFallTwiceSpec.post enc Tryz.prog Tryz.f6 false true false false) := by
  refine returnsInHanded_of_change (C := Tryz.checked) fnFallTwice_own started (by kernel_rfl) Tryz.func6
    (ChangeSpec.witness6 (enc := enc) (C := Tryz.checked) false ⟨#[], #[.slice none 0 0, .slice none 0 0], []⟩ 8 (by kernel_rfl) (by kernel_rfl) (by kernel_rfl) (by kernel_rfl)) ?_
  intro W base args ds gs before hval0 hW _ _
  have hval : ∀ (j : Nat) t v, Tryz.f6.params[j]? = some t → args[j]? = some v → Value.okWide Tryz.prog W .any base t v := hval0
  have hW' := hW
  obtain ⟨p, q, hA0, hV, rfl, _, _⟩ := hW
  have hA : DataW.TrodAll enc Tryz.prog W 0 (fun _ => true) true Tryz.f6.params.toList args.toList ds p := hA0
  rw [Tryz.params6] at hA hval
  obtain ⟨v0, v1, d0, d1, p0, p1, rfl, rfl, rfl, h0, h1⟩ := trodAll_two hA
  obtain ⟨rfl, rfl⟩ := trodVars_none hV
  obtain ⟨a0, len0, cap0, rfl⟩ := okWide_slice Tryz.underlying22 (hval 0 22 v0 rfl rfl)
  obtain ⟨a1, len1, cap1, rfl⟩ := okWide_slice Tryz.underlying22 (hval 1 22 v1 rfl rfl)
  clear hA0 hval0
  simp only [List.append_nil] at hW'
  have hlt : ∀ x ∈ p0 ++ p1, x.block < W.heap.size := fun x hx => by simpa using hW'.lt x hx
  obtain ⟨xs, hx, hc0, hB0, _, hby, _⟩ := opened_bytes Tryz.underlying22 Tryz.underlying5 fnFallTwice_cell h0
  obtain ⟨ys, hy, hc1, hB1, _, hby1, _⟩ := opened_bytes Tryz.underlying22 Tryz.underlying5 fnFallTwice_cell h1
  refine (call2 (c6 xs ys hby) hx hc0 hB0 hy hc1 hB1).mono fun e W' ⟨he, hw⟩ => ?_
  subst he
  have harg0 : DataW.Trod enc Tryz.prog W' 0 (fun b => decide (b < W.heap.size)) true 22 (.slice a0 len0 cap0) d0 p0 :=
    Below.trod fnFallTwice_laid (by kernel_rfl) (of_decide_eq_true (by kernel_rfl)) h0 hw (fun x hx => hlt x (List.mem_append.2 (.inl hx)))
  have harg1 : DataW.Trod enc Tryz.prog W' 0 (fun b => decide (b < W.heap.size)) true 22 (.slice a1 len1 cap1) d1 p1 :=
    Below.trod fnFallTwice_laid (by kernel_rfl) (of_decide_eq_true (by kernel_rfl)) h1 hw (fun x hx => hlt x (List.mem_append.2 (.inr hx)))
  refine ⟨_, rfl, _, _, _, [], _, [], hW', ?_, trodAll_mk2 harg0 harg1, rfl, hw.frame _, fun h => by cases h⟩
  exact trodAll_mk1 (shut_bool Tryz.underlying4 _)

theorem fnFallTwice_named : Tryz.pinned.checked.prog.funcNamed Rows.fnFallTwiceRow.func = some 6 := by kernel_rfl
theorem fnFallTwice_facts : joinedFacts Tryz.pinned.checked.prog 6 Tryz.f6 Rows.fnFallTwiceSpec Rows.fnFallTwiceRow = true := by kernel_rfl
theorem fnFallTwice_inst : Tryz.f6.isInstance Tryz.pinned.checked.prog Rows.fnFallTwiceRow.origin Rows.fnFallTwiceRow.targs := of_decide_eq_true (by kernel_rfl)
theorem fnFallTwice_wrap : Tryz.f6.isWrapper Tryz.pinned.checked.prog Rows.fnFallTwiceRow.wrapper Rows.fnFallTwiceRow.mainSum := by unfold Func.isWrapper; first | (rw [if_pos (by decide +kernel)]; kernel_rfl) | (rw [if_neg (by decide +kernel)]; exact ⟨rfl, rfl⟩)

theorem fnFallTwice_holds : Rows.FnFallTwiceSaid :=
  OpenClaim.holds_of_wide 6 Tryz.f6 rfl rfl rfl rfl rfl rfl rfl ⟨rfl, rfl, rfl, rfl, rfl⟩ rfl rfl rfl rfl rfl fnFallTwice_named Tryz.func6 fnFallTwice_facts fnFallTwice_inst fnFallTwice_wrap
    (fun os started H enc _ => fnFallTwice_lifted os started H enc)

#print axioms fnFallTwice_holds

end Go.Proofs.YtnaafbdgkmlnaaaGreat
