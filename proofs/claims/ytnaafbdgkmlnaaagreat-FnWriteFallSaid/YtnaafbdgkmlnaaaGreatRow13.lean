/- The row of FnWriteFall: for every code and more, FnWriteFall returns true and what it was given reads as it read before. No condition. -/
import Derived.Test.YtnaafbdgkmlnaaaGreatM28
import Derived.Test.YtnaafbdgkmlnaaaGreatM31

set_option linter.unusedVariables false
set_option linter.unusedSimpArgs false
set_option linter.unnecessarySimpa false
namespace Go.Proofs.YtnaafbdgkmlnaaaGreat
set_option linter.unusedVariables false
set_option linter.unusedSimpArgs false
open Go.ChangeShapes Go.WideShapes Go.ChangeAt Go.RowKit

theorem fnWriteFall_own : ownKnob Tryz.prog.godebug = none := by kernel_rfl
theorem fnWriteFall_laid : laidOutB Tryz.prog = true := by kernel_rfl
theorem fnWriteFall_cell : Tryz.prog.cellsOf 5 = 1 := by kernel_rfl

set_option maxHeartbeats 800000 in
set_option maxRecDepth 100000 in
theorem fnWriteFall_lifted (os : Os) (started : os.Started) (H : Type) (enc : TypeId × Value → H) :
    ReturnsInHanded {} Tryz.checked os 13 .any (Rows.fnWriteFallSpec.pre6 enc Tryz.prog Tryz.f13 Rows.fnWriteFallRow.domain false) (Rows.fnWriteFallSpec.post enc Tryz.prog Tryz.f13 false true false false) := by
  refine returnsInHanded_of_change (C := Tryz.checked) fnWriteFall_own started (by kernel_rfl) Tryz.func13
    (ChangeSpec.witness6 (enc := enc) (C := Tryz.checked) false ⟨#[], #[.slice none 0 0, .slice none 0 0], []⟩ 8 (by kernel_rfl) (by kernel_rfl) (by kernel_rfl) (by kernel_rfl)) ?_
  intro W base args ds gs before hval0 hW _ _
  have hval : ∀ (j : Nat) t v, Tryz.f13.params[j]? = some t → args[j]? = some v → Value.okWide Tryz.prog W .any base t v := hval0
  have hW' := hW
  obtain ⟨p, q, hA0, hV, rfl, _, _⟩ := hW
  have hA : DataW.TrodAll enc Tryz.prog W 0 (fun _ => true) true Tryz.f13.params.toList args.toList ds p := hA0
  rw [Tryz.params13] at hA hval
  obtain ⟨v0, v1, d0, d1, p0, p1, rfl, rfl, rfl, h0, h1⟩ := trodAll_two hA
  obtain ⟨rfl, rfl⟩ := trodVars_none hV
  obtain ⟨a0, len0, cap0, rfl⟩ := okWide_slice Tryz.underlying22 (hval 0 22 v0 rfl rfl)
  obtain ⟨a1, len1, cap1, rfl⟩ := okWide_slice Tryz.underlying22 (hval 1 22 v1 rfl rfl)
  clear hA0 hval0
  simp only [List.append_nil] at hW'
  have hlt : ∀ x ∈ p0 ++ p1, x.block < W.heap.size := fun x hx => by simpa using hW'.lt x hx
  obtain ⟨xs, hx, hc0, hB0, _, hby, _⟩ := opened_bytes Tryz.underlying22 Tryz.underlying5 fnWriteFall_cell h0
  obtain ⟨ys, hy, hc1, hB1, _, hby1, _⟩ := opened_bytes Tryz.underlying22 Tryz.underlying5 fnWriteFall_cell h1
  refine (call2 (c13 xs ys hby) hx hc0 hB0 hy hc1 hB1).mono fun e W' ⟨he, hw⟩ => ?_
  subst he
  have harg0 : DataW.Trod enc Tryz.prog W' 0 (fun b => decide (b < W.heap.size)) true 22 (.slice a0 len0 cap0) d0 p0 :=
    Below.trod fnWriteFall_laid (by kernel_rfl) (of_decide_eq_true (by kernel_rfl)) h0 hw (fun x hx => hlt x (List.mem_append.2 (.inl hx)))
  have harg1 : DataW.Trod enc Tryz.prog W' 0 (fun b => decide (b < W.heap.size)) true 22 (.slice a1 len1 cap1) d1 p1 :=
    Below.trod fnWriteFall_laid (by kernel_rfl) (of_decide_eq_true (by kernel_rfl)) h1 hw (fun x hx => hlt x (List.mem_append.2 (.inr hx)))
  refine ⟨_, rfl, _, _, _, [], _, [], hW', ?_, trodAll_mk2 harg0 harg1, rfl, hw.frame _, fun h => by cases h⟩
  exact trodAll_mk1 (shut_bool Tryz.underlying4 _)

theorem fnWriteFall_named : Tryz.pinned.checked.prog.funcNamed Rows.fnWriteFallRow.func = some 13 := by kernel_rfl
theorem fnWriteFall_facts : joinedFacts Tryz.pinned.checked.prog 13 Tryz.f13 Rows.fnWriteFallSpec Rows.fnWriteFallRow = true := by kernel_rfl
theorem fnWriteFall_inst : Tryz.f13.isInstance Tryz.pinned.checked.prog Rows.fnWriteFallRow.origin Rows.fnWriteFallRow.targs := of_decide_eq_true (by kernel_rfl)
theorem fnWriteFall_wrap : Tryz.f13.isWrapper Tryz.pinned.checked.prog Rows.fnWriteFallRow.wrapper Rows.fnWriteFallRow.mainSum := by unfold Func.isWrapper; first | (rw [if_pos (by decide +kernel)]; kernel_rfl) | (rw [if_neg (by decide +kernel)]; exact ⟨rfl, rfl⟩)

theorem fnWriteFall_holds : Rows.FnWriteFallSaid :=
  OpenClaim.holds_of_wide 13 Tryz.f13 rfl rfl rfl rfl rfl rfl rfl ⟨rfl, rfl, rfl, rfl, rfl⟩ rfl rfl rfl rfl rfl fnWriteFall_named Tryz.func13 fnWriteFall_facts fnWriteFall_inst fnWriteFall_wrap
    (fun os started H enc _ => fnWriteFall_lifted os started H enc)

#print axioms fnWriteFall_holds

end Go.Proofs.YtnaafbdgkmlnaaaGreat
