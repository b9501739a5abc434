/- The row of FnForceFall: for every code, FnForceFall returns true and what it was given reads as it read before. No condition. -/
import Derived.Test.YtnaafbdgkmlnaaaGreatM28

set_option linter.unusedVariables false
set_option linter.unusedSimpArgs false
set_option linter.unnecessarySimpa false
namespace Go.Proofs.YtnaafbdgkmlnaaaGreat
set_option linter.unusedVariables false
set_option linter.unusedSimpArgs false
open Go.ChangeShapes Go.WideShapes Go.ChangeAt Go.RowKit

theorem fnForceFall_own : ownKnob Tryz.prog.godebug = none := by kernel_rfl
theorem fnForceFall_laid : laidOutB Tryz.prog = true := by kernel_rfl
theorem fnForceFall_cell : Tryz.prog.cellsOf 5 = 1 := by kernel_rfl

set_option maxHeartbeats 800000 in
set_option maxRecDepth 100000 in
theorem fnForceFall_lifted (os : Os) (started : os.Started) (H : Type) (enc : TypeId × Value → H) :
    ReturnsInHanded {} Tryz.checked os 8 .any (Rows.fnForceFallSpec.pre6 enc Tryz.prog Tryz.f8 Rows.fnForceFallRow.domain false) (Rows.fnForceFallSpec.post enc Tryz.prog Tryz.f8 false true false false) := by
  refine returnsInHanded_of_change (C := Tryz.checked) fnForceFall_own started (by kernel_rfl) Tryz.func8
    (ChangeSpec.witness6 (enc := enc) (C := Tryz.checked) false ⟨#[], #[.slice none 0 0], []⟩ 8 (by kernel_rfl) (by kernel_rfl) (by kernel_rfl) (by kernel_rfl)) ?_
  intro W base args ds gs before hval0 hW _ _
  have hval : ∀ (j : Nat) t v, Tryz.f8.params[j]? = some t → args[j]? = some v → Value.okWide Tryz.prog W .any base t v := hval0
  have hW' := hW
  obtain ⟨p, q, hA0, hV, rfl, _, _⟩ := hW
  have hA : DataW.TrodAll enc Tryz.prog W 0 (fun _ => true) true Tryz.f8.params.toList args.toList ds p := hA0
  rw [Tryz.params8] at hA hval
  obtain ⟨v0, d0, rfl, rfl, h0⟩ := trodAll_one hA
  obtain ⟨rfl, rfl⟩ := trodVars_none hV
  obtain ⟨a0, len0, cap0, rfl⟩ := okWide_slice Tryz.underlying22 (hval 0 22 v0 rfl rfl)
  clear hA0 hval0
  simp only [List.append_nil] at hW'
  have hlt : ∀ x ∈ p, x.block < W.heap.size := fun x hx => by simpa using hW'.lt x hx
  obtain ⟨xs, hx, hc0, hB0, _, hby, _⟩ := opened_bytes Tryz.underlying22 Tryz.underlying5 fnForceFall_cell h0
  refine (call1 (c8 xs hby) hx hc0 hB0).mono fun e W' ⟨he, hw⟩ => ?_
  subst he
  have harg0 : DataW.Trod enc Tryz.prog W' 0 (fun b => decide (b < W.heap.size)) true 22 (.slice a0 len0 cap0) d0 p :=
    Below.trod fnForceFall_laid (by kernel_rfl) (of_decide_eq_true (by kernel_rfl)) h0 hw (fun x hx => hlt x hx)
  refine ⟨_, rfl, _, _, _, [], _, [], hW', ?_, trodAll_mk1 harg0, rfl, hw.frame _, fun h => by cases h⟩
  exact trodAll_mk1 (shut_bool Tryz.underlying4 _)

theorem fnForceFall_named : Tryz.pinned.checked.prog.funcNamed Rows.fnForceFallRow.func = some 8 := by kernel_rfl
theorem fnForceFall_facts : joinedFacts Tryz.pinned.checked.prog 8 Tryz.f8 Rows.fnForceFallSpec Rows.fnForceFallRow = true := by kernel_rfl
theorem fnForceFall_inst : Tryz.f8.isInstance Tryz.pinned.checked.prog Rows.fnForceFallRow.origin Rows.fnForceFallRow.targs := of_decide_eq_true (by kernel_rfl)
theorem fnForceFall_wrap : Tryz.f8.isWrapper Tryz.pinned.checked.prog Rows.fnForceFallRow.wrapper Rows.fnForceFallRow.mainSum := by unfold Func.isWrapper; first | (rw [if_pos (by decide +kernel)]; kernel_rfl) | (rw [if_neg (by decide +kernel)]; exact ⟨rfl, rfl⟩)

theorem fnForceFall_holds : Rows.FnForceFallSaid :=
  OpenClaim.holds_of_wide 8 Tryz.f8 rfl rfl rfl rfl rfl rfl rfl ⟨rfl, rfl, rfl, rfl, rfl⟩ rfl rfl rfl rfl rfl fnForceFall_named Tryz.func8 fnForceFall_facts fnForceFall_inst fnForceFall_wrap
    (fun os started H enc _ => fnForceFall_lifted os started H enc)

#print axioms fnForceFall_holds

end Go.Proofs.YtnaafbdgkmlnaaaGreat
