/- The row of FnFall: for every code, FnFall returns true and what it was given reads as it read before. No condition. -/
import Derived.Test.YtnaafbdgkmlnaaaGreatM28

set_option linter.unusedVariables false
set_option linter.unusedSimpArgs false
set_option linter.unnecessarySimpa false
namespace Go.Proofs.YtnaafbdgkmlnaaaGreat
set_option linter.unusedVariables false
set_option linter.unusedSimpArgs false
open Go.ChangeShapes Go.WideShapes Go.ChangeAt Go.RowKit

theorem fnFall_own : ownKnob Tryz.prog.godebug = none := by kernel_rfl
theorem fnFall_laid : laidOutB Tryz.prog = true := by kernel_rfl
theorem fnFall_cell : Tryz.prog.cellsOf 5 = 1 := by kernel_rfl

set_option maxHeartbeats 800000 in
set_option maxRecDepth 100000 in
theorem fnFall_lifted (os : Os) (started : os.Started) (H : Type) (enc : TypeId × Value → H) :
    ReturnsInHanded {} Tryz.checked os 5 .any (Rows.fnFallSpec.pre6 enc Tryz.prog Tryz.f5 Rows.fnFallRow.domain false) (Rows.fnFallSpec.post enc Tryz.prog Tryz.f5 false true false false) := by
  refine returnsInHanded_of_change (C := Tryz.checked) fnFall_own started (by kernel_rfl) Tryz.func5
    (ChangeSpec.witness6 (enc := enc) (C := Tryz.checked) false ⟨#[], #[.slice none 0 0], []⟩ 8 (by kernel_rfl) (by kernel_rfl) (by kernel_rfl) (by kernel_rfl)) ?_
  intro W base args ds gs before hval0 hW _ _
  have hval : ∀ (j : Nat) t v, Tryz.f5.params[j]? = some t → args[j]? = some v → Value.okWide Tryz.prog W .any base t v := hval0
  have hW' := hW
  obtain ⟨p, q, hA0, hV, rfl, _, _⟩ := hW
  have hA : DataW.TrodAll enc Tryz.prog W 0 (fun _ => true) true Tryz.f5.params.toList args.toList ds p := hA0
  rw [Tryz.params5] at hA hval
  obtain ⟨v0, d0, rfl, rfl, h0⟩ := trodAll_one hA
  obtain ⟨rfl, rfl⟩ := trodVars_none hV
  obtain ⟨a0, len0, cap0, rfl⟩ := okWide_slice Tryz.underlying22 (hval 0 22 v0 rfl rfl)
  clear hA0 hval0
  simp only [List.append_nil] at hW'
  have hlt : ∀ x ∈ p, x.block < W.heap.size := fun x hx => by simpa using hW'.lt x hx
  obtain ⟨xs, hx, hc0, hB0, _, hby, _⟩ := opened_bytes Tryz.underlying22 Tryz.underlying5 fnFall_cell h0
  refine (call1 (c5 xs hby) hx hc0 hB0).mono fun e W' ⟨he, hw⟩ => ?_
  subst he
  have harg0 : DataW.Trod enc Tryz.prog W' 0 (fun b => decide (b < W.heap.size)) true 22 (.slice a0 len0 cap0) d0 p :=
    Below.trod fnFall_laid (by kernel_rfl) (of_decide_eq_true (by kernel_rfl)) h0 hw (fun x hx => hlt x hx)
  refine ⟨_, rfl, _, _, _, [], _, [], hW', ?_, trodAll_mk1 harg0, rfl, hw.frame _, fun h => by cases h⟩
  exact trodAll_mk1 (shut_bool Tryz.underlying4 _)

theorem fnFall_named : Tryz.pinned.checked.prog.funcNamed Rows.fnFallRow.func = some 5 := by kernel_rfl
theorem fnFall_facts : joinedFacts Tryz.pinned.checked.prog 5 Tryz.f5 Rows.fnFallSpec Rows.fnFallRow = true := by kernel_rfl
theorem fnFall_inst : Tryz.f5.isInstance Tryz.pinned.checked.prog Rows.fnFallRow.origin Rows.fnFallRow.targs := of_decide_eq_true (by kernel_rfl)
theorem fnFall_wrap : Tryz.f5.isWrapper Tryz.pinned.checked.prog Rows.fnFallRow.wrapper Rows.fnFallRow.mainSum := by unfold Func.isWrapper; first | (rw [if_pos (by decide +kernel)]; kernel_rfl) | (rw [if_neg (by decide +kernel)]; exact ⟨rfl, rfl⟩)

theorem fnFall_holds : Rows.FnFallSaid :=
  OpenClaim.holds_of_wide 5 Tryz.f5 rfl rfl rfl rfl rfl rfl rfl ⟨rfl, rfl, rfl, rfl, rfl⟩ rfl rfl rfl rfl rfl fnFall_named Tryz.func5 fnFall_facts fnFall_inst fnFall_wrap
    (fun os started H enc _ => fnFall_lifted os started H enc)

#print axioms fnFall_holds

end Go.Proofs.YtnaafbdgkmlnaaaGreat
