/- The row of FnRiseNot: for every code, FnRiseNot returns true and what it was given reads as it read before. No condition. -/
import Derived.Test.YtnaafbdgkmlnaaaGreatM28
import Derived.Test.YtnaafbdgkmlnaaaGreatM30

set_option linter.unusedVariables false
set_option linter.unusedSimpArgs false
set_option linter.unnecessarySimpa false
namespace Go.Proofs.YtnaafbdgkmlnaaaGreat
set_option linter.unusedVariables false
set_option linter.unusedSimpArgs false
open Go.ChangeShapes Go.WideShapes Go.ChangeAt Go.RowKit

theorem fnRiseNot_own : ownKnob Tryz.prog.godebug = none := by kernel_rfl
theorem fnRiseNot_laid : laidOutB Tryz.prog = true := by kernel_rfl
theorem fnRiseNot_cell : Tryz.prog.cellsOf 5 = 1 := by kernel_rfl

set_option maxHeartbeats 800000 in
set_option maxRecDepth 100000 in
theorem fnRiseNot_lifted (os : Os) (started : os.Started) (H : Type) (enc : TypeId × Value → H) :
    ReturnsInHanded {} Tryz.checked os 10 .any (Rows.fnRiseNotSpec.pre6 enc Tryz.prog Tryz.f10 Rows.fnRiseNotRow.domain false) (Rows.fnRiseNotSpec.post enc Tryz.prog Tryz.f10 false true false false) := by
  refine returnsInHanded_of_change (C := Tryz.checked) fnRiseNot_own started (by kernel_rfl) Tryz.func10
    (ChangeSpec.witness6 (enc := enc) (C := Tryz.checked) false ⟨#[], #[.slice none 0 0], []⟩ 8 (by kernel_rfl) (by kernel_rfl) (by kernel_rfl) (by kernel_rfl)) ?_
  intro W base args ds gs before hval0 hW _ _
  have hval : ∀ (j : Nat) t v, Tryz.f10.params[j]? = some t → args[j]? = some v → Value.okWide Tryz.prog W .any base t v := hval0
  have hW' := hW
  obtain ⟨p, q, hA0, hV, rfl, _, _⟩ := hW
  have hA : DataW.TrodAll enc Tryz.prog W 0 (fun _ => true) true Tryz.f10.params.toList args.toList ds p := hA0
  rw [Tryz.params10] at hA hval
  obtain ⟨v0, d0, rfl, rfl, h0⟩ := trodAll_one hA
  obtain ⟨rfl, rfl⟩ := trodVars_none hV
  obtain ⟨a0, len0, cap0, rfl⟩ := okWide_slice Tryz.underlying22 (hval 0 22 v0 rfl rfl)
  clear hA0 hval0
  simp only [List.append_nil] at hW'
  have hlt : ∀ x ∈ p, x.block < W.heap.size := fun x hx => by simpa using hW'.lt x hx
  obtain ⟨xs, hx, hc0, hB0, _, hby, _⟩ := opened_bytes Tryz.underlying22 Tryz.underlying5 fnRiseNot_cell h0
  refine (call1 (c10 xs hby) hx hc0 hB0).mono fun e W' ⟨he, hw⟩ => ?_
  subst he
  have harg0 : DataW.Trod enc Tryz.prog W' 0 (fun b => decide (b < W.heap.size)) true 22 (.slice a0 len0 cap0) d0 p :=
    Below.trod fnRiseNot_laid (by kernel_rfl) (of_decide_eq_true (by kernel_rfl)) h0 hw (fun x hx => hlt x hx)
  refine ⟨_, rfl, _, _, _, [], _, [], hW', ?_, trodAll_mk1 harg0, rfl, hw.frame _, fun h => by cases h⟩
  exact trodAll_mk1 (shut_bool Tryz.underlying4 _)

theorem fnRiseNot_named : Tryz.pinned.checked.prog.funcNamed Rows.fnRiseNotRow.func = some 10 := by kernel_rfl
theorem fnRiseNot_facts : joinedFacts Tryz.pinned.checked.prog 10 Tryz.f10 Rows.fnRiseNotSpec Rows.fnRiseNotRow = true := by kernel_rfl
theorem fnRiseNot_inst : Tryz.f10.isInstance Tryz.pinned.checked.prog Rows.fnRiseNotRow.origin Rows.fnRiseNotRow.targs := of_decide_eq_true (by kernel_rfl)
theorem fnRiseNot_wrap : Tryz.f10.isWrapper Tryz.pinned.checked.prog Rows.fnRiseNotRow.wrapper Rows.fnRiseNotRow.mainSum := by unfold Func.isWrapper; first | (rw [if_pos (by decide +kernel)]; kernel_rfl) | (rw [if_neg (by decide +kernel)]; exact ⟨rfl, rfl⟩)

theorem fnRiseNot_holds : Rows.FnRiseNotSaid :=
  OpenClaim.holds_of_wide 10 Tryz.f10 rfl rfl rfl rfl rfl rfl rfl ⟨rfl, rfl, rfl, rfl, rfl⟩ rfl rfl rfl rfl rfl fnRiseNot_named Tryz.func10 fnRiseNot_facts fnRiseNot_inst fnRiseNot_wrap
    (fun os started H enc _ => fnRiseNot_lifted os started H enc)

#print axioms fnRiseNot_holds

end Go.Proofs.YtnaafbdgkmlnaaaGreat
