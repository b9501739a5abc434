/- The row of FnRiseNone: for every code, FnRiseNone returns true and what it was given reads as it read before. No condition. -/
import Derived.Test.YtnaafbdgkmlnaaaGreatM28
import Derived.Test.YtnaafbdgkmlnaaaGreatM31

set_option linter.unusedVariables false
set_option linter.unusedSimpArgs false
set_option linter.unnecessarySimpa false
namespace Go.Proofs.YtnaafbdgkmlnaaaGreat
set_option linter.unusedVariables false
set_option linter.unusedSimpArgs false
open Go.ChangeShapes Go.WideShapes Go.ChangeAt Go.RowKit

theorem fnRiseNone_own : ownKnob Tryz.prog.godebug = none := by kernel_rfl
theorem fnRiseNone_laid : laidOutB Tryz.prog = true := by kernel_rfl
theorem fnRiseNone_cell : Tryz.prog.cellsOf 5 = 1 := by kernel_rfl

set_option maxHeartbeats 800000 in
set_option maxRecDepth 100000 in
theorem fnRiseNone_lifted (os : Os) (started : os.Started) (H : Type) (enc : TypeId × Value → H) :
    ReturnsInHanded {} Tryz.checked os 12 .any (Rows.fnRiseNoneSpec.pre6 enc Tryz.prog Tryz.f12 Rows.fnRiseNoneRow.domain false) (Rows.fnRiseNoneSpec.post enc Tryz.prog Tryz.f12 false true false false) := by
  refine returnsInHanded_of_change (C := Tryz.checked) fnRiseNone_own started (by kernel_rfl) Tryz.func12
    (ChangeSpec.witness6 (enc := enc) (C := Tryz.checked) false ⟨#[], #[.slice none 0 0], []⟩ 8 (by kernel_rfl) (by kernel_rfl) (by kernel_rfl) (by kernel_rfl)) ?_
  intro W base args ds gs before hval0 hW _ _
  have hval : ∀ (j : Nat) t v, Tryz.f12.params[j]? = some t → args[j]? = some v → Value.okWide Tryz.prog W .any base t v := hval0
  have hW' := hW
  obtain ⟨p, q, hA0, hV, rfl, _, _⟩ := hW
  have hA : DataW.TrodAll enc Tryz.prog W 0 (fun _ => true) true Tryz.f12.params.toList args.toList ds p := hA0
  rw [Tryz.params12] at hA hval
  obtain ⟨v0, d0, rfl, rfl, h0⟩ := trodAll_one hA
  obtain ⟨rfl, rfl⟩ := trodVars_none hV
  obtain ⟨a0, len0, cap0, rfl⟩ := okWide_slice Tryz.underlying22 (hval 0 22 v0 rfl rfl)
  clear hA0 hval0
  simp only [List.append_nil] at hW'
  have hlt : ∀ x ∈ p, x.block < W.heap.size := fun x hx => by simpa using hW'.lt x hx
  obtain ⟨xs, hx, hc0, hB0, _, hby, _⟩ := opened_bytes Tryz.underlying22 Tryz.underlying5 fnRiseNone_cell h0
  refine (call1 (c12 xs hby) hx hc0 hB0).mono fun e W' ⟨he, hw⟩ => ?_
  subst he
  have harg0 : DataW.Trod enc Tryz.prog W' 0 (fun b => decide (b < W.heap.size)) true 22 (.slice a0 len0 cap0) d0 p :=
    Below.trod fnRiseNone_laid (by kernel_rfl) (of_decide_eq_true (by kernel_rfl)) h0 hw (fun x hx => hlt x hx)
  refine ⟨_, rfl, _, _, _, [], _, [], hW', ?_, trodAll_mk1 harg0, rfl, hw.frame _, fun h => by cases h⟩
  exact trodAll_mk1 (shut_bool Tryz.underlying4 _)

theorem fnRiseNone_named : Tryz.pinned.checked.prog.funcNamed Rows.fnRiseNoneRow.func = some 12 := by kernel_rfl
theorem fnRiseNone_facts : joinedFacts Tryz.pinned.checked.prog 12 Tryz.f12 Rows.fnRiseNoneSpec Rows.fnRiseNoneRow = true := by kernel_rfl
theorem fnRiseNone_inst : Tryz.f12.isInstance Tryz.pinned.checked.prog Rows.fnRiseNoneRow.origin Rows.fnRiseNoneRow.targs := of_decide_eq_true (by kernel_rfl)
theorem fnRiseNone_wrap : Tryz.f12.isWrapper Tryz.pinned.checked.prog Rows.fnRiseNoneRow.wrapper Rows.fnRiseNoneRow.mainSum := by unfold Func.isWrapper; first | (rw [if_pos (by decide +kernel)]; kernel_rfl) | (rw [if_neg (by decide +kernel)]; exact ⟨rfl, rfl⟩)

theorem fnRiseNone_holds : Rows.FnRiseNoneSaid :=
  OpenClaim.holds_of_wide 12 Tryz.f12 rfl rfl rfl rfl rfl rfl rfl ⟨rfl, rfl, rfl, rfl, rfl⟩ rfl rfl rfl rfl rfl fnRiseNone_named Tryz.func12 fnRiseNone_facts fnRiseNone_inst fnRiseNone_wrap
    (fun os started H enc _ => fnRiseNone_lifted os started H enc)

#print axioms fnRiseNone_holds

end Go.Proofs.YtnaafbdgkmlnaaaGreat
