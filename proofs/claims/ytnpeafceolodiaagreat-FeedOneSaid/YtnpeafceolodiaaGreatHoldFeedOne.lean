/- FeedOne holds: whatever comes in, true comes out, and the arguments read as they did. -/
import Derived.Test.YtnpeafceolodiaaGreatRowF
import Derived.Test.YtnpeafceolodiaaGreatChecked
namespace Go.Proofs.YtnpeafceolodiaaGreat
open Go.ChangeShapes Go.WideShapes Go.ChangeAt Go.RowKit
set_option linter.unusedVariables false

theorem feedOneOwn : ownKnob Tryz.prog.godebug = none := by kernel_rfl

set_option maxRecDepth 100000 in
theorem feedOne_lifted (os : Os) (started : os.Started) (H : Type) (enc : TypeId × Value → H) :
    ReturnsInHanded {} Tryz.checked os 13 .any (Rows.feedOneSpec.pre6 enc Tryz.prog Tryz.f13 Rows.feedOneRow.domain false) (Rows.feedOneSpec.post enc Tryz.prog Tryz.f13 false true false false) := by
  refine returnsInHanded_of_change (C := Tryz.checked) feedOneOwn started (by kernel_rfl) Tryz.func13
    (ChangeSpec.witness6 (enc := enc) (C := Tryz.checked) false ⟨#[], #[.int .i64 0, .int .i64 0, .slice none 0 0], []⟩ 8 (by kernel_rfl) (by kernel_rfl) (by kernel_rfl) (by kernel_rfl)) ?_
  intro W base args ds gs before hval hW _ _
  exact Go.Eng.post3 (F := Go.Eng.Q_feedOne.F) Go.Eng.ct_feedOne Tryz.func13 (by kernel_rfl) (by kernel_rfl) Tryz.params13 (by kernel_rfl) (fun a b l => Go.Eng.feedOne_ok a b l) rfl (fun _ _ _ _ => rfl)
    H enc W base args ds gs before hval hW

theorem feedOne_named : Tryz.pinned.checked.prog.funcNamed Rows.feedOneRow.func = some 13 := by kernel_rfl
theorem feedOne_closed : joinedFacts Tryz.pinned.checked.prog 13 Tryz.f13 Rows.feedOneSpec Rows.feedOneRow = true := by kernel_rfl
theorem feedOne_inst : Tryz.f13.isInstance Tryz.pinned.checked.prog Rows.feedOneRow.origin Rows.feedOneRow.targs := of_decide_eq_true (by kernel_rfl)
theorem feedOne_wrap : Tryz.f13.isWrapper Tryz.pinned.checked.prog Rows.feedOneRow.wrapper Rows.feedOneRow.mainSum := by unfold Func.isWrapper; first | (rw [if_pos (by decide +kernel)]; kernel_rfl) | (rw [if_neg (by decide +kernel)]; exact ⟨rfl, rfl⟩)
theorem feedOne_holds : Rows.FeedOneSaid :=
  OpenClaim.holds_of_wide 13 Tryz.f13 rfl rfl rfl rfl rfl rfl rfl ⟨rfl, rfl, rfl, rfl, rfl⟩ rfl rfl rfl rfl rfl feedOne_named Tryz.func13 feedOne_closed
    feedOne_inst feedOne_wrap
    (fun os started H enc _ => feedOne_lifted os started H enc)

end Go.Proofs.YtnpeafceolodiaaGreat
#print axioms Go.Proofs.YtnpeafceolodiaaGreat.feedOne_holds
