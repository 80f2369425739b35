/- FeedLeaps holds: whatever comes in, true comes out, and the arguments read as they did. -/
import Derived.Test.YtnpeafceolodiaaGreatRowF
import Derived.Test.YtnpeafceolodiaaGreatLawE
import Derived.Test.YtnpeafceolodiaaGreatChecked
namespace Go.Proofs.YtnpeafceolodiaaGreat
open Go.ChangeShapes Go.WideShapes Go.ChangeAt Go.RowKit
set_option linter.unusedVariables false

theorem feedLeapsOwn : ownKnob Tryz.prog.godebug = none := by kernel_rfl

set_option maxRecDepth 100000 in
theorem feedLeaps_lifted (os : Os) (started : os.Started) (H : Type) (enc : TypeId × Value → H) :
    ReturnsInHanded {} Tryz.checked os 14 .any (Rows.feedLeapsSpec.pre6 enc Tryz.prog Tryz.f14 Rows.feedLeapsRow.domain false) (Rows.feedLeapsSpec.post enc Tryz.prog Tryz.f14 false true false false) := by
  refine returnsInHanded_of_change (C := Tryz.checked) feedLeapsOwn started (by kernel_rfl) Tryz.func14
    (ChangeSpec.witness6 (enc := enc) (C := Tryz.checked) false ⟨#[], #[.int .i64 0, .int .i64 0, .slice none 0 0], []⟩ 8 (by kernel_rfl) (by kernel_rfl) (by kernel_rfl) (by kernel_rfl)) ?_
  intro W base args ds gs before hval hW _ _
  exact Go.Eng.post3 (F := Go.Eng.Q_feedLeaps.F) Go.Eng.ct_feedLeaps Tryz.func14 (by kernel_rfl) (by kernel_rfl) Tryz.params14 (by kernel_rfl) (fun a b l => Go.Eng.feedLeaps_ok a b l) rfl (fun _ _ _ _ => rfl)
    H enc W base args ds gs before hval hW

theorem feedLeaps_named : Tryz.pinned.checked.prog.funcNamed Rows.feedLeapsRow.func = some 14 := by kernel_rfl
theorem feedLeaps_closed : joinedFacts Tryz.pinned.checked.prog 14 Tryz.f14 Rows.feedLeapsSpec Rows.feedLeapsRow = true := by kernel_rfl
theorem feedLeaps_inst : Tryz.f14.isInstance Tryz.pinned.checked.prog Rows.feedLeapsRow.origin Rows.feedLeapsRow.targs := of_decide_eq_true (by kernel_rfl)
theorem feedLeaps_wrap : Tryz.f14.isWrapper Tryz.pinned.checked.prog Rows.feedLeapsRow.wrapper Rows.feedLeapsRow.mainSum := by unfold Func.isWrapper; first | (rw [if_pos (by decide +kernel)]; kernel_rfl) | (rw [if_neg (by decide +kernel)]; exact ⟨rfl, rfl⟩)
theorem feedLeaps_holds : Rows.FeedLeapsSaid :=
  OpenClaim.holds_of_wide 14 Tryz.f14 rfl rfl rfl rfl rfl rfl rfl ⟨rfl, rfl, rfl, rfl, rfl⟩ rfl rfl rfl rfl rfl feedLeaps_named Tryz.func14 feedLeaps_closed
    feedLeaps_inst feedLeaps_wrap
    (fun os started H enc _ => feedLeaps_lifted os started H enc)

end Go.Proofs.YtnpeafceolodiaaGreat
#print axioms Go.Proofs.YtnpeafceolodiaaGreat.feedLeaps_holds
