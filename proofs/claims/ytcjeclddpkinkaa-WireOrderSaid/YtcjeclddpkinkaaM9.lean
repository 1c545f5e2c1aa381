/- 'solventlaw01.WireOrder' is proved: whatever the input, it answers true and leaves its input as it was; there is no condition. -/
import Derived.Test.YtcjeclddpkinkaaL9
import Derived.Test.YtcjeclddpkinkaaR1
import Derived.Test.YtcjeclddpkinkaaRows
set_option linter.unusedSimpArgs false
set_option linter.unusedVariables false
namespace Go.Proofs.Ytcjeclddpkinkaa
open Go.ChangeShapes Go.WideShapes Go.ChangeAt Go.RowKit

set_option maxRecDepth 100000 in
theorem wireOrder_lifted (os : Os) (started : os.Started) (H : Type) (enc : TypeId × Value → H) :
    ReturnsInHanded {} Try.checked os 9 .any (Rows.wireOrderSpec.pre6 enc Try.prog Try.f9 Rows.wireOrderRow.domain false) (Rows.wireOrderSpec.post enc Try.prog Try.f9 false true false false) := by
  refine lift_law os started H enc Try.func9 (by kernel_rfl)
    (ChangeSpec.witness6 (enc := enc) (C := Try.checked) false ⟨#[], #[.int .i64 0, .int .i64 0], []⟩ 8 (by kernel_rfl) (by kernel_rfl) (by kernel_rfl) (by kernel_rfl)) rfl (by kernel_rfl) rfl ?_ ?_
  · intro W args ds p hA
    obtain ⟨args, rfl⟩ : ∃ a : Array Value, args = a.toList := ⟨args.toArray, by simp⟩
    obtain ⟨v0, v1, d0, d1, p0, p1, rfl, rfl, rfl, _, _⟩ := trodAll_two hA
    rfl
  · intro W base args ds p hval hA hsz
    obtain ⟨v0, v1, d0, d1, p0, p1, rfl, rfl, rfl, h0, h1⟩ := trodAll_two hA
    obtain ⟨x0, rfl, xa0, xb0⟩ := opens_int Try.und_int (hval 0 3 _ rfl rfl) h0
    obtain ⟨x1, rfl, xa1, xb1⟩ := opens_int Try.und_int (hval 1 3 _ rfl rfl) h1
    exact order_law _ _ _ xa0 xb0 xa1 xb1

theorem wireOrder_holds : Rows.WireOrderSaid :=
  OpenClaim.holds_of_wide 9 Try.f9 rfl rfl rfl rfl rfl rfl rfl ⟨rfl, rfl, rfl, rfl, rfl⟩ rfl rfl rfl rfl rfl (by kernel_rfl) Try.func9 (by kernel_rfl)
    (of_decide_eq_true (by kernel_rfl)) (by unfold Func.isWrapper; first | (rw [if_pos (by decide +kernel)]; kernel_rfl) | (rw [if_neg (by decide +kernel)]; exact ⟨rfl, rfl⟩))
    (fun os started H enc _ => wireOrder_lifted os started H enc)

end Go.Proofs.Ytcjeclddpkinkaa
